/-
  The statement RiceFew of layer 6: the walk.
-/
import Derived.Test.YtepbngdoeolepaaRice14
import Derived.Test.YtepbngdoeolepaaIn
set_option linter.unusedVariables false
set_option linter.unusedSimpArgs false
namespace Go.Proofs.Ytepbngdoeolepaa
open Go.RowKit Go.Proofs.Ytepbngdoeolepaa.Pure

theorem u64_mod6 (a : Int) (m : Nat) (h0 : 0 < m) (h1 : m ≤ 4611686018427387904) : ∃ k : Nat, k < m ∧ wrap64 ((IntKind.u64.wrap a).tmod m) = k := by
  have e : IntKind.u64.wrap a = a % 18446744073709551616 := IntKind.wrap_u64 a
  have h2 : 0 ≤ IntKind.u64.wrap a := by rw [e]; omega
  rw [Int.tmod_eq_emod_of_nonneg h2]
  have h3 := Int.emod_nonneg (IntKind.u64.wrap a) (show (m : Int) ≠ 0 by omega)
  have h4 := Int.emod_lt_of_pos (IntKind.u64.wrap a) (show (0 : Int) < m by omega)
  refine ⟨((IntKind.u64.wrap a) % m).toNat, by omega, ?_⟩
  unfold wrap64
  omega
/-- The law's count by one parameter. -/
def plainS (k : Nat) (F : List Int) : Int := if farB k F = true then 1152921504606846976 else 11 + szK k F
theorem widthS_32 (L : List Int) (hin : ∀ n ∈ L, -2147483648 < n ∧ n < 2147483648) : 0 ≤ widthS L ∧ widthS L ≤ 32 := by
  have : ∀ (L : List Int) (w : Int), (∀ n ∈ L, -2147483648 < n ∧ n < 2147483648) → 0 ≤ w ∧ w ≤ 32 → 0 ≤ L.foldl wdS w ∧ L.foldl wdS w ≤ 32 := by
    intro L
    induction L with
    | nil => intro w _ h; exact h
    | cons x L ih =>
      intro w h1 h
      refine ih _ (fun n hn => h1 n (List.mem_cons_of_mem _ hn)) ?_
      rw [wdS_eq w x h.1]
      have := wd0_range x (h1 x List.mem_cons_self)
      omega
  exact this L 0 hin (by omega)
theorem szK_snoc (k : Nat) (F : List Int) (f : Int) : szK k (F ++ [f]) = szK k F + f / 2 ^ k + 1 + k := by
  unfold szK
  rw [sumK_snoc, List.length_append, List.length_singleton, Int.natCast_add, Int.mul_add]
  omega
theorem plain_step (k : Nat) (F : List Int) (f P D : Int) (hD : f / 2 ^ k = D) (hP : P = plainS k F) (hs : szK k F ≤ 10000000000000) :
    (65536 < D → (1152921504606846976 : Int) = plainS k (F ++ [f])) ∧ (¬ 65536 < D → P = 1152921504606846976 → P = plainS k (F ++ [f])) ∧ (¬ 65536 < D → P ≠ 1152921504606846976 → P + D + 1 + k = plainS k (F ++ [f])) ∧ (P ≠ 1152921504606846976 → P ≤ 10000000000100) := by
  unfold plainS at hP ⊢
  rw [farB_snoc, szK_snoc, hD]
  refine ⟨fun h => ?_, fun h h2 => ?_, fun h h2 => ?_, fun h2 => ?_⟩
  · rw [if_pos (by simp [h])]
  · rw [decide_eq_false h, Bool.or_false]
    split at hP
    · rename_i h3; rw [if_pos h3]; exact h2
    · omega
  · rw [decide_eq_false h, Bool.or_false]
    split at hP
    · exact absurd hP h2
    · rename_i h3; rw [if_neg h3]; omega
  · split at hP
    · exact absurd hP h2
    · omega

set_option maxHeartbeats 8000000 in
set_option maxRecDepth 100000 in
theorem riceFew_walk (a0 : Option Addr) (len0 cap0 : Nat) (z0 : List Int) (a1 : Int) (w : World) (w0 : InRow .i64 w a0 len0 cap0 z0) (s0 : cap0 * 8 ≤ 140737488351232) (w1 : (Lit.int .i64 a1).wf = true) :
    Calls Try.prog 3 #[.slice a0 len0 cap0, .int .i64 a1] w fun e w' => e = .returned (.bool true) ∧ Below w.heap.size w w' := by
  obtain ⟨hr, hl, hw, hcap⟩ := w0.rd
  have hn := w0.nil_cap
  generalize z0.take len0 = xs at *
  subst hl
  have HK : Hid (Keeps [] w w) := Keeps.refl _ _
  have hxl : xs.length ≤ 17592186043904 := by omega
  have hxm : min xs.length 513 = (xs.take 513).length := by rw [List.length_take]; omega
  have HR := Lib.hid (hr.take 513)
  have hL5 : (xs.take 513).length ≤ 513 := by rw [List.length_take]; omega
  have hLc : (xs.take 513).length ≤ cap0 := by rw [List.length_take]; omega
  generalize xs.take 513 = L at *
  obtain ⟨k, hk, hke⟩ := u64_mod6 a1 31 (by omega) (by omega)
  have HN := Lib.hid hn
  clear w0 s0 w1 hw hr hn
  go_enter Try.func3, Try.ntmps3
  go_upto_region 5 with (first
    | (go_at_call 8; go_must (refine (rknown_calls _).mono ?_); rintro e w1 ⟨rfl, hk1⟩; replace HK : Hid (Keeps [] w w1) := HK.out.new hk1; clear hk1)
    | (go_at_call 9; go_must (refine (rcut_law _ _ _ _ (by omega) (by omega)).mono ?_); rw [hxm]; rintro e w2 ⟨rfl, rfl⟩))
  have hke1 : wrap64 ((IntKind.u64.wrap a1).tmod 31) = (k : Int) := hke
  rw [hke1]
  clear hke hke1
  generalize (IntKind.u64.wrap a1).tmod 31 = u18
  generalize IntKind.u64.wrap a1 = u17
  have HSZ := Lib.hid (rsize_calls L 0 _ rfl a0 cap0 w1 HN.out (by omega) hLc (by omega) (Lib.hid (HR.out.new HK.out)))
  by_cases he : rchkE L 0 = 0
  · have hz : rsizeN L 0 = (chooseS L 0).2.2.2 := by unfold rsizeN; rw [if_pos he]; rfl
    obtain ⟨-, hin⟩ := rchk_ok L 0 he
    rw [hz, he] at HSZ
    obtain ⟨N, hN⟩ : ∃ N, (chooseS L 0).2.2.2 = N := ⟨_, rfl⟩
    obtain ⟨hN0, hN1⟩ := choose_range L 0 (by omega) hin
    have HFP := Lib.hid (few_plain L (by omega) hin k hk)
    have HFW := Lib.hid (few_wide L (by omega) hin)
    rw [hN] at HSZ hN0 hN1 HFP HFW
    have HIN := Lib.hid hin
    obtain ⟨ww, hww, hw32⟩ : ∃ ww : Nat, widthS L = ww ∧ ww ≤ 32 := ⟨(widthS L).toNat, by have := widthS_32 L hin; omega, by have := widthS_32 L hin; omega⟩
    have HWW := Lib.hid hww
    clear he hz hin hN hww
    go_upto_region 8 with (first
      | (go_at_call 10; go_must (refine HSZ.out.mono ?_); rintro e w2 ⟨rfl, hk2⟩; have HK2 := Lib.hid (HK.out.new hk2); have HR2 := Lib.hid ((HR.out.new HK.out).new hk2); clear hk2))
    clear HSZ HK HR HN
    go_wp2_with fail
    go_loopg [7, 9, 10, 11] (L.length + 1) (fun q v7 v9 v10 v11 wr => ∃ (i v : Nat) (P : Int), v7 = .int .i64 P ∧ v9 = .int .i64 v ∧ v10 = .int .i64 i ∧ i ≤ L.length ∧ Hid (i + q = L.length + 1) ∧ Hid (P = plainS k ((L.take i).map foldS)) ∧ Hid (widthS (L.take i) = v) ∧ Hid (wr = w2))
    case atStart => exact ⟨0, 0, 11, rfl, rfl, rfl, by omega, (show _ = _ from by omega), (show _ = _ from by simp [plainS, farB, szK, sumK]), (show _ = _ from by simp [widthS]), (show _ = _ from rfl)⟩
    case round =>
      obtain ⟨i, v, P, rfl, rfl, rfl, hi, HQ, HP, HV, HW⟩ := hrel
      obtain ⟨q1, rfl⟩ : ∃ g : Nat, g = gk := ⟨_, rfl⟩
      obtain rfl := HW.out
      obtain ⟨wa, rfl⟩ : ∃ y : World, y = wr := ⟨_, rfl⟩
      by_cases hlt : i < L.length
      · obtain ⟨bA, oA, rfl, hcells⟩ := HR2.out.form (by omega)
        obtain ⟨x, hxe⟩ : ∃ x, L[i] = x := ⟨_, rfl⟩
        have hcx := hcells i hlt
        rw [hxe] at hcx
        have hxr := HIN.out x (by rw [← hxe]; exact List.getElem_mem _)
        obtain ⟨f, hfe⟩ : ∃ f, foldS x = f := ⟨_, rfl⟩
        obtain ⟨g0, g1⟩ := foldS_range x hxr
        rw [hfe] at g0 g1
        obtain ⟨D, hD⟩ : ∃ D, f / 2 ^ k = D := ⟨_, rfl⟩
        obtain ⟨d0, d1⟩ := div_pow_range f k g0 g1
        rw [hD] at d0 d1
        have htk : L.take (i + 1) = L.take i ++ [x] := by rw [List.take_succ_eq_append_getElem hlt, hxe]
        have hpl := plain_step k ((L.take i).map foldS) f P D hD HP.out (szK_range k _ (by omega) (by simp; omega) (folds_range _ (fun n hn => HIN.out n (List.mem_of_mem_take hn)))).2
        have hmf : (L.take (i + 1)).map foldS = (L.take i).map foldS ++ [f] := by rw [htk, List.map_append, ← hfe]; rfl
        rw [← hmf] at hpl
        have HPL := Lib.hid hpl
        have HWX : Hid (∃ wx : Nat, wd0 x = wx ∧ wx ≤ 32 ∧ widthS (L.take (i + 1)) = (max v wx : Nat)) := by
          have hr := wd0_range x hxr
          refine ⟨(wd0 x).toNat, by omega, by omega, ?_⟩
          rw [htk, widthS_snoc, HV.out, wdS_eq _ _ (by omega)]
          omega
        have hv32 : v ≤ 32 := by have := widthS_32 (L.take i) (fun n hn => HIN.out n (List.mem_of_mem_take hn)); have := HV.out; omega
        have hP0 : 0 ≤ P ∧ P ≤ 1152921504606846976 := by
          have h1 := szK_range k ((L.take i).map foldS) (by omega) (by simp; omega) (folds_range _ (fun n hn => HIN.out n (List.mem_of_mem_take hn)))
          rw [HP.out]
          unfold plainS
          split <;> omega
        have HPO := Lib.hid (HPL.out.2.2.2)
        have hfx : (x < 0 ∧ -2 * x - 1 = f) ∨ (¬ x < 0 ∧ 2 * x = f) := by rw [← hfe]; unfold foldS; by_cases hx0 : x < 0 <;> simp [hx0]
        have hcs : (65536 < D) ∨ (¬ 65536 < D ∧ P = 1152921504606846976) ∨ (¬ 65536 < D ∧ P ≠ 1152921504606846976 ∧ P < 1152921504606846976 ∧ P ≤ 10000000000100) := by
          by_cases h1 : 65536 < D
          · exact .inl h1
          · by_cases h2 : P = 1152921504606846976
            · exact .inr (.inl ⟨h1, h2⟩)
            · exact .inr (.inr ⟨h1, h2, by omega, HPO.out h2⟩)
        clear hcells hxe hpl hfe htk hmf HPO
        rcases hfx with ⟨hx0, hfx⟩ | ⟨hx0, hfx⟩
        · rcases hcs with hc | ⟨hc, hc2⟩ | ⟨hc, hc2, hc3, hc4⟩
          · have HP2 := Lib.hid (HPL.out.1 hc)
            clear HPL
            obtain ⟨wx, hwx, hwx32, hwmax⟩ := HWX.out
            have HSG : Hid (∀ (u : Nat) (W : World), u ≤ 33 → Calls Try.prog 11 #[.int .i64 x, .int .i64 u] W fun e w' => e = .returned (.bool (decide ((wx : Int) ≤ u))) ∧ W = w') := by
              intro u W hu
              have := refSigned_calls x u W hu
              rwa [sgnB_iff x u hxr, hwx] at this
            have HWM := Lib.hid hwmax
            clear HWX HP hwx hwmax
            go_wp2_with fail
            go_loopg [9] 40 (fun q v9 wq => ∃ u : Nat, v9 = .int .i64 u ∧ v ≤ u ∧ u ≤ max v wx ∧ Hid (40 ≤ u + q) ∧ Hid (wq = wa))
            case atStart => exact ⟨v, rfl, by omega, by omega, (show _ ≤ _ from by omega), (show _ = _ from rfl)⟩
            case round =>
              obtain ⟨u, rfl, hu0, hu1, HU, HWA⟩ := hrel
              obtain ⟨q2, rfl⟩ : ∃ g : Nat, g = gk := ⟨_, rfl⟩
              obtain rfl := HWA.out
              by_cases hu : wx ≤ u
              · have hdu : decide ((wx : Int) ≤ u) = true := decide_eq_true (by omega)
                go_wp2_with (first
                  | (go_at_call 11; go_must (refine (HSG.out u _ (by omega)).mono ?_); rw [hdu]; rintro e w3 ⟨rfl, rfl⟩))
                go_roundg (L.length - i)
                case measure => have := HQ.out; omega
                case rel => exact ⟨i + 1, u, _, rfl, rfl, by go_num, by omega, (show _ = _ from by have := HQ.out; omega), HP2.out, (show _ = _ from by rw [HWM.out]; congr 1; omega), (show _ = _ from rfl)⟩
              · have hdu : decide ((wx : Int) ≤ u) = false := decide_eq_false (by omega)
                go_wp2_with (first
                  | (go_at_call 11; go_must (refine (HSG.out u _ (by omega)).mono ?_); rw [hdu]; rintro e w3 ⟨rfl, rfl⟩))
                go_roundg (39 - u)
                case measure => have := HU.out; omega
                case rel => exact ⟨u + 1, by go_num, by omega, by omega, (show _ ≤ _ from by have := HU.out; omega), (show _ = _ from rfl)⟩
          · have HP2 := Lib.hid (HPL.out.2.1 hc hc2)
            clear HPL
            subst hc2
            obtain ⟨wx, hwx, hwx32, hwmax⟩ := HWX.out
            have HSG : Hid (∀ (u : Nat) (W : World), u ≤ 33 → Calls Try.prog 11 #[.int .i64 x, .int .i64 u] W fun e w' => e = .returned (.bool (decide ((wx : Int) ≤ u))) ∧ W = w') := by
              intro u W hu
              have := refSigned_calls x u W hu
              rwa [sgnB_iff x u hxr, hwx] at this
            have HWM := Lib.hid hwmax
            clear HWX HP hwx hwmax
            go_wp2_with fail
            go_loopg [9] 40 (fun q v9 wq => ∃ u : Nat, v9 = .int .i64 u ∧ v ≤ u ∧ u ≤ max v wx ∧ Hid (40 ≤ u + q) ∧ Hid (wq = wa))
            case atStart => exact ⟨v, rfl, by omega, by omega, (show _ ≤ _ from by omega), (show _ = _ from rfl)⟩
            case round =>
              obtain ⟨u, rfl, hu0, hu1, HU, HWA⟩ := hrel
              obtain ⟨q2, rfl⟩ : ∃ g : Nat, g = gk := ⟨_, rfl⟩
              obtain rfl := HWA.out
              by_cases hu : wx ≤ u
              · have hdu : decide ((wx : Int) ≤ u) = true := decide_eq_true (by omega)
                go_wp2_with (first
                  | (go_at_call 11; go_must (refine (HSG.out u _ (by omega)).mono ?_); rw [hdu]; rintro e w3 ⟨rfl, rfl⟩))
                go_roundg (L.length - i)
                case measure => have := HQ.out; omega
                case rel => exact ⟨i + 1, u, _, rfl, rfl, by go_num, by omega, (show _ = _ from by have := HQ.out; omega), HP2.out, (show _ = _ from by rw [HWM.out]; congr 1; omega), (show _ = _ from rfl)⟩
              · have hdu : decide ((wx : Int) ≤ u) = false := decide_eq_false (by omega)
                go_wp2_with (first
                  | (go_at_call 11; go_must (refine (HSG.out u _ (by omega)).mono ?_); rw [hdu]; rintro e w3 ⟨rfl, rfl⟩))
                go_roundg (39 - u)
                case measure => have := HU.out; omega
                case rel => exact ⟨u + 1, by go_num, by omega, by omega, (show _ ≤ _ from by have := HU.out; omega), (show _ = _ from rfl)⟩
          · have HP2 := Lib.hid (HPL.out.2.2.1 hc hc2)
            clear HPL
            obtain ⟨wx, hwx, hwx32, hwmax⟩ := HWX.out
            have HSG : Hid (∀ (u : Nat) (W : World), u ≤ 33 → Calls Try.prog 11 #[.int .i64 x, .int .i64 u] W fun e w' => e = .returned (.bool (decide ((wx : Int) ≤ u))) ∧ W = w') := by
              intro u W hu
              have := refSigned_calls x u W hu
              rwa [sgnB_iff x u hxr, hwx] at this
            have HWM := Lib.hid hwmax
            clear HWX HP hwx hwmax
            go_wp2_with fail
            go_loopg [9] 40 (fun q v9 wq => ∃ u : Nat, v9 = .int .i64 u ∧ v ≤ u ∧ u ≤ max v wx ∧ Hid (40 ≤ u + q) ∧ Hid (wq = wa))
            case atStart => exact ⟨v, rfl, by omega, by omega, (show _ ≤ _ from by omega), (show _ = _ from rfl)⟩
            case round =>
              obtain ⟨u, rfl, hu0, hu1, HU, HWA⟩ := hrel
              obtain ⟨q2, rfl⟩ : ∃ g : Nat, g = gk := ⟨_, rfl⟩
              obtain rfl := HWA.out
              by_cases hu : wx ≤ u
              · have hdu : decide ((wx : Int) ≤ u) = true := decide_eq_true (by omega)
                go_wp2_with (first
                  | (go_at_call 11; go_must (refine (HSG.out u _ (by omega)).mono ?_); rw [hdu]; rintro e w3 ⟨rfl, rfl⟩))
                go_roundg (L.length - i)
                case measure => have := HQ.out; omega
                case rel => exact ⟨i + 1, u, _, rfl, rfl, by go_num, by omega, (show _ = _ from by have := HQ.out; omega), HP2.out, (show _ = _ from by rw [HWM.out]; congr 1; omega), (show _ = _ from rfl)⟩
              · have hdu : decide ((wx : Int) ≤ u) = false := decide_eq_false (by omega)
                go_wp2_with (first
                  | (go_at_call 11; go_must (refine (HSG.out u _ (by omega)).mono ?_); rw [hdu]; rintro e w3 ⟨rfl, rfl⟩))
                go_roundg (39 - u)
                case measure => have := HU.out; omega
                case rel => exact ⟨u + 1, by go_num, by omega, by omega, (show _ ≤ _ from by have := HU.out; omega), (show _ = _ from rfl)⟩
        · rcases hcs with hc | ⟨hc, hc2⟩ | ⟨hc, hc2, hc3, hc4⟩
          · have HP2 := Lib.hid (HPL.out.1 hc)
            clear HPL
            obtain ⟨wx, hwx, hwx32, hwmax⟩ := HWX.out
            have HSG : Hid (∀ (u : Nat) (W : World), u ≤ 33 → Calls Try.prog 11 #[.int .i64 x, .int .i64 u] W fun e w' => e = .returned (.bool (decide ((wx : Int) ≤ u))) ∧ W = w') := by
              intro u W hu
              have := refSigned_calls x u W hu
              rwa [sgnB_iff x u hxr, hwx] at this
            have HWM := Lib.hid hwmax
            clear HWX HP hwx hwmax
            go_wp2_with fail
            go_loopg [9] 40 (fun q v9 wq => ∃ u : Nat, v9 = .int .i64 u ∧ v ≤ u ∧ u ≤ max v wx ∧ Hid (40 ≤ u + q) ∧ Hid (wq = wa))
            case atStart => exact ⟨v, rfl, by omega, by omega, (show _ ≤ _ from by omega), (show _ = _ from rfl)⟩
            case round =>
              obtain ⟨u, rfl, hu0, hu1, HU, HWA⟩ := hrel
              obtain ⟨q2, rfl⟩ : ∃ g : Nat, g = gk := ⟨_, rfl⟩
              obtain rfl := HWA.out
              by_cases hu : wx ≤ u
              · have hdu : decide ((wx : Int) ≤ u) = true := decide_eq_true (by omega)
                go_wp2_with (first
                  | (go_at_call 11; go_must (refine (HSG.out u _ (by omega)).mono ?_); rw [hdu]; rintro e w3 ⟨rfl, rfl⟩))
                go_roundg (L.length - i)
                case measure => have := HQ.out; omega
                case rel => exact ⟨i + 1, u, _, rfl, rfl, by go_num, by omega, (show _ = _ from by have := HQ.out; omega), HP2.out, (show _ = _ from by rw [HWM.out]; congr 1; omega), (show _ = _ from rfl)⟩
              · have hdu : decide ((wx : Int) ≤ u) = false := decide_eq_false (by omega)
                go_wp2_with (first
                  | (go_at_call 11; go_must (refine (HSG.out u _ (by omega)).mono ?_); rw [hdu]; rintro e w3 ⟨rfl, rfl⟩))
                go_roundg (39 - u)
                case measure => have := HU.out; omega
                case rel => exact ⟨u + 1, by go_num, by omega, by omega, (show _ ≤ _ from by have := HU.out; omega), (show _ = _ from rfl)⟩
          · have HP2 := Lib.hid (HPL.out.2.1 hc hc2)
            clear HPL
            subst hc2
            obtain ⟨wx, hwx, hwx32, hwmax⟩ := HWX.out
            have HSG : Hid (∀ (u : Nat) (W : World), u ≤ 33 → Calls Try.prog 11 #[.int .i64 x, .int .i64 u] W fun e w' => e = .returned (.bool (decide ((wx : Int) ≤ u))) ∧ W = w') := by
              intro u W hu
              have := refSigned_calls x u W hu
              rwa [sgnB_iff x u hxr, hwx] at this
            have HWM := Lib.hid hwmax
            clear HWX HP hwx hwmax
            go_wp2_with fail
            go_loopg [9] 40 (fun q v9 wq => ∃ u : Nat, v9 = .int .i64 u ∧ v ≤ u ∧ u ≤ max v wx ∧ Hid (40 ≤ u + q) ∧ Hid (wq = wa))
            case atStart => exact ⟨v, rfl, by omega, by omega, (show _ ≤ _ from by omega), (show _ = _ from rfl)⟩
            case round =>
              obtain ⟨u, rfl, hu0, hu1, HU, HWA⟩ := hrel
              obtain ⟨q2, rfl⟩ : ∃ g : Nat, g = gk := ⟨_, rfl⟩
              obtain rfl := HWA.out
              by_cases hu : wx ≤ u
              · have hdu : decide ((wx : Int) ≤ u) = true := decide_eq_true (by omega)
                go_wp2_with (first
                  | (go_at_call 11; go_must (refine (HSG.out u _ (by omega)).mono ?_); rw [hdu]; rintro e w3 ⟨rfl, rfl⟩))
                go_roundg (L.length - i)
                case measure => have := HQ.out; omega
                case rel => exact ⟨i + 1, u, _, rfl, rfl, by go_num, by omega, (show _ = _ from by have := HQ.out; omega), HP2.out, (show _ = _ from by rw [HWM.out]; congr 1; omega), (show _ = _ from rfl)⟩
              · have hdu : decide ((wx : Int) ≤ u) = false := decide_eq_false (by omega)
                go_wp2_with (first
                  | (go_at_call 11; go_must (refine (HSG.out u _ (by omega)).mono ?_); rw [hdu]; rintro e w3 ⟨rfl, rfl⟩))
                go_roundg (39 - u)
                case measure => have := HU.out; omega
                case rel => exact ⟨u + 1, by go_num, by omega, by omega, (show _ ≤ _ from by have := HU.out; omega), (show _ = _ from rfl)⟩
          · have HP2 := Lib.hid (HPL.out.2.2.1 hc hc2)
            clear HPL
            obtain ⟨wx, hwx, hwx32, hwmax⟩ := HWX.out
            have HSG : Hid (∀ (u : Nat) (W : World), u ≤ 33 → Calls Try.prog 11 #[.int .i64 x, .int .i64 u] W fun e w' => e = .returned (.bool (decide ((wx : Int) ≤ u))) ∧ W = w') := by
              intro u W hu
              have := refSigned_calls x u W hu
              rwa [sgnB_iff x u hxr, hwx] at this
            have HWM := Lib.hid hwmax
            clear HWX HP hwx hwmax
            go_wp2_with fail
            go_loopg [9] 40 (fun q v9 wq => ∃ u : Nat, v9 = .int .i64 u ∧ v ≤ u ∧ u ≤ max v wx ∧ Hid (40 ≤ u + q) ∧ Hid (wq = wa))
            case atStart => exact ⟨v, rfl, by omega, by omega, (show _ ≤ _ from by omega), (show _ = _ from rfl)⟩
            case round =>
              obtain ⟨u, rfl, hu0, hu1, HU, HWA⟩ := hrel
              obtain ⟨q2, rfl⟩ : ∃ g : Nat, g = gk := ⟨_, rfl⟩
              obtain rfl := HWA.out
              by_cases hu : wx ≤ u
              · have hdu : decide ((wx : Int) ≤ u) = true := decide_eq_true (by omega)
                go_wp2_with (first
                  | (go_at_call 11; go_must (refine (HSG.out u _ (by omega)).mono ?_); rw [hdu]; rintro e w3 ⟨rfl, rfl⟩))
                go_roundg (L.length - i)
                case measure => have := HQ.out; omega
                case rel => exact ⟨i + 1, u, _, rfl, rfl, by go_num, by omega, (show _ = _ from by have := HQ.out; omega), HP2.out, (show _ = _ from by rw [HWM.out]; congr 1; omega), (show _ = _ from rfl)⟩
              · have hdu : decide ((wx : Int) ≤ u) = false := decide_eq_false (by omega)
                go_wp2_with (first
                  | (go_at_call 11; go_must (refine (HSG.out u _ (by omega)).mono ?_); rw [hdu]; rintro e w3 ⟨rfl, rfl⟩))
                go_roundg (39 - u)
                case measure => have := HU.out; omega
                case rel => exact ⟨u + 1, by go_num, by omega, by omega, (show _ ≤ _ from by have := HU.out; omega), (show _ = _ from rfl)⟩
      · obtain rfl : i = L.length := by omega
        have hfin := HP.out
        have hfv := HV.out
        rw [List.take_of_length_le (Nat.le_refl _)] at hfin hfv
        have hvw : v = ww := by have := HWW.out; omega
        subst hvw
        have hNP : N ≤ P := by
          rw [hfin]
          unfold plainS
          by_cases hfb : farB k (L.map foldS) = true
          · rw [if_pos hfb]; omega
          · rw [if_neg hfb]; exact HFP.out (by simpa using hfb)
        have hm0 : v * L.length ≤ 32 * 513 := Nat.mul_le_mul hw32 hL5
        obtain ⟨M, hM⟩ : ∃ M, v * L.length = M := ⟨_, rfl⟩
        have hMi : (v : Int) * (L.length : Int) = (M : Int) := by rw [← hM]; simp
        rw [hM] at hm0
        have hNW : v ≤ 31 → N ≤ 15 + (M : Int) := by
          intro h
          have := HFW.out (by rw [hfv]; omega)
          rw [hfv, hMi] at this
          exact this
        clear hM HFP HFW HP hfin hfv HV
        by_cases hv : 31 < v
        · clear hNW
          go_wp2_with fail
          go_ret
          exact ⟨rfl, HK2.out.below⟩
        · have hN3 := hNW (by omega)
          clear hNW
          go_wp2_with fail
          go_ret
          exact ⟨rfl, HK2.out.below⟩
  · have heb : (rchkE L 0 != 0) = true := by simp [he]
    obtain ⟨E, hE⟩ : ∃ E, rchkE L 0 = E := ⟨_, rfl⟩
    obtain ⟨M, hM⟩ : ∃ M, rsizeN L 0 = M := ⟨_, rfl⟩
    rw [hE, hM] at HSZ
    rw [hE] at heb
    clear hE hM he
    go_wp2_with (first
      | (go_at_call 10; go_must (refine HSZ.out.mono ?_); rintro e w2 ⟨rfl, hk2⟩; have HK2 := Lib.hid (HK.out.new hk2); clear hk2))
    go_ret
    exact ⟨rfl, HK2.out.below⟩
end Go.Proofs.Ytepbngdoeolepaa
