/-
  Layer 6 (rice), the document's side: width, choice.
  Layer 6 (rice), the document's side: best, DocSize, few.
-/
import Derived.Test.YtofkiimaoahfjaaDoorZRice21
import Derived.Test.YtofkiimaoahfjaaDoorZRice17
import Derived.Test.YtofkiimaoahfjaaDoorZRice19
set_option maxRecDepth 100000
set_option linter.unusedVariables false
set_option linter.unusedSimpArgs false
namespace Go.Proofs.YtofkiimaoahfjaaDoor
open Go.RowKit Go.Proofs.YtofkiimaoahfjaaDoor.Pure

theorem widthS_33 (L : List Int) (hin : ∀ n ∈ L, -2147483648 < n ∧ n < 2147483648) : 0 ≤ widthS L ∧ widthS L ≤ 32 := by
  have : ∀ (L : List Int) (w : Int), (∀ n ∈ L, -2147483648 < n ∧ n < 2147483648) → 0 ≤ w ∧ w ≤ 32 → 0 ≤ L.foldl wdS w ∧ L.foldl wdS w ≤ 32 := by
    intro L
    induction L with
    | nil => intro w _ h; exact h
    | cons x L ih =>
      intro w h1 h
      refine ih _ (fun n hn => h1 n (List.mem_cons_of_mem _ hn)) ?_
      rw [wdS_eq w x h.1]
      have := wd0_range x (h1 x List.mem_cons_self)
      omega
  exact this L 0 hin (by omega)

set_option maxHeartbeats 4000000 in
theorem dwidth_calls (L : List Int) (n : Nat) (hn : n = L.length) (a : Option Addr) (c : Nat) (w : World) (hl : L.length ≤ 600) (hin : ∀ x ∈ L, -2147483648 < x ∧ x < 2147483648) (hx : Hid (Rd w .i64 a L)) :
    Calls Tryd.prog 117 #[.slice a n c] w fun e w' => e = .returned (.int .i64 (widthS L)) ∧ w = w' := by
  subst hn
  have HIN := Lib.hid hin
  clear hin
  go_enter Tryd.func117, Tryd.ntmps117
  go_wp2_with fail
  go_loopg [3, 4] (L.length + 1) (fun q v3 v4 wr => ∃ (i v : Nat), v4 = .int .i64 i ∧ v3 = .int .i64 v ∧ i ≤ L.length ∧ Hid (i + q = L.length + 1) ∧ Hid (widthS (L.take i) = v) ∧ Hid (wr = w))
  case atStart => exact ⟨0, 0, rfl, rfl, by omega, (show _ = _ from by omega), (show _ = _ from by simp [widthS]), (show _ = _ from rfl)⟩
  case round =>
    obtain ⟨i, v, rfl, rfl, hi, HQ, HV, HW⟩ := hrel
    obtain ⟨q1, rfl⟩ : ∃ g : Nat, g = gk := ⟨_, rfl⟩
    obtain rfl := HW.out
    obtain ⟨wa, rfl⟩ : ∃ y : World, y = wr := ⟨_, rfl⟩
    by_cases hlt : i < L.length
    · obtain ⟨b1, o1, rfl, hc1⟩ := hx.out.at_ i hlt
      obtain ⟨x, hxe⟩ : ∃ x, L[i] = x := ⟨_, rfl⟩
      rw [hxe] at hc1
      have hxr : -2147483648 < x ∧ x < 2147483648 := by rw [← hxe]; exact HIN.out _ (List.getElem_mem _)
      have htk : L.take (i + 1) = L.take i ++ [x] := by rw [List.take_succ_eq_append_getElem hlt, hxe]
      have hr := wd0_range x hxr
      obtain ⟨wx, hwx⟩ : ∃ wx : Nat, wd0 x = wx := ⟨(wd0 x).toNat, by omega⟩
      have hwx32 : wx ≤ 32 := by omega
      have HWM : Hid (widthS (L.take (i + 1)) = (max v wx : Nat)) := by
        show _ = _
        rw [htk, widthS_snoc, HV.out, wdS_eq _ _ (by omega), hwx]
        omega
      have hv32 : v ≤ 32 := by have := widthS_33 (L.take i) (fun n hn => HIN.out n (List.mem_of_mem_take hn)); have := HV.out; omega
      have HSG : Hid (∀ (u : Nat) (W : World), u ≤ 33 → Calls Tryd.prog 33 #[.int .i64 x, .int .i64 u] W fun e w' => e = .returned (.bool (decide ((wx : Int) ≤ u))) ∧ W = w') := by
        intro u W hu
        have := refSigned_calls x u W hu
        rwa [sgnB_iff x u hxr, hwx] at this
      clear htk hr hwx hxe
      go_wp2_with fail
      go_loopg [3] 40 (fun q v3 wq => ∃ u : Nat, v3 = .int .i64 u ∧ v ≤ u ∧ u ≤ max v wx ∧ Hid (40 ≤ u + q) ∧ Hid (wq = wa))
      case atStart => exact ⟨v, rfl, by omega, by omega, (show _ ≤ _ from by omega), (show _ = _ from rfl)⟩
      case round =>
        obtain ⟨u, rfl, hu0, hu1, HU, HWA⟩ := hrel
        obtain ⟨q2, rfl⟩ : ∃ g : Nat, g = gk := ⟨_, rfl⟩
        obtain rfl := HWA.out
        by_cases hu : wx ≤ u
        · have hdu : decide ((wx : Int) ≤ u) = true := decide_eq_true (by omega)
          go_wp2_with (first
            | (go_at_call 33; go_must (refine (HSG.out u _ (by omega)).mono ?_); rw [hdu]; rintro e w3 ⟨rfl, rfl⟩))
          go_roundg (L.length - i)
          case measure => have := HQ.out; omega
          case rel => exact ⟨i + 1, u, by go_num, rfl, by omega, (show _ = _ from by have := HQ.out; omega), (show _ = _ from by rw [HWM.out]; congr 1; omega), (show _ = _ from rfl)⟩
        · have hdu : decide ((wx : Int) ≤ u) = false := decide_eq_false (by omega)
          go_wp2_with (first
            | (go_at_call 33; go_must (refine (HSG.out u _ (by omega)).mono ?_); rw [hdu]; rintro e w3 ⟨rfl, rfl⟩))
          go_roundg (39 - u)
          case measure => have := HU.out; omega
          case rel => exact ⟨u + 1, by go_num, by omega, by omega, (show _ ≤ _ from by have := HU.out; omega), (show _ = _ from rfl)⟩
    · obtain rfl : i = L.length := by omega
      have h1 := HV.out
      rw [List.take_of_length_le (Nat.le_refl _)] at h1
      have HV1 := Lib.hid h1
      clear h1
      go_wp2_with fail
      go_ret
      exact ⟨by rw [HV1.out]; rfl, rfl⟩

/-- The document's choice: the parameter (-1: none), the width, the bits. -/
def choiceS (L : List Int) (m : Nat) : Int × Int × Int := if (bestS L m).2 = true then (bestS L m).1 else (-1, 0, 0)
/-- The loop's state. -/
def DK (F : List Int) (k : Nat) (b s : Int) : Prop := ((loopK F k).2 = false ∧ b = -1 ∧ s = 0 ∧ (loopK F k).1 = (0, 0, 0)) ∨ ((loopK F k).2 = true ∧ 0 ≤ b ∧ 0 ≤ s ∧ s ≤ 10000000000000 ∧ (loopK F k).1 = (b, 0, s))
theorem dlit2_cell (T : TypeId) (m : Nat) (hm : m ≤ 1) (W : World) : (W.alloc (.cells #[.int .i64 15, .int .i64 31] T)).cell? ⟨W.heap.size, m, none⟩ = some (.int .i64 (escS m : Int)) := by
  rcases (show m = 0 ∨ m = 1 by omega) with rfl | rfl
  · have e : ((escS 0 : Nat) : Int) = 15 := by decide
    rw [e]
    go_simp
  · have e : ((escS 1 : Nat) : Int) = 31 := by decide
    rw [e]
    go_simp
theorem DK.far {F : List Int} {k : Nat} {b s : Int} (h : DK F k b s) (hf : farB k F = true) : DK F (k + 1) b s := by
  have e : loopK F (k + 1) = loopK F k := by rw [loopK_succ]; unfold stepK; rw [if_neg (by simp [hf])]
  unfold DK
  rw [e]
  exact h
theorem DK.take {F : List Int} {k : Nat} {b s : Int} (h : DK F k b s) (hf : farB k F = false) (hs : b < 0 ∨ szK k F < s) (h0 : 0 ≤ szK k F) (h1 : szK k F ≤ 10000000000000) : DK F (k + 1) k (szK k F) := by
  have e : loopK F (k + 1) = (((k : Int), 0, szK k F), true) := by
    rw [loopK_succ]
    unfold stepK
    rw [if_pos]
    refine ⟨hf, ?_⟩
    rcases h with ⟨h1, h2, h3, h4⟩ | ⟨h1, h2, h3, h5, h4⟩
    · exact .inl h1
    · right
      rw [h4]
      rcases hs with hs | hs
      · omega
      · exact hs
  unfold DK
  rw [e]
  exact .inr ⟨rfl, by omega, h0, h1, rfl⟩
theorem DK.keep {F : List Int} {k : Nat} {b s : Int} (h : DK F k b s) (hb : 0 ≤ b) (hs : ¬ szK k F < s) : DK F (k + 1) b s := by
  have e : loopK F (k + 1) = loopK F k := by
    rw [loopK_succ]
    unfold stepK
    rw [if_neg]
    intro hc
    rcases h with ⟨h1, h2, h3, h4⟩ | ⟨h1, h2, h3, h5, h4⟩
    · omega
    · rcases hc.2 with hc | hc
      · rw [h1] at hc; cases hc
      · rw [h4] at hc; exact hs hc
  unfold DK
  rw [e]
  exact h

set_option maxHeartbeats 8000000 in
theorem dchoice_calls (L : List Int) (m n : Nat) (hn : n = L.length) (a : Option Addr) (c : Nat) (w : World) (hm : m ≤ 1) (hl : L.length ≤ 600) (hin : ∀ x ∈ L, -2147483648 < x ∧ x < 2147483648) (hx : Hid (Rd w .i64 a L)) :
    Calls Tryd.prog 102 #[.slice a n c, .int .i64 m] w fun e w' => e = .returned (.tuple #[.int .i64 (choiceS L m).1, .int .i64 (choiceS L m).2.1, .int .i64 (choiceS L m).2.2]) ∧ Keeps [] w w' := by
  subst hn
  obtain ⟨EE, hEE⟩ : ∃ EE : Nat, escS m = EE := ⟨_, rfl⟩
  have hE31 : EE ≤ 31 := by rw [← hEE]; exact escS_le m hm
  have HEE := Lib.hid hEE
  have hl2 := dlit2_cell 3 m hm w
  rw [hEE] at hl2
  obtain ⟨F, hF⟩ : ∃ F, L.map foldS = F := ⟨_, rfl⟩
  have HF := Lib.hid hF
  have hFl : F.length ≤ 600 := by rw [← hF, List.length_map]; exact hl
  have hFr : ∀ f ∈ F, 0 ≤ f ∧ f ≤ 4294967296 := by rw [← hF]; exact folds_range L hin
  have HSZR : Hid (∀ k, k ≤ 31 → 0 ≤ szK k F ∧ szK k F ≤ 10000000000000) := fun k hk => szK_range k F (by omega) (by omega) hFr
  have HDS := Lib.hid (fun k W (hk : k ≤ 31) (hk2 : Keeps [] w W) => dsize_calls L k _ rfl a c W hk hl hin (Lib.hid (hx.out.new hk2)))
  rw [hF] at HDS
  have HDW := Lib.hid (fun W (hk2 : Keeps [] w W) => dwidth_calls L _ rfl a c W hl hin (Lib.hid (hx.out.new hk2)))
  obtain ⟨ww, hww⟩ : ∃ ww : Nat, widthS L = ww := ⟨(widthS L).toNat, by have := widthS_33 L hin; omega⟩
  have hw32 : ww ≤ 32 := by have := widthS_33 L hin; omega
  rw [hww] at HDW
  have HWW := Lib.hid hww
  obtain ⟨ml, hml⟩ : ∃ ml : Nat, ww * L.length = ml := ⟨_, rfl⟩
  have hmli : (ww : Int) * (L.length : Int) = (ml : Int) := by rw [← hml]; simp
  have hml2 : ml ≤ 32 * 600 := by rw [← hml]; exact Nat.mul_le_mul hw32 hl
  obtain ⟨CS, hCS⟩ : ∃ CS, choiceS L m = CS := ⟨_, rfl⟩
  rw [hCS]
  have HCS := Lib.hid hCS
  have HMLI := Lib.hid hmli
  clear hEE hF hFr hFl hww hml hCS hin hmli
  go_enter Tryd.func102, Tryd.ntmps102
  go_upto_region 3 with fail
  have HK1 : Hid (Keeps [] w (w.alloc (.cells #[.int .i64 15, .int .i64 31] 3))) := (Keeps.refl _ _).alloc _
  generalize w.alloc (.cells #[.int .i64 15, .int .i64 31] 3) = wA at *
  clear hl2
  go_wp2_with fail
  go_loopg [8, 9, 10] (EE + 1) (fun q v8 v9 v10 wr => ∃ (k : Nat) (b s : Int), v10 = .int .i64 k ∧ v8 = .int .i64 b ∧ v9 = .int .i64 s ∧ k ≤ EE ∧ Hid (DK F k b s) ∧ Hid (k + q = EE + 1) ∧ Hid (Keeps [] w wr))
  case atStart => exact ⟨0, -1, 0, rfl, rfl, rfl, by omega, .inl ⟨rfl, rfl, rfl, rfl⟩, (show _ = _ from by omega), HK1.out⟩
  case round =>
    obtain ⟨k, b, s, rfl, rfl, rfl, hk, HDK, HQ, HK⟩ := hrel
    obtain ⟨q1, rfl⟩ : ∃ g : Nat, g = gk := ⟨_, rfl⟩
    obtain ⟨wa, rfl⟩ : ∃ y : World, y = wr := ⟨_, rfl⟩
    by_cases hlt : k < EE
    · have hcall := HDS.out k wa (by omega) HK.out
      obtain ⟨hz0, hz1⟩ := HSZR.out k (by omega)
      cases hfar : farB k F with
      | true =>
        have e : dsizeS k F = -1 := by unfold dsizeS; rw [if_pos hfar]
        rw [e] at hcall
        have HC := Lib.hid hcall
        have HDN := Lib.hid (HDK.out.far hfar)
        clear e hcall hfar hz0 hz1
        go_wp2_with (first
          | (go_at_call 116; go_must (refine HC.out.mono ?_); rintro e w3 ⟨rfl, hk3⟩; have HK3 := Lib.hid (HK.out.new hk3); clear hk3))
        go_roundg (EE - k)
        case measure => have := HQ.out; omega
        case rel => exact ⟨k + 1, b, s, by go_num, rfl, rfl, by omega, HDN.out, (show _ = _ from by have := HQ.out; omega), HK3.out⟩
      | false =>
        have e : dsizeS k F = szK k F := by unfold dsizeS; rw [if_neg (by simp [hfar])]
        rw [e] at hcall
        have HC := Lib.hid hcall
        have htk := fun h => HDK.out.take hfar h hz0 hz1
        have hkp := HDK.out.keep
        obtain ⟨Z, hZ⟩ : ∃ Z, szK k F = Z := ⟨_, rfl⟩
        rw [hZ] at HC htk hkp hz0 hz1
        have hbs : (b = -1 ∧ s = 0) ∨ (0 ≤ b ∧ 0 ≤ s ∧ s ≤ 10000000000000) := by
          rcases HDK.out with ⟨h1, h2, h3, h4⟩ | ⟨h1, h2, h3, h5, h4⟩
          · exact .inl ⟨h2, h3⟩
          · exact .inr ⟨h2, h3, h5⟩
        clear e hcall hfar hZ
        rcases hbs with ⟨hb, hs⟩ | ⟨hb, hs, hs2⟩
        · subst hb hs
          have HDN := Lib.hid (htk (.inl (by omega)))
          clear htk hkp
          go_wp2_with (first
            | (go_at_call 116; go_must (refine HC.out.mono ?_); rintro e w3 ⟨rfl, hk3⟩; have HK3 := Lib.hid (HK.out.new hk3); clear hk3))
          go_roundg (EE - k)
          case measure => have := HQ.out; omega
          case rel => exact ⟨k + 1, k, Z, by go_num, rfl, rfl, by omega, HDN.out, (show _ = _ from by have := HQ.out; omega), HK3.out⟩
        · by_cases hlt2 : Z < s
          · have HDN := Lib.hid (htk (.inr hlt2))
            clear htk hkp
            go_wp2_with (first
              | (go_at_call 116; go_must (refine HC.out.mono ?_); rintro e w3 ⟨rfl, hk3⟩; have HK3 := Lib.hid (HK.out.new hk3); clear hk3))
            go_roundg (EE - k)
            case measure => have := HQ.out; omega
            case rel => exact ⟨k + 1, k, Z, by go_num, rfl, rfl, by omega, HDN.out, (show _ = _ from by have := HQ.out; omega), HK3.out⟩
          · have HDN := Lib.hid (hkp hb hlt2)
            clear htk hkp
            go_wp2_with (first
              | (go_at_call 116; go_must (refine HC.out.mono ?_); rintro e w3 ⟨rfl, hk3⟩; have HK3 := Lib.hid (HK.out.new hk3); clear hk3))
            go_roundg (EE - k)
            case measure => have := HQ.out; omega
            case rel => exact ⟨k + 1, b, s, by go_num, rfl, rfl, by omega, HDN.out, (show _ = _ from by have := HQ.out; omega), HK3.out⟩
    · obtain rfl : k = EE := by omega
      have hcall := HDW.out wa HK.out
      have HC := Lib.hid hcall
      have hbest : ∀ b' : Bool, bestS L m = if (ww : Int) ≤ 31 ∧ ((loopK F k).2 = false ∨ 5 + (ml : Int) < (loopK F k).1.2.2) then (((k : Int), (ww : Int), 5 + (ml : Int)), true) else loopK F k := by
        intro _
        unfold bestS
        rw [HF.out, HEE.out, HWW.out, HMLI.out]
      have hbest := hbest true
      have hmli := HMLI.out
      clear hcall
      by_cases hw31 : ww ≤ 31
      · rcases HDK.out with ⟨h1, hb, hs, h4⟩ | ⟨h1, hb, hs, h5, h4⟩
        · subst hb hs
          have hres : CS = ((k : Int), (ww : Int), 5 + (ml : Int)) := by
            have hb2 : bestS L m = (((k : Int), (ww : Int), 5 + (ml : Int)), true) := by rw [hbest, if_pos ⟨by omega, .inl h1⟩]
            rw [← HCS.out]
            unfold choiceS
            rw [hb2, if_pos rfl]
          subst hres
          clear hbest h1 h4
          go_wp2_with (first
            | (go_at_call 117; go_must (refine HC.out.mono ?_); rintro e w3 ⟨rfl, rfl⟩))
          go_ret3
          exact ⟨rfl, HK.out⟩
        · by_cases hlt2 : 5 + (ml : Int) < s
          · have hres : CS = ((k : Int), (ww : Int), 5 + (ml : Int)) := by
              have hb2 : bestS L m = (((k : Int), (ww : Int), 5 + (ml : Int)), true) := by rw [hbest, if_pos ⟨by omega, .inr (by rw [h4]; exact hlt2)⟩]
              rw [← HCS.out]
              unfold choiceS
              rw [hb2, if_pos rfl]
            subst hres
            clear hbest h1 h4
            go_wp2_with (first
              | (go_at_call 117; go_must (refine HC.out.mono ?_); rintro e w3 ⟨rfl, rfl⟩))
            go_ret3
            exact ⟨rfl, HK.out⟩
          · have hres : CS = (b, 0, s) := by
              have hb2 : bestS L m = loopK F k := by rw [hbest, if_neg (by rw [h4, h1]; intro hh; rcases hh.2 with h | h; (cases h); exact hlt2 h)]
              rw [← HCS.out]
              unfold choiceS
              rw [hb2, if_pos h1, h4]
            subst hres
            clear hbest h1 h4
            go_wp2_with (first
              | (go_at_call 117; go_must (refine HC.out.mono ?_); rintro e w3 ⟨rfl, rfl⟩))
            go_ret3
            exact ⟨rfl, HK.out⟩
      · have hres : CS = (b, 0, s) := by
          have hb2 : bestS L m = loopK F k := by rw [hbest, if_neg (by intro hh; have := hh.1; omega)]
          rw [← HCS.out]
          unfold choiceS
          rw [hb2]
          rcases HDK.out with ⟨h1, hb, hs, h4⟩ | ⟨h1, hb, hs, h5, h4⟩
          · rw [if_neg (by simp [h1]), hb, hs]
          · rw [if_pos h1, h4]
        subst hres
        clear hbest
        go_wp2_with (first
          | (go_at_call 117; go_must (refine HC.out.mono ?_); rintro e w3 ⟨rfl, rfl⟩))
        go_ret3
        exact ⟨rfl, HK.out⟩
end Go.Proofs.YtofkiimaoahfjaaDoor

set_option maxRecDepth 100000
set_option linter.unusedVariables false
set_option linter.unusedSimpArgs false
namespace Go.Proofs.YtofkiimaoahfjaaDoor
open Go.RowKit Go.Proofs.YtofkiimaoahfjaaDoor.Pure

theorem cand_cons (m : Nat) (c : List Int) (cs : List (List Int)) (acc : List T3) (s : Int) : candGo m (c :: cs) acc s = if (bestS c m).2 = true then candGo m cs (acc ++ [(bestS c m).1]) (s + ((4 + m : Nat) + (bestS c m).1.2.2)) else (acc, s, false) := rfl
/-- The document's p, m and count, and choose's plan. -/
def DB (st : PS) (bp bm ls : Int) : Prop := (bp = -1 ∧ bm = 0 ∧ ls = 0 ∧ st = (0, 0, [], -1)) ∨ (0 ≤ bp ∧ 0 ≤ ls ∧ bp = st.2.1 ∧ bm = st.1 ∧ ls = st.2.2.2 ∧ ls ≤ 1000000000000000)
theorem DB.bad {L : List Int} {order p m : Nat} {st : PS} {bp bm ls : Int} (h : DB st bp bm ls) (hc : (candGo m (partsS L order p) [] 6).2.2 = false) : DB (stepM L order p st m) bp bm ls := by
  have e : stepM L order p st m = st := by unfold stepM; rw [if_neg (by simp [hc])]
  rw [e]
  exact h
theorem DB.take {L : List Int} {order p m : Nat} {st : PS} {bp bm ls : Int} {S : Int} (h : DB st bp bm ls) (hc : (candGo m (partsS L order p) [] 6).2.2 = true) (hS : (candGo m (partsS L order p) [] 6).2.1 = S) (h0 : 0 ≤ S) (h1 : S ≤ 1000000000000000) (hs : bp < 0 ∨ S < ls) : DB (stepM L order p st m) p m S := by
  have e : stepM L order p st m = ((m : Int), (p : Int), (candGo m (partsS L order p) [] 6).1, (candGo m (partsS L order p) [] 6).2.1) := by
    unfold stepM
    rw [if_pos]
    refine ⟨hc, ?_⟩
    rcases h with ⟨a1, a2, a3, a4⟩ | ⟨a1, a2, a3, a4, a5, a6⟩
    · left; rw [a4]; show (-1 : Int) < 0; omega
    · right; rw [hS]; omega
  unfold DB
  rw [e]
  exact .inr ⟨by omega, h0, rfl, rfl, hS.symm, h1⟩
theorem DB.keep {L : List Int} {order p m : Nat} {st : PS} {bp bm ls : Int} {S : Int} (h : DB st bp bm ls) (hS : (candGo m (partsS L order p) [] 6).2.1 = S) (hb : 0 ≤ bp) (hs : ¬ S < ls) : DB (stepM L order p st m) bp bm ls := by
  have e : stepM L order p st m = st := by
    unfold stepM
    rw [if_neg]
    intro hc
    rw [hS] at hc
    rcases h with ⟨a1, a2, a3, a4⟩ | ⟨a1, a2, a3, a4, a5, a6⟩
    · omega
    · rcases hc.2 with h3 | h3 <;> omega
  rw [e]
  exact h
theorem DB.range {st : PS} {bp bm ls : Int} (h : DB st bp bm ls) : (bp = -1 ∧ ls = 0) ∨ (0 ≤ bp ∧ 0 ≤ ls ∧ ls ≤ 1000000000000000) := by
  rcases h with ⟨a1, a2, a3, a4⟩ | ⟨a1, a2, a3, a4, a5, a6⟩
  · exact .inl ⟨a1, a3⟩
  · exact .inr ⟨a1, a2, a6⟩

set_option maxHeartbeats 16000000 in
set_option maxRecDepth 100000 in
theorem dbest_calls (L : List Int) (order n : Nat) (hn : n = L.length) (a : Option Addr) (c : Nat) (w : World) (hnc : a = none → c = 0) (hl : L.length ≤ 600) (hc : L.length ≤ c) (ho : order ≤ 8) (hin : ∀ x ∈ L, -2147483648 < x ∧ x < 2147483648) (hx : Hid (Rd w .i64 a L)) :
    Calls Tryd.prog 100 #[.slice a n c, .int .i64 order] w fun e w' => e = .returned (.tuple #[.int .i64 (chooseS L order).2.1, .int .i64 (chooseS L order).1, .int .i64 (chooseS L order).2.2.2]) ∧ Keeps [] w w' := by
  subst hn
  obtain ⟨ST, hST⟩ : ∃ ST, chooseS L order = ST := ⟨_, rfl⟩
  have hplan := choose_plan (order := order) hl hin (by omega)
  rw [hST] at hplan ⊢
  have hfin : Hid (∀ bp bm ls, DB (loopP L order 5) bp bm ls → bp = ST.2.1 ∧ bm = ST.1 ∧ ls = ST.2.2.2) := by
    intro bp bm ls h
    have e : loopP L order 5 = ST := hST
    rw [e] at h
    obtain ⟨m, p, q1, q2, q3, q4, q5, q6, q7⟩ := hplan
    rcases h with ⟨a1, a2, a3, a4⟩ | ⟨a1, a2, a3, a4, a5, a6⟩
    · rw [a4] at q7
      exact absurd q7 (by decide)
    · exact ⟨a3, a4, a5⟩
  have HIN := Lib.hid hin
  have HFN := Lib.hid hfin.out
  have HNC := Lib.hid hnc
  have HPN := Lib.hid (fun p W (hp : p ≤ 15) (hf : fitsB (L.length + order) order p = false) => refParts_no L order p _ rfl a c W hp hl ho hf)
  have HPY := Lib.hid (fun p W (hp : p ≤ 9) (hf : fitsB (L.length + order) order p = true) (hk : Keeps [] w W) => refParts_calls L order p _ rfl a c W hnc hp hl hc ho hf (Lib.hid (hx.out.new hk)))
  have he0 : ∀ w : World, (binOp .neq 104 (.slice none 0 0) (.slice none 0 0)).run Tryd.prog w = .ok (.bool false) w := fun _ => rfl
  have he1 : ∀ (g11 len cap : Nat) (w : World), (binOp .neq 104 (.slice (some ⟨g11, 0, none⟩) len cap) (.slice none 0 0)).run Tryd.prog w = .ok (.bool true) w := fun _ _ _ _ => rfl
  clear hST hplan hfin hin hnc hc
  go_enter Tryd.func100, Tryd.ntmps100
  go_wp2_with fail
  go_loopg [7, 8, 9, 10] 6 (fun q v7 v8 v9 v10 wr => ∃ (p : Nat) (bp bm ls : Int), v10 = .int .i64 p ∧ v7 = .int .i64 bp ∧ v8 = .int .i64 bm ∧ v9 = .int .i64 ls ∧ p ≤ 5 ∧ Hid (DB (loopP L order p) bp bm ls) ∧ Hid (p + q = 6) ∧ Hid (Keeps [] w wr))
  case atStart => exact ⟨0, -1, 0, 0, rfl, rfl, rfl, rfl, by omega, .inl ⟨rfl, rfl, rfl, rfl⟩, (show _ = _ from by omega), Keeps.refl _ _⟩
  case round =>
    obtain ⟨p, bp, bm, ls, rfl, rfl, rfl, rfl, hp, HDB, HQ, HK⟩ := hrel
    obtain ⟨q1, rfl⟩ : ∃ g : Nat, g = gk := ⟨_, rfl⟩
    obtain ⟨wa, rfl⟩ : ∃ y : World, y = wr := ⟨_, rfl⟩
    by_cases hlt : p < 5
    · cases hf : fitsB (L.length + order) order p with
      | false =>
        have HC := Lib.hid (HPN.out p wa (by omega) hf)
        have hst : loopP L order (p + 1) = loopP L order p := by rw [loopP_succ]; unfold stepP; rw [if_neg (by simp [hf])]
        have HDN : Hid (DB (loopP L order (p + 1)) bp bm ls) := by show DB _ _ _ _; rw [hst]; exact HDB.out
        clear hf hst
        go_wp2_with (first
          | (go_at_call 101; go_must (refine HC.out.mono ?_); rintro e w3 ⟨rfl, rfl⟩))
        go_loopg [7, 8, 9, 12] 1 (fun q v7 v8 v9 v12 wr => v7 = .int .i64 bp ∧ v8 = .int .i64 bm ∧ v9 = .int .i64 ls ∧ v12 = .int .i64 0 ∧ Hid (wr = wa))
        case atStart => exact ⟨rfl, rfl, rfl, rfl, (show _ = _ from rfl)⟩
        case round =>
          obtain ⟨rfl, rfl, rfl, rfl, HW⟩ := hrel
          obtain rfl := HW.out
          go_wp2_with fail
          go_roundg (5 - p)
          case measure => have := HQ.out; omega
          case rel => exact ⟨p + 1, bp, bm, ls, by go_num, rfl, rfl, rfl, by omega, HDN.out, (show _ = _ from by have := HQ.out; omega), HK.out⟩
      | true =>
        have HC := Lib.hid (HPY.out p wa (by omega) hf HK.out)
        have hst : loopP L order (p + 1) = loopM L order p (loopP L order p) 2 := by rw [loopP_succ]; unfold stepP; rw [if_pos hf]
        have HSTP := Lib.hid hst
        have hpl : (partsS L order p).length ≤ 16 ∧ 0 < (partsS L order p).length := by
          rw [partsS_length]
          exact ⟨Nat.pow_le_pow_right (show 0 < 2 by omega) (show p ≤ 4 by omega), Nat.two_pow_pos p⟩
        have hmem := partsS_mem L order p
        have HBR : Hid (∀ m, m ≤ 1 → ∀ c ∈ partsS L order p, 0 ≤ (bestS c m).1.2.2 ∧ (bestS c m).1.2.2 ≤ 10000000000000) := fun m hm c hcm => bestS_range c m hm (by have := (hmem c hcm).2; omega) (fun x hx => HIN.out x ((hmem c hcm).1 x hx))
        have HMEM := Lib.hid hmem
        have HCG := Lib.hid (fun m (hm : m ≤ 1) => candGe (order := order) hl HIN.out p m hm)
        obtain ⟨PP, hPP⟩ : ∃ PP, partsS L order p = PP := ⟨_, rfl⟩
        have HPP := Lib.hid hPP
        rw [hPP] at HC HBR HMEM hpl HCG
        clear hf hst hmem hPP
        go_wp2_with (first
          | (go_at_call 101; go_must (refine HC.out.mono ?_); rintro e w3 ⟨v, vs, rfl, hrv, -, hpo, hk3⟩; have HK3 := Lib.hid (HK.out.new hk3); have hpo2 := hpo w3 ((hx.out.new HK.out).new hk3); have hvl := hpo2.length; obtain ⟨g11, c11, rfl⟩ := hrv.form (by omega); rw [hvl] at hrv; have HRV := Lib.hid hrv; have HPO := Lib.hid hpo2; rw [hvl]; clear hk3 hpo hpo2 hrv))
        have HVL := Lib.hid hvl
        clear hvl
        go_loopg [7, 8, 9, 12] 3 (fun q v7 v8 v9 v12 wr => ∃ (m : Nat) (bp bm ls : Int), v12 = .int .i64 m ∧ v7 = .int .i64 bp ∧ v8 = .int .i64 bm ∧ v9 = .int .i64 ls ∧ m ≤ 2 ∧ Hid (DB (loopM L order p (loopP L order p) m) bp bm ls) ∧ Hid (m + q = 3) ∧ Hid (Keeps [] w3 wr))
        case atStart => exact ⟨0, bp, bm, ls, rfl, rfl, rfl, rfl, by omega, HDB.out, (show _ = _ from by omega), Keeps.refl _ _⟩
        case round =>
          clear HDB
          obtain ⟨m, bp, bm, ls, rfl, rfl, rfl, rfl, hm, HDB, HQ2, HK4⟩ := hrel
          obtain ⟨q2, rfl⟩ : ∃ g : Nat, g = gk := ⟨_, rfl⟩
          obtain ⟨wb, rfl⟩ : ∃ y : World, y = wr := ⟨_, rfl⟩
          by_cases hlt2 : m < 2
          · have hm1 : m ≤ 1 := by omega
            go_wp2_with fail
            go_loopg [13, 14] (PP.length + 1) (fun q v13 v14 wr => ∃ (i : Nat) (S : Int), v14 = .int .i64 i ∧ v13 = .int .i64 S ∧ i ≤ PP.length ∧ 0 ≤ S ∧ S ≤ 6 + 10000000000100 * i ∧ Hid (∃ acc, candGo m (PP.drop i) acc S = candGo m PP [] 6) ∧ Hid (i + q = PP.length + 1) ∧ Hid (Keeps [] w3 wr))
            case atStart => exact ⟨0, 6, rfl, rfl, by omega, by omega, by omega, ⟨[], rfl⟩, (show _ = _ from by omega), HK4.out⟩
            case round =>
              obtain ⟨i, S, rfl, rfl, hi, hS0, hS1, HCD, HQ3, HK5⟩ := hrel
              obtain ⟨q3, rfl⟩ : ∃ g : Nat, g = gk := ⟨_, rfl⟩
              obtain ⟨wd, rfl⟩ : ∃ y : World, y = wr := ⟨_, rfl⟩
              by_cases hlt3 : i < PP.length
              · have hvi : i < vs.length := by rw [HVL.out]; exact hlt3
                obtain ⟨ai, ci, hve, hrd, -⟩ := HPO.out.at_ i hvi hlt3
                have hcell := HK5.out.cell (HRV.out.cell i hvi) (by simp)
                rw [hve] at hcell
                have hmi := HMEM.out PP[i] (List.getElem_mem _)
                have hbr := HBR.out m hm1 PP[i] (List.getElem_mem _)
                have hdrop : PP.drop i = PP[i] :: PP.drop (i + 1) := List.drop_eq_getElem_cons hlt3
                obtain ⟨acc, hacc⟩ := HCD.out
                rw [hdrop] at hacc
                rw [cand_cons] at hacc
                have hcall := dchoice_calls PP[i] m _ rfl ai ci wd hm1 (by omega) (fun x hx => HIN.out x (hmi.1 x hx)) (Lib.hid (hrd.new HK5.out))
                obtain ⟨pl, hple⟩ : ∃ pl, PP[i].length = pl := ⟨_, rfl⟩
                rw [hple] at hcell hcall
                unfold choiceS at hcall
                cases hbok : (bestS PP[i] m).2 with
                | true =>
                  rw [if_pos hbok] at hacc hcall
                  obtain ⟨⟨b1, b2, b3⟩, hb⟩ : ∃ b, (bestS PP[i] m).1 = b := ⟨_, rfl⟩
                  rw [hb] at hacc hcall hbr
                  have hb1 : 0 ≤ b1 := by
                    have := (bestS_k PP[i] m hm1).1
                    rw [hb] at this
                    exact this
                  have hbr : 0 ≤ b3 ∧ b3 ≤ 10000000000000 := hbr
                  have HCC := Lib.hid hcall
                  have HCN : Hid (∃ acc, candGo m (PP.drop (i + 1)) acc (S + 4 + m + b3) = candGo m PP [] 6) := by
                    refine ⟨acc ++ [(b1, b2, b3)], ?_⟩
                    rw [← hacc]
                    congr 1
                    show S + 4 + m + b3 = S + (((4 + m : Nat) : Int) + b3)
                    omega
                  clear hcall hacc hdrop hve hrd hmi hb hbok HCD hvi hple
                  go_wp2_with (first
                    | (go_at_call 102; go_must (refine HCC.out.mono ?_); rintro e w5 ⟨rfl, hk5⟩; have HK6 := Lib.hid (HK5.out.new hk5); clear hk5))
                  go_roundg (PP.length - i)
                  case measure => have := HQ3.out; omega
                  case rel => exact ⟨i + 1, S + 4 + m + b3, by go_num, rfl, by omega, by omega, by omega, HCN.out, (show _ = _ from by have := HQ3.out; omega), HK6.out⟩
                | false =>
                  rw [if_neg (by simp [hbok])] at hacc hcall
                  have HCC := Lib.hid hcall
                  have hbad : (candGo m (partsS L order p) [] 6).2.2 = false := by rw [HPP.out, ← hacc]
                  have hdn := HDB.out.bad hbad
                  have e2 : loopM L order p (loopP L order p) (m + 1) = stepM L order p (loopM L order p (loopP L order p) m) m := loopM_succ _ _ _ _ _
                  rw [← e2] at hdn
                  have HDN := Lib.hid hdn
                  clear hcall hacc hdrop hve hrd hmi hbok HCD hvi hbad hdn e2 hbr hple
                  go_wp2_with (first
                    | (go_at_call 102; go_must (refine HCC.out.mono ?_); rintro e w5 ⟨rfl, hk5⟩; have HK6 := Lib.hid (HK5.out.new hk5); clear hk5))
                  go_roundg (2 - m)
                  case measure => have := HQ2.out; omega
                  case rel => exact ⟨m + 1, bp, bm, ls, by go_num, rfl, rfl, rfl, by omega, HDN.out, (show _ = _ from by have := HQ2.out; omega), HK6.out⟩
              · obtain rfl : i = PP.length := by omega
                obtain ⟨acc, hacc⟩ := HCD.out
                rw [List.drop_length] at hacc
                have hok : (candGo m (partsS L order p) [] 6).2.2 = true := by rw [HPP.out, ← hacc]; rfl
                have hSS : (candGo m (partsS L order p) [] 6).2.1 = S := by rw [HPP.out, ← hacc]; rfl
                have e2 : loopM L order p (loopP L order p) (m + 1) = stepM L order p (loopM L order p (loopP L order p) m) m := loopM_succ _ _ _ _ _
                have htk := fun h => HDB.out.take hok hSS hS0 (by omega) h
                have hkp := HDB.out.keep hSS
                rw [← e2] at htk hkp
                have hrg := HDB.out.range
                clear hok hSS e2 hacc HCD
                rcases hrg with ⟨hb, hs⟩ | ⟨hb, hs, hs2⟩
                · subst hb hs
                  have HDN := Lib.hid (htk (.inl (by omega)))
                  clear htk hkp
                  go_wp2_with fail
                  go_roundg (2 - m)
                  case measure => have := HQ2.out; omega
                  case rel => exact ⟨m + 1, p, m, S, by go_num, rfl, rfl, rfl, by omega, HDN.out, (show _ = _ from by have := HQ2.out; omega), HK5.out⟩
                · by_cases hlt4 : S < ls
                  · have HDN := Lib.hid (htk (.inr hlt4))
                    clear htk hkp
                    go_wp2_with fail
                    go_roundg (2 - m)
                    case measure => have := HQ2.out; omega
                    case rel => exact ⟨m + 1, p, m, S, by go_num, rfl, rfl, rfl, by omega, HDN.out, (show _ = _ from by have := HQ2.out; omega), HK5.out⟩
                  · have HDN := Lib.hid (hkp hb hlt4)
                    clear htk hkp
                    go_wp2_with fail
                    go_roundg (2 - m)
                    case measure => have := HQ2.out; omega
                    case rel => exact ⟨m + 1, bp, bm, ls, by go_num, rfl, rfl, rfl, by omega, HDN.out, (show _ = _ from by have := HQ2.out; omega), HK5.out⟩
          · obtain rfl : m = 2 := by omega
            have hdn := HDB.out
            rw [← HSTP.out] at hdn
            have HDN := Lib.hid hdn
            clear hdn
            go_wp2_with fail
            go_roundg (5 - p)
            case measure => have := HQ.out; omega
            case rel => exact ⟨p + 1, bp, bm, ls, by go_num, rfl, rfl, rfl, by omega, HDN.out, (show _ = _ from by have := HQ.out; omega), HK3.out.new HK4.out⟩
    · obtain rfl : p = 5 := by omega
      obtain ⟨e1, e2, e3⟩ := HFN.out _ _ _ HDB.out
      subst e1 e2 e3
      go_wp2_with fail
      go_ret3
      exact ⟨rfl, HK.out⟩

end Go.Proofs.YtofkiimaoahfjaaDoor
