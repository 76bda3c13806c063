/-
  The statement SubframeDeeper of layer 9: the walk.
-/
import Derived.Test.YtofkiimaoahfjaaDoorZDp1
import Derived.Test.YtofkiimaoahfjaaDoorZBk1
import Derived.Test.YtofkiimaoahfjaaDoorZRd9
import Derived.Test.YtofkiimaoahfjaaDoorZSub11
import Derived.Test.YtofkiimaoahfjaaDoorZRice21
import Derived.Test.YtofkiimaoahfjaaDoorZIn
import Derived.Deep.RegionLaw
import Derived.Deep.AppendLies
set_option maxRecDepth 100000
set_option linter.unusedVariables false
set_option linter.unusedSimpArgs false
namespace Go.Proofs.YtofkiimaoahfjaaDoor
open Go.RowKit Go.Proofs.YtofkiimaoahfjaaDoor.Pure

theorem u64_modD (a : Int) (m : Nat) (h0 : 0 < m) (h1 : m ≤ 4611686018427387904) : ∃ k : Nat, k < m ∧ wrap64 ((IntKind.u64.wrap a).tmod m) = k := by
  have e : IntKind.u64.wrap a = a % 18446744073709551616 := IntKind.wrap_u64 a
  have h2 : 0 ≤ IntKind.u64.wrap a := by rw [e]; omega
  rw [Int.tmod_eq_emod_of_nonneg h2]
  have h3 := Int.emod_nonneg (IntKind.u64.wrap a) (show (m : Int) ≠ 0 by omega)
  have h4 := Int.emod_lt_of_pos (IntKind.u64.wrap a) (show (0 : Int) < m by omega)
  refine ⟨((IntKind.u64.wrap a) % m).toNat, by omega, ?_⟩
  unfold wrap64
  omega
theorem mup_step (u : Nat) (S : List Int) (i : Nat) (h : i < S.length) (x Y : Int) (hx : S[i] = x) (hY : x * 2 ^ u = Y) : mupS u (S.take (i + 1)) = mupS u (S.take i) ++ [Y] := by
  unfold mupS
  rw [List.take_succ_eq_append_getElem h, List.map_append, hx, List.map_cons, List.map_nil, hY]

set_option maxHeartbeats 16000000 in
theorem subframeDeeper_walk (a0 : Option Addr) (len0 cap0 : Nat) (z0 : List Int) (a1 a2 : Int) (w : World) (w0 : InRow .i64 w a0 len0 cap0 z0) (s0 : cap0 * 8 ≤ 140737488351232) (w1 : (Lit.int .i64 a1).wf = true) (w2 : (Lit.int .i64 a2).wf = true) (hT : Hid (Tab w)) :
    Calls Tryd.prog 8 #[.slice a0 len0 cap0, .int .i64 a1, .int .i64 a2] w fun e w' => e = .returned (.bool true) ∧ Below w.heap.size w w' := by
  obtain ⟨hr, hl, hw, hcap⟩ := w0.rd
  have HRG0 : Hid (∀ x ∈ z0.take len0, -9223372036854775808 ≤ x ∧ x ≤ 9223372036854775807) := fun x hx => wf_i64 (hw x hx)
  generalize z0.take len0 = L at *
  subst hl
  have HK : Hid (Keeps [] w w) := Keeps.refl _ _
  have hxl : L.length ≤ 17592186043904 := by omega
  have hLc : L.length ≤ cap0 := by omega
  have HR0 := Lib.hid hr
  clear w0 s0 w1 w2 hw hr
  have HCT : Hid (∀ W, Calls Tryd.prog 10 #[.slice a0 L.length cap0, .int .i64 200] W fun e w' => e = .returned (.slice a0 (min L.length 200) cap0) ∧ W = w') := fun W => scut_calls L.length cap0 200 a0 W (by omega) hLc (by omega)
  have HLE : (L.take 200).length = min L.length 200 := by rw [List.length_take]; omega
  rw [← HLE] at HCT
  have HR : Hid (Rd w .i64 a0 (L.take 200)) := HR0.out.take 200
  have HRG : Hid (∀ x ∈ L.take 200, -9223372036854775808 ≤ x ∧ x ≤ 9223372036854775807) := fun x hx => HRG0.out x (List.mem_of_mem_take hx)
  have hS5 : (L.take 200).length ≤ 200 := by omega
  generalize L.take 200 = S at *
  clear HLE hLc hxl HRG0 HR0 hcap
  obtain ⟨D0, hD0, hD1⟩ : ∃ D0 : Nat, wrap64 ((IntKind.u64.wrap a1).tmod 16) = D0 ∧ D0 ≤ 15 := by
    obtain ⟨k, h1, h2⟩ := u64_modD a1 16 (by omega) (by omega)
    exact ⟨k, h2, by omega⟩
  obtain ⟨U0, hU0, hU1⟩ : ∃ U0 : Nat, wrap64 ((IntKind.u64.wrap a2).tmod 5) = U0 ∧ U0 ≤ 4 := by
    obtain ⟨k, h1, h2⟩ := u64_modD a2 5 (by omega) (by omega)
    exact ⟨k, h2, by omega⟩
  go_enter Tryd.func8, Tryd.ntmps8
  go_upto_region 5 with (first
    | (go_at_call 9; go_must (refine (sknown_calls _ hT).mono ?_); rintro e wk ⟨rfl, hk1⟩; replace HK : Hid (Keeps [] w wk) := HK.out.new hk1; clear hk1)
    | (go_at_call 10; go_must (with_reducible refine (HCT.out _).mono ?_); rintro e wc2 ⟨rfl, rfl⟩))
  rw [hD0, hU0]
  obtain ⟨d, hd⟩ : ∃ d : Nat, 4 + (D0 : Int) = d := ⟨4 + D0, by omega⟩
  obtain ⟨u, hu⟩ : ∃ u : Nat, 1 + (U0 : Int) = u := ⟨1 + U0, by omega⟩
  rw [hd, hu]
  have hd1 : 4 ≤ d ∧ d ≤ 19 := by omega
  have hu1 : 1 ≤ u ∧ u ≤ 5 := by omega
  clear hD0 hD1 hU0 hU1 hd hu HCT
  obtain ⟨hd1, hd2⟩ := hd1
  obtain ⟨hu1, hu2⟩ := hu1
  have HWR := Lib.hid (fun W1 p q (hW : Hid (WS2 w W1 p [] q [])) => ws2Sub S (d : Int) _ rfl a0 cap0 w W1 p q [] [] HRG (Lib.hid (HR.out.new hW.out.keeps)) (Lib.hid (hT.out.new hW.out.keeps)) hW (by simp))
  go_upto_region 6 with (first
    | (go_at_call 11; with_reducible refine (wsNew w _ HK).mono ?_; rintro e w3 ⟨p, rfl, hW3, -, -⟩; have HW3 := Lib.hid hW3; clear hW3 HK)
    | (go_at_call 11; with_reducible refine (ws2_new w _ HW3).mono ?_; rintro e w4 ⟨q, rfl, hW4, -⟩; have HW4 := Lib.hid hW4; clear hW4 HW3))
  by_cases he : schkE S d = 0
  · rw [he] at HWR
    have HE := Lib.hid he
    obtain ⟨B, eB⟩ : ∃ B, sputB S d = B := ⟨_, rfl⟩
    rw [eB, List.nil_append] at HWR
    go_wp2_with (first
      | (go_at_call 13; with_reducible refine (HWR.out _ _ _ HW4).mono ?_; rintro e wA ⟨rfl, hA⟩; have HA := Lib.hid hA; clear hA))
    obtain ⟨P, hP⟩ : ∃ P : Int, (2 : Int) ^ u = P := ⟨_, rfl⟩
    have hPb : 1 ≤ P ∧ P ≤ 32 := by
      have h1 : (2 : Nat) ^ u ≤ 2 ^ 5 := Nat.pow_le_pow_right (by omega) hu2
      have h2 : (2 : Nat) ^ 5 = 32 := rfl
      have h3 : ((2 ^ u : Nat) : Int) = (2 : Int) ^ u := by simp
      have h4 := Nat.two_pow_pos u
      omega
    have hSb : ∀ x ∈ S, -16777216 ≤ x ∧ x ≤ 16777216 := fun x hx => by
      have h1 := (schk_bounds he).2.2 x hx
      have h2 : (2 : Nat) ^ (d - 1) ≤ 2 ^ 24 := Nat.pow_le_pow_right (by omega) (by omega)
      have h3 : (2 : Nat) ^ 24 = 16777216 := rfl
      have h4 : ((2 ^ (d - 1) : Nat) : Int) = (2 : Int) ^ (d - 1) := by simp
      omega
    have HSB := Lib.hid hSb
    have hmin : min u 64 = u := by omega
    have hwP : IntKind.i64.wrap P = P := IntWalk.i64_in _ (by omega)
    have HP := Lib.hid hP
    have HPB := Lib.hid hPb
    clear HWR HW4 hSb hPb he
    go_loopg [9, 10, 11] (S.length + 1) (fun g v9 v10 v11 wr => ∃ (i : Nat) (v : Value) (A : Int), v9 = v ∧ v10 = .int .i64 A ∧ v11 = .int .i64 i ∧ i ≤ S.length ∧ Hid (A = orS (S.take i)) ∧ Hid (Row wr .i64 3 v (mupS u (S.take i))) ∧ Hid (∀ j, j ∈ fp v → wA.heap.size ≤ j) ∧ Hid (Keeps [] wA wr) ∧ Hid (i + g = S.length + 1))
    case atStart => exact ⟨0, _, 0, rfl, rfl, rfl, by omega, (show _ = _ from rfl), Row.nil _ _ _, (fun j hj => by cases hj), Keeps.refl _ _, (show _ = _ from by omega)⟩
    case round =>
      obtain ⟨i, v, A, rfl, rfl, rfl, hi, HAO, HROW, HF, HKA, HQ⟩ := hrel
      obtain ⟨q1, rfl⟩ : ∃ g : Nat, g = gk := ⟨_, rfl⟩
      obtain ⟨wa, rfl⟩ : ∃ y : World, y = wr := ⟨_, rfl⟩
      by_cases hlt : i < S.length
      · have hRA := (HR.out.new HA.out.keeps)
        obtain ⟨b1, o1, rfl, hc1⟩ := (hRA.new HKA.out).cellAt i hlt
        obtain ⟨x, hx1⟩ : ∃ x, S[i] = x := ⟨_, rfl⟩
        rw [hx1] at hc1
        have hxb := HSB.out x (by rw [← hx1]; exact List.getElem_mem _)
        obtain ⟨Y, hY⟩ : ∃ Y, x * P = Y := ⟨_, rfl⟩
        have HN : Hid (bits .or .i64 A x = orS (S.take (i + 1))) := by
          show _ = _
          rw [List.take_succ_eq_append_getElem hlt, orS_snoc, hx1, HAO.out]
        have HMN := Lib.hid (mup_step u S i hlt x Y hx1 (by rw [HP.out]; exact hY))
        have hYb : -9223372036854775808 ≤ Y ∧ Y ≤ 9223372036854775807 := by
          have h5 : (x * P).natAbs ≤ 16777216 * 32 := by
            rw [Int.natAbs_mul]
            have := HPB.out
            exact Nat.mul_le_mul (by omega) (by omega)
          rw [hY] at h5
          omega
        have hwY : IntKind.i64.wrap Y = Y := IntWalk.i64_in _ hYb
        have hBD : (mupS u (S.take i)).length ≤ 200 := by rw [mupS_length, List.length_take]; omega
        obtain ⟨l, hlE⟩ : ∃ l, mupS u (S.take i) = l := ⟨_, rfl⟩
        rw [hlE] at hBD HROW HMN
        obtain ⟨va, vc, rfl⟩ := HROW.out.slice
        have HBD : Hid ((l.length + 1) * 8 ≤ 140737488355328) := by show _ ≤ _; omega
        have HRA : Hid (Row (wa.alloc (.cells #[.int .i64 Y] 3)) .i64 3 (.slice va l.length vc) l) := HROW.out.keeps ((Keeps.refl [] wa).alloc _) (fun _ _ => by simp)
        have hcA : ((wa.alloc (.cells #[.int .i64 Y] 3)).cell? ⟨b1, o1 + i, none⟩ = some (.int .i64 x)) := ((Keeps.refl [] wa).alloc _).cell hc1 (by simp)
        have hx1E := Lib.hid hx1
        clear hBD hlE hx1 hYb hxb hRA
        go_upto_region 13 with fail
        go_region_law (first
          | (refine step_app1 _ (by rfl) _ _ _ 3 .i64 8 (by rfl) Tryd.underlying22 info_i64 (by decide) (.slice va l.length vc) l Y (by rfl) HRA.out wa.heap.size (by rfl) ((Row.lit wa .i64 3 #[.int .i64 Y] [Y] rfl (by simp)).cell 0 (by simp)) HBD.out ?_; intro v5 w5 hr5 hk5 hf5; obtain ⟨a5, c5, rfl⟩ := hr5.slice))
        simp only [Act.put, List.setIfInBounds_toArray, List.set_cons_zero, List.set_cons_succ, List.getElem_toArray, List.getElem_cons_zero, List.getElem_cons_succ]
        have HK5 : Hid (Keeps [] wA w5) := (HKA.out.new (((Keeps.refl [] wa).alloc (.cells #[.int .i64 Y] 3)).drew)).then_ hk5 (fun b hb hlt => by have := HF.out b hb; omega)
        have HR5 : Hid (Row w5 .i64 3 (.slice a5 (l.length + 1) c5) (mupS u (S.take (i + 1)))) := by
          have h1 := hr5
          rw [show (l ++ [Y]).length = l.length + 1 from by simp] at h1
          rw [HMN.out]
          exact h1
        have HF5 : Hid (∀ j, j ∈ fp (.slice a5 (l.length + 1) c5) → wA.heap.size ≤ j) := by
          intro j hj
          have h1 := hf5 j (by rw [show (l ++ [Y]).length = l.length + 1 from by simp]; exact hj)
          rcases h1 with h | h
          · exact HF.out j h
          · have h2 := HKA.out.size
            have h3 : wa.heap.size ≤ (wa.alloc (.cells #[.int .i64 Y] 3)).heap.size := ((Keeps.refl [] wa).alloc _).size
            exact Nat.le_trans h2 (Nat.le_trans h3 h)
        obtain ⟨b3, o3, e3, hd3⟩ := ((HR.out.new HA.out.keeps).new HK5.out).cellAt i hlt
        cases e3
        rw [hx1E.out] at hd3
        clear hcA hc1 hr5 hk5 hf5 HRA HROW HF
        go_wp2_with fail
        go_roundg (S.length - i)
        case measure => have := HQ.out; omega
        case rel => exact ⟨i + 1, .slice a5 (l.length + 1) c5, _, rfl, rfl, by go_num, by omega, HN.out, HR5.out, HF5.out, HK5.out, (show _ = _ from by have := HQ.out; omega)⟩
      · obtain rfl : i = S.length := by omega
        rw [List.take_length] at HAO HROW
        by_cases h0 : A = 0
        · subst h0
          go_wp2_with fail
          go_ret
          exact ⟨rfl, (HA.out.keeps.new HKA.out).below⟩
        · have hAb : (A == 0) = false := beq_eq_false_iff_ne.2 h0
          obtain ⟨l1, l2, l3⟩ := deeper_law S d u HE.out hu2 hd2 (by rw [← HAO.out]; exact h0)
          have hmr : ∀ x ∈ mupS u S, -9223372036854775808 ≤ x ∧ x ≤ 9223372036854775807 := fun x hx => by
            obtain ⟨y, hy, rfl⟩ := List.mem_map.1 hx
            have h1 := HSB.out y hy
            have h5 : (y * P).natAbs ≤ 16777216 * 32 := by
              rw [Int.natAbs_mul]
              have := HPB.out
              exact Nat.mul_le_mul (by omega) (by omega)
            show -9223372036854775808 ≤ y * 2 ^ u ∧ y * 2 ^ u ≤ 9223372036854775807
            rw [HP.out]
            omega
          have HMR : Hid (∀ x ∈ mupS u S, -9223372036854775808 ≤ x ∧ x ≤ 9223372036854775807) := hmr
          obtain ⟨dp, hdp⟩ : ∃ dp, (d : Int) + (u : Int) = dp := ⟨_, rfl⟩
          rw [hdp] at l1 l2 l3
          have hok := s_ok _ _ l1
          have hrb := read_back (mupS u S) dp hok
          have hle := sw_le (mupS u S) dp hok
          have hsw : sputB (mupS u S) dp = swB (mupS u S) dp := by unfold sputB; rw [if_pos l1]
          have hk := hok.k
          have hDd := hok.D
          unfold depS at hDd
          obtain ⟨H, eH⟩ : ∃ H, mupS u S = H := ⟨_, rfl⟩
          have hHl : H.length = S.length := by rw [← eH, mupS_length]
          rw [eH] at l1 l2 l3 hrb hle hsw HMR HROW hk hDd
          obtain ⟨B2, eB2⟩ : ∃ B2, swB H dp = B2 := ⟨_, rfl⟩
          rw [eB2] at hrb hle hsw
          rw [hsw] at l2
          have hbl : B2.length ≤ 6000 := by
            have h3 : (H.length : Int) * (dp - (wasS H : Int)) ≤ 200 * 25 := Int.mul_le_mul (by omega) (by omega) (by omega) (by omega)
            omega
          have HPL : Hid ((pack B2).length ≤ 10000) := by show _ ≤ _; rw [pack_length]; omega
          have hr0 : restB (pack B2) 0 = B2 ++ List.replicate (8 * ((B2.length + 7) / 8) - B2.length) false := by
            rw [restB_pack B2 0 (Nat.zero_le _), List.drop_zero]
          have HRR : Hid (∀ w0 W q, Hid (RS w0 W q (pack B2) 0) → Calls Tryd.prog 22 #[.pointer (some ⟨q, 0, none⟩), .int .i64 S.length, .int .i64 dp] W fun e w' => ∃ v, e = .returned (.tuple #[v, .int .i64 0]) ∧ Row w' .i64 3 v H ∧ Keeps [] w0 w') := by
            intro w0 W q h
            have h1 : (pack B2).length ≤ 10000 := HPL.out
            refine (rsSub (S.length : Int) dp h (by omega)).mono ?_
            rw [hr0, ← hHl, hrb]
            rintro e w' ⟨v, rfl, h1, h2, h3, h4⟩
            exact ⟨v, rfl, h1, h2.keeps⟩
          obtain ⟨v0, c0, rfl⟩ := HROW.out.slice
          have HRH := Lib.hid (row_rd HROW.out)
          have HFH : Hid (∀ ad, some ad = v0 → 0 < H.length → wA.heap.size ≤ ad.block) := fun ad e hl => by
            obtain ⟨g9, c9, he9⟩ := HROW.out.form hl
            simp only [Value.slice.injEq] at he9
            obtain ⟨rfl, -, -⟩ := he9
            cases e
            exact HF.out _ (by simp [fp_some])
          have HLN : Hid ((B2.length : Int) = (B.length : Int) + (u : Int)) := by
            show _ = _
            rw [l2, eB]
            omega
          have HSK : Hid (skindN H dp = skindN S d) := l3
          have HS1 : Hid (schkE H dp = 0) := l1
          have HSW : Hid (sputB H dp = B2) := hsw
          have hH1 : H.length = S.length := hHl
          have hBl : B.length ≤ 6000 := by rw [← eB]; omega
          have hS1 : 1 ≤ S.length := (schk_bounds HE.out).1.1
          have HTA : Hid (∀ W, Keeps [] w W → Hid (Tab W)) := fun W h => Lib.hid (hT.out.new h)
          have HKD1 := Lib.hid (fun W (h : Keeps [] w W) => skind_calls S (d : Int) _ rfl a0 cap0 W HRG (Lib.hid (HR.out.new h)) (HTA.out W h))
          have HKD2 := Lib.hid (fun W (h : Keeps [] w W) (hx : Rd W .i64 v0 H) => skind_calls H dp _ rfl v0 c0 W HMR (Lib.hid hx) (HTA.out W h))
          rw [HE.out] at HKD1
          rw [HS1.out, HSK.out] at HKD2
          generalize skindN S d = KD at *
          have HWV := Lib.hid (ws2SubR H dp _ rfl v0 c0 w wA wa p q B [] HMR HRH (HTA.out _ (HA.out.keeps.new HKA.out)) HA HKA (by simp))
          rw [HS1.out, HSW.out, List.nil_append] at HWV
          have HFH2 : Hid (∀ ad, v0 = some ad → wA.heap.size ≤ ad.block) := fun ad e => HFH.out ad e.symm (by omega)
          have HSM := Lib.hid (fun W a c (h1 : Rd W .i64 a H) (h2 : Rd W .i64 v0 H) => rsame_calls H H _ _ rfl rfl a v0 c c0 W (Lib.hid h1) (Lib.hid h2))
          rw [decide_eq_true rfl] at HSM
          clear hH1 l1 l2 l3 hrb hle hsw hk hDd hr0 hbl hHl eH eB2 eB hmr hok HMR HF HROW HFH hP h0 HSB HPB
          go_wp2_with (first
            | (go_at_call 13; with_reducible refine HWV.out.mono ?_; rintro e wB ⟨rfl, hB, F, hkF, hF⟩; have HB := Lib.hid hB; have HXB := Lib.hid (HRH.out.keeps hkF (fun ad e hm => by have h1 := HFH2.out ad e; have h2 := hF _ hm; omega)); clear hB hkF hF)
            | (go_at_call 16; with_reducible refine (wsLen (Lib.hid HB.out.right)).mono ?_; rw [HLN.out]; rintro e w5 ⟨rfl, rfl⟩)
            | (go_at_call 16; with_reducible refine (wsLen (Lib.hid HB.out.left)).mono ?_; rintro e w5 ⟨rfl, rfl⟩)
            | (go_at_call 14; with_reducible refine (HKD1.out _ HB.out.keeps).mono ?_; rintro e wC ⟨rfl, hk⟩; have HC := Lib.hid (HB.out.new hk); have HXC := Lib.hid (HXB.out.new hk); clear hk)
            | (go_at_call 14; with_reducible refine (HKD2.out _ HC.out.keeps HXC.out).mono ?_; rintro e wD ⟨rfl, hk⟩; have HDD := Lib.hid (HC.out.new hk); have HXD := Lib.hid (HXC.out.new hk); clear hk)
            | (go_at_call 18; go_must (with_reducible refine (wsBytes (Lib.hid HDD.out.right)).mono ?_); rintro e w8 ⟨v8, rfl, hr8, hf8, hk8⟩; have HX8 := Lib.hid (HXD.out.new hk8); have HK8 := Lib.hid (HDD.out.keeps.new hk8); obtain ⟨a8, c8, hv8, hrd8, hnc8, hsp8⟩ := hr8.rdc; subst hv8; have HRD8 := Lib.hid hrd8; have HNC8 := Lib.hid hnc8; clear hr8 hf8 hk8 hrd8 hnc8 hsp8)
            | (go_at_call 20; go_must (with_reducible refine (rsNew w8 _ (pack B2) _ rfl a8 c8 (Lib.hid (Keeps.refl [] w8)) HNC8.out ?hl (pack_range B2) HRD8).mono ?_); (case hl => have := HPL.out; omega); rintro e w9 ⟨qr, rfl, hR9, -, -⟩; have HR9 := Lib.hid hR9; clear hR9)
            | (go_at_call 22; go_must (with_reducible refine (HRR.out _ _ _ HR9).mono ?_); rintro e w11 ⟨v11, rfl, hr11, hk11⟩; have HK11 := Lib.hid hk11; obtain ⟨a11, c11, hv11, hrd11, -, -⟩ := hr11.rdc; subst hv11; have HRD11 := Lib.hid hrd11; clear hr11 hk11 hrd11)
            | (go_at_call 24; go_must (with_reducible refine (HSM.out _ a11 c11 HRD11.out (HX8.out.new HK11.out)).mono ?_); rintro e w12 ⟨rfl, hk12⟩; have HK12 := Lib.hid (HK11.out.new hk12); clear hk12))
          go_ret
          exact ⟨rfl, (HK8.out.new HK12.out).below⟩
  · have HE2 : Hid (schkE S d ≠ 0) := he
    have hEb : (schkE S d != 0) = true := by simpa using he
    go_wp2_with (first
      | (go_at_call 13; with_reducible refine (HWR.out _ _ _ HW4).mono ?_; rintro e wA ⟨rfl, hA⟩; have HA := Lib.hid hA; clear hA))
    go_ret
    exact ⟨rfl, HA.out.keeps.below⟩
end Go.Proofs.YtofkiimaoahfjaaDoor
