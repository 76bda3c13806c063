/-
  The statement PredictOrders of layer 7: the plain law and the walk.
-/
import Derived.Test.YtpnomiepbbbnbaaPred15
set_option linter.unusedVariables false
set_option linter.unusedSimpArgs false
namespace Go.Proofs.Ytpnomiepbbbnbaa
open Go.RowKit

/-- The differences. -/
def diffL (xs : List Int) : List Int := (List.range (xs.length - 1)).map fun t => xs.getD (t + 1) 0 - xs.getD t 0
theorem diffL_length (xs : List Int) : (diffL xs).length = xs.length - 1 := by simp [diffL]
theorem diffL_snoc (xs : List Int) (t : Nat) (h : t + 1 < xs.length) (x y : Int) (hx : xs[t + 1] = x) (hy : xs[t] = y) : (diffL xs).take (t + 1) = (diffL xs).take t ++ [x - y] := by
  have h1 : t < (diffL xs).length := by rw [diffL_length]; omega
  rw [List.take_succ_eq_append_getElem h1]
  congr 2
  simp [diffL, h, hx, show t < xs.length by omega, hy]

theorem rev_take (xs : List Int) (i : Nat) (h : i < xs.length) : (xs.take (i + 1)).reverse = xs.getD i 0 :: (xs.take i).reverse := by
  rw [List.take_succ_eq_append_getElem h, List.reverse_append, List.getD_eq_getElem?_getD, List.getElem?_eq_getElem h]
  rfl
theorem predI0 (cs ys : List Int) : predI cs 0 ys = dotp cs ys.reverse := by simp [predI]

theorem left_fix (k : Nat) (hk : k ≤ 3) (xs : List Int) (t : Nat) (h : k + 1 + t < xs.length) :
    leftAt (fixL (k + 1)) 0 xs (k + 1 + t) = leftAt (fixL k) 0 xs (k + (t + 1)) - leftAt (fixL k) 0 xs (k + t) := by
  unfold leftAt
  simp only [predI0]
  have hk' : k = 0 ∨ k = 1 ∨ k = 2 ∨ k = 3 := by omega
  rcases hk' with rfl | rfl | rfl | rfl
  · rw [show 0 + 1 + t = t + 1 by omega, show 0 + (t + 1) = t + 1 by omega, show 0 + t = t by omega, rev_take xs t (by omega)]
    simp only [fixL, dotp]
    omega
  · rw [show 1 + 1 + t = t + 1 + 1 by omega, show 1 + (t + 1) = t + 1 + 1 by omega, show 1 + t = t + 1 by omega, rev_take xs (t + 1) (by omega), rev_take xs t (by omega)]
    simp only [fixL, dotp]
    omega
  · rw [show 2 + 1 + t = t + 1 + 1 + 1 by omega, show 2 + (t + 1) = t + 1 + 1 + 1 by omega, show 2 + t = t + 1 + 1 by omega, rev_take xs (t + 1 + 1) (by omega), rev_take xs (t + 1) (by omega), rev_take xs t (by omega)]
    simp only [fixL, dotp]
    omega
  · rw [show 3 + 1 + t = t + 1 + 1 + 1 + 1 by omega, show 3 + (t + 1) = t + 1 + 1 + 1 + 1 by omega, show 3 + t = t + 1 + 1 + 1 by omega, rev_take xs (t + 1 + 1 + 1) (by omega), rev_take xs (t + 1 + 1) (by omega), rev_take xs (t + 1) (by omega), rev_take xs t (by omega)]
    simp only [fixL, dotp]
    omega

theorem fixL_length (k : Nat) (hk : k ≤ 4) : (fixL k).length = k := by
  have hk' : k = 0 ∨ k = 1 ∨ k = 2 ∨ k = 3 ∨ k = 4 := by omega
  rcases hk' with rfl | rfl | rfl | rfl | rfl <;> rfl

theorem left_diff (k : Nat) (hk : k ≤ 3) (xs : List Int) : leftL (fixL (k + 1)) 0 xs = diffL (leftL (fixL k) 0 xs) := by
  have e1 := fixL_length k (by omega)
  have e2 := fixL_length (k + 1) (by omega)
  apply List.ext_getElem
  · rw [leftL_length, diffL_length, leftL_length, e1, e2]; omega
  · intro t h1 h2
    rw [leftL_length, e2] at h1
    rw [leftL_get, e2, left_fix k hk xs t (by omega)]
    have h3 : t + 1 < (leftL (fixL k) 0 xs).length := by rw [leftL_length, e1]; omega
    simp only [diffL, List.getElem_map, List.getElem_range]
    rw [List.getD_eq_getElem?_getD, List.getElem?_eq_getElem h3, List.getD_eq_getElem?_getD, List.getElem?_eq_getElem (by omega), leftL_get, leftL_get, e1]
    rfl

theorem orders_law (k : Nat) (hk : k ≤ 3) (xs : List Int) (h1 : resE (fixL k) 0 xs = 0) (h2 : resE (fixL (k + 1)) 0 xs = 0) : resO (fixL (k + 1)) 0 xs = diffL (resO (fixL k) 0 xs) := by
  unfold resO
  rw [if_pos h1, if_pos h2]
  exact left_diff k hk xs

theorem u64_mod (a : Int) (m : Nat) (h0 : 0 < m) (h1 : m ≤ 4611686018427387904) : ∃ k : Nat, k < m ∧ wrap64 ((IntKind.u64.wrap a).tmod m) = k := by
  have e : IntKind.u64.wrap a = a % 18446744073709551616 := IntKind.wrap_u64 a
  have h2 : 0 ≤ IntKind.u64.wrap a := by rw [e]; omega
  rw [Int.tmod_eq_emod_of_nonneg h2]
  have h3 := Int.emod_nonneg (IntKind.u64.wrap a) (show (m : Int) ≠ 0 by omega)
  have h4 := Int.emod_lt_of_pos (IntKind.u64.wrap a) (show (0 : Int) < m by omega)
  refine ⟨((IntKind.u64.wrap a) % m).toNat, by omega, ?_⟩
  unfold wrap64
  omega

set_option maxHeartbeats 4000000 in
theorem predictOrders_walk (a0 : Option Addr) (len0 cap0 : Nat) (z0 : List Int) (a1 : Int) (w : World) (w0 : InRow .i64 w a0 len0 cap0 z0) (s0 : cap0 * 8 ≤ 140737488351232) (w1 : (Lit.int .i64 a1).wf = true) :
    Calls Try.prog 3 #[.slice a0 len0 cap0, .int .i64 a1] w fun e w' => e = .returned (.bool true) ∧ Below w.heap.size w w' := by
  obtain ⟨hr1, hl1, hw1, hc1⟩ := w0.rd
  generalize z0.take len0 = xs at *
  have HX := Lib.hid (hr1.take 200)
  have hxm : min len0 200 = (xs.take 200).length := by rw [List.length_take, hl1]; omega
  have hxl : (xs.take 200).length ≤ 200 := by rw [List.length_take]; omega
  have hlm : len0 ≤ 9223372036854775807 := by rw [← hl1]; exact hr1.small
  generalize xs.take 200 = ys at *
  clear hr1 hw1 w0 hl1
  have hcm : ys.length ≤ cap0 := by omega
  have HW := Lib.hid (wf_i64 w1)
  clear w1
  have HMOD := Lib.hid (u64_mod a1 4 (by omega) (by omega))
  have hmin : (if (200 : Int) < (len0 : Int) then 200 else (len0 : Int)) = (ys.length : Int) := by split <;> omega
  clear hxm
  go_enter Try.func3, Try.ntmps3
  go_upto_region 5 with (first
    | (go_at_call 11; go_must (refine (known_calls _).mono ?_); rintro e wk ⟨rfl, hk⟩))
  obtain ⟨k, hk3, hke⟩ := HMOD.out
  rw [show ((4 : Nat) : Int) = 4 from rfl] at hke
  rw [hke]
  clear hke HMOD
  have HFK := Lib.hid (fixL_length k (by omega))
  have HFK1 := Lib.hid (fixL_length (k + 1) (by omega))
  have HK := Lib.hid hk
  clear hk
  go_upto_region 7 with (first
    | (go_at_call_of 12 (Value.int IntKind.i64 (k : Int)); go_must (with_reducible refine (fixed_at (k : Int) k rfl (by omega) _).mono ?_); rintro e wa ⟨va, rfl, hra, hfa, hka⟩; obtain ⟨aa, ca, hv, hqa⟩ := hra.rd; rw [HFK.out] at hv; subst hv)
    | (go_at_call 12; go_must (with_reducible refine (fixed_at ((k : Int) + 1) (k + 1) rfl (by omega) _).mono ?_); rintro e wb ⟨vb, rfl, hrb, hfb, hkb⟩; obtain ⟨ab, cb, hv, hqb⟩ := hrb.rd; rw [HFK1.out] at hv; subst hv))
  have HBA := Lib.hid (((Box.made wa (.slice aa k ca) (.int .i64 0) 26).new hkb).new ((Keeps.refl _ _).alloc (.cells #[.slice ab (k + 1) cb, .int .i64 0] 26)))
  have HBB := Lib.hid (Box.made wb (.slice ab (k + 1) cb) (.int .i64 0) 26)
  have HKW : Hid (Keeps [] w (wb.alloc (.cells #[.slice ab (k + 1) cb, .int .i64 0] 26))) := ((((HK.out.new hka).alloc _).new hkb).alloc _)
  have HQA : Hid (Rd (wb.alloc (.cells #[.slice ab (k + 1) cb, .int .i64 0] 26)) .i64 aa (fixL k)) := hqa.new ((((Keeps.refl _ _).alloc _).new hkb).alloc _)
  have HQB : Hid (Rd (wb.alloc (.cells #[.slice ab (k + 1) cb, .int .i64 0] 26)) .i64 ab (fixL (k + 1))) := hqb.new ((Keeps.refl _ _).alloc _)
  clear hka hkb hqa hqb hra hrb hfa hfb HK
  generalize wb.alloc (.cells #[.slice ab (k + 1) cb, .int .i64 0] 26) = W at *
  have hba0 := HBA.out.c0
  have hba1 := HBA.out.c1
  have hbb0 := HBB.out.c0
  have hbb1 := HBB.out.c1
  have HXW := Lib.hid (HX.out.new HKW.out)
  obtain ⟨E, hE⟩ : ∃ E, resE (fixL k) 0 ys = E := ⟨_, rfl⟩
  obtain ⟨L, hL⟩ : ∃ L, resO (fixL k) 0 ys = L := ⟨_, rfl⟩
  obtain ⟨E2, hE2⟩ : ∃ E, resE (fixL (k + 1)) 0 ys = E := ⟨_, rfl⟩
  obtain ⟨L2, hL2⟩ : ∃ L, resO (fixL (k + 1)) 0 ys = L := ⟨_, rfl⟩
  have hlaw := orders_law k (by omega) ys
  have hLn := resO_length (fixL k) 0 ys
  have hLi := resO_in (fixL k) 0 ys
  rw [hE, hE2, hL, hL2] at hlaw
  rw [hL] at hLn hLi
  have HE := Lib.hid hE
  have HE2 := Lib.hid hE2
  have HL := Lib.hid hL
  have HL2 := Lib.hid hL2
  have HLAW := Lib.hid hlaw
  have HLI := Lib.hid hLi
  clear hE hE2 hL hL2 hlaw hLi
  by_cases h1 : E = 0
  · by_cases h2 : E2 = 0
    · subst h1 h2
      have HL3 : Hid (L2 = diffL L) := HLAW.out rfl rfl
      clear HLAW
      go_upto_region 14 with (first
        | (go_at_call_of 13 (Value.agg #[Value.slice aa k ca, Value.int IntKind.i64 0]); go_must (with_reducible refine (residual_calls (fixL k) ys 0 _ _ HFK.out.symm aa a0 ca cap0 _ rfl hcm (by omega) HQA HXW).mono ?_); rw [HE.out, HL.out]; rintro e wr ⟨vr, rfl, hrr, hfr, hkr⟩; have hbb0 := (HBB.out.new hkr).c0; have hbb1 := (HBB.out.new hkr).c1; have HKR := Lib.hid hkr; clear hkr; obtain ⟨ar, cr, rfl, hq⟩ := hrr.rd; have HR : Hid (Rd wr .i64 ar L) := hq; clear hq hrr hfr)
        | (go_at_call 13; go_must (with_reducible refine (residual_calls (fixL (k + 1)) ys 0 _ _ HFK1.out.symm ab a0 cb cap0 _ rfl hcm (by omega) (Lib.hid (HQB.out.new HKR.out)) (Lib.hid (HXW.out.new HKR.out))).mono ?_); rw [HE2.out, HL2.out]; rintro e ws ⟨vs, rfl, hrs, hfs, hks⟩; have HKS := Lib.hid (HKR.out.new hks); obtain ⟨az, cz, rfl, hq⟩ := hrs.rd; have HS : Hid (Rd ws .i64 az L2) := hq; replace HR := Lib.hid (HR.out.new hks); clear hq hrs hfs hks; have hba0 := (HBA.out.new HKS.out).c0; have hba1 := (HBA.out.new HKS.out).c1))
      have HKT := Lib.hid (HKW.out.new HKS.out)
      clear HE HE2 HL HL2 HBA HBB HQA HQB HKR HKS HXW hba0 hba1 hbb0 hbb1
      obtain ⟨W2, rfl⟩ : ∃ W2 : World, W2 = ws := ⟨_, rfl⟩
      have HS2 := Lib.hid HKT.out.size
      have HDL := Lib.hid (diffL_length L)
      go_wp2_with fail
      go_loopg [13, 14] (L.length + 2) (fun q v13 v14 w5 => ∃ (t : Nat), v14 = .int .i64 ((t : Int) + 1) ∧ t ≤ L.length - 1 ∧ Hid (Row w5 .i64 3 v13 ((diffL L).take t)) ∧ Hid (∀ b, b ∈ fp v13 → W2.heap.size ≤ b) ∧ Hid (t + q = L.length + 2) ∧ Hid (Keeps [] w w5) ∧ Hid (Keeps [] W2 w5))
      case atStart => exact ⟨0, rfl, by omega, Row.nil _ _ _, (fun b hb => by cases hb), (show _ = _ from by omega), HKT.out, Keeps.refl _ _⟩
      case round =>
        obtain ⟨t, rfl, ht, HROW, HFR, HQ, HKA, HKB⟩ := hrel
        by_cases hlt : t + 1 < L.length
        · obtain ⟨b2, o2, hb2, hc2⟩ := (HR.out.new HKB.out).cellAt (t + 1) hlt
          obtain ⟨b3, o3, hb3, hc3⟩ := (HR.out.new HKB.out).cellAt t (by omega)
          rw [hb2] at hb3
          cases hb3
          subst hb2
          obtain ⟨x, hx⟩ : ∃ x, L[t + 1] = x := ⟨_, rfl⟩
          obtain ⟨y, hy⟩ : ∃ y, L[t]'(by omega) = y := ⟨_, rfl⟩
          obtain ⟨x0, x1⟩ := HLI.out x (hx ▸ List.getElem_mem hlt)
          obtain ⟨y0, y1⟩ := HLI.out y (hy ▸ List.getElem_mem _)
          have HSN := Lib.hid (diffL_snoc L t hlt x y hx hy)
          rw [hx] at hc2
          rw [hy] at hc3
          clear hx hy
          obtain ⟨w6, rfl⟩ : ∃ w6 : World, w6 = wr := ⟨_, rfl⟩
          have HBD : Hid ((((diffL L).take t).length + 1) * 8 ≤ 140737488355328) := by
            show _ ≤ _
            have := HDL.out
            rw [List.length_take]
            omega
          have HBLT : Hid (b2 < W2.heap.size) := HR.out.lt (by omega) _ rfl
          have HN2 : Hid (∀ b, b ∈ fp u13 → b ≠ b2) := fun b hb e => by have h1 := HFR.out b hb; have h2 := HBLT.out; omega
          go_upto_region 17 with fail
          have hkk : Keeps [] w6 w6 := Keeps.refl _ _
          have hi0 : (0 : Int) ≤ (t : Int) := by omega
          have hi1 : (0 : Int) ≤ (t : Int) + 1 := by omega
          have hi2 : (t : Int) < (L.length : Int) := by omega
          have hi3 : (t : Int) + 1 < (L.length : Int) := by omega
          have hw4 : IntKind.i64.wrap (t : Int) = (t : Int) := IntWalk.i64_in _ (by omega)
          have hsub : IntKind.i64.wrap (x - y) = x - y := IntWalk.i64_in _ (by omega)
          go_region_held3 (fun w' => w'.cell? ⟨b2, o2 + (t + 1), none⟩ = some (.int .i64 x) ∧ w'.cell? ⟨b2, o2 + t, none⟩ = some (.int .i64 y))
            (first
              | (exact ⟨hc2, hc3⟩)
              | (exact ⟨(hkk.drew.alloc _).cell hc2 (by simp), (hkk.drew.alloc _).cell hc3 (by simp)⟩)
              | (exact ⟨hk7.cell ((hkk.drew.alloc _).cell hc2 (by simp)) (fun h => HN2.out _ h rfl), hk7.cell ((hkk.drew.alloc _).cell hc3 (by simp)) (fun h => HN2.out _ h rfl)⟩)
              | go_keep)
            (first
              | (refine step_app1 _ (by rfl) _ _ _ 3 .i64 8 (by rfl) Try.underlying22 info_i64 (by decide) u13 ((diffL L).take t) (x - y) (by rfl) (HROW.out.keeps (hkk.drew.alloc _) (fun _ _ => by simp)) w6.drew.heap.size (by rfl) ((Row.lit w6.drew .i64 3 #[.int .i64 (x - y)] [x - y] rfl (by simp)).cell 0 (by simp)) HBD.out ?_; intro v7 w7 hr7 hk7 hf7))
          have HKS : Hid (Keeps [] w6 (w6.drew.alloc (.cells #[.int .i64 (x - y)] 3))) := hkk.drew.alloc _
          clear hsub hw4 hi0 hi1 hi2 hi3 hkk hc2 hc3
          go_wp2_with fail
          go_roundg (L.length + 1 - t)
          case measure => have := HQ.out; omega
          case rel =>
            refine ⟨t + 1, by go_num, by omega, ?_, ?_, (show _ = _ from by have := HQ.out; omega), ?_, ?_⟩
            · show Row _ _ _ _ _
              rw [HSN.out]
              exact hr7
            · intro b hb
              rcases hf7 b hb with h | h
              · exact HFR.out b h
              · exact Nat.le_trans (HKB.out.new HKS.out).size h
            · exact (HKA.out.new HKS.out).then_ hk7 (fun b hb hlt => by have h1 := HFR.out b hb; have h2 := HS2.out; omega)
            · exact (HKB.out.new HKS.out).then_ hk7 (fun b hb hlt => by have h1 := HFR.out b hb; omega)
        · have HTL : Hid ((diffL L).take t = L2) := by
            show _ = _
            rw [HL3.out, List.take_of_length_le]
            rw [HDL.out]
            omega
          have HROW2 := Lib.hid HROW.out
          rw [HTL.out] at HROW2
          obtain ⟨a6, c6, rfl, hrd⟩ := HROW2.out.rd
          have HRD := Lib.hid hrd
          clear hrd HROW
          have HSW := Lib.hid (HS.out.new HKB.out)
          go_wp2_with (first
            | (go_at_call 14; go_must (with_reducible refine (same_calls L2 L2 _ _ rfl rfl az a6 cz c6 _ HSW HRD).mono ?_); rw [decide_eq_true (rfl : L2 = L2)]; rintro e wz ⟨rfl, hkz⟩))
          go_ret
          exact ⟨rfl, (HKA.out.new hkz).below⟩
    · subst h1
      clear HLAW
      have hne : (E2 != 0) = true := by simpa using h2
      go_wp2_with (first
        | (go_at_call_of 13 (Value.agg #[Value.slice aa k ca, Value.int IntKind.i64 0]); go_must (with_reducible refine (residual_calls (fixL k) ys 0 _ _ HFK.out.symm aa a0 ca cap0 _ rfl hcm (by omega) HQA HXW).mono ?_); rw [HE.out, HL.out]; rintro e wr ⟨vr, rfl, hrr, hfr, hkr⟩; have hbb0 := (HBB.out.new hkr).c0; have hbb1 := (HBB.out.new hkr).c1; have HKR := Lib.hid hkr; clear hkr)
        | (go_at_call 13; go_must (with_reducible refine (residual_calls (fixL (k + 1)) ys 0 _ _ HFK1.out.symm ab a0 cb cap0 _ rfl hcm (by omega) (Lib.hid (HQB.out.new HKR.out)) (Lib.hid (HXW.out.new HKR.out))).mono ?_); rw [HE2.out, HL2.out]; rintro e ws ⟨vs, rfl, hrs, hfs, hks⟩; have HKS := Lib.hid (HKR.out.new hks); clear hks; have hba0 := (HBA.out.new HKS.out).c0; have hba1 := (HBA.out.new HKS.out).c1))
      go_ret
      exact ⟨rfl, (HKW.out.new HKS.out).below⟩
  · clear HLAW
    have hne : (E != 0) = true := by simpa using h1
    go_wp2_with (first
      | (go_at_call_of 13 (Value.agg #[Value.slice aa k ca, Value.int IntKind.i64 0]); go_must (with_reducible refine (residual_calls (fixL k) ys 0 _ _ HFK.out.symm aa a0 ca cap0 _ rfl hcm (by omega) HQA HXW).mono ?_); rw [HE.out, HL.out]; rintro e wr ⟨vr, rfl, hrr, hfr, hkr⟩; have hbb0 := (HBB.out.new hkr).c0; have hbb1 := (HBB.out.new hkr).c1; have HKR := Lib.hid hkr; clear hkr)
      | (go_at_call 13; go_must (with_reducible refine (residual_calls (fixL (k + 1)) ys 0 _ _ HFK1.out.symm ab a0 cb cap0 _ rfl hcm (by omega) (Lib.hid (HQB.out.new HKR.out)) (Lib.hid (HXW.out.new HKR.out))).mono ?_); rw [HE2.out, HL2.out]; rintro e ws ⟨vs, rfl, hrs, hfs, hks⟩; have HKS := Lib.hid (HKR.out.new hks); clear hks; have hba0 := (HBA.out.new HKS.out).c0; have hba1 := (HBA.out.new HKS.out).c1))
    go_ret
    exact ⟨rfl, (HKW.out.new HKS.out).below⟩
end Go.Proofs.Ytpnomiepbbbnbaa
