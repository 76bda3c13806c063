/-
  Layer 7 (predict): what Search begins with.
-/
import Derived.Test.YtpnomiepbbbnbaaPred15
set_option linter.unusedVariables false
set_option linter.unusedSimpArgs false
namespace Go.Proofs.Ytpnomiepbbbnbaa
open Go.RowKit

/-- What Search begins with. -/
def beginL (k : Nat) : List Int := (fixL (min k 4)).map (16 * ·) ++ List.replicate (k - min k 4) 0
/-- The same, on the way. -/
def beginAt (k i : Nat) : List Int := ((fixL (min k 4)).map (16 * ·)).take i ++ List.replicate (k - i) 0
theorem beginAt_zero (k : Nat) : beginAt k 0 = List.replicate k 0 := by simp [beginAt]
theorem beginAt_end (k : Nat) (hk : k ≤ 8) : beginAt k (min k 4) = beginL k := by
  have : ∀ k, k < 9 → beginAt k (min k 4) = beginL k := by decide
  exact this k (by omega)
theorem beginAt_step (k i : Nat) (hk : k ≤ 8) (hi : i < min k 4) : beginAt k (i + 1) = (beginAt k i).set i (16 * (fixL (min k 4)).getD i 0) := by
  have : ∀ k, k < 9 → ∀ i, i < 4 → i < min k 4 → beginAt k (i + 1) = (beginAt k i).set i (16 * (fixL (min k 4)).getD i 0) := by decide
  exact this k (by omega) i (by omega) hi
theorem fix_small (k i : Nat) (hk : k ≤ 4) : -6 ≤ (fixL k).getD i 0 ∧ (fixL k).getD i 0 ≤ 6 := by
  have h : ∀ k, k < 5 → ∀ i, i < 4 → -6 ≤ (fixL k).getD i 0 ∧ (fixL k).getD i 0 ≤ 6 := by decide
  have h2 : (fixL k).length ≤ 4 := by
    have h2 : ∀ k, k < 5 → (fixL k).length ≤ 4 := by decide
    exact h2 k (by omega)
  by_cases hi : i < 4
  · exact h k (by omega) i hi
  · rw [List.getD_eq_getElem?_getD, List.getElem?_eq_none (by omega)]
    simp
theorem beginAt_length (k i : Nat) (hk : k ≤ 8) (hi : i ≤ min k 4) : (beginAt k i).length = k := by
  have : ∀ k, k < 9 → ∀ i, i < 5 → i ≤ min k 4 → (beginAt k i).length = k := by decide
  exact this k (by omega) i (by omega) hi
theorem fixL_len (k : Nat) (hk : k ≤ 4) : (fixL k).length = k := by
  have : ∀ k, k < 5 → (fixL k).length = k := by decide
  exact this k (by omega)

set_option maxHeartbeats 4000000 in
theorem begin_calls (k : Nat) (w : World) (hk : k ≤ 8) :
    Calls Try.prog 37 #[.int .i64 k] w fun e w' => ∃ v, e = .returned (.agg #[v, .int .i64 4]) ∧ Row w' .i64 3 v (beginL k) ∧ (∀ b, b ∈ fp v → w.heap.size ≤ b) ∧ Keeps [] w w' := by
  have hmk := run_mk Try.prog 22 3 .i64 8 Try.underlying22 info_i64 .i64 .i64 k k k k rfl rfl (by omega) (by omega) (by omega)
  obtain ⟨m4, hm4⟩ : ∃ m4, min k 4 = m4 := ⟨_, rfl⟩
  have hmin : (if (4 : Int) < (k : Int) then 4 else (k : Int)) = (m4 : Int) := by split <;> omega
  have HM4 := Lib.hid hm4
  have hm44 : m4 ≤ 4 := by omega
  have hm4k : m4 ≤ k := by omega
  clear hm4
  have HFL := Lib.hid (fixL_len m4 hm44)
  go_enter Try.func37, Try.ntmps37
  go_wp2_with (first
    | (go_at_call 12; go_must (with_reducible refine (fixed_at (m4 : Int) m4 rfl hm44 _).mono ?_); rintro e wa ⟨va, rfl, hra, hfa, hka⟩; obtain ⟨aa, ca, hv, hqa⟩ := hra.rd; rw [HFL.out] at hv; subst hv))
  have HG0 : Hid (Cell2 (((w.alloc (.cells #[.slice none 0 0, .int .i64 0] 26)).alloc (.cells (madeCells #[.int .i64 0] k) 3)).alloc (.cells #[.slice (some ⟨w.heap.size + 1, 0, none⟩) k k, .int .i64 4] 26)) w.heap.size 26 (.slice none 0 0) (.int .i64 0)) := ⟨by
    repeat (first | exact heap_alloc_at _ _ _ (by simp) | rw [Below.heap_alloc _ _ _ (by simp <;> omega)])⟩
  have HG2 : Hid (Cell2 (((w.alloc (.cells #[.slice none 0 0, .int .i64 0] 26)).alloc (.cells (madeCells #[.int .i64 0] k) 3)).alloc (.cells #[.slice (some ⟨w.heap.size + 1, 0, none⟩) k k, .int .i64 4] 26)) (w.heap.size + 1 + 1) 26 (.slice (some ⟨w.heap.size + 1, 0, none⟩) k k) (.int .i64 4)) := ⟨by
    repeat (first | exact heap_alloc_at _ _ _ (by simp) | rw [Below.heap_alloc _ _ _ (by simp <;> omega)])⟩
  have HRW : Hid (Row (((w.alloc (.cells #[.slice none 0 0, .int .i64 0] 26)).alloc (.cells (madeCells #[.int .i64 0] k) 3)).alloc (.cells #[.slice (some ⟨w.heap.size + 1, 0, none⟩) k k, .int .i64 4] 26)) .i64 3 (.slice (some ⟨w.heap.size + 1, 0, none⟩) k k) (List.replicate k 0)) := by
    have h := Row.made (w.alloc (.cells #[.slice none 0 0, .int .i64 0] 26)) .i64 3 k (by omega)
    rw [World.size_alloc] at h
    exact h.keeps ((Keeps.refl [] _).alloc _) (fun _ _ => by simp)
  have HK0 : Hid (Keeps [] w (((w.alloc (.cells #[.slice none 0 0, .int .i64 0] 26)).alloc (.cells (madeCells #[.int .i64 0] k) 3)).alloc (.cells #[.slice (some ⟨w.heap.size + 1, 0, none⟩) k k, .int .i64 4] 26))) := (((Keeps.refl _ _).alloc _).alloc _).alloc _
  have HF : Hid (∀ ad, aa = some ad → w.heap.size + 1 < ad.block) := by
    intro ad e
    subst e
    have := hfa ad.block (by simp [fp, Value.ownBlock])
    simp at this
    omega
  have hkb : Keeps [] _ (wa.alloc (.cells #[.slice aa m4 ca, .int .i64 0] 26)) := hka.alloc _
  replace HG0 := Lib.hid (HG0.out.keeps hkb (by simp))
  replace HG2 := Lib.hid (HG2.out.keeps hkb (by simp))
  replace HRW := Lib.hid (HRW.out.keeps hkb (fun _ _ => by simp))
  replace HK0 := Lib.hid (HK0.out.new hkb)
  have HQ0 : Hid (Rd (wa.alloc (.cells #[.slice aa m4 ca, .int .i64 0] 26)) .i64 aa (fixL m4)) := hqa.new ((Keeps.refl _ _).alloc _)
  clear hkb hka hqa hra hfa
  generalize wa.alloc (.cells #[.slice aa m4 ca, .int .i64 0] 26) = W at *
  have HBZ := Lib.hid (beginAt_zero k)
  have HSTP : Hid (∀ i, i < m4 → beginAt k (i + 1) = (beginAt k i).set i (16 * (fixL m4).getD i 0)) := fun i hi => by
    have := beginAt_step k i hk (by have := HM4.out; omega)
    rw [HM4.out] at this
    exact this
  have HBL : Hid (∀ i, i ≤ m4 → (beginAt k i).length = k) := fun i hi => beginAt_length k i hk (by have := HM4.out; omega)
  have HBE : Hid (beginAt k m4 = beginL k) := by
    have := beginAt_end k hk
    rw [HM4.out] at this
    exact this
  have HSM : Hid (∀ i, -6 ≤ (fixL m4).getD i 0 ∧ (fixL m4).getD i 0 ≤ 6) := fun i => fix_small m4 i hm44
  go_loopg [6, 7, 20] (m4 + 1) (fun q v6 v7 v20 w5 => ∃ i : Nat, v20 = .int .i64 i ∧ i ≤ m4 ∧ Hid (Row w5 .i64 3 (.slice (some ⟨w.heap.size + 1, 0, none⟩) k k) (beginAt k i)) ∧ Hid (i + q = m4 + 1) ∧ Hid (Keeps [w.heap.size + 1] W w5))
  case atStart => exact ⟨0, rfl, by omega, (by show Row _ _ _ _ _; rw [HBZ.out]; exact HRW.out), (show _ = _ from by omega), Keeps.refl _ _⟩
  case round =>
    obtain ⟨i, rfl, hi, HR, HQ, HKW⟩ := hrel
    have HC2 := Lib.hid (HG2.out.keeps HKW.out (by simp))
    have hc0 := HC2.out.c0
    have hc1 := HC2.out.c1
    by_cases hlt : i < m4
    · have hil : i < (fixL m4).length := by rw [HFL.out]; exact hlt
      obtain ⟨b2, o2, hb2, hq2⟩ := (HQ0.out.keeps HKW.out (fun ad e => by have := HF.out ad e; simp; omega)).cellAt i hil
      subst hb2
      obtain ⟨x, hx⟩ : ∃ x, (fixL m4)[i] = x := ⟨_, rfl⟩
      have hx' : (fixL m4).getD i 0 = x := by rw [List.getD_eq_getElem?_getD, List.getElem?_eq_getElem hil, hx]; rfl
      obtain ⟨x0, x1⟩ := HSM.out i
      have HST := Lib.hid (HSTP.out i hlt)
      rw [hx'] at x0 x1 HST
      rw [hx] at hq2
      clear hx hx' hil
      have hcr := HR.out.cell i (by rw [HBL.out i hi]; omega)
      have hfz := HR.out.frozen i
      have hik : (i : Int) < (k : Int) := by omega
      go_wp2_with fail
      go_roundg (gk - 1)
      case measure => have := HQ.out; omega
      case rel =>
        refine ⟨i + 1, by go_num, by omega, ?_, (show _ = _ from by have := HQ.out; omega), HKW.out.setCell (.inl (by simp)) _⟩
        show Row _ _ _ _ _
        rw [HST.out, Int.mul_comm 16 x]
        exact HR.out.set i (x * 16)
    · obtain rfl : i = m4 := by omega
      have HC0 := Lib.hid (HG0.out.keeps HKW.out (by simp))
      have hd0 := HC0.out.c0
      have hd1 := HC0.out.c1
      have hf0 := HC0.out.frozen 0
      have hf1 := HC0.out.frozen 1
      have HROW := Lib.hid HR.out
      rw [HBE.out] at HROW
      go_wp2_with fail
      have HE1 : Hid (((wr.setCell ⟨w.heap.size, 0, none⟩ (.slice (some ⟨w.heap.size + 1, 0, none⟩) k k)).setCell ⟨w.heap.size, 1, none⟩ (.int .i64 4)).heap[w.heap.size]? = some (.cells #[.slice (some ⟨w.heap.size + 1, 0, none⟩) k k, .int .i64 4] 26 (0, 0))) :=
        blk_set (blk_set HC0.out.hp 0 _) 1 (.int .i64 4)
      have HKE : Hid (Keeps [w.heap.size] wr ((wr.setCell ⟨w.heap.size, 0, none⟩ (.slice (some ⟨w.heap.size + 1, 0, none⟩) k k)).setCell ⟨w.heap.size, 1, none⟩ (.int .i64 4))) :=
        ((Keeps.refl _ wr).setCell (.inl (by simp)) _).setCell (.inl (by simp)) _
      refine bodyPost_ret (results_cell1 rfl _ _ w.heap.size 26 #[.slice (some ⟨w.heap.size + 1, 0, none⟩) k k, .int .i64 4] (0, 0) _ rfl HE1.out Try.underlying26 rfl (by kernel_rfl)) rfl ?_
      refine ⟨_, rfl, HROW.out.keeps HKE.out (fun b hb h => by rw [fp_some, List.mem_singleton] at hb; rw [List.mem_singleton] at h; omega), (fun b hb => by rw [fp_some, List.mem_singleton] at hb; omega), ?_⟩
      exact (HK0.out.then_ HKW.out (fun b hb hlt => by rw [List.mem_singleton] at hb; omega)).then_ HKE.out (fun b hb hlt => by rw [List.mem_singleton] at hb; omega)
end Go.Proofs.Ytpnomiepbbbnbaa
