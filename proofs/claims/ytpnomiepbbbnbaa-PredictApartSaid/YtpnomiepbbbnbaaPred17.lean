/-
  Layer 7 (predict): what the document's Search begins with.
-/
import Derived.Test.YtpnomiepbbbnbaaPred16
set_option linter.unusedVariables false
set_option linter.unusedSimpArgs false
namespace Go.Proofs.Ytpnomiepbbbnbaa
open Go.RowKit

set_option maxHeartbeats 4000000 in
theorem refBegin_calls (k : Nat) (w : World) (hk : k ≤ 8) :
    Calls Try.prog 28 #[.int .i64 k] w fun e w' => ∃ v, e = .returned (.agg #[v, .int .i64 4]) ∧ Row w' .i64 3 v (beginL k) ∧ (∀ b, b ∈ fp v → w.heap.size ≤ b) ∧ Keeps [] w w' := by
  have hmk := run_mk Try.prog 22 3 .i64 8 Try.underlying22 info_i64 .i64 .i64 k k k k rfl rfl (by omega) (by omega) (by omega)
  obtain ⟨m4, hm4⟩ : ∃ m4, min k 4 = m4 := ⟨_, rfl⟩
  have hmin : (if (4 : Int) < (k : Int) then 4 else (k : Int)) = (m4 : Int) := by split <;> omega
  have HM4 := Lib.hid hm4
  have hm44 : m4 ≤ 4 := by omega
  have hm4k : m4 ≤ k := by omega
  clear hm4
  have HFL := Lib.hid (fixL_len m4 hm44)
  go_enter Try.func28, Try.ntmps28
  go_wp2_with (first
    | (go_at_call 20; go_must (with_reducible refine (refFixed_at (m4 : Int) m4 rfl hm44 _).mono ?_); rintro e wa ⟨va, rfl, hra, hfa, hka⟩; obtain ⟨aa, ca, hv, hqa⟩ := hra.rd; rw [HFL.out] at hv; subst hv))
  have hlt0 := hra.lt
  have HSZ : Hid (w.heap.size < wa.heap.size) := by have := hka.size; rw [World.size_alloc] at this; show _ < _; omega
  have HF : Hid (∀ ad, aa = some ad → ad.block < wa.heap.size) := by
    intro ad e
    subst e
    exact hlt0 ad.block (by simp [fp, Value.ownBlock])
  have HK1 : Hid (Keeps [] wa (((wa.alloc (.cells #[.slice aa m4 ca, .int .i64 0] 34)).alloc (.cells (madeCells #[.int .i64 0] k) 3)).alloc (.cells #[.slice (some ⟨wa.heap.size + 1, 0, none⟩) k k, .int .i64 4] 34))) := (((Keeps.refl _ _).alloc _).alloc _).alloc _
  have HG0 : Hid (Cell2 (((wa.alloc (.cells #[.slice aa m4 ca, .int .i64 0] 34)).alloc (.cells (madeCells #[.int .i64 0] k) 3)).alloc (.cells #[.slice (some ⟨wa.heap.size + 1, 0, none⟩) k k, .int .i64 4] 34)) w.heap.size 34 (.slice none 0 0) (.int .i64 0)) :=
    Cell2.keeps ⟨heap_alloc_new w _⟩ (hka.new HK1.out) (by simp)
  have HGA : Hid (Cell2 (((wa.alloc (.cells #[.slice aa m4 ca, .int .i64 0] 34)).alloc (.cells (madeCells #[.int .i64 0] k) 3)).alloc (.cells #[.slice (some ⟨wa.heap.size + 1, 0, none⟩) k k, .int .i64 4] 34)) wa.heap.size 34 (.slice aa m4 ca) (.int .i64 0)) :=
    Cell2.keeps ⟨heap_alloc_new wa _⟩ (((Keeps.refl [] _).alloc _).alloc _) (by simp)
  have HG2 : Hid (Cell2 (((wa.alloc (.cells #[.slice aa m4 ca, .int .i64 0] 34)).alloc (.cells (madeCells #[.int .i64 0] k) 3)).alloc (.cells #[.slice (some ⟨wa.heap.size + 1, 0, none⟩) k k, .int .i64 4] 34)) (wa.heap.size + 1 + 1) 34 (.slice (some ⟨wa.heap.size + 1, 0, none⟩) k k) (.int .i64 4)) := ⟨heap_alloc_at _ _ _ (by simp)⟩
  have HRW : Hid (Row (((wa.alloc (.cells #[.slice aa m4 ca, .int .i64 0] 34)).alloc (.cells (madeCells #[.int .i64 0] k) 3)).alloc (.cells #[.slice (some ⟨wa.heap.size + 1, 0, none⟩) k k, .int .i64 4] 34)) .i64 3 (.slice (some ⟨wa.heap.size + 1, 0, none⟩) k k) (List.replicate k 0)) := by
    have h := Row.made (wa.alloc (.cells #[.slice aa m4 ca, .int .i64 0] 34)) .i64 3 k (by omega)
    rw [World.size_alloc] at h
    exact h.keeps ((Keeps.refl [] _).alloc _) (fun _ _ => by simp)
  have HQ0 := Lib.hid (hqa.new HK1.out)
  have HK0 : Hid (Keeps [] w (((wa.alloc (.cells #[.slice aa m4 ca, .int .i64 0] 34)).alloc (.cells (madeCells #[.int .i64 0] k) 3)).alloc (.cells #[.slice (some ⟨wa.heap.size + 1, 0, none⟩) k k, .int .i64 4] 34))) := ((Keeps.refl _ _).alloc _ |>.new hka).new HK1.out
  clear hka hqa hra hfa HK1 hlt0
  generalize (((wa.alloc (.cells #[.slice aa m4 ca, .int .i64 0] 34)).alloc (.cells (madeCells #[.int .i64 0] k) 3)).alloc (.cells #[.slice (some ⟨wa.heap.size + 1, 0, none⟩) k k, .int .i64 4] 34)) = W at *
  have HBZ := Lib.hid (beginAt_zero k)
  have HSTP : Hid (∀ i, i < m4 → beginAt k (i + 1) = (beginAt k i).set i (16 * (fixL m4).getD i 0)) := fun i hi => by
    have := beginAt_step k i hk (by have := HM4.out; omega)
    rw [HM4.out] at this
    exact this
  have HBL : Hid (∀ i, i ≤ m4 → (beginAt k i).length = k) := fun i hi => beginAt_length k i hk (by have := HM4.out; omega)
  have HBE : Hid (beginAt k m4 = beginL k) := by
    have := beginAt_end k hk
    rw [HM4.out] at this
    exact this
  have HSM : Hid (∀ i, -6 ≤ (fixL m4).getD i 0 ∧ (fixL m4).getD i 0 ≤ 6) := fun i => fix_small m4 i hm44
  obtain ⟨ga, hga⟩ : ∃ ga, wa.heap.size = ga := ⟨_, rfl⟩
  rw [hga] at HSZ HF HGA HG2 HRW ⊢
  clear hga
  go_loopg [6] (m4 + 1) (fun q v6 w5 => ∃ i : Nat, v6 = .int .i64 i ∧ i ≤ m4 ∧ Hid (Row w5 .i64 3 (.slice (some ⟨ga + 1, 0, none⟩) k k) (beginAt k i)) ∧ Hid (i + q = m4 + 1) ∧ Hid (Keeps [ga + 1] W w5))
  case atStart => exact ⟨0, rfl, by omega, (by show Row _ _ _ _ _; rw [HBZ.out]; exact HRW.out), (show _ = _ from by omega), Keeps.refl _ _⟩
  case round =>
    obtain ⟨i, rfl, hi, HR, HQ, HKW⟩ := hrel
    have HC2 := Lib.hid (HG2.out.keeps HKW.out (by simp))
    have HCA := Lib.hid (HGA.out.keeps HKW.out (by simp))
    have hc0 := HC2.out.c0
    have hc1 := HC2.out.c1
    have ha0 := HCA.out.c0
    by_cases hlt : i < m4
    · have hil : i < (fixL m4).length := by rw [HFL.out]; exact hlt
      obtain ⟨b2, o2, hb2, hq2⟩ := (HQ0.out.keeps HKW.out (fun ad e => by have := HF.out ad e; simp; omega)).cellAt i hil
      subst hb2
      have HN : Hid (b2 ≠ ga + 1) := by have := HF.out _ rfl; simp only at this; show _ ≠ _; omega
      obtain ⟨x, hx⟩ : ∃ x, (fixL m4)[i] = x := ⟨_, rfl⟩
      have hx' : (fixL m4).getD i 0 = x := by rw [List.getD_eq_getElem?_getD, List.getElem?_eq_getElem hil, hx]; rfl
      obtain ⟨x0, x1⟩ := HSM.out i
      have HST := Lib.hid (HSTP.out i hlt)
      rw [hx'] at x0 x1 HST
      rw [hx] at hq2
      clear hx hx' hil
      obtain ⟨wo, rfl⟩ : ∃ x : World, x = wr := ⟨_, rfl⟩
      have hcr : wo.drew.cell? ⟨ga + 1, i, none⟩ = some (.int .i64 ((beginAt k i)[i]'(by rw [HBL.out i hi]; omega))) := HR.out.cell i (by rw [HBL.out i hi]; omega)
      have hfz : wo.drew.frozen? ⟨ga + 1, i, none⟩ = false := HR.out.frozen i
      have hik : (i : Int) < (k : Int) := by omega
      have hi0 : (0 : Int) ≤ (i : Int) := by omega
      have him : (i : Int) < (m4 : Int) := by omega
      have hmul : IntKind.i64.wrap (16 * x) = 16 * x := IntWalk.i64_in _ (by omega)
      go_upto_region 6 with fail
      go_region_held3 (fun w' => w'.cell? ⟨ga + 1 + 1, 0, none⟩ = some (.slice (some ⟨ga + 1, 0, none⟩) k k) ∧ w'.cell? ⟨ga, 0, none⟩ = some (.slice (some ⟨b2, o2, none⟩) m4 ca) ∧ w'.cell? ⟨b2, o2 + i, none⟩ = some (.int .i64 x))
        (first
          | (exact ⟨hc0, ha0, hq2⟩)
          | (exact ⟨((Keeps.refl [ga + 1] wo).drew.setCell (.inl (by simp)) _).cell hc0 (by simp), ((Keeps.refl [ga + 1] wo).drew.setCell (.inl (by simp)) _).cell ha0 (by simp), ((Keeps.refl [ga + 1] wo).drew.setCell (.inl (by simp)) _).cell hq2 (by simp only [List.mem_singleton]; exact HN.out)⟩)
          | go_keep)
        (fail)
      clear hmul hi0 him hik hcr hfz hc0 hc1 ha0 hq2
      go_wp2_with fail
      go_roundg (m4 - i)
      case measure => have := HQ.out; omega
      case rel =>
        refine ⟨i + 1, by go_num, by omega, ?_, (show _ = _ from by have := HQ.out; omega), HKW.out.then_ ((Keeps.refl [ga + 1] wo).drew.setCell (.inl (by simp)) _) (fun b hb _ => hb)⟩
        show Row _ _ _ _ _
        rw [HST.out]
        exact (HR.out.keeps ((Keeps.refl [] wo).drew) (fun _ _ => by simp)).set i (16 * x)
    · obtain rfl : i = m4 := by omega
      have HC0 := Lib.hid (HG0.out.keeps HKW.out (by simp; have := HSZ.out; omega))
      have hd0 := HC0.out.c0
      have hd1 := HC0.out.c1
      have hf0 := HC0.out.frozen 0
      have hf1 := HC0.out.frozen 1
      have HROW := Lib.hid HR.out
      rw [HBE.out] at HROW
      go_wp2_with fail
      have HE1 : Hid (((wr.setCell ⟨w.heap.size, 0, none⟩ (.slice (some ⟨ga + 1, 0, none⟩) k k)).setCell ⟨w.heap.size, 1, none⟩ (.int .i64 4)).heap[w.heap.size]? = some (.cells #[.slice (some ⟨ga + 1, 0, none⟩) k k, .int .i64 4] 34 (0, 0))) :=
        blk_set (blk_set HC0.out.hp 0 _) 1 (.int .i64 4)
      have HKE : Hid (Keeps [w.heap.size] wr ((wr.setCell ⟨w.heap.size, 0, none⟩ (.slice (some ⟨ga + 1, 0, none⟩) k k)).setCell ⟨w.heap.size, 1, none⟩ (.int .i64 4))) :=
        ((Keeps.refl _ wr).setCell (.inl (by simp)) _).setCell (.inl (by simp)) _
      refine bodyPost_ret (results_cell1 rfl _ _ w.heap.size 34 #[.slice (some ⟨ga + 1, 0, none⟩) k k, .int .i64 4] (0, 0) _ rfl HE1.out Try.underlying34 rfl (by kernel_rfl)) rfl ?_
      have HSZ' := HSZ.out
      refine ⟨_, rfl, HROW.out.keeps HKE.out (fun b hb h => by rw [fp_some, List.mem_singleton] at hb; rw [List.mem_singleton] at h; omega), (fun b hb => by rw [fp_some, List.mem_singleton] at hb; omega), ?_⟩
      exact (HK0.out.then_ HKW.out (fun b hb hlt => by rw [List.mem_singleton] at hb; omega)).then_ HKE.out (fun b hb hlt => by rw [List.mem_singleton] at hb; omega)
end Go.Proofs.Ytpnomiepbbbnbaa
