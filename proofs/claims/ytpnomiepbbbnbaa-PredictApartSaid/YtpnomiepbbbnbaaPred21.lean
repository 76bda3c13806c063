/-
  Layer 7 (predict): Search and DocSearch, whatever comes in.
-/
import Derived.Test.YtpnomiepbbbnbaaPred20
set_option linter.unusedVariables false
set_option linter.unusedSimpArgs false
namespace Go.Proofs.Ytpnomiepbbbnbaa
open Go.RowKit

theorem srcE_one {xs : List Int} {z : Int} (h : z < 0 ∨ 8 < z ∨ (xs.length : Int) < z) : srcE xs z = 1 ∧ srcL xs z = [] ∧ srcS xs z = 0 := by
  have e : srcE xs z = 1 := by unfold srcE; rw [if_pos h]
  exact ⟨e, by unfold srcL; rw [e]; rfl, by unfold srcS; rw [e]; rfl⟩
theorem srcE_wide {xs : List Int} {z : Int} (h : ¬ (z < 0 ∨ 8 < z ∨ (xs.length : Int) < z)) (hx : xs.all inB = false) : srcE xs z = 12 ∧ srcL xs z = [] ∧ srcS xs z = 0 := by
  have e : srcE xs z = 12 := by unfold srcE; rw [if_neg h, if_pos hx]
  exact ⟨e, by unfold srcL; rw [e]; rfl, by unfold srcS; rw [e]; rfl⟩
theorem srcE_ok {xs : List Int} {o : Nat} (ho : o ≤ 8) (hx : o ≤ xs.length) (h : xs.all inB = true) : srcE xs o = 0 ∧ srcL xs o = (srcF xs o).1 ∧ srcS xs o = 4 := by
  have e : srcE xs o = 0 := by unfold srcE; rw [if_neg (by omega), if_neg (by rw [h]; simp)]
  refine ⟨e, ?_, by unfold srcS; rw [if_pos e]⟩
  unfold srcL
  rw [if_pos e]
  rfl

set_option maxHeartbeats 4000000 in
theorem search_any (xs : List Int) (z : Int) (n : Nat) (a : Option Addr) (c : Nat) (w : World) (hn : n = xs.length) (hd : xs.length ≤ c) (hl : xs.length ≤ 1000000) (hx : Hid (Rd w .i64 a xs)) :
    Calls Try.prog 27 #[.slice a n c, .int .i64 z] w fun e w' => ∃ v, e = .returned (.tuple #[.agg #[v, .int .i64 (srcS xs z)], .int .i64 (srcE xs z)]) ∧ Row w' .i64 3 v (srcL xs z) ∧ (∀ b, b ∈ fp v → w.heap.size ≤ b) ∧ Keeps [] w w' := by
  by_cases hz : z < 0 ∨ 8 < z ∨ (xs.length : Int) < z
  · obtain ⟨e1, e2, e3⟩ := srcE_one hz
    rw [e1, e2, e3]
    subst hn
    have hz' : z < 0 ∨ (0 ≤ z ∧ 8 < z) ∨ (0 ≤ z ∧ z ≤ 8 ∧ (xs.length : Int) < z) := by omega
    clear hz e1 e2 e3
    rcases hz' with h | ⟨h0, h⟩ | ⟨h0, h1, h⟩
    all_goals
      go_enter Try.func27, Try.ntmps27
      go_wp2_with fail
      refine bodyPost_ret (results_cell2 rfl _ _ w.heap.size 26 #[.slice none 0 0, .int .i64 0] (0, 0) _ rfl (heap_alloc_new _ _) Try.underlying26 rfl (by kernel_rfl)) rfl ?_
      exact ⟨_, rfl, Row.nil _ _ _, (fun b hb => by cases hb), (Keeps.refl _ _).alloc _⟩
  · obtain ⟨o, rfl⟩ : ∃ o : Nat, z = o := ⟨z.toNat, by omega⟩
    cases hin : xs.all inB
    · obtain ⟨e1, e2, e3⟩ := srcE_wide hz hin
      rw [e1, e2, e3]
      subst hn
      have HIN := Lib.hid hin
      have HX := Lib.hid (hx.out.new ((Keeps.refl [] w).alloc (.cells #[.slice none 0 0, .int .i64 0] 26)))
      have ho0 : (0 : Int) ≤ (o : Int) := by omega
      have ho8 : (o : Int) ≤ 8 := by omega
      have hox' : (o : Int) ≤ (xs.length : Int) := by omega
      clear hz hin e1 e2 e3
      go_enter Try.func27, Try.ntmps27
      go_wp2_with (first
        | (go_at_call 29; go_must (with_reducible refine (contains_wide xs _ rfl a c _ HX).mono ?_); rw [HIN.out]; rintro e w3 ⟨rfl, rfl⟩))
      refine bodyPost_ret (results_cell2 rfl _ _ w.heap.size 26 #[.slice none 0 0, .int .i64 0] (0, 0) _ rfl (heap_alloc_new _ _) Try.underlying26 rfl (by kernel_rfl)) rfl ?_
      exact ⟨_, rfl, Row.nil _ _ _, (fun b hb => by cases hb), (Keeps.refl _ _).alloc _⟩
    · obtain ⟨e1, e2, e3⟩ := srcE_ok (o := o) (by omega) (by omega) hin
      rw [e1, e2, e3]
      exact search_good xs o n a c w hn (by omega) (by omega) hd hl hin hx

set_option maxHeartbeats 4000000 in
theorem docSearch_any (xs : List Int) (z : Int) (n : Nat) (a : Option Addr) (c : Nat) (w : World) (hn : n = xs.length) (hd : xs.length ≤ c) (hl : xs.length ≤ 1000000) (hx : Hid (Rd w .i64 a xs)) :
    Calls Try.prog 26 #[.slice a n c, .int .i64 z] w fun e w' => ∃ v, e = .returned (.tuple #[.agg #[v, .int .i64 (srcS xs z)], .int .i64 (srcE xs z)]) ∧ Row w' .i64 3 v (srcL xs z) ∧ (∀ b, b ∈ fp v → w.heap.size ≤ b) ∧ Keeps [] w w' := by
  by_cases hz : z < 0 ∨ 8 < z ∨ (xs.length : Int) < z
  · obtain ⟨e1, e2, e3⟩ := srcE_one hz
    rw [e1, e2, e3]
    subst hn
    have hz' : z < 0 ∨ (0 ≤ z ∧ 8 < z) ∨ (0 ≤ z ∧ z ≤ 8 ∧ (xs.length : Int) < z) := by omega
    clear hz e1 e2 e3
    rcases hz' with h | ⟨h0, h⟩ | ⟨h0, h1, h⟩
    all_goals
      go_enter Try.func26, Try.ntmps26
      go_wp2_with fail
      refine bodyPost_ret (results_cell2 rfl _ _ w.heap.size 34 #[.slice none 0 0, .int .i64 0] (0, 0) _ rfl (heap_alloc_new _ _) Try.underlying34 rfl (by kernel_rfl)) rfl ?_
      exact ⟨_, rfl, Row.nil _ _ _, (fun b hb => by cases hb), (Keeps.refl _ _).alloc _⟩
  · obtain ⟨o, rfl⟩ : ∃ o : Nat, z = o := ⟨z.toNat, by omega⟩
    cases hin : xs.all inB
    · obtain ⟨e1, e2, e3⟩ := srcE_wide hz hin
      rw [e1, e2, e3]
      subst hn
      have HIN := Lib.hid hin
      have HX := Lib.hid (hx.out.new ((Keeps.refl [] w).alloc (.cells #[.slice none 0 0, .int .i64 0] 34)))
      have ho0 : (0 : Int) ≤ (o : Int) := by omega
      have ho8 : (o : Int) ≤ 8 := by omega
      have hox' : (o : Int) ≤ (xs.length : Int) := by omega
      clear hz hin e1 e2 e3
      go_enter Try.func26, Try.ntmps26
      go_wp2_with (first
        | (go_at_call 32; go_must (with_reducible refine (all_calls xs _ rfl a c _ HX).mono ?_); rw [HIN.out]; rintro e w3 ⟨rfl, rfl⟩))
      refine bodyPost_ret (results_cell2 rfl _ _ w.heap.size 34 #[.slice none 0 0, .int .i64 0] (0, 0) _ rfl (heap_alloc_new _ _) Try.underlying34 rfl (by kernel_rfl)) rfl ?_
      exact ⟨_, rfl, Row.nil _ _ _, (fun b hb => by cases hb), (Keeps.refl _ _).alloc _⟩
    · obtain ⟨e1, e2, e3⟩ := srcE_ok (o := o) (by omega) (by omega) hin
      rw [e1, e2, e3]
      exact docSearch_good xs o n a c w hn (by omega) (by omega) hd hl hin hx
end Go.Proofs.Ytpnomiepbbbnbaa
