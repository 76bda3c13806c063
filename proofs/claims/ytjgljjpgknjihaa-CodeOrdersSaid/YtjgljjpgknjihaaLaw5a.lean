/-
  The statement CodeFolds of layer 5: the walk.
-/
import Derived.Test.YtjgljjpgknjihaaCode3
set_option linter.unusedVariables false
set_option linter.unusedSimpArgs false
namespace Go.Proofs.Ytjgljjpgknjihaa
open Go.RowKit Go.Proofs.Ytjgljjpgknjihaa.Pure

theorem wf_i64 {a : Int} (h : (Lit.int .i64 a).wf = true) : -9223372036854775808 ≤ a ∧ a ≤ 9223372036854775807 := by
  simp [Lit.wf, IntKind.min, IntKind.max, IntKind.bits, IntKind.signed] at h
  omega

theorem unfold_fold (n : Int) : unfoldS (foldS n) = n := by unfold unfoldS foldS; repeat (first | omega | split)
theorem fold_unfold (n : Int) (h : 0 ≤ n) : foldS (unfoldS n) = n := by unfold unfoldS foldS; repeat (first | omega | split)
theorem foldS_range (n : Int) (h0 : -1099511627776 ≤ n) (h1 : n ≤ 1099511627776) : 0 ≤ foldS n ∧ foldS n ≤ 2199023255552 := by unfold foldS; split <;> omega
theorem unfoldS_range (n : Int) (h0 : 0 ≤ n) (h1 : n ≤ 2199023255552) : -1099511627776 ≤ unfoldS n ∧ unfoldS n ≤ 1099511627776 := by unfold unfoldS; split <;> omega

set_option maxHeartbeats 2000000 in
theorem codeFolds_walk (n : Int) (w : World) (w0 : (Lit.int .i64 n).wf = true) :
    Calls Try.prog 4 #[.int .i64 n] w fun e w' => e = .returned (.bool true) ∧ Below w.heap.size w w' := by
  have HN := Lib.hid (wf_i64 w0)
  clear w0
  have hb1 : (unfoldS (foldS n) != n) = false := by rw [unfold_fold]; simp
  have HB : Hid (0 ≤ n → (foldS (unfoldS n) != n) = false) := fun h => by rw [fold_unfold n h]; simp
  have HR1 := Lib.hid (foldS_range n)
  have HR2 := Lib.hid (unfoldS_range n)
  have hc : n < -1099511627776 ∨ (-1099511627776 ≤ n ∧ n < 0) ∨ (0 ≤ n ∧ n ≤ 1099511627776) ∨ (1099511627776 < n ∧ n ≤ 2199023255552) ∨ 2199023255552 < n := by omega
  rcases hc with c | ⟨c, c'⟩ | ⟨c, c'⟩ | ⟨c, c'⟩ | c
  all_goals
    go_enter Try.func4, Try.ntmps4
    go_wp2_with (first
      | (go_at_call 9; go_must (refine (known_calls _).mono ?_); rintro e w1 ⟨rfl, hk1⟩)
      | (go_at_call 12; refine (docFold_calls _ _ (by omega) (by omega)).mono ?_; rintro e w1 ⟨rfl, rfl⟩)
      | (go_at_call 12; refine (docFold_err _ _ (by omega)).mono ?_; rintro e w1 ⟨rfl, rfl⟩)
      | (go_at_call_of 10 (Value.int IntKind.i64 n); refine (fold_calls _ _ (by omega) (by omega)).mono ?_; rintro e w1 ⟨rfl, rfl⟩)
      | (go_at_call_of 10 (Value.int IntKind.i64 n); refine (fold_err _ _ (by omega)).mono ?_; rintro e w1 ⟨rfl, rfl⟩)
      | (go_at_call 10; refine (fold_calls _ _ (HR2.out (by omega) (by omega)).1 (HR2.out (by omega) (by omega)).2).mono ?_; have hb3 := HB.out (by omega); rintro e w1 ⟨rfl, rfl⟩)
      | (go_at_call 13; refine (docUnfold_calls _ _ (by omega) (by omega)).mono ?_; rintro e w1 ⟨rfl, rfl⟩)
      | (go_at_call 13; refine (docUnfold_err _ _ (by omega)).mono ?_; rintro e w1 ⟨rfl, rfl⟩)
      | (go_at_call_of 14 (Value.int IntKind.i64 n); refine (unfold_calls _ _ (by omega) (by omega)).mono ?_; rintro e w1 ⟨rfl, rfl⟩)
      | (go_at_call_of 14 (Value.int IntKind.i64 n); refine (unfold_err _ _ (by omega)).mono ?_; rintro e w1 ⟨rfl, rfl⟩)
      | (go_at_call 14; refine (unfold_calls _ _ (HR1.out (by omega) (by omega)).1 (HR1.out (by omega) (by omega)).2).mono ?_; rintro e w1 ⟨rfl, rfl⟩)
      | (go_at_call 11; go_must (refine (bits_calls _ _ HN).mono ?_); rintro e w1 ⟨rfl, rfl⟩)
      | (go_at_call 15; go_must (refine (refBits_calls _ _ HN).mono ?_); rintro e w1 ⟨rfl, rfl⟩))
    go_ret
    exact ⟨rfl, hk1.below⟩

end Go.Proofs.Ytjgljjpgknjihaa
