/-
  Layer 7 (predict): known.
-/
import Derived.Test.YtpnomiepbbbnbaaPred12
set_option linter.unusedVariables false
set_option linter.unusedSimpArgs false
namespace Go.Proofs.Ytpnomiepbbbnbaa
open Go.RowKit

theorem fixed_at (z : Int) (k : Nat) (hz : z = k) (hk : k ≤ 4) (w : World) :
    Calls Try.prog 12 #[.int .i64 z] w fun e w' => ∃ v, e = .returned (.tuple #[.agg #[v, .int .i64 0], .int .i64 0]) ∧ Row w' .i64 3 v (fixL k) ∧ (∀ b, b ∈ fp v → w.heap.size ≤ b) ∧ Keeps [] w w' := by
  subst hz; exact fixed_calls k w hk
theorem refFixed_at (z : Int) (k : Nat) (hz : z = k) (hk : k ≤ 4) (w : World) :
    Calls Try.prog 20 #[.int .i64 z] w fun e w' => ∃ v, e = .returned (.tuple #[.agg #[v, .int .i64 0], .int .i64 0]) ∧ Row w' .i64 3 v (fixL k) ∧ (∀ b, b ∈ fp v → w.heap.size ≤ b) ∧ Keeps [] w w' := by
  subst hz; exact refFixed_calls k w hk

theorem known_resE : resE (fixL 2) 0 [1, 2, 3, 5] = 0 := by decide
theorem known_resO : resO (fixL 2) 0 [1, 2, 3, 5] = [0, 1] := by decide

set_option maxHeartbeats 2000000 in
theorem known_calls (w : World) :
    Calls Try.prog 11 #[] w fun e w' => e = .returned (.bool true) ∧ Keeps [] w w' := by
  go_enter Try.func11, Try.ntmps11
  go_wp2_with (first
    | (go_at_call 12; go_must (with_reducible refine (fixed_at 2 2 rfl (by omega) _).mono ?_); rintro e w1 ⟨v1, rfl, hr1, hf1, hk1⟩; obtain ⟨a1, c1, rfl, hrd1⟩ := hr1.rd)
    | (go_at_call 13; go_must (with_reducible refine (residual_calls (fixL 2) [1, 2, 3, 5] 0 _ 4 rfl a1 _ c1 4 _ rfl (by simp) (by simp) (Lib.hid (hrd1.new (((Keeps.refl _ _).alloc _).alloc _))) (Lib.hid (Rd.lit1 w1 _ .i64 3 #[.int .i64 1, .int .i64 2, .int .i64 3, .int .i64 5] [1, 2, 3, 5] rfl (by simp)))).mono ?_); rw [known_resE, known_resO]; rintro e w2 ⟨v2, rfl, hr2, hf2, hk2⟩; obtain ⟨a2, c2, rfl, hrd2⟩ := hr2.rd)
    | (go_at_call 14; go_must (with_reducible refine (same_calls [0, 1] [0, 1] 2 2 rfl rfl a2 _ c2 2 _ (Lib.hid (hrd2.new ((Keeps.refl _ _).alloc _))) (Lib.hid (Rd.lit0 w2 .i64 3 #[.int .i64 0, .int .i64 1] [0, 1] rfl (by simp)))).mono ?_); rintro e w3 ⟨rfl, hk3⟩))
  go_ret
  exact ⟨rfl, ((((hk1.alloc _).alloc _).new hk2).alloc _).new hk3⟩
end Go.Proofs.Ytpnomiepbbbnbaa
