/-
  The document's Put (shellacref05): DocPut.
-/
import Derived.Test.YtjgljjpgknjihaaRef5
set_option linter.unusedVariables false
set_option linter.unusedSimpArgs false
namespace Go.Proofs.Ytjgljjpgknjihaa
open Go.RowKit Go.Proofs.Ytjgljjpgknjihaa.Pure

set_option maxHeartbeats 1000000 in
theorem docPut_calls (n : Int) (w : World) (h0 : 0 ≤ n) (h1 : n ≤ 68719476735) :
    Calls Try.prog 16 #[.int .i64 n] w fun e w' => e = .returned (.tuple #[.string (strOfNums (putS n)), .int .i64 0]) ∧ Keeps [] w w' := by
  go_enter Try.func16, Try.ntmps16
  go_wp2_with (first
    | (go_at_call 21; go_must (refine (encode_calls n _ h0 h1).mono ?_); rintro e w1 ⟨v1, rfl, hr1, hf1, hk1⟩; have hc1 := hr1.textv (P := Try.prog) 30 5 9 Try.underlying30 Try.underlying5 Try.underlying9; obtain ⟨a1, c1, rfl, -⟩ := hr1.rd; clear hr1 hf1))
  go_ret2
  exact ⟨rfl, hk1⟩

theorem docPut_err (n : Int) (w : World) (h : n < 0 ∨ 68719476735 < n) :
    Calls Try.prog 16 #[.int .i64 n] w fun e w' => e = .returned (.tuple #[.string ⟨#[]⟩, .int .i64 12]) ∧ w = w' := by
  rcases h with h | h
  all_goals
    go_enter Try.func16, Try.ntmps16
    go_wp2
    go_ret2
    exact ⟨rfl, rfl⟩
end Go.Proofs.Ytjgljjpgknjihaa
