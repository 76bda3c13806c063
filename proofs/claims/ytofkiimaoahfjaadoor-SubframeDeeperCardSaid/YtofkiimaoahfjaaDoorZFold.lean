/-
  Package code: Fold, Unfold, Bits (their texts in XCode1, XCode3, set apart for the layers above).
-/
import Derived.Test.YtofkiimaoahfjaaDoorProg
import Derived.Test.YtofkiimaoahfjaaDoorZMem
import Derived.Test.YtofkiimaoahfjaaDoorZBitOps
import Derived.Test.YtofkiimaoahfjaaDoorZShelf64
import Derived.WalkSpells
import Derived.WalkLawsBesides
set_option maxRecDepth 100000
set_option linter.unusedVariables false
set_option linter.unusedSimpArgs false
namespace Go.Proofs.YtofkiimaoahfjaaDoor
open Go.RowKit Go.Proofs.YtofkiimaoahfjaaDoor.Pure

def foldS (n : Int) : Int := if n < 0 then -2 * n - 1 else 2 * n
def unfoldS (n : Int) : Int := if n % 2 = 1 then -((n + 1) / 2) else n / 2

theorem fold_calls (n : Int) (w : World) (h0 : -1099511627776 ≤ n) (h1 : n ≤ 1099511627776) :
    Calls Tryd.prog 64 #[.int .i64 n] w fun e w' => e = .returned (.tuple #[.int .i64 (foldS n), .int .i64 0]) ∧ w = w' := by
  go_enter Tryd.func64, Tryd.ntmps64
  go_wp2
  go_ret2
  refine ⟨congrArg (fun x => Ending.returned (.tuple #[.int .i64 x, .int .i64 0])) ?_, rfl⟩
  rw [xor_sign _ _ (by omega) (by omega) (by omega)]
  unfold foldS
  split <;> split <;> omega

theorem fold_err (n : Int) (w : World) (h : n < -1099511627776 ∨ 1099511627776 < n) :
    Calls Tryd.prog 64 #[.int .i64 n] w fun e w' => e = .returned (.tuple #[.int .i64 0, .int .i64 12]) ∧ w = w' := by
  rcases h with h | h
  all_goals
    go_enter Tryd.func64, Tryd.ntmps64
    go_wp2
    go_ret2
    exact ⟨rfl, rfl⟩

theorem unfold_calls (n : Int) (w : World) (h0 : 0 ≤ n) (h1 : n ≤ 2199023255552) :
    Calls Tryd.prog 126 #[.int .i64 n] w fun e w' => e = .returned (.tuple #[.int .i64 (unfoldS n), .int .i64 0]) ∧ w = w' := by
  go_enter Tryd.func126, Tryd.ntmps126
  go_wp2
  go_ret2
  refine ⟨congrArg (fun x => Ending.returned (.tuple #[.int .i64 x, .int .i64 0])) ?_, rfl⟩
  have e : wrap64 (-(n % 2)) = -(n % 2) := by unfold wrap64; omega
  rw [and1, e, xor_sign _ _ (by omega) (by omega) (by omega)]
  unfold unfoldS
  split <;> split <;> omega

theorem unfold_err (n : Int) (w : World) (h : n < 0 ∨ 2199023255552 < n) :
    Calls Tryd.prog 126 #[.int .i64 n] w fun e w' => e = .returned (.tuple #[.int .i64 0, .int .i64 12]) ∧ w = w' := by
  rcases h with h | h
  all_goals
    go_enter Tryd.func126, Tryd.ntmps126
    go_wp2
    go_ret2
    exact ⟨rfl, rfl⟩

/-- The number from 0 on that has as many bits. -/
def magS (n : Int) : Int := if n < 0 then -1 - n else n
def bitsS (n : Int) : Int := (Lib.bitLen (magS n).toNat : Int) + 1

theorem bitLen_le (x : Nat) : Lib.bitLen x ≤ 64 := by
  have h : ∀ f x, Lib.bitLenAux f x ≤ f := by
    intro f
    induction f with
    | zero => intro x; simp [Lib.bitLenAux]
    | succ f ih => intro x; unfold Lib.bitLenAux; have := ih (x / 2); split <;> omega
  exact h 64 x

set_option maxHeartbeats 400000 in
theorem bits_calls (n : Int) (w : World) (hn : Hid (-9223372036854775808 ≤ n ∧ n ≤ 9223372036854775807)) :
    Calls Tryd.prog 114 #[.int .i64 n] w fun e w' => e = .returned (.int .i64 (bitsS n)) ∧ w = w' := by
  have hx : IntKind.u64.wrap (bits .xor .i64 n (n / 9223372036854775808)) = magS n := by
    have := hn.out
    rw [xor_sign n _ (by omega) (by omega) (by omega)]
    unfold magS
    rw [IntWalk.u64_in]
    · split <;> split <;> omega
    · split <;> omega
  have hm : 0 ≤ magS n ∧ magS n ≤ 18446744073709551615 := by have := hn.out; unfold magS; split <;> omega
  have HM := Lib.hid hm
  have HL := Lib.hid (bitLen_le (magS n).toNat)
  clear hm
  go_enter Tryd.func114, Tryd.ntmps114
  go_wp2_with (go_at_call 125; go_must (refine (Tryd.bits_Len64 _ _ HM.out.1 HM.out.2).mono ?_); rintro e w' ⟨rfl, rfl⟩)
  go_ret
  refine ⟨congrArg (fun x => Ending.returned (.int .i64 x)) ?_, rfl⟩
  have := HL.out
  unfold bitsS
  exact IntWalk.wrap64_in _ (by omega)

end Go.Proofs.YtofkiimaoahfjaaDoor
