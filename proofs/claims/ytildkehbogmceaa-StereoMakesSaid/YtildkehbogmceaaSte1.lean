/-
  Layer 8 (stereo): the float functions of Go's library at whole numbers; side, isMode.
-/
import Derived.Test.YtildkehbogmceaaFlo
import Derived.Test.YtildkehbogmceaaMem
import Derived.Test.YtildkehbogmceaaProg
import Derived.Test.YtildkehbogmceaaBitOps
import Derived.Laws.Externs
import Derived.WalkSpells
import Derived.WalkLawsBesides
import Derived.BigQuiet
import Derived.Lib.Hide
set_option linter.unusedVariables false
set_option linter.unusedSimpArgs false
namespace Go.Proofs.Ytildkehbogmceaa
open Go.RowKit

/-- Bounds in which all stays exact. -/
abbrev Sm (n : Int) : Prop := -1125899906842624 ≤ n ∧ n ≤ 1125899906842624
theorem Sm.lt {n : Int} (h : Sm n) : n.natAbs < 2 ^ 53 := by
  have hp : (2 : Nat) ^ 53 = 9007199254740992 := by decide
  omega
theorem Sm.lt52 {n : Int} (h : Sm n) : n.natAbs < 2 ^ 52 := by
  have hp : (2 : Nat) ^ 52 = 4503599627370496 := by decide
  omega

theorem run_fbits (b : Nat) (w : World) : (callFunc 33 #[.float .f64 b]).run Try.prog w = .ok (.value (.int .u64 b)) w := by
  rw [run_callFunc_extern Try.func33 (by kernel_rfl) (by kernel_rfl) (by kernel_rfl) (e := Extern.MathFloatBits.float64bits) (by kernel_rfl)]
  rfl
theorem run_ffrom (n : Int) (w : World) : (callFunc 32 #[.int .u64 n]).run Try.prog w = .ok (.value (.float .f64 n.toNat)) w := by
  rw [run_callFunc_extern Try.func32 (by kernel_rfl) (by kernel_rfl) (by kernel_rfl) (e := Extern.MathFloatBits.float64frombits) (by kernel_rfl)]
  rfl
theorem read_FI_not (n : Int) (h : Sm n) : ∃ s m p, FloatKind.f64.decode (FI n) = .number s m p := by
  obtain ⟨k, e⟩ := read_FI n h.lt
  exact ⟨_, _, _, e⟩
theorem toIntegral_number (name : String) (way : Ieee.Toward) (x : Nat) (s : Bool) (m : Nat) (p : Int) (e : FloatKind.f64.decode x = .number s m p) :
    Extern.MathFloor.toIntegral name way #[.float .f64 x] = pure (.float .f64 (FloatKind.f64.encode ((Ieee.Datum.number s m p).integral way))) := by
  show (match FloatKind.f64.decode x with | .nan s t => _ | d => pure (Value.float .f64 (FloatKind.f64.encode (d.integral way)))) = _
  rw [e]
theorem run_trunc (n : Int) (h : Sm n) (w : World) : (callFunc 30 #[.float .f64 (FI n)]).run Try.prog w = .ok (.value (.float .f64 (FI n))) w := by
  rw [run_callFunc_extern Try.func30 (by kernel_rfl) (by kernel_rfl) (by kernel_rfl) (e := Extern.MathFloor.toIntegral "math.archTrunc" .zero) (by kernel_rfl)]
  obtain ⟨s, m, p, e⟩ := read_FI_not n h
  have ht := trunc_FI n h.lt
  have e2 : Ieee.double.read (FI n) = .number s m p := e
  rw [e2] at ht
  have : (Extern.MathFloor.toIntegral "math.archTrunc" .zero #[.float .f64 (FI n)]) = pure (.float .f64 (FI n)) := by
    rw [toIntegral_number _ _ _ _ _ _ e]
    exact congrArg (fun b => (pure (Value.float .f64 b) : Sem Value)) ht
  rw [this]
  rfl
theorem read_HI_not (s : Int) (h : Sm s) : ∃ a m p, FloatKind.f64.decode (HI s) = .number a m p := by
  by_cases h0 : s = 0
  · subst h0
    exact ⟨_, _, _, rfl⟩
  · have hw : HI s = Ieee.double.word (decide (s < 0)) (((-1 : Int) + s.natAbs.log2 + 1022).toNat * 2 ^ 52 + s.natAbs * 2 ^ (52 - s.natAbs.log2)) := by
      have := nearest_eq (decide (s < 0)) s.natAbs 0 (-1) (by omega) h.lt (by omega)
      rw [Nat.pow_zero, Nat.mul_one] at this
      exact this
    refine ⟨decide (s < 0), s.natAbs * 2 ^ (52 - s.natAbs.log2), -1 - ((52 - s.natAbs.log2 : Nat) : Int), ?_⟩
    show Ieee.double.read (HI s) = _
    rw [hw, read_eq _ _ _ (by omega) h.lt (by omega)]
theorem run_floor (s : Int) (h : Sm s) (w : World) : (callFunc 27 #[.float .f64 (HI s)]).run Try.prog w = .ok (.value (.float .f64 (FI (s / 2)))) w := by
  rw [run_callFunc_extern Try.func27 (by kernel_rfl) (by kernel_rfl) (by kernel_rfl) (e := Extern.MathFloor.toIntegral "math.archFloor" .down) (by kernel_rfl)]
  obtain ⟨a, m, p, e⟩ := read_HI_not s h
  have ht := floor_HI s h.lt52
  have e2 : Ieee.double.read (HI s) = .number a m p := e
  rw [e2] at ht
  have : (Extern.MathFloor.toIntegral "math.archFloor" .down #[.float .f64 (HI s)]) = pure (.float .f64 (FI (s / 2))) := by
    rw [toIntegral_number _ _ _ _ _ _ e]
    exact congrArg (fun b => (pure (Value.float .f64 b) : Sem Value)) ht
  rw [this]
  rfl

theorem trunc_calls (n : Int) (w : World) (h : Sm n) :
    Calls Try.prog 24 #[.float .f64 (FI n)] w fun e w' => e = .returned (.float .f64 (FI n)) ∧ w' = w := by
  have hx := fun W => run_trunc n h W
  go_enter Try.func24, Try.ntmps24
  go_wp2
  go_ret
  exact ⟨rfl, rfl⟩
theorem floor_calls (s : Int) (w : World) (h : Sm s) :
    Calls Try.prog 17 #[.float .f64 (HI s)] w fun e w' => e = .returned (.float .f64 (FI (s / 2))) ∧ w' = w := by
  have hx := fun W => run_floor s h W
  go_enter Try.func17, Try.ntmps17
  go_wp2
  go_ret
  exact ⟨rfl, rfl⟩
theorem abs_bits (n : Int) (h : Sm n) : (bits .andNot .u64 ((FI n : Nat) : Int) 9223372036854775808).toNat = FI n.natAbs := by
  obtain ⟨r, h1, h2, h3⟩ := word_lt63 n h.lt
  rw [h3, h2]
  have e : (~~~ BitVec.ofInt 64 9223372036854775808).toNat = 2 ^ 63 - 1 := by decide
  show (IntKind.u64.wrap ((BitVec.ofInt 64 _ &&& ~~~ BitVec.ofInt 64 9223372036854775808).toNat : Int)).toNat = _
  rw [BitVec.toNat_and, toNat_ofInt64, e, Nat.and_two_pow_sub_one_eq_mod]
  have hm : ((((if n < 0 then 9223372036854775808 + r else r : Nat) : Int) % 18446744073709551616).toNat % 2 ^ 63) = r := by
    split <;> omega
  rw [hm, IntWalk.u64_in _ (by omega)]
  omega
theorem abs_calls (n : Int) (w : World) (h : Sm n) :
    Calls Try.prog 26 #[.float .f64 (FI n)] w fun e w' => e = .returned (.float .f64 (FI n.natAbs)) ∧ w' = w := by
  have hb := fun b W => run_fbits b W
  have hf := fun m W => run_ffrom m W
  have ha := abs_bits n h
  go_enter Try.func26, Try.ntmps26
  go_wp2
  go_ret
  exact ⟨rfl, rfl⟩
end Go.Proofs.Ytildkehbogmceaa
