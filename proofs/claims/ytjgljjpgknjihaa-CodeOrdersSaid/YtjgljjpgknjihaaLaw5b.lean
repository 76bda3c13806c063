/-
  The statement CodeOrders of layer 5: the walk.
-/
import Derived.Test.YtjgljjpgknjihaaLaw5a
set_option linter.unusedVariables false
set_option linter.unusedSimpArgs false
namespace Go.Proofs.Ytjgljjpgknjihaa
open Go.RowKit Go.Proofs.Ytjgljjpgknjihaa.Pure

/-! ### CodeOrders -/
theorem fold_neg (n : Int) (w : World) (h0 : -1099511627776 ≤ n) (h1 : n < 0) :
    Calls Try.prog 10 #[.int .i64 n] w fun e w' => e = .returned (.tuple #[.int .i64 (-2 * n - 1), .int .i64 0]) ∧ w = w' := by
  have := fold_calls n w h0 (by omega)
  unfold foldS at this
  rwa [if_pos h1] at this
theorem fold_pos (n : Int) (w : World) (h0 : 0 ≤ n) (h1 : n ≤ 1099511627776) :
    Calls Try.prog 10 #[.int .i64 n] w fun e w' => e = .returned (.tuple #[.int .i64 (2 * n), .int .i64 0]) ∧ w = w' := by
  have := fold_calls n w (by omega) h1
  unfold foldS at this
  rwa [if_neg (by omega)] at this
theorem bitLen_mono : ∀ x y : Nat, x ≤ y → Lib.bitLen x ≤ Lib.bitLen y := by
  have h : ∀ f x y, x ≤ y → Lib.bitLenAux f x ≤ Lib.bitLenAux f y := by
    intro f
    induction f with
    | zero => intro x y _; simp [Lib.bitLenAux]
    | succ f ih =>
      intro x y hxy
      unfold Lib.bitLenAux
      have := ih (x / 2) (y / 2) (Nat.div_le_div_right hxy)
      split <;> split <;> omega
  intro x y hxy
  exact h 64 x y hxy
theorem bits_range (a : Int) : 1 ≤ bitsS a ∧ bitsS a ≤ 65 := by have := bitLen_le (magS a).toNat; unfold bitsS; omega
theorem bits_mono (a b : Int) (h : foldS a < foldS b) : bitsS a ≤ bitsS b := by
  unfold foldS at h
  have hm : (magS a).toNat ≤ (magS b).toNat := by unfold magS; repeat (first | omega | split at h | split)
  have := bitLen_mono _ _ hm
  unfold bitsS
  omega
def red (n : Int) : Int := n % 18446744073709551616 % 2199023255552 - 1099511627776

theorem red_eq (n : Int) : wrap64 (wrap64 ((IntKind.u64.wrap n).tmod 2199023255552) - 1099511627776) = red n := by
  have e : IntKind.u64.wrap n = n % 18446744073709551616 := IntKind.wrap_u64 n
  have h0 := Int.emod_nonneg n (show (18446744073709551616 : Int) ≠ 0 by omega)
  rw [e, Int.tmod_eq_emod_of_nonneg h0]
  unfold red
  generalize n % 18446744073709551616 = x at *
  have h1 := Int.emod_nonneg x (show (2199023255552 : Int) ≠ 0 by omega)
  have h2 := Int.emod_lt_of_pos x (show (0 : Int) < 2199023255552 by omega)
  rw [IntWalk.wrap64_in (x % 2199023255552) (by omega), IntWalk.wrap64_in _ (by omega)]
theorem red_range (n : Int) : -1099511627776 ≤ red n ∧ red n ≤ 1099511627775 := by
  unfold red
  have h1 := Int.emod_nonneg (n % 18446744073709551616) (show (2199023255552 : Int) ≠ 0 by omega)
  have h2 := Int.emod_lt_of_pos (n % 18446744073709551616) (show (0 : Int) < 2199023255552 by omega)
  omega

set_option maxHeartbeats 2000000 in
theorem codeOrders_walk (n m : Int) (w : World) (w0 : (Lit.int .i64 n).wf = true) (w1 : (Lit.int .i64 m).wf = true) :
    Calls Try.prog 3 #[.int .i64 n, .int .i64 m] w fun e w' => e = .returned (.bool true) ∧ Below w.heap.size w w' := by
  have HN := Lib.hid (wf_i64 w0)
  have HM := Lib.hid (wf_i64 w1)
  clear w0 w1
  go_enter Try.func3, Try.ntmps3
  go_upto_region 4 with (first
      | (go_at_call 9; go_must (refine (known_calls _).mono ?_); rintro e w1 ⟨rfl, hk1⟩))
  rw [red_eq, red_eq]
  obtain ⟨n0, n1⟩ := red_range n
  obtain ⟨m0, m1⟩ := red_range m
  generalize red n = a at *
  generalize red m = b at *
  clear HN HM
  have HB := Lib.hid (bits_mono a b)
  have HA' : Hid (-9223372036854775808 ≤ a ∧ a ≤ 9223372036854775807) := (show _ ∧ _ from by omega)
  have HB' : Hid (-9223372036854775808 ≤ b ∧ b ≤ 9223372036854775807) := (show _ ∧ _ from by omega)
  obtain ⟨ba0, ba1⟩ := bits_range a
  obtain ⟨bb0, bb1⟩ := bits_range b
  by_cases ha : a < 0
  all_goals by_cases hb : b < 0
  all_goals by_cases hab : foldS a < foldS b
  all_goals (have HB2 : Hid (foldS a < foldS b → bitsS a ≤ bitsS b) := HB)
  all_goals (try (have hB := HB2.out hab))
  all_goals (have hab' := hab; unfold foldS at hab'; (first | rw [if_pos ha] at hab' | rw [if_neg ha] at hab'); (first | rw [if_pos hb] at hab' | rw [if_neg hb] at hab'); clear hab)
  all_goals by_cases hxy : max a (-a) < max b (-b)
  all_goals by_cases hxy2 : max a (-a) = max b (-b)
  all_goals by_cases hE : a = b
  all_goals (try (exfalso; omega))
  all_goals (first | subst hE | skip)
  all_goals
    go_wp2_with (first
      | (go_at_call 10; refine (fold_neg _ _ (by omega) (by omega)).mono ?_; rintro e w1 ⟨rfl, rfl⟩)
      | (go_at_call 10; refine (fold_pos _ _ (by omega) (by omega)).mono ?_; rintro e w1 ⟨rfl, rfl⟩)
      | (go_at_call_of 11 (Value.int IntKind.i64 a); go_must (refine (bits_calls _ _ HA').mono ?_); rintro e w1 ⟨rfl, rfl⟩)
      | (go_at_call 11; go_must (refine (bits_calls _ _ HB').mono ?_); rintro e w1 ⟨rfl, rfl⟩))
  all_goals go_ret
  all_goals exact ⟨rfl, hk1.below⟩
end Go.Proofs.Ytjgljjpgknjihaa
