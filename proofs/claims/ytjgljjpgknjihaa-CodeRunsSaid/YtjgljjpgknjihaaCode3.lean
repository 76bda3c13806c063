/-
  Package code (layer 5): Bits; the document's Fold, Unfold, Bits; the statements' 'known'.
-/
import Derived.Test.YtjgljjpgknjihaaCode2
set_option linter.unusedVariables false
set_option linter.unusedSimpArgs false
namespace Go.Proofs.Ytjgljjpgknjihaa
open Go.RowKit Go.Proofs.Ytjgljjpgknjihaa.Pure

/-- The number from 0 on that has as many bits. -/
def magS (n : Int) : Int := if n < 0 then -1 - n else n
def bitsS (n : Int) : Int := (Lib.bitLen (magS n).toNat : Int) + 1

theorem bitLen_le (x : Nat) : Lib.bitLen x ≤ 64 := by
  have h : ∀ f x, Lib.bitLenAux f x ≤ f := by
    intro f
    induction f with
    | zero => intro x; simp [Lib.bitLenAux]
    | succ f ih => intro x; unfold Lib.bitLenAux; have := ih (x / 2); split <;> omega
  exact h 64 x

set_option maxHeartbeats 400000 in
theorem bits_calls (n : Int) (w : World) (hn : Hid (-9223372036854775808 ≤ n ∧ n ≤ 9223372036854775807)) :
    Calls Try.prog 11 #[.int .i64 n] w fun e w' => e = .returned (.int .i64 (bitsS n)) ∧ w = w' := by
  have hx : IntKind.u64.wrap (bits .xor .i64 n (n / 9223372036854775808)) = magS n := by
    have := hn.out
    rw [xor_sign n _ (by omega) (by omega) (by omega)]
    unfold magS
    rw [IntWalk.u64_in]
    · split <;> split <;> omega
    · split <;> omega
  have hm : 0 ≤ magS n ∧ magS n ≤ 18446744073709551615 := by have := hn.out; unfold magS; split <;> omega
  have HM := Lib.hid hm
  have HL := Lib.hid (bitLen_le (magS n).toNat)
  clear hm
  go_enter Try.func11, Try.ntmps11
  go_wp2_with (go_at_call 20; go_must (refine (Try.bits_Len64 _ _ HM.out.1 HM.out.2).mono ?_); rintro e w' ⟨rfl, rfl⟩)
  go_ret
  refine ⟨congrArg (fun x => Ending.returned (.int .i64 x)) ?_, rfl⟩
  have := HL.out
  unfold bitsS
  exact IntWalk.wrap64_in _ (by omega)

theorem docFold_calls (n : Int) (w : World) (h0 : -1099511627776 ≤ n) (h1 : n ≤ 1099511627776) :
    Calls Try.prog 12 #[.int .i64 n] w fun e w' => e = .returned (.tuple #[.int .i64 (foldS n), .int .i64 0]) ∧ w = w' := by
  by_cases h : n < 0
  · unfold foldS
    rw [if_pos h]
    go_enter Try.func12, Try.ntmps12
    go_wp2
    go_ret2
    exact ⟨rfl, rfl⟩
  · unfold foldS
    rw [if_neg h]
    go_enter Try.func12, Try.ntmps12
    go_wp2
    go_ret2
    exact ⟨rfl, rfl⟩
theorem docFold_err (n : Int) (w : World) (h : n < -1099511627776 ∨ 1099511627776 < n) :
    Calls Try.prog 12 #[.int .i64 n] w fun e w' => e = .returned (.tuple #[.int .i64 0, .int .i64 12]) ∧ w = w' := by
  rcases h with h | h
  all_goals
    go_enter Try.func12, Try.ntmps12
    go_wp2
    go_ret2
    exact ⟨rfl, rfl⟩

theorem docUnfold_calls (n : Int) (w : World) (h0 : 0 ≤ n) (h1 : n ≤ 2199023255552) :
    Calls Try.prog 13 #[.int .i64 n] w fun e w' => e = .returned (.tuple #[.int .i64 (unfoldS n), .int .i64 0]) ∧ w = w' := by
  by_cases h : n % 2 = 1
  · have hb : (n % 2 == 1) = true := by simp [h]
    unfold unfoldS
    rw [if_pos h]
    have H := Lib.hid h
    clear h
    go_enter Try.func13, Try.ntmps13
    go_wp2
    go_ret2
    refine ⟨congrArg (fun x => Ending.returned (.tuple #[.int .i64 x, .int .i64 0])) ?_, rfl⟩
    have := H.out
    rw [Int.tdiv_eq_ediv_of_nonneg (by omega)]
    exact IntWalk.wrap64_in _ (by omega)
  · have hb : (n % 2 == 1) = false := by simp [h]
    unfold unfoldS
    rw [if_neg h]
    have H := Lib.hid h
    clear h
    go_enter Try.func13, Try.ntmps13
    go_wp2
    go_ret2
    exact ⟨rfl, rfl⟩
theorem docUnfold_err (n : Int) (w : World) (h : n < 0 ∨ 2199023255552 < n) :
    Calls Try.prog 13 #[.int .i64 n] w fun e w' => e = .returned (.tuple #[.int .i64 0, .int .i64 12]) ∧ w = w' := by
  rcases h with h | h
  all_goals
    go_enter Try.func13, Try.ntmps13
    go_wp2
    go_ret2
    exact ⟨rfl, rfl⟩

theorem bitLen_step (m : Int) (h0 : 0 < m) (h1 : m ≤ 9223372036854775807) : Lib.bitLen m.toNat = 1 + Lib.bitLen (m / 2).toNat := by
  rw [Lib.bitLen_half m.toNat (by omega) (by omega)]
  congr 2
  omega
theorem half_in (m : Int) (h0 : 0 < m) (h1 : m ≤ 9223372036854775807) : wrap64 (m.tdiv 2) = m / 2 := by
  rw [Int.tdiv_eq_ediv_of_nonneg (by omega)]
  exact IntWalk.wrap64_in _ (by omega)
theorem bitLen_zero : Lib.bitLen 0 = 0 := by decide

set_option maxHeartbeats 400000 in
theorem refBits_calls (n : Int) (w : World) (hn : Hid (-9223372036854775808 ≤ n ∧ n ≤ 9223372036854775807)) :
    Calls Try.prog 15 #[.int .i64 n] w fun e w' => e = .returned (.int .i64 (bitsS n)) ∧ w = w' := by
  have HL := Lib.hid (bitLen_le (magS n).toNat)
  have hm : Hid (0 ≤ magS n ∧ magS n ≤ 9223372036854775807) := by have := hn.out; unfold magS; show _ ∧ _; split <;> omega
  have hm2 : Hid (wrap64 (-wrap64 (n + 1)) = -1 - n ∨ 0 ≤ n) := by have := hn.out; unfold wrap64; show _ ∨ _; omega
  by_cases h : n < 0
  all_goals
    go_enter Try.func15, Try.ntmps15
    go_wp2
    go_loopg [0, 3] 66 (fun q v0 v3 w2 => w2 = w ∧ ∃ (m k : Int), v0 = .int .i64 m ∧ v3 = .int .i64 k ∧ 0 ≤ m ∧ 0 ≤ k ∧ k ≤ 100 ∧ Hid (m ≤ 9223372036854775807) ∧ Hid ((Lib.bitLen m.toNat : Int) + k = bitsS n) ∧ Hid (q + k = 67))
    case atStart =>
      refine ⟨rfl, magS n, 1, ?_, rfl, hm.out.1, by omega, by omega, hm.out.2, rfl, (show _ = _ from by omega)⟩
      have := hm2.out
      unfold magS
      split <;> (first | rfl | (congr 1; omega))
    case round =>
      obtain ⟨rfl, m, k, rfl, rfl, hm0, hk0, hk1, hmx, HK, HQ⟩ := hrel
      by_cases h0 : 0 < m
      · go_wp2
        have hst := bitLen_step m h0 hmx.out
        have h3 := HK.out
        have h4 := HL.out
        have h5 := HQ.out
        unfold bitsS at h3
        go_roundg (gk - 1)
        case measure => omega
        case rel => exact ⟨rfl, m / 2, k + 1, by rw [half_in m h0 hmx.out], rfl, by omega, by omega, by omega, (show _ ≤ _ from by have := hmx.out; omega), (show _ = _ from by unfold bitsS; omega), (show _ = _ from by omega)⟩
      · obtain rfl : m = 0 := by omega
        go_wp2
        go_ret
        have h3 := HK.out
        rw [show (0 : Int).toNat = 0 from rfl, bitLen_zero] at h3
        exact ⟨congrArg (fun x => Ending.returned (.int .i64 x)) (by omega), rfl⟩

set_option maxHeartbeats 400000 in
theorem known_calls (w : World) :
    Calls Try.prog 9 #[] w fun e w' => e = .returned (.bool true) ∧ Keeps [] w w' := by
  go_enter Try.func9, Try.ntmps9
  go_wp2_with (first | (go_at_call 17; go_must (refine (put_calls _ _ (by decide) (by decide)).mono ?_); rintro e w1 ⟨v1, rfl, hr1, hf1, hk1⟩; have hc1 := hr1.textv (P := Try.prog) 30 5 9 Try.underlying30 Try.underlying5 Try.underlying9; rw [show strOfNums (putS 128) = ⟨#[194, 128]⟩ from rfl] at hc1; clear hr1 hf1) | (go_at_call 10; go_must (refine (fold_calls _ _ (by decide) (by decide)).mono ?_); rw [show foldS (-1) = 1 from rfl]; rintro e w' ⟨rfl, rfl⟩))
  go_ret
  exact ⟨rfl, hk1⟩
end Go.Proofs.Ytjgljjpgknjihaa
