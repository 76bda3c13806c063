/-
  Package bits (layer 3): a Writer: numbers.
-/
import Derived.Test.YtepbngdoeolepaaBits1
set_option linter.unusedVariables false
set_option linter.unusedSimpArgs false
namespace Go.Proofs.Ytepbngdoeolepaa
open Go.RowKit Go.Proofs.Ytepbngdoeolepaa.Pure

theorem u64_and1 (x : Int) : bits .and .u64 x 1 = x % 2 := by
  show IntKind.u64.wrap ((BitVec.ofInt 64 x &&& BitVec.ofInt 64 1).toNat : Int) = _
  rw [BitVec.toNat_and, toNat_ofInt64, toNat_ofInt64]
  have e : ((1 : Int) % 18446744073709551616).toNat = 2 ^ 1 - 1 := by decide
  rw [e, Nat.and_two_pow_sub_one_eq_mod]
  have h2 : (((x % 18446744073709551616).toNat % 2 ^ 1 : Nat) : Int) = x % 2 := by omega
  rw [h2]
  exact IntWalk.u64_in _ (by omega)

set_option maxHeartbeats 4000000 in
theorem put_calls (p : Nat) (sv : Value) (l : List Bool) (N k : Nat) (w : World) (hW : Hid (IsW w p sv l)) (hN : N < 18446744073709551616) (hk : k ≤ 64) (hs : l.length ≤ 800000000000) :
    Calls Try.prog 31 #[.pointer (some ⟨p, 0, none⟩), .int .u64 N, .int .i64 k] w fun e w' => e = .returned (.tuple #[]) ∧ Wrote w w' p sv (l ++ bitsN k N) := by
  go_enter Try.func31, Try.ntmps31
  go_wp2_with fail
  go_loopg [6] (k + 1) (fun q v6 w2 => ∃ (j d : Nat), v6 = .int .i64 ((d : Int) - 1) ∧ j + d = k ∧ Hid (Wrote w w2 p sv (l ++ bitsN j (N / 2 ^ d))) ∧ Hid (q = d + 1))
  case atStart => exact ⟨0, k, rfl, by omega, (by show Wrote _ _ _ _ _; simp only [bitsN, List.append_nil]; exact Wrote.refl hW.out), (show _ = _ from rfl)⟩
  case round =>
    obtain ⟨j, d, rfl, hjd, HWR, HQ⟩ := hrel
    cases d with
    | zero =>
      have hz : j = k := by omega
      subst hz
      go_wp2_with fail
      go_end0
      have := HWR.out
      simp only [Nat.pow_zero, Nat.div_one] at this
      exact ⟨rfl, this⟩
    | succ e =>
      obtain ⟨sv1, h1, h2, h3⟩ := HWR.out
      have HW1 := Lib.hid h1
      have HK1 := Lib.hid h2
      have HF1 := Lib.hid h3
      clear h1 h2 h3 HWR
      have hl : Hid ((l ++ bitsN j (N / 2 ^ (e + 1))).length ≤ 900000000000) := by show _ ≤ _; rw [List.length_append, bitsN_length]; omega
      have HNX : Hid (l ++ bitsN (j + 1) (N / 2 ^ e) = (l ++ bitsN j (N / 2 ^ (e + 1))) ++ [N / 2 ^ e % 2 == 1]) := by
        show _ = _
        rw [bitsN, Nat.div_div_eq_div_mul, ← Nat.pow_succ, List.append_assoc]
      have HX : Hid (wrap64 (bits BinOp.and IntKind.u64 ((N : Int) / 2 ^ e) 1) = if (N / 2 ^ e % 2 == 1) then 1 else 0) := by
        show _ = _
        rw [u64_and1]
        have h1 : ((N : Int) / 2 ^ e) = ((N / 2 ^ e : Nat) : Int) := by rw [Int.natCast_ediv, Int.natCast_pow]; rfl
        rw [h1]
        generalize N / 2 ^ e = M
        unfold wrap64
        rcases Nat.mod_two_eq_zero_or_one M with h | h
        · simp [h]; omega
        · simp [h]; omega
      go_wp2_with (first
        | (go_at_call 58; go_must (with_reducible refine (bit_calls p sv1 _ _ _ HX.out _ HW1 hl.out).mono ?_); rintro e' w3 ⟨rfl, hw3⟩))
      go_roundg (gk - 1)
      case measure => have := HQ.out; omega
      case rel =>
        refine ⟨j + 1, e, by go_num, by omega, ?_, (show _ = _ from by have := HQ.out; omega)⟩
        show Wrote _ _ _ _ _
        rw [HNX.out]
        exact Wrote.then_ HK1.out HF1.out hw3

theorem put_at (p : Nat) (sv : Value) (l : List Bool) (N k : Nat) (N' k' : Int) (h1 : N' = N) (h2 : k' = k) (w : World) (hW : Hid (IsW w p sv l)) (hN : N < 18446744073709551616) (hk : k ≤ 64) (hs : l.length ≤ 800000000000) :
    Calls Try.prog 31 #[.pointer (some ⟨p, 0, none⟩), .int .u64 N', .int .i64 k'] w fun e w' => e = .returned (.tuple #[]) ∧ Wrote w w' p sv (l ++ bitsN k N) := by
  subst h1 h2
  exact put_calls p sv l N k w hW hN hk hs

theorem bwide_calls (k : Int) (w : World) :
    Calls Try.prog 30 #[.int .i64 k] w fun e w' => e = .returned (.bool (!decide (0 ≤ k ∧ k ≤ 32))) ∧ w = w' := by
  by_cases h1 : k < 0
  · go_enter Try.func30, Try.ntmps30
    go_wp2
    go_ret
    have : ¬ (0 ≤ k) := by omega
    simp [this]
  · by_cases h2 : 32 < k
    · go_enter Try.func30, Try.ntmps30
      go_wp2
      go_ret
      have : ¬ (k ≤ 32) := by omega
      simp [this]
    · go_enter Try.func30, Try.ntmps30
      go_wp2
      go_ret
      have e1 : 0 ≤ k := by omega
      have e2 : k ≤ 32 := by omega
      simp [e1, e2]

theorem bwide_ok (k : Int) (w : World) (h0 : 0 ≤ k) (h1 : k ≤ 32) : Calls Try.prog 30 #[.int .i64 k] w fun e w' => e = .returned (.bool false) ∧ w = w' := by
  have := bwide_calls k w
  rw [decide_eq_true (show 0 ≤ k ∧ k ≤ 32 from ⟨h0, h1⟩)] at this
  exact this
theorem bwide_no (k : Int) (w : World) (h : k < 0 ∨ 32 < k) : Calls Try.prog 30 #[.int .i64 k] w fun e w' => e = .returned (.bool true) ∧ w = w' := by
  have := bwide_calls k w
  rw [decide_eq_false (show ¬ (0 ≤ k ∧ k ≤ 32) by omega)] at this
  exact this

/-- Put's error, and what it puts. -/
def putE (n k : Int) : Int := if k < 0 ∨ 32 < k then 1 else if n < 0 ∨ n / 2 ^ k.toNat ≠ 0 then 12 else 0
def putB (n k : Int) : List Bool := if putE n k = 0 then bitsN k.toNat n.toNat else []

set_option maxHeartbeats 4000000 in
theorem wPut_calls (p : Nat) (sv : Value) (l : List Bool) (n k : Int) (w : World) (hW : Hid (IsW w p sv l)) (hn : Hid (-9223372036854775808 ≤ n ∧ n ≤ 9223372036854775807)) (hs : l.length ≤ 800000000000) :
    Calls Try.prog 14 #[.pointer (some ⟨p, 0, none⟩), .int .i64 n, .int .i64 k] w fun e w' => e = .returned (.int .i64 (putE n k)) ∧ Wrote w w' p sv (l ++ putB n k) := by
  obtain ⟨n0, n1⟩ := hn.out
  by_cases hk : k < 0 ∨ 32 < k
  · have e1 : putE n k = 1 := by unfold putE; rw [if_pos hk]
    have e2 : putB n k = [] := by unfold putB; rw [e1]; rfl
    rw [e1, e2, List.append_nil]
    have hkd : (decide (0 ≤ k ∧ k ≤ 32)) = false := decide_eq_false (by omega)
    have HKD := Lib.hid hkd
    clear hkd e1 e2
    go_enter Try.func14, Try.ntmps14
    go_wp2_with (first
      | (go_at_call 30; go_must (refine (bwide_calls _ _).mono ?_); rw [HKD.out]; rintro e w1 ⟨rfl, rfl⟩))
    go_ret
    exact ⟨rfl, Wrote.refl hW.out⟩
  · have hkd : (decide (0 ≤ k ∧ k ≤ 32)) = true := decide_eq_true (by omega)
    have HKD := Lib.hid hkd
    obtain ⟨kn, rfl⟩ : ∃ kn : Nat, k = kn := ⟨k.toNat, by omega⟩
    by_cases hneg : n < 0
    · have e1 : putE n kn = 12 := by unfold putE; rw [if_neg hk, if_pos (.inl hneg)]
      have e2 : putB n kn = [] := by unfold putB; rw [e1]; rfl
      rw [e1, e2, List.append_nil]
      clear hkd e1 e2 hk
      go_enter Try.func14, Try.ntmps14
      go_wp2_with (first
        | (go_at_call 30; go_must (refine (bwide_calls _ _).mono ?_); rw [HKD.out]; rintro e w1 ⟨rfl, rfl⟩))
      go_ret
      exact ⟨rfl, Wrote.refl hW.out⟩
    · obtain ⟨N, rfl⟩ : ∃ N : Nat, n = N := ⟨n.toNat, by omega⟩
      have hdv : (N : Int) / 2 ^ kn = ((N / 2 ^ kn : Nat) : Int) := by rw [Int.natCast_ediv, Int.natCast_pow]; rfl
      by_cases hw : N / 2 ^ kn = 0
      · have e1 : putE N kn = 0 := by unfold putE; rw [if_neg hk, if_neg (by rw [Int.toNat_natCast, hdv, hw]; omega)]
        have e2 : putB N kn = bitsN kn N := by unfold putB; rw [if_pos e1]; rfl
        rw [e1, e2]
        have hz : ((N : Int) / 2 ^ kn != 0) = false := by rw [hdv, hw]; rfl
        have hN64 : N < 18446744073709551616 := by omega
        have hk64 : kn ≤ 64 := by omega
        have huw : IntKind.u64.wrap (N : Int) = N := IntWalk.u64_in _ (by omega)
        clear hkd e1 e2 hk hdv hw
        go_enter Try.func14, Try.ntmps14
        go_wp2_with (first
          | (go_at_call 30; go_must (refine (bwide_calls _ _).mono ?_); rw [HKD.out]; rintro e w1 ⟨rfl, rfl⟩)
          | (go_at_call 31; go_must (with_reducible refine (put_calls p sv l N kn _ hW hN64 hk64 hs).mono ?_); rintro e w1 ⟨rfl, hw1⟩))
        go_ret
        exact ⟨rfl, hw1⟩
      · have e1 : putE N kn = 12 := by unfold putE; rw [if_neg hk, if_pos (.inr (by rw [Int.toNat_natCast, hdv]; omega))]
        have e2 : putB N kn = [] := by unfold putB; rw [e1]; rfl
        rw [e1, e2, List.append_nil]
        have hz : ((N : Int) / 2 ^ kn != 0) = true := by rw [hdv]; simp; omega
        have hk64 : kn ≤ 64 := by omega
        clear hkd e1 e2 hk hdv hw
        go_enter Try.func14, Try.ntmps14
        go_wp2_with (first
          | (go_at_call 30; go_must (refine (bwide_calls _ _).mono ?_); rw [HKD.out]; rintro e w1 ⟨rfl, rfl⟩))
        go_ret
        exact ⟨rfl, Wrote.refl hW.out⟩

/-- Is n a signed number of k bits? -/
def sgnB (n k : Int) : Bool := if k = 0 then decide (n = 0) else decide (-(2 ^ (k.toNat - 1)) ≤ n ∧ n < 2 ^ (k.toNat - 1))
/-- PutSigned's error, and what it puts. -/
def psE (n k : Int) : Int := if k < 0 ∨ 32 < k then 1 else if sgnB n k = false then 12 else 0
def psB (n k : Int) : List Bool := if psE n k = 0 then bitsN k.toNat (n % 18446744073709551616).toNat else []

theorem sgn_shift (n : Int) (j : Nat) : (-(2 ^ j) ≤ n ∧ n < 2 ^ j) ↔ (n / 2 ^ j = 0 ∨ n / 2 ^ j = -1) := by
  have hp : (0 : Int) < 2 ^ j := Int.pow_pos (by omega)
  have h1 := Int.mul_ediv_add_emod n (2 ^ j)
  have h2 := Int.emod_nonneg n (show (2 : Int) ^ j ≠ 0 by omega)
  have h3 := Int.emod_lt_of_pos n hp
  generalize (2 : Int) ^ j = P at *
  constructor
  · rintro ⟨a, b⟩
    have h4 : -1 ≤ n / P := by
      rcases Int.lt_or_le (n / P) (-1) with h | h
      · have : P * (n / P) ≤ P * (-2) := Int.mul_le_mul_of_nonneg_left (by omega) (by omega)
        omega
      · exact h
    have h5 : n / P ≤ 0 := by
      rcases Int.lt_or_le 0 (n / P) with h | h
      · have : P * 1 ≤ P * (n / P) := Int.mul_le_mul_of_nonneg_left (by omega) (by omega)
        omega
      · exact h
    omega
  · rintro (h | h)
    · rw [h] at h1; omega
    · rw [h] at h1; omega

set_option maxHeartbeats 4000000 in
theorem wPutSigned_calls (p : Nat) (sv : Value) (l : List Bool) (n k : Int) (w : World) (hW : Hid (IsW w p sv l)) (hn : Hid (-9223372036854775808 ≤ n ∧ n ≤ 9223372036854775807)) (hs : l.length ≤ 800000000000) :
    Calls Try.prog 43 #[.pointer (some ⟨p, 0, none⟩), .int .i64 n, .int .i64 k] w fun e w' => e = .returned (.int .i64 (psE n k)) ∧ Wrote w w' p sv (l ++ psB n k) := by
  obtain ⟨n0, n1⟩ := hn.out
  by_cases hk : k < 0 ∨ 32 < k
  · have e1 : psE n k = 1 := by unfold psE; rw [if_pos hk]
    have e2 : psB n k = [] := by unfold psB; rw [e1]; rfl
    rw [e1, e2, List.append_nil]
    have hkd : (decide (0 ≤ k ∧ k ≤ 32)) = false := decide_eq_false (by omega)
    have HKD := Lib.hid hkd
    clear hkd e1 e2
    go_enter Try.func43, Try.ntmps43
    go_wp2_with (first
      | (go_at_call 30; go_must (refine (bwide_no _ _ ?h0).mono ?_); (case h0 => omega); rintro e w1 ⟨rfl, rfl⟩))
    go_ret
    exact ⟨rfl, Wrote.refl hW.out⟩
  · have hkd : (decide (0 ≤ k ∧ k ≤ 32)) = true := decide_eq_true (by omega)
    have HKD := Lib.hid hkd
    obtain ⟨kn, rfl⟩ : ∃ kn : Nat, k = kn := ⟨k.toNat, by omega⟩
    have huw : IntKind.u64.wrap n = ((n % 18446744073709551616).toNat : Int) := by rw [IntKind.wrap_u64]; omega
    have hN64 : (n % 18446744073709551616).toNat < 18446744073709551616 := by omega
    have hk64 : kn ≤ 64 := by omega
    have hk32 : (kn : Int) ≤ 32 := by omega
    cases hsg : sgnB n kn
    · have e1 : psE n kn = 12 := by unfold psE; rw [if_neg hk, if_pos hsg]
      have e2 : psB n kn = [] := by unfold psB; rw [e1]; rfl
      rw [e1, e2, List.append_nil]
      clear hkd e1 e2 hk huw hN64
      cases kn with
      | zero =>
        have hn0 : (n != 0) = true := by unfold sgnB at hsg; simpa using hsg
        clear hsg
        go_enter Try.func43, Try.ntmps43
        go_wp2_with (first
          | (go_at_call 30; go_must (refine (bwide_ok _ _ ?h0 ?h1).mono ?_); (case h0 => omega); (case h1 => omega); rintro e w1 ⟨rfl, rfl⟩))
        go_ret
        exact ⟨rfl, Wrote.refl hW.out⟩
      | succ j =>
        have hd : ¬ (n / 2 ^ j = 0 ∨ n / 2 ^ j = -1) := by
          rw [← sgn_shift]
          unfold sgnB at hsg
          rw [if_neg (by omega)] at hsg
          simpa using hsg
        have hd1 : (n / 2 ^ j != 0) = true := by simp; omega
        have hd2 : (n / 2 ^ j != -1) = true := by simp; omega
        have hk0 : (((j + 1 : Nat) : Int) == 0) = false := by simp; omega
        have hj64 : j ≤ 64 := by omega
        clear hsg hd
        go_enter Try.func43, Try.ntmps43
        go_wp2_with (first
          | (go_at_call 30; go_must (refine (bwide_ok _ _ ?h0 ?h1).mono ?_); (case h0 => omega); (case h1 => omega); rintro e w1 ⟨rfl, rfl⟩))
        go_ret
        exact ⟨rfl, Wrote.refl hW.out⟩
    · have e1 : psE n kn = 0 := by unfold psE; rw [if_neg hk, if_neg (by rw [hsg]; simp)]
      have e2 : psB n kn = bitsN kn (n % 18446744073709551616).toNat := by unfold psB; rw [if_pos e1]; rfl
      rw [e1, e2]
      clear hkd e1 e2 hk
      generalize (n % 18446744073709551616).toNat = N at *
      cases kn with
      | zero =>
        obtain rfl : n = 0 := by unfold sgnB at hsg; simpa using hsg
        clear hsg
        go_enter Try.func43, Try.ntmps43
        go_wp2_with (first
          | (go_at_call 30; go_must (refine (bwide_ok _ _ ?h0 ?h1).mono ?_); (case h0 => omega); (case h1 => omega); rintro e w1 ⟨rfl, rfl⟩)
          | (go_at_call 31; go_must (with_reducible refine (put_at p sv l N 0 _ 0 rfl rfl _ hW hN64 (by omega) hs).mono ?_); rintro e w1 ⟨rfl, hw1⟩))
        go_ret
        exact ⟨rfl, hw1⟩
      | succ j =>
        have hd : (n / 2 ^ j = 0 ∨ n / 2 ^ j = -1) := by
          rw [← sgn_shift]
          unfold sgnB at hsg
          rw [if_neg (by omega)] at hsg
          simpa using hsg
        have hk0 : (((j + 1 : Nat) : Int) == 0) = false := by simp; omega
        have hj64 : j ≤ 64 := by omega
        clear hsg
        rcases hd with hd | hd
        all_goals
          first
            | (have hd1 : (n / 2 ^ j != 0) = false := by simp; omega)
            | (have hd1 : (n / 2 ^ j != 0) = true := by simp; omega)
          first
            | (have hd2 : (n / 2 ^ j != -1) = false := by simp; omega)
            | (have hd2 : (n / 2 ^ j != -1) = true := by simp; omega)
          clear hd
          go_enter Try.func43, Try.ntmps43
          go_wp2_with (first
            | (go_at_call 30; go_must (refine (bwide_ok _ _ ?h0 ?h1).mono ?_); (case h0 => omega); (case h1 => omega); rintro e w1 ⟨rfl, rfl⟩)
            | (go_at_call 31; go_must (with_reducible refine (put_at p sv l N (j + 1) _ _ rfl (Int.natCast_succ j).symm _ hW hN64 hk64 hs).mono ?_); rintro e w1 ⟨rfl, hw1⟩))
          go_ret
          exact ⟨rfl, hw1⟩
end Go.Proofs.Ytepbngdoeolepaa
