/-
  The document's digits (shellacref03): Put, PutSigned, Unary.
-/
import Derived.Test.YtepbngdoeolepaaBits7
import Derived.Test.YtepbngdoeolepaaRef3a
set_option linter.unusedVariables false
set_option linter.unusedSimpArgs false
namespace Go.Proofs.Ytepbngdoeolepaa
open Go.RowKit Go.Proofs.Ytepbngdoeolepaa.Pure

theorem putE_cases (n : Int) (j : Nat) (hj : j ≤ 32) : (n < 0 → putE n j = 12) ∧ (0 ≤ n → (2 : Int) ^ j ≤ n → putE n j = 12) ∧ (0 ≤ n → n < (2 : Int) ^ j → putE n j = 0) := by
  have hp : (0 : Int) < 2 ^ j := Int.pow_pos (by omega)
  have e : putE n j = if n < 0 ∨ n / 2 ^ j ≠ 0 then 12 else 0 := by
    unfold putE
    rw [if_neg (by omega), Int.toNat_natCast]
  refine ⟨fun h => ?_, fun h0 h => ?_, fun h0 h => ?_⟩
  · rw [e, if_pos (.inl h)]
  · rw [e, if_pos]
    refine .inr ?_
    intro h1
    have h2 := Int.emod_add_mul_ediv n (2 ^ j)
    rw [h1, Int.mul_zero] at h2
    have := Int.emod_lt_of_pos n hp
    omega
  · rw [e, if_neg]
    rintro (h1 | h1)
    · omega
    · exact h1 (Int.ediv_eq_zero_of_lt h0 h)

theorem ps_bits (n : Int) (j : Nat) (hj : j ≤ 32) (h0 : n < 0) (h1 : -(2 ^ j) ≤ n) : bitsN j (n + 2 ^ j).toNat = bitsN j (n % 18446744073709551616).toNat := by
  obtain ⟨p0, p1⟩ := pow_le33 j (by omega)
  have hdvd : (2 ^ j : Nat) ∣ 18446744073709551616 := by
    have : (18446744073709551616 : Nat) = 2 ^ 64 := by decide
    rw [this]
    exact Nat.pow_dvd_pow 2 (by omega)
  obtain ⟨q, hq⟩ := hdvd
  refine bitsN_eq ?_
  obtain ⟨P, hP⟩ : ∃ P : Nat, 2 ^ j = P := ⟨_, rfl⟩
  have hPi : (2 : Int) ^ j = (P : Int) := by rw [← hP]; simp
  rw [hPi] at h1 p0 p1 ⊢
  rw [hP] at hq ⊢
  clear hPi hP
  have e : n % 18446744073709551616 = n + 18446744073709551616 := by omega
  rw [e]
  have e2 : (n + 18446744073709551616).toNat = (n + P).toNat + P * (q - 1) := by
    have hq1 : 1 ≤ q := by
      rcases Nat.eq_zero_or_pos q with h | h
      · rw [h] at hq; omega
      · exact h
    obtain ⟨r, rfl⟩ : ∃ r, q = r + 1 := ⟨q - 1, by omega⟩
    rw [Nat.mul_add] at hq
    rw [Nat.add_sub_cancel]
    generalize P * r = M at *
    omega
  rw [e2, Nat.add_mul_mod_self_left]
theorem ps_bits0 (n : Int) (h0 : 0 ≤ n) (h1 : n ≤ 9223372036854775807) : (n % 18446744073709551616).toNat = n.toNat := by omega

theorem sgn_range (n : Int) (j : Nat) (h : sgnB n j = true) : -(2 ^ j) ≤ n ∧ n < 2 ^ j := by
  have hp : (0 : Int) < 2 ^ j := Int.pow_pos (by omega)
  cases j with
  | zero => unfold sgnB at h; simp at h; subst h; simp
  | succ i =>
    have e : sgnB n ((i + 1 : Nat) : Int) = decide (-(2 ^ i) ≤ n ∧ n < 2 ^ i) := by
      unfold sgnB
      rw [if_neg (by omega), Int.toNat_natCast, Nat.add_sub_cancel]
    rw [e] at h
    have h := of_decide_eq_true h
    have hp2 : (0 : Int) < 2 ^ i := Int.pow_pos (by omega)
    rw [Int.pow_succ]
    omega

set_option maxHeartbeats 1000000 in
theorem refPutSigned_calls (n k : Int) (w : World) (hn : Hid (-9223372036854775808 ≤ n ∧ n ≤ 9223372036854775807)) :
    Calls Try.prog 37 #[.int .i64 n, .int .i64 k] w fun e w' => e = .returned (.tuple #[.string (dstr (psB n k)), .int .i64 (psE n k)]) ∧ Keeps [] w w' := by
  have hnr := hn.out
  have ed : dstr [] = ⟨#[]⟩ := rfl
  by_cases hk : k < 0 ∨ 32 < k
  · have e1 : psE n k = 1 := by unfold psE; rw [if_pos hk]
    have e2 : psB n k = [] := by unfold psB; rw [e1]; rfl
    rw [e1, e2, ed]
    have hk' : k < 0 ∨ (0 ≤ k ∧ 32 < k) := by omega
    clear e1 e2 ed hk
    rcases hk' with h | ⟨h0, h⟩
    all_goals
      go_enter Try.func37, Try.ntmps37
      go_wp2
      go_ret2
      exact ⟨rfl, Keeps.refl _ _⟩
  · obtain ⟨j, rfl⟩ : ∃ j : Nat, k = (j : Int) := ⟨k.toNat, by omega⟩
    have hj : j ≤ 32 := by omega
    obtain ⟨p0, p1⟩ := pow_le33 j (by omega)
    have hw : wrap64 (2 ^ j) = 2 ^ j := by unfold wrap64; omega
    have HSG := Lib.hid (fun W => refSigned_calls n j W (by omega))
    cases hs : sgnB n (j : Int) with
    | false =>
      have e1 : psE n j = 12 := by unfold psE; rw [if_neg (by omega), if_pos hs]
      have e2 : psB n j = [] := by unfold psB; rw [e1]; rfl
      rw [e1, e2, ed]
      rw [hs] at HSG
      clear e1 e2 ed hk hs
      go_enter Try.func37, Try.ntmps37
      go_wp2_with (first
        | (go_at_call 11; go_must (with_reducible refine (HSG.out _).mono ?_); rintro e w1 ⟨rfl, rfl⟩))
      go_ret2
      exact ⟨rfl, Keeps.refl _ _⟩
    | true =>
      obtain ⟨s0, s1⟩ := sgn_range n j hs
      have e1 : psE n j = 0 := by unfold psE; rw [if_neg (by omega), if_neg (by rw [hs]; simp)]
      have e2 : psB n j = bitsN j (n % 18446744073709551616).toNat := by unfold psB; rw [e1]; rfl
      rw [e1, e2]
      rw [hs] at HSG
      have HD : Hid (∀ (N : Int) (W : World), 0 ≤ N → N ≤ 9223372036854775807 → Calls Try.prog 34 #[.int .i64 N, .int .i64 j] W fun e w' => e = .returned (.string (dstr (bitsN j N.toNat))) ∧ Keeps [] W w') := by
        intro N W h0 h1
        have := digits_callsI N j W (by omega) (by omega) h0 h1
        rwa [Int.toNat_natCast] at this
      clear e1 e2 ed hk hs
      by_cases h0 : n < 0
      · rw [← ps_bits n j hj h0 s0]
        have hw2 : wrap64 (n + 2 ^ j) = n + 2 ^ j := by unfold wrap64; omega
        have hr0 : 0 ≤ n + 2 ^ j := by omega
        have hr1 : n + 2 ^ j ≤ 9223372036854775807 := by omega
        have HD2 := Lib.hid (fun W => HD.out (n + 2 ^ j) W hr0 hr1)
        clear HD
        go_enter Try.func37, Try.ntmps37
        go_wp2_with (first
          | (go_at_call 11; go_must (with_reducible refine (HSG.out _).mono ?_); rintro e w1 ⟨rfl, rfl⟩)
          | (go_at_call 34; go_must (with_reducible refine (HD2.out _).mono ?_); rintro e w1 ⟨rfl, hk1⟩))
        go_ret2
        exact ⟨rfl, hk1⟩
      · rw [ps_bits0 n (by omega) hnr.2]
        have HD2 := Lib.hid (fun W => HD.out n W (by omega) hnr.2)
        clear HD
        go_enter Try.func37, Try.ntmps37
        go_wp2_with (first
          | (go_at_call 11; go_must (with_reducible refine (HSG.out _).mono ?_); rintro e w1 ⟨rfl, rfl⟩)
          | (go_at_call 34; go_must (with_reducible refine (HD2.out _).mono ?_); rintro e w1 ⟨rfl, hk1⟩))
        go_ret2
        exact ⟨rfl, hk1⟩

theorem un_fill (i m : Nat) (h : i < m) : (List.replicate i (48 : Int) ++ List.replicate (m - i) 0).set i 48 = List.replicate (i + 1) 48 ++ List.replicate (m - (i + 1)) 0 := by
  rw [List.set_append_right _ _ (by simp)]
  rw [show m - i = (m - (i + 1)) + 1 by omega, List.replicate_succ, List.length_replicate, Nat.sub_self, List.set_cons_zero, List.replicate_succ', List.append_assoc]
  rfl
theorem un_end (m : Nat) : (List.replicate m (48 : Int) ++ List.replicate 1 0).set m 49 = (List.replicate m false ++ [true]).map dg := by
  rw [List.set_append_right _ _ (by simp)]
  simp [dg]

set_option maxHeartbeats 1000000 in
theorem refUnary_calls (n : Int) (w : World) :
    Calls Try.prog 39 #[.int .i64 n] w fun e w' => e = .returned (.tuple #[.string (dstr (unB n)), .int .i64 (unE n)]) ∧ Keeps [] w w' := by
  have ed : dstr [] = ⟨#[]⟩ := rfl
  by_cases hn : n < 0 ∨ 65536 < n
  · have e1 : unE n = 1 := by unfold unE; rw [if_pos hn]
    have e2 : unB n = [] := by unfold unB; rw [e1]; rfl
    rw [e1, e2, ed]
    have hn' : n < 0 ∨ (0 ≤ n ∧ 65536 < n) := by omega
    clear hn e1 e2 ed
    rcases hn' with h | ⟨h0, h⟩
    all_goals
      go_enter Try.func39, Try.ntmps39
      go_wp2
      go_ret2
      exact ⟨rfl, Keeps.refl _ _⟩
  · have e1 : unE n = 0 := by unfold unE; rw [if_neg hn]
    have e2 : unB n = List.replicate n.toNat false ++ [true] := by unfold unB; rw [e1]; rfl
    rw [e1, e2]
    clear e1 e2 ed
    obtain ⟨m, rfl⟩ : ∃ m : Nat, n = (m : Int) := ⟨n.toNat, by omega⟩
    rw [Int.toNat_natCast]
    have hm : m ≤ 65536 := by omega
    clear hn
    have hmk : ∀ W : World, (Instr.makeSlice 40 (.int .i64 ((m : Int) + 1)) (.int .i64 ((m : Int) + 1))).run Try.prog W = .ok (.slice (some ⟨W.heap.size, 0, none⟩) (m + 1) (m + 1)) (W.alloc (.cells (madeCells #[.int .u8 0] (m + 1)) 5)) :=
      fun W => run_make_row' 40 5 (.int .u8 0) 1 Try.underlying40 info_u8 rfl .i64 .i64 (m + 1) (by omega) (by omega) W
    have HT := Lib.hid (un_end m)
    have hd1 : decide ((m : Int) < 0) = false := decide_eq_false (by omega)
    have hd2 : decide ((65536 : Int) < (m : Int)) = false := decide_eq_false (by omega)
    go_enter Try.func39, Try.ntmps39
    go_wp2
    clear hmk
    go_loopg [5] (m + 1) (fun q v5 wr => ∃ i : Nat, v5 = .int .i64 i ∧ i ≤ m ∧ Hid (i + q = m + 1) ∧
      Hid (Row wr .u8 5 (.slice (some ⟨w.heap.size, 0, none⟩) (m + 1) (m + 1)) (List.replicate i 48 ++ List.replicate (m + 1 - i) 0)) ∧ Hid (Keeps [] w wr))
    case atStart => exact ⟨0, rfl, by omega, (show _ = _ from by omega), (show Row _ _ _ _ _ from by simpa using Row.made w .u8 5 (m + 1) (by omega)), (Keeps.refl _ _).alloc _⟩
    case round =>
      obtain ⟨i, rfl, hi, H, HR, HK⟩ := hrel
      have hl : (List.replicate i (48 : Int) ++ List.replicate (m + 1 - i) 0).length = m + 1 := by simp; omega
      have hx : ∃ v, wr.cell? ⟨w.heap.size, i, none⟩ = some v := ⟨_, HR.out.cell i (by omega)⟩
      obtain ⟨v, hx⟩ := hx
      have hc := HR.out.frozen i
      have HL := Lib.hid hl
      clear hl
      by_cases him : i < m
      · have HS := Lib.hid (fun x => HR.out.set i x)
        have HQ := Lib.hid (un_fill i (m + 1) (by omega))
        go_wp2
        go_roundg (m - i)
        case measure => have := H.out; omega
        case rel =>
          refine ⟨i + 1, by go_num, by omega, (show _ = _ from by omega), ?_, HK.out.setCell (.inr (Nat.le_refl _)) _⟩
          show Row _ _ _ _ _
          rw [← HQ.out]
          exact HS.out _
      · obtain rfl : i = m := by omega
        have HS := HR.out.set i 49
        rw [show i + 1 - i = 1 by omega, HT.out] at HS
        have HKS : Hid (Keeps [] w (wr.setCell ⟨w.heap.size, i, none⟩ (.int .u8 49))) := HK.out.setCell (.inr (Nat.le_refl _)) _
        have hcv := HS.text (P := Try.prog) (by simp) 40 5 9 Try.underlying40 Try.underlying5 Try.underlying9
        rw [str_dg] at hcv
        clear HS HR HT HL H HK
        go_wp2
        go_ret2
        exact ⟨rfl, HKS.out⟩
end Go.Proofs.Ytepbngdoeolepaa
