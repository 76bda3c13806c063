/-
  The document's Put (shellacref05): Encode: the same bytes as Put's.
-/
import Derived.Test.YtjgljjpgknjihaaRef5p
set_option linter.unusedVariables false
set_option linter.unusedSimpArgs false
namespace Go.Proofs.Ytjgljjpgknjihaa
open Go.RowKit Go.Proofs.Ytjgljjpgknjihaa.Pure

/-- How many bits a number of so many bytes has. -/
def rk (k : Nat) : Int := if (k : Int) = 1 then 7 else 5 * k + 1
theorem rk_calls (k : Nat) (w : World) (hk1 : 1 ≤ k) (hk7 : k ≤ 7) :
    Calls Try.prog 24 #[.int .i64 k] w fun e w' => e = .returned (.int .i64 (rk k)) ∧ w = w' :=
  refRoom_calls k w (by omega) (by omega)
theorem rk_range (k : Nat) (hk1 : 1 ≤ k) (hk7 : k ≤ 7) : 7 ≤ rk k ∧ rk k ≤ 36 := by unfold rk; split <;> omega
theorem rk_low (k : Nat) (hk1 : 1 ≤ k) (hk7 : k ≤ 7) : lowB (k + 1) = wrap64 (2 ^ (rk k).toNat) := by
  have hk' : k = 1 ∨ k = 2 ∨ k = 3 ∨ k = 4 ∨ k = 5 ∨ k = 6 ∨ k = 7 := by omega
  rcases hk' with rfl | rfl | rfl | rfl | rfl | rfl | rfl <;> simp [lowB, rk, wrap64]
theorem rk_nat (k : Nat) (hk2 : 2 ≤ k) : (rk k).toNat = 5 * k + 1 := by
  unfold rk; rw [if_neg (by omega)]; omega
theorem ones_len (k : Nat) : (List.replicate k true ++ [false]).length = k + 1 := by simp

/-- How many bytes, on the way. -/
def AtSize (n : Int) (k : Nat) : Prop := k = 1 ∨ lowB k ≤ n

theorem size_at (n : Int) (k : Nat) (h0 : 0 ≤ n) (h1 : n ≤ 68719476735) (hk1 : 1 ≤ k) (hk7 : k ≤ 7) (ha : AtSize n k) (hb : n < wrap64 (2 ^ (rk k).toNat)) : sizeB n = k ∧ (2 ≤ k → ¬ n < 128) ∧ (k = 1 → n < 128) := by
  rw [← rk_low k hk1 hk7] at hb
  unfold AtSize at ha
  have hk' : k = 1 ∨ k = 2 ∨ k = 3 ∨ k = 4 ∨ k = 5 ∨ k = 6 ∨ k = 7 := by omega
  rcases hk' with rfl | rfl | rfl | rfl | rfl | rfl | rfl <;> simp [lowB] at ha hb
  · exact ⟨by unfold sizeB; rw [if_pos hb], by omega, by omega⟩
  all_goals
    refine ⟨?_, by omega, by omega⟩
    refine (sizeB_iff n _ h0 h1 (by omega) (by omega)).2 ⟨?_, ?_⟩
    · simp [lowB]; omega
    · simp; omega

set_option maxHeartbeats 4000000 in
set_option maxRecDepth 20000 in
theorem encode_calls (n : Int) (w : World) (h0 : 0 ≤ n) (h1 : n ≤ 68719476735) :
    Calls Try.prog 21 #[.int .i64 n] w fun e w' => ∃ v, e = .returned v ∧ Row w' .u8 5 v (putS n) ∧ (∀ b, b ∈ fp v → w.heap.size ≤ b) ∧ Keeps [] w w' := by
  go_enter Try.func21, Try.ntmps21
  go_wp2_with fail
  go_loopg [3] 8 (fun q v3 w2 => w2 = w ∧ ∃ k : Nat, v3 = .int .i64 k ∧ 1 ≤ k ∧ k ≤ 7 ∧ Hid (AtSize n k) ∧ Hid (q + k = 9))
  case atStart => exact ⟨rfl, 1, rfl, by omega, by omega, .inl rfl, (show _ = _ from by omega)⟩
  case round =>
    obtain ⟨rfl, k, rfl, hk1, hk7, HS, HQ⟩ := hrel
    obtain ⟨r1, r2⟩ := rk_range k hk1 hk7
    by_cases hge : n < wrap64 (2 ^ (rk k).toNat)
    · have HAT := Lib.hid (size_at n k h0 h1 hk1 hk7 HS.out hge)
      have hdec : decide (wrap64 (2 ^ (rk k).toNat) ≤ n) = false := decide_eq_false (by omega)
      by_cases hk : k = 1
      · subst hk
        go_wp2_with (first
          | (go_at_call 24; go_must (refine (rk_calls 1 _ (by omega) (by omega)).mono ?_); rintro e w' ⟨rfl, rfl⟩))
        all_goals
          first
            | (exfalso; omega)
            | skip
        go_ret
        have hx : n < 128 := HAT.out.2.2 trivial
        have hm : n % 256 = n := by omega
        refine ⟨_, rfl, ?_, ?_, (Keeps.refl _ _).alloc _⟩
        · have := Row.lit wr .u8 5 #[.int .u8 (n : Int)] [(n : Int)] rfl (by simp)
          simpa [putS, hx, hm] using this
        · intro b hb
          change b ∈ fp (.slice (some ⟨wr.heap.size, 0, none⟩) 1 1) at hb
          rw [fp_some, List.mem_singleton] at hb
          omega
      · have hk2 : 2 ≤ k := by omega
        have hkb : ((k : Int) == 1) = false := beq_eq_false_iff_ne.2 (by omega)
        have HRN := Lib.hid (rk_nat k hk2)
        have hone := ones_extract k (by omega)
        have HP := Lib.hid (pack_enc n k h0 h1 (HAT.out.2.1 hk2) HAT.out.1)
        have hex := dstr_extract
        have hap := dstr_append
        have hsz := dstr_size
        have hz := zero_text
        have ht := ten_text
        have hol := ones_len k
        clear HS HAT
        obtain ⟨wo, rfl⟩ : ∃ wo : World, wo = wr := ⟨_, rfl⟩
        go_wp2_with (first
          | (go_at_call 24; go_must (refine (rk_calls k _ (by omega) (by omega)).mono ?_); rintro e w' ⟨rfl, rfl⟩)
          | (go_at_call 23; go_must (refine (digits_callsI _ _ _ (by omega) (by omega) h0 (by omega)).mono ?_); rintro e w1 ⟨rfl, hk1⟩; rw [HRN.out]; obtain ⟨d, hd⟩ : ∃ d, bitsN (5 * k + 1) n.toNat = d := ⟨_, rfl⟩; have hdl : d.length = 5 * k + 1 := (by rw [← hd, bitsN_length]); rw [hd]; have HD := Lib.hid hd; have HK1 := Lib.hid hk1; clear hd hk1))
        all_goals
          first
            | (exfalso; omega)
            | skip
        go_loopg [6, 7] (k + 1) (fun q v6 v7 w2 => w2 = w1 ∧ ∃ (i j : Nat) (s : List Bool), v6 = .string (dstr s) ∧ v7 = .int .i64 i ∧ i ≤ 100 ∧ s.length ≤ 100 ∧ Hid (i = 7 - k + 6 * j) ∧ Hid (j ≤ k - 1) ∧ Hid (s = (List.replicate k true ++ [false]) ++ d.take (7 - k) ++ grp j (d.drop (7 - k))) ∧ Hid (q + j = k + 1) ∧ Hid (s.length = 8 + 8 * j))
        case atStart => exact ⟨rfl, 7 - k, 0, _, rfl, by go_num, by omega, (by simp; omega), (show _ = _ from by omega), (show _ ≤ _ from by omega), (show _ = _ from by simp [grp]), (show _ = _ from by omega), (show _ = _ from by simp; omega)⟩
        case round =>
          obtain ⟨rfl, i, j, s, rfl, rfl, hi, hsl, HI, HJ, HSS, HQ2, HSL⟩ := hrel
          by_cases hlt : i < d.length
          · have hi6 : i + 6 ≤ d.length := by
              have h1 := HI.out
              have h2 := HJ.out
              omega
            go_wp2
            go_roundg (gk - 1)
            case measure => have := HQ2.out; have := HJ.out; omega
            case rel =>
              have hi2 := HI.out
              have hj2 := HJ.out
              have hl2 := HSL.out
              have hq2 := HQ2.out
              have htl : (List.take 6 (List.drop i d)).length = 6 := by simp; omega
              refine ⟨rfl, i + 6, j + 1, _, rfl, by go_num, by omega, ?_, (show _ = _ from by omega), (show _ ≤ _ from by omega), ?_, (show _ = _ from by omega), ?_⟩
              · simp; omega
              · show _ = _
                rw [grp_snoc, HSS.out, List.drop_drop, ← hi2]
                simp [List.drop_take]
              · show _ = _
                simp; omega
          · have hj : j = k - 1 := by
              have h1 := HI.out
              have h2 := HJ.out
              rw [hdl] at hlt
              rcases Nat.lt_or_ge j (k - 1) with h3 | h3
              · omega
              · omega
            have HPS : Hid (pack s = putS n) := by
              show _ = _
              rw [← HP.out]
              unfold encD
              rw [HSS.out, HD.out, hj]
            go_wp2_with (first
              | (go_at_call 26; go_must (refine (bytes_calls s _ (by omega)).mono ?_); rintro e w2 ⟨v2, rfl, hr2, hf2, hk2⟩))
            go_ret
            rw [HPS.out] at hr2
            exact ⟨_, rfl, hr2, fun b hb => Nat.le_trans HK1.out.size (hf2 b hb), HK1.out.new hk2⟩
    · have hdec : decide (wrap64 (2 ^ (rk k).toNat) ≤ n) = true := decide_eq_true (by omega)
      have hlo := rk_low k hk1 hk7
      have HNX : Hid (k ≤ 6 ∧ AtSize n (k + 1)) := by
        show _ ∧ _
        have hk' : k = 7 ∨ k ≤ 6 := by omega
        rcases hk' with rfl | h
        · rw [← hlo] at hge
          simp [lowB] at hge
          omega
        · exact ⟨h, .inr (by rw [hlo]; omega)⟩
      clear hlo HS
      go_wp2_with (first
        | (go_at_call 24; go_must (refine (rk_calls k _ (by omega) (by omega)).mono ?_); rintro e w' ⟨rfl, rfl⟩))
      all_goals
        first
          | (exfalso; omega)
          | skip
      go_roundg (gk - 1)
      case measure => have := HQ.out; omega
      case rel => exact ⟨rfl, k + 1, by go_num, by omega, by have := HNX.out; omega, HNX.out.2, (show _ = _ from by have := HQ.out; omega)⟩
end Go.Proofs.Ytjgljjpgknjihaa
