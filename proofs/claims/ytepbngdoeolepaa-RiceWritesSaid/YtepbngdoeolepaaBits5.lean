/-
  Package bits (layer 3): what a Reader reads.
-/
import Derived.Test.YtepbngdoeolepaaBits4
set_option linter.unusedVariables false
set_option linter.unusedSimpArgs false
namespace Go.Proofs.Ytepbngdoeolepaa
open Go.RowKit Go.Proofs.Ytepbngdoeolepaa.Pure

/-- Get's error, number, and how many bits are read. -/
def gtE (k : Int) (R : List Bool) : Int := if k < 0 ∨ 32 < k then 1 else if (R.length : Int) < k then 10 else 0
def gtN (k : Int) (R : List Bool) : Int := if gtE k R = 0 then ((val (R.take k.toNat) : Nat) : Int) else 0
def gtT (k : Int) (R : List Bool) : Nat := if gtE k R = 0 then k.toNat else 0
theorem gt_one {k : Int} (R : List Bool) (h : k < 0 ∨ 32 < k) : gtE k R = 1 ∧ gtN k R = 0 ∧ gtT k R = 0 := by
  have e : gtE k R = 1 := by unfold gtE; rw [if_pos h]
  exact ⟨e, by unfold gtN; rw [e]; rfl, by unfold gtT; rw [e]; rfl⟩
theorem gt_tail {k : Nat} {R : List Bool} (h : k ≤ 32) (h1 : R.length < k) : gtE k R = 10 ∧ gtN k R = 0 ∧ gtT k R = 0 := by
  have e : gtE k R = 10 := by unfold gtE; rw [if_neg (by omega), if_pos (by omega)]
  exact ⟨e, by unfold gtN; rw [e]; rfl, by unfold gtT; rw [e]; rfl⟩
theorem gt_ok {k : Nat} {R : List Bool} (h : k ≤ 32) (h1 : k ≤ R.length) : gtE k R = 0 ∧ gtN k R = (val (R.take k) : Nat) ∧ gtT k R = k := by
  have e : gtE k R = 0 := by unfold gtE; rw [if_neg (by omega), if_neg (by omega)]
  exact ⟨e, by unfold gtN; rw [if_pos e]; rfl, by unfold gtT; rw [if_pos e]; rfl⟩

theorem get_step (R : List Bool) (i : Nat) (h : i < R.length) : val (R.take (i + 1)) = 2 * val (R.take i) + (if R[i] then 1 else 0) := by
  rw [List.take_succ_eq_append_getElem h, val_snoc]

set_option maxHeartbeats 4000000 in
theorem rGet_calls (q : Nat) (sv : Value) (bs : List Int) (t : Nat) (k : Int) (w : World) (hR : Hid (IsR w q sv bs t)) :
    Calls Try.prog 27 #[.pointer (some ⟨q, 0, none⟩), .int .i64 k] w fun e w' => e = .returned (.tuple #[.int .i64 (gtN k (restB bs t)), .int .i64 (gtE k (restB bs t))]) ∧ IsR w' q sv bs (t + gtT k (restB bs t)) ∧ Keeps [q] w w' := by
  have hrl := restB_length bs t
  by_cases hk : k < 0 ∨ 32 < k
  · obtain ⟨e1, e2, e3⟩ := gt_one (restB bs t) hk
    rw [e1, e2, e3]
    clear e1 e2 e3
    go_enter Try.func27, Try.ntmps27
    go_wp2_with (first
      | (go_at_call 30; go_must (refine (bwide_no _ _ ?h0).mono ?_); (case h0 => omega); rintro e w1 ⟨rfl, rfl⟩))
    go_ret2
    exact ⟨rfl, hR.out, Keeps.refl _ _⟩
  · obtain ⟨kn, rfl⟩ : ∃ kn : Nat, k = kn := ⟨k.toNat, by omega⟩
    have hk32 : kn ≤ 32 := by omega
    clear hk
    by_cases hlt : (restB bs t).length < kn
    · obtain ⟨e1, e2, e3⟩ := gt_tail hk32 hlt
      rw [e1, e2, e3]
      rw [hrl] at hlt
      clear e1 e2 e3 hrl
      have hcmp : ((8 * bs.length - t : Nat) : Int) < (kn : Int) := by omega
      go_enter Try.func27, Try.ntmps27
      go_wp2_with (first
        | (go_at_call 30; go_must (refine (bwide_ok _ _ ?h0 ?h1).mono ?_); (case h0 => omega); (case h1 => omega); rintro e w1 ⟨rfl, rfl⟩)
        | (go_at_call 53; go_must (with_reducible refine (rLeft_calls q sv bs t _ hR).mono ?_); rintro e w1 ⟨rfl, hk1⟩))
      go_ret2
      exact ⟨rfl, hR.out.new hk1, (Keeps.refl _ _).new hk1⟩
    · have hle : kn ≤ (restB bs t).length := by omega
      obtain ⟨e1, e2, e3⟩ := gt_ok hk32 hle
      rw [e1, e2, e3]
      rw [hrl] at hlt
      have hkle : t + kn ≤ 8 * bs.length := by have := hR.out.at_le; omega
      clear e1 e2 e3
      have HRL := Lib.hid hrl
      clear hrl
      have HLE := Lib.hid hle
      clear hle
      have hsm := hR.out.small
      go_enter Try.func27, Try.ntmps27
      go_wp2_with (first
        | (go_at_call 30; go_must (refine (bwide_ok _ _ ?h0 ?h1).mono ?_); (case h0 => omega); (case h1 => omega); rintro e w1 ⟨rfl, rfl⟩)
        | (go_at_call 53; go_must (with_reducible refine (rLeft_calls q sv bs t _ hR).mono ?_); rintro e w1 ⟨rfl, hk1⟩))
      have HR1 := Lib.hid (hR.out.new hk1)
      have HK1 := Lib.hid hk1
      clear hk1
      go_loopg [6, 20] (kn + 1) (fun q' v6 v20 w2 => ∃ (i : Nat) (n : Nat), v20 = .int .i64 i ∧ i ≤ kn ∧ v6 = .int .i64 n ∧ n < 4294967296 ∧ Hid (n = val ((restB bs t).take i)) ∧ Hid (IsR w2 q sv bs (t + i)) ∧ Hid (i + q' = kn + 1) ∧ Hid (Keeps [q] w w2))
      case atStart => exact ⟨0, 0, rfl, by omega, rfl, by omega, (show _ = _ from by simp [val]), HR1.out, (show _ = _ from by omega), (Keeps.refl _ _).new HK1.out⟩
      case round =>
        obtain ⟨i, n, rfl, hi, rfl, hn, HN, HRI, HQ, HKI⟩ := hrel
        by_cases hli : i < kn
        · have hil : i < (restB bs t).length := by have := HLE.out; omega
          obtain ⟨b, hb⟩ : ∃ b, (restB bs t)[i] = b := ⟨_, rfl⟩
          have hst := get_step (restB bs t) i hil
          rw [hb, ← HN.out] at hst
          have hub : (unpack bs)[t + i]'(by rw [unpack_length]; omega) = b := by
            rw [← hb, restB_get _ _ _ _ (by rw [unpack_length]; omega)]
          have hv := val_lt ((restB bs t).take (i + 1))
          have hv2 : 2 ^ ((restB bs t).take (i + 1)).length ≤ 2 ^ 32 := Nat.pow_le_pow_right (by omega) (by rw [List.length_take]; omega)
          rw [hst] at hv
          have HST := Lib.hid hst
          have HUB := Lib.hid hub
          have hn2 : 2 * n + (if b then 1 else 0) < 4294967296 := by omega
          have hor : bits BinOp.or IntKind.i64 ((n : Int) * 2) (b2i b) = ((2 * n + (if b then 1 else 0) : Nat) : Int) := by
            rw [Int.mul_comm, or1 _ _ (by omega) (by omega) (by unfold b2i; split <;> omega) (by unfold b2i; split <;> omega)]
            unfold b2i
            split <;> simp
          have HOR := Lib.hid hor
          have HNX := Lib.hid hn2
          have hc1 := HRI.out.duo.c1
          have hf1 := HRI.out.duo.frozen 1
          have hcast : ((t + i : Nat) : Int) = (t : Int) + (i : Int) := by omega
          clear hst hub hv hv2 hn2 hor hb hil
          go_wp2_with (first
            | (go_at_call 54; go_must (with_reducible refine (rbit_at q sv bs (t + i) (t + i) _ hcast.symm _ HRI (by omega)).mono ?_); rw [HUB.out]; rintro e w3 ⟨rfl, rfl⟩))
          go_roundg (gk - 1)
          case measure => have := HQ.out; omega
          case rel =>
            refine ⟨i + 1, 2 * n + (if b then 1 else 0), by go_num, by omega, ?_, HNX.out, HST.out.symm, ?_, (show _ = _ from by have := HQ.out; omega), HKI.out.setCell (a := ⟨q, 1, none⟩) (.inl (by simp)) _⟩
            · first | rw [HOR.out] | (rw [← HOR.out])
            · have := HRI.out.move (t + i + 1) (by omega)
              show IsR _ _ _ _ _
              have e : ((t + i + 1 : Nat) : Int) = (t : Int) + (i : Int) + 1 := by omega
              rw [e] at this
              exact this
        · obtain rfl : i = kn := by omega
          go_wp2_with fail
          go_ret2
          refine ⟨by rw [← HN.out]; rfl, HRI.out, HKI.out⟩

/-- GetSigned's number. -/
def gsN (k : Int) (R : List Bool) : Int := if gtE k R = 0 ∧ 0 < k ∧ 2 ^ (k.toNat - 1) ≤ gtN k R then gtN k R - 2 ^ k.toNat else gtN k R

theorem val_take_lt (R : List Bool) (k : Nat) : val (R.take k) < 2 ^ k :=
  Nat.lt_of_lt_of_le (val_lt _) (Nat.pow_le_pow_right (by omega) (by simp; omega))

set_option maxHeartbeats 2000000 in
theorem rGetSigned_calls (q : Nat) (sv : Value) (bs : List Int) (t : Nat) (k : Int) (w : World) (hR : Hid (IsR w q sv bs t)) :
    Calls Try.prog 64 #[.pointer (some ⟨q, 0, none⟩), .int .i64 k] w fun e w' => e = .returned (.tuple #[.int .i64 (gsN k (restB bs t)), .int .i64 (gtE k (restB bs t))]) ∧ IsR w' q sv bs (t + gtT k (restB bs t)) ∧ Keeps [q] w w' := by
  generalize hRe : restB bs t = R at *
  have HG := rGet_calls q sv bs t k w hR
  rw [hRe] at HG
  have HGH := Lib.hid HG
  clear HG hRe
  by_cases h0 : gtE k R = 0
  · by_cases hk0 : 0 < k
    · have hk : 0 ≤ k ∧ k ≤ 32 := by
        unfold gtE at h0
        split at h0
        · omega
        · omega
      obtain ⟨j, rfl⟩ : ∃ j : Nat, k = (j : Int) + 1 := ⟨k.toNat - 1, by omega⟩
      have hjj : ((j : Int) + 1).toNat = j + 1 := by omega
      have hgn : gtN ((j : Int) + 1) R = ((val (R.take (j + 1)) : Nat) : Int) := by unfold gtN; rw [if_pos h0, hjj]
      have hv := val_take_lt R (j + 1)
      have hgs : gsN ((j : Int) + 1) R = if 2 ^ j ≤ val (R.take (j + 1)) then ((val (R.take (j + 1)) : Nat) : Int) - 2 ^ (j + 1) else ((val (R.take (j + 1)) : Nat) : Int) := by
        unfold gsN
        rw [hgn, hjj]
        have e1 : ((2 : Int) ^ (j + 1 - 1) ≤ ((val (R.take (j + 1)) : Nat) : Int)) ↔ (2 ^ j ≤ val (R.take (j + 1))) := by
          rw [Nat.add_sub_cancel]
          exact_mod_cast Iff.rfl
        by_cases h : 2 ^ j ≤ val (R.take (j + 1))
        · rw [if_pos h, if_pos ⟨h0, hk0, e1.2 h⟩]
        · rw [if_neg h, if_neg (fun hh => h (e1.1 hh.2.2))]
      rw [hgn, h0] at HGH
      rw [hgs, h0]
      generalize val (R.take (j + 1)) = V at *
      have hpow : (2 : Nat) ^ (j + 1) ≤ 2 ^ 32 := Nat.pow_le_pow_right (by omega) (by omega)
      have hj64 : j ≤ 64 := by omega
      have hdv : (V : Int) / 2 ^ j = ((V / 2 ^ j : Nat) : Int) := by rw [Int.natCast_ediv, Int.natCast_pow]; rfl
      have hp2 : 2 ^ (j + 1) = 2 * 2 ^ j := by rw [Nat.pow_succ, Nat.mul_comm]
      have hpj : 0 < 2 ^ j := Nat.pow_pos (by omega)
      have hw : wrap64 (2 ^ (j + 1)) = 2 ^ (j + 1) := by
        have e : ((2 : Int) ^ (j + 1)) = ((2 ^ (j + 1) : Nat) : Int) := by rw [Int.natCast_pow]; rfl
        rw [e]
        unfold wrap64
        omega
      have hpi : ((2 : Int) ^ (j + 1)) = ((2 ^ (j + 1) : Nat) : Int) := by rw [Int.natCast_pow]; rfl
      by_cases hb : 2 ^ j ≤ V
      · rw [if_pos hb]
        have h1 : V / 2 ^ j = 1 := by
          apply Nat.div_eq_of_lt_le
          · omega
          · omega
        have hone : ((V : Int) / 2 ^ j == 1) = true := by rw [hdv, h1]; rfl
        have hsub : IntKind.i64.wrap ((V : Int) - 2 ^ (j + 1)) = (V : Int) - 2 ^ (j + 1) := by rw [hpi]; exact IntWalk.i64_in _ (by omega)
        have hpl : (2 : Int) ^ (j + 1) ≤ 4294967296 := by rw [hpi]; omega
        have hpg : (0 : Int) < 2 ^ (j + 1) := by rw [hpi]; omega
        have hv2 : (V : Int) < 2 ^ (j + 1) := by rw [hpi]; omega
        clear hgn hgs hv hpow hdv hp2 hpj hpi hb h1 hjj
        go_enter Try.func64, Try.ntmps64
        go_wp2_with (first
          | (go_at_call 27; go_must (with_reducible refine (HGH.out).mono ?_); rintro e w1 ⟨rfl, hr1, hk1⟩))
        go_ret2
        exact ⟨rfl, hr1, hk1⟩
      · rw [if_neg hb]
        have h1 : V / 2 ^ j = 0 := Nat.div_eq_of_lt (by omega)
        have hone : ((V : Int) / 2 ^ j == 1) = false := by rw [hdv, h1]; rfl
        clear hgn hgs hv hpow hdv hp2 hpj hpi hb h1 hjj hw
        go_enter Try.func64, Try.ntmps64
        go_wp2_with (first
          | (go_at_call 27; go_must (with_reducible refine (HGH.out).mono ?_); rintro e w1 ⟨rfl, hr1, hk1⟩))
        go_ret2
        exact ⟨rfl, hr1, hk1⟩
    · have hgs : gsN k R = gtN k R := by unfold gsN; rw [if_neg (fun h => hk0 h.2.1)]
      rw [hgs, h0]
      rw [h0] at HGH
      clear hgs
      generalize gtN k R = V at *
      go_enter Try.func64, Try.ntmps64
      go_wp2_with (first
        | (go_at_call 27; go_must (with_reducible refine (HGH.out).mono ?_); rintro e w1 ⟨rfl, hr1, hk1⟩))
      go_ret2
      exact ⟨rfl, hr1, hk1⟩
  · have hgs : gsN k R = gtN k R := by unfold gsN; rw [if_neg (fun h => h0 h.1)]
    rw [hgs]
    have hne : (gtE k R == 0) = false := beq_eq_false_iff_ne.2 h0
    clear hgs h0
    generalize gtN k R = V at *
    generalize gtE k R = E at *
    go_enter Try.func64, Try.ntmps64
    go_wp2_with (first
      | (go_at_call 27; go_must (with_reducible refine (HGH.out).mono ?_); rintro e w1 ⟨rfl, hr1, hk1⟩))
    go_ret2
    exact ⟨rfl, hr1, hk1⟩
end Go.Proofs.Ytepbngdoeolepaa
