/-
  The statement BitsEnds of layer 3: the walk.
-/
import Derived.Test.YtlnpajnejapckaaBits7
import Derived.Test.YtlnpajnejapckaaIn
set_option linter.unusedVariables false
set_option linter.unusedSimpArgs false
namespace Go.Proofs.Ytlnpajnejapckaa
open Go.RowKit Go.Proofs.Ytlnpajnejapckaa.Pure

theorem u64_modB (a : Int) (m : Nat) (h0 : 0 < m) (h1 : m ≤ 4611686018427387904) : ∃ k : Nat, k < m ∧ wrap64 ((IntKind.u64.wrap a).tmod m) = k := by
  have e : IntKind.u64.wrap a = a % 18446744073709551616 := IntKind.wrap_u64 a
  have h2 : 0 ≤ IntKind.u64.wrap a := by rw [e]; omega
  rw [Int.tmod_eq_emod_of_nonneg h2]
  have h3 := Int.emod_nonneg (IntKind.u64.wrap a) (show (m : Int) ≠ 0 by omega)
  have h4 := Int.emod_lt_of_pos (IntKind.u64.wrap a) (show (0 : Int) < m by omega)
  refine ⟨((IntKind.u64.wrap a) % m).toNat, by omega, ?_⟩
  unfold wrap64
  omega

theorem put_in (n : Int) (k : Nat) (hk : k ≤ 32) : (putE n k = 0 ↔ 0 ≤ n ∧ n < 2 ^ k) ∧ (putB n k).length = (if 0 ≤ n ∧ n < 2 ^ k then k else 0) := by
  have hp : (0 : Int) < 2 ^ k := Int.pow_pos (by omega)
  have h1 : putE n k = 0 ↔ 0 ≤ n ∧ n < 2 ^ k := by
    unfold putE
    rw [if_neg (by omega), Int.toNat_natCast]
    constructor
    · intro h
      split at h
      · omega
      · rename_i hh
        have hn : 0 ≤ n := by omega
        refine ⟨hn, ?_⟩
        have hz : n / 2 ^ k = 0 := by omega
        have h3 := Int.mul_ediv_add_emod n (2 ^ k)
        have h4 := Int.emod_lt_of_pos n hp
        rw [hz] at h3
        omega
    · rintro ⟨a, b⟩
      rw [if_neg]
      rintro (h | h)
      · omega
      · exact h (Int.ediv_eq_zero_of_lt a b)
  refine ⟨h1, ?_⟩
  unfold putB
  by_cases h : 0 ≤ n ∧ n < 2 ^ k
  · rw [if_pos (h1.2 h), if_pos h, bitsN_length]; rfl
  · rw [if_neg (fun hh => h (h1.1 hh)), if_neg h]; rfl
theorem ps_in (n : Int) (k : Nat) (hk : k ≤ 32) : (psE n k = 0 ↔ sgnB n k = true) ∧ (psB n k).length = (if sgnB n k = true then k else 0) := by
  have h1 : psE n k = 0 ↔ sgnB n k = true := by
    unfold psE
    rw [if_neg (by omega)]
    cases sgnB n k <;> simp
  refine ⟨h1, ?_⟩
  unfold psB
  by_cases h : sgnB n k = true
  · rw [if_pos (h1.2 h), if_pos h, bitsN_length]; rfl
  · rw [if_neg (fun hh => h (h1.1 hh)), if_neg h]; rfl

theorem gt_cases (k : Nat) (hk : k ≤ 32) (R : List Bool) : (R.length < k ∧ gtE k R = 10 ∧ gtT k R = 0) ∨ (k ≤ R.length ∧ gtE k R = 0 ∧ gtT k R = k) := by
  by_cases h : R.length < k
  · obtain ⟨a, b, c⟩ := gt_tail hk h
    exact .inl ⟨h, a, c⟩
  · obtain ⟨a, b, c⟩ := gt_ok hk (show k ≤ R.length by omega)
    exact .inr ⟨by omega, a, c⟩

set_option maxHeartbeats 4000000 in
theorem bitsEnds_walk (a0 a1 : Int) (a2 : Option Addr) (len2 cap2 : Nat) (z2 : List Int) (w : World) (w0 : (Lit.int .i64 a0).wf = true) (w1 : (Lit.int .i64 a1).wf = true) (w2 : InRow .u8 w a2 len2 cap2 z2) (s2 : cap2 * 1 ≤ 140737488351232) :
    Calls Try.prog 3 #[.int .i64 a0, .int .i64 a1, .slice a2 len2 cap2] w fun e w' => e = .returned (.bool true) ∧ Below w.heap.size w w' := by
  obtain ⟨hr, hl, hw, hcap⟩ := w2.rd
  have hnc := w2.nil_cap
  generalize z2.take len2 = bs at *
  subst hl
  have HB : Hid (∀ x ∈ bs, 0 ≤ x ∧ x ≤ 255) := fun x hx => wf_u8 (hw x hx)
  have HR := Lib.hid hr
  have HNC := Lib.hid hnc
  have HN := Lib.hid (wf_i64 w0)
  have HK : Hid (Keeps [] w w) := Keeps.refl _ _
  clear hw w0 w1 w2 hr hnc
  by_cases hlen : 2000 < bs.length
  · go_enter Try.func3, Try.ntmps3
    go_wp2_with (first
      | (go_at_call 9; go_must (refine (bknown_calls _).mono ?_); rintro e w1 ⟨rfl, hk1⟩; replace HK : Hid (Keeps [] w w1) := HK.out.new hk1; clear hk1))
    go_ret
    exact ⟨rfl, HK.out.below⟩
  · obtain ⟨k, hk33, hke⟩ := u64_modB a1 33 (by omega) (by omega)
    rw [show ((33 : Nat) : Int) = 33 from rfl] at hke
    obtain ⟨n0, n1⟩ := HN.out
    obtain ⟨p1, p2⟩ := put_in a0 k (by omega)
    obtain ⟨q1, q2⟩ := ps_in a0 k (by omega)
    obtain ⟨pw0, pw1⟩ := pow_le33 k (by omega)
    have hwp : wrap64 (2 ^ k) = 2 ^ k := by unfold wrap64; omega
    have hin : (0 ≤ a0 ∧ a0 < 2 ^ k ∧ (putE a0 k == 0) = true ∧ (putB a0 k).length = k) ∨ (a0 < 0 ∧ (putE a0 k == 0) = false ∧ (putB a0 k).length = 0) ∨ (0 ≤ a0 ∧ 2 ^ k ≤ a0 ∧ (putE a0 k == 0) = false ∧ (putB a0 k).length = 0) := by
      by_cases h1 : 0 ≤ a0
      · by_cases h2 : a0 < 2 ^ k
        · exact .inl ⟨h1, h2, beq_iff_eq.2 (p1.2 ⟨h1, h2⟩), by rw [p2, if_pos ⟨h1, h2⟩]⟩
        · exact .inr (.inr ⟨h1, Int.not_lt.1 h2, beq_eq_false_iff_ne.2 (fun h => h2 (p1.1 h).2), by rw [p2, if_neg (fun h => h2 h.2)]⟩)
      · exact .inr (.inl ⟨Int.not_le.1 h1, beq_eq_false_iff_ne.2 (fun h => h1 (p1.1 h).1), by rw [p2, if_neg (fun h => h1 h.1)]⟩)
    have hsg : (sgnB a0 k = true ∧ (psE a0 k == 0) = true ∧ (psB a0 k).length = k) ∨ (sgnB a0 k = false ∧ (psE a0 k == 0) = false ∧ (psB a0 k).length = 0) := by
      cases h : sgnB a0 k
      · exact .inr ⟨rfl, beq_eq_false_iff_ne.2 (fun hh => by have := q1.1 hh; rw [h] at this; cases this), by rw [q2, h]; rfl⟩
      · exact .inl ⟨rfl, beq_iff_eq.2 (q1.2 h), by rw [q2, h]; rfl⟩
    clear p1 p2 q1 q2
    obtain ⟨PE, hPE⟩ : ∃ x, putE a0 k = x := ⟨_, rfl⟩
    obtain ⟨PB, hPB⟩ : ∃ x, putB a0 k = x := ⟨_, rfl⟩
    obtain ⟨SE, hSE⟩ : ∃ x, psE a0 k = x := ⟨_, rfl⟩
    obtain ⟨SB, hSB⟩ : ∃ x, psB a0 k = x := ⟨_, rfl⟩
    obtain ⟨SG, hSG⟩ : ∃ x, sgnB a0 k = x := ⟨_, rfl⟩
    rw [hPE, hPB] at hin
    rw [hSE, hSB, hSG] at hsg
    have HPE := Lib.hid hPE
    have HPB := Lib.hid hPB
    have HSE := Lib.hid hSE
    have HSB := Lib.hid hSB
    have HSG := Lib.hid hSG
    clear hPE hPB hSE hSB hSG
    rcases hin with ⟨i1, i2, i3, i4⟩ | ⟨i1, i3, i4⟩ | ⟨i1, i2, i3, i4⟩
    all_goals
      rcases hsg with ⟨rfl, g2, g3⟩ | ⟨rfl, g2, g3⟩
    all_goals
      have HLEN : Hid ((([] : List Bool) ++ PB ++ SB).length = PB.length + SB.length) := by show _ = _; simp
      rw [i4, g3] at HLEN
      go_enter Try.func3, Try.ntmps3
      go_upto_region 4 with (first
        | (go_at_call 9; go_must (refine (bknown_calls _).mono ?_); rintro e w1 ⟨rfl, hk1⟩; replace HK : Hid (Keeps [] w w1) := HK.out.new hk1; clear hk1))
      (try rw [hke])
      go_wp2_with (first
        | (go_at_call 10; go_must (refine (wsNew w _ HK).mono ?_); rintro e w1 ⟨p, rfl, hW1, -, -⟩; have HW1 := Lib.hid hW1; clear hW1)
        | (go_at_call 11; go_must (with_reducible refine (wsPut a0 (k : Int) HW1 HN (by simp)).mono ?_); rw [HPE.out, HPB.out]; rintro e w2 ⟨rfl, hW2⟩; have HW2 := Lib.hid hW2; clear hW2)
        | (go_at_call 12; go_must (with_reducible refine (wsPutSigned a0 (k : Int) HW2 HN (by simp; omega)).mono ?_); rw [HSE.out, HSB.out]; rintro e w3 ⟨rfl, hW3⟩; have HW3 := Lib.hid hW3; clear hW3)
        | (go_at_call 13; go_must (with_reducible refine (refSigned_calls a0 k _ (by omega)).mono ?_); rw [HSG.out]; rintro e w4 ⟨rfl, rfl⟩)
        | (go_at_call 14; go_must (with_reducible refine (wsLen HW3).mono ?_); rw [HLEN.out]; rintro e w5 ⟨rfl, rfl⟩)
        | (go_at_call 15; go_must (with_reducible refine (rsNew w _ bs _ rfl a2 cap2 (Lib.hid HW3.out.keeps) HNC.out (by omega) HB.out (Lib.hid (HR.out.new HW3.out.keeps))).mono ?_); rintro e w6 ⟨q, rfl, hR6, -, -⟩; have HR6 := Lib.hid hR6; clear hR6))
      clear HPE HPB HSE HSB HSG i1 i3 i4 g2 g3 HW1 HW2 HW3 HLEN pw0 pw1 hwp hke HK HNC HB HR hcap s2
      (try clear i2)
      go_loopg [14] (8 * bs.length + 2) (fun q' v14 w7 => ∃ (i t : Nat), v14 = .int .i64 i ∧ i ≤ 8 * bs.length + 1 ∧ Hid (i + q' = 8 * bs.length + 2) ∧ Hid (RS w w7 q bs t))
      case atStart => exact ⟨0, 0, rfl, by omega, (show _ = _ from by omega), HR6.out⟩
      case round =>
        obtain ⟨i, t, rfl, hi, HQ, HR7⟩ := hrel
        by_cases hib : i ≤ 8 * bs.length
        · have hrl := restB_length bs t
          obtain ⟨L, hL⟩ : ∃ L : Nat, 8 * bs.length - t = L := ⟨_, rfl⟩
          rw [hL] at hrl
          have HL := Lib.hid hL
          clear hL
          rcases gt_cases k (by omega) (restB bs t) with ⟨hlt, c1, c2⟩ | ⟨hlt, c1, c2⟩
          · rw [hrl] at hlt
            have C1 := Lib.hid c1
            have C2 := Lib.hid c2
            clear hrl c1 c2
            go_wp2_with (first
              | (go_at_call 16; go_must (first | (with_reducible refine (rsLeft HR7).mono ?_) | (with_reducible refine (rsLeft HR9).mono ?_)); rw [HL.out]; rintro e w8 ⟨rfl, hR8, -⟩; have HR8 := Lib.hid hR8; clear hR8)
              | (go_at_call 17; go_must (with_reducible refine (rsGet _ HR8).mono ?_); rw [C1.out, C2.out, Nat.add_zero]; rintro e w9 ⟨rfl, hR9, -⟩; have HR9 := Lib.hid hR9; clear hR9))
            go_ret
            exact ⟨rfl, HR8.out.keeps.below⟩
          · rw [hrl] at hlt
            have C1 := Lib.hid c1
            have C2 := Lib.hid c2
            clear hrl c1 c2
            by_cases hk0 : k = 0
            · subst hk0
              have C1 : Hid (gtE 0 (restB bs t) = 0) := C1.out
              have C2 : Hid (gtT 0 (restB bs t) = 0) := C2.out
              go_wp2_with (first
                | (go_at_call 16; go_must (with_reducible refine (rsLeft HR7).mono ?_); rw [HL.out]; rintro e w8 ⟨rfl, hR8, -⟩; have HR8 := Lib.hid hR8; clear hR8)
                | (go_at_call 17; go_must (with_reducible refine (rsGet _ HR8).mono ?_); rw [C1.out, C2.out]; rintro e w9 ⟨rfl, hR9, -⟩; have HR9 := Lib.hid hR9; clear hR9))
              go_ret
              exact ⟨rfl, HR9.out.keeps.below⟩
            · have hk0' : ((k : Int) == 0) = false := beq_eq_false_iff_ne.2 (by omega)
              go_wp2_with (first
                | (go_at_call 16; go_must (with_reducible refine (rsLeft HR7).mono ?_); rw [HL.out]; rintro e w8 ⟨rfl, hR8, -⟩; have HR8 := Lib.hid hR8; clear hR8)
                | (go_at_call 17; go_must (with_reducible refine (rsGet _ HR8).mono ?_); rw [C1.out, C2.out]; rintro e w9 ⟨rfl, hR9, -⟩; have HR9 := Lib.hid hR9; clear hR9))
              go_roundg (gk - 1)
              case measure => have := HQ.out; omega
              case rel => exact ⟨i + 1, t + k, by go_num, by omega, (show _ = _ from by have := HQ.out; omega), HR9.out⟩
        · go_wp2_with fail
          go_ret
          exact ⟨rfl, HR7.out.keeps.below⟩
end Go.Proofs.Ytlnpajnejapckaa
