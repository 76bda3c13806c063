/-
  The statement BitsSigned of layer 3: the walk.
-/
import Derived.Test.YtlnpajnejapckaaBits8
import Derived.Test.YtlnpajnejapckaaIn
set_option linter.unusedVariables false
set_option linter.unusedSimpArgs false
namespace Go.Proofs.Ytlnpajnejapckaa
open Go.RowKit Go.Proofs.Ytlnpajnejapckaa.Pure

theorem u64_modS (a : Int) (m : Nat) (h0 : 0 < m) (h1 : m ≤ 4611686018427387904) : ∃ k : Nat, k < m ∧ wrap64 ((IntKind.u64.wrap a).tmod m) = k := by
  have e : IntKind.u64.wrap a = a % 18446744073709551616 := IntKind.wrap_u64 a
  have h2 : 0 ≤ IntKind.u64.wrap a := by rw [e]; omega
  rw [Int.tmod_eq_emod_of_nonneg h2]
  have h3 := Int.emod_nonneg (IntKind.u64.wrap a) (show (m : Int) ≠ 0 by omega)
  have h4 := Int.emod_lt_of_pos (IntKind.u64.wrap a) (show (0 : Int) < m by omega)
  refine ⟨((IntKind.u64.wrap a) % m).toNat, by omega, ?_⟩
  unfold wrap64
  omega

theorem putS_ok (n k : Nat) (h : n < 2 ^ k) (hk : k ≤ 32) : putE n k = 0 ∧ putB n k = bitsN k n := by
  have h1 : putE n k = 0 := by
    unfold putE
    rw [if_neg (by omega), if_neg]
    rw [Int.toNat_natCast]
    rintro (h1 | h1)
    · omega
    · apply h1
      have : ((n : Nat) : Int) / ((2 ^ k : Nat) : Int) = ((n / 2 ^ k : Nat) : Int) := by simp
      rw [Nat.div_eq_of_lt h] at this
      simpa using this
  refine ⟨h1, ?_⟩
  unfold putB
  rw [if_pos h1]
  rfl

theorem ps_ok (M j : Nat) (hj : j < 32) (hM : M < 2 ^ (j + 1)) (n : Int) (hn : (M < 2 ^ j ∧ n = M) ∨ (2 ^ j ≤ M ∧ n = (M : Int) - ((2 ^ (j + 1) : Nat) : Int))) :
    psE n ((j + 1 : Nat) : Int) = 0 ∧ psB n ((j + 1 : Nat) : Int) = bitsN (j + 1) M := by
  have hp : (2 : Nat) ^ (j + 1) = 2 * 2 ^ j := by rw [Nat.pow_succ]; omega
  have hp32 : (2 : Nat) ^ j ≤ 2 ^ 31 := Nat.pow_le_pow_right (by omega) (by omega)
  have hp0 : 0 < (2 : Nat) ^ j := Nat.pow_pos (by omega)
  have h64 : 18446744073709551616 = 2 ^ (j + 1) * 2 ^ (63 - j) := by
    rw [← Nat.pow_add, show j + 1 + (63 - j) = 64 by omega]
  have hi : (2 : Int) ^ j = ((2 ^ j : Nat) : Int) := by simp
  have hs : sgnB n ((j + 1 : Nat) : Int) = true := by
    unfold sgnB
    rw [if_neg (by omega), show (((j + 1 : Nat) : Int).toNat - 1) = j by omega, hi]
    apply decide_eq_true
    generalize (2 : Nat) ^ j = P at *
    rw [hp] at hn hM
    rcases hn with ⟨a, rfl⟩ | ⟨a, rfl⟩
    · omega
    · omega
  have h1 : psE n ((j + 1 : Nat) : Int) = 0 := by
    unfold psE
    rw [if_neg (by omega), hs]
    rfl
  refine ⟨h1, ?_⟩
  unfold psB
  rw [if_pos h1, Int.toNat_natCast]
  apply bitsN_eq
  rcases hn with ⟨a, rfl⟩ | ⟨a, rfl⟩
  · have : (((M : Nat) : Int) % 18446744073709551616).toNat = M := by omega
    rw [this]
  · have hc : 0 < 2 ^ (63 - j) := Nat.pow_pos (by omega)
    have h3 : (((M : Int) - ((2 ^ (j + 1) : Nat) : Int)) % 18446744073709551616).toNat = M + 2 ^ (j + 1) * (2 ^ (63 - j) - 1) := by
      rw [Nat.mul_sub_one, ← h64]
      generalize (2 : Nat) ^ (j + 1) = Q at *
      omega
    rw [h3, Nat.add_mul_mod_self_left]

theorem sg_ok (k : Nat) (h0 : 0 < k) (h : k ≤ 32) (R : List Bool) (hl : k ≤ R.length) : ∃ (M : Nat) (n : Int) (L : List Bool), gtN k R = M ∧ gsN k R = n ∧ putE M k = 0 ∧ putB M k = L ∧ psE n k = 0 ∧ psB n k = L ∧ L.length = k ∧ M ≤ 4294967296 ∧ -4294967296 ≤ n ∧ n ≤ 4294967296 ∧
    ((M < 2 ^ (k - 1) ∧ n = M) ∨ (2 ^ (k - 1) ≤ M ∧ n = (M : Int) - ((2 ^ k : Nat) : Int))) := by
  obtain ⟨j, rfl⟩ : ∃ j, k = j + 1 := ⟨k - 1, by omega⟩
  obtain ⟨e1, e2, e3⟩ := gt_ok (k := j + 1) (R := R) h hl
  have hM := val_take_lt R (j + 1)
  generalize hMe : val (R.take (j + 1)) = M at *
  have hi : (2 : Int) ^ j = ((2 ^ j : Nat) : Int) := by simp
  have hi' : (2 : Int) ^ (j + 1) = ((2 ^ (j + 1) : Nat) : Int) := by simp
  have hp : (2 : Nat) ^ (j + 1) = 2 * 2 ^ j := by rw [Nat.pow_succ]; omega
  have hp32 : (2 : Nat) ^ j ≤ 2 ^ 31 := Nat.pow_le_pow_right (by omega) (by omega)
  have hn : (M < 2 ^ j ∧ gsN ((j + 1 : Nat) : Int) R = M) ∨ (2 ^ j ≤ M ∧ gsN ((j + 1 : Nat) : Int) R = (M : Int) - ((2 ^ (j + 1) : Nat) : Int)) := by
    unfold gsN
    rw [e2, show (((j + 1 : Nat) : Int).toNat - 1) = j by omega, Int.toNat_natCast, hi, hi']
    by_cases hc : 2 ^ j ≤ M
    · right
      refine ⟨hc, ?_⟩
      rw [if_pos ⟨e1, by omega, by omega⟩]
    · left
      refine ⟨by omega, ?_⟩
      rw [if_neg (fun hh => hc (by have := hh.2.2; omega))]
  obtain ⟨n, hne⟩ : ∃ n, gsN ((j + 1 : Nat) : Int) R = n := ⟨_, rfl⟩
  rw [hne] at hn
  obtain ⟨x1, x2⟩ := putS_ok M (j + 1) hM h
  obtain ⟨y1, y2⟩ := ps_ok M j (by omega) hM n hn
  have hb : M ≤ 4294967296 ∧ -4294967296 ≤ n ∧ n ≤ 4294967296 := by
    rw [hp] at hn hM
    generalize (2 : Nat) ^ j = P at *
    rcases hn with ⟨a, rfl⟩ | ⟨a, rfl⟩ <;> omega
  exact ⟨M, n, _, e2, hne, x1, x2, y1, y2, bitsN_length _ _, hb.1, hb.2.1, hb.2.2, hn⟩

theorem sg_tail (k : Nat) (h : k ≤ 32) (R : List Bool) (hl : R.length < k) : gtE k R = 10 ∧ gtN k R = 0 ∧ gsN k R = 0 ∧ gtT k R = 0 := by
  obtain ⟨a, b, c⟩ := gt_tail h hl
  refine ⟨a, b, ?_, c⟩
  unfold gsN
  rw [a, if_neg (by omega), b]

set_option maxHeartbeats 4000000 in
set_option maxRecDepth 100000 in
theorem bitsSigned_walk (a0 : Option Addr) (len0 cap0 : Nat) (z0 : List Int) (a1 : Int) (w : World) (w0 : InRow .u8 w a0 len0 cap0 z0) (s0 : cap0 * 1 ≤ 140737488351232) (w1 : (Lit.int .i64 a1).wf = true) :
    Calls Try.prog 5 #[.slice a0 len0 cap0, .int .i64 a1] w fun e w' => e = .returned (.bool true) ∧ Below w.heap.size w w' := by
  obtain ⟨hr, hl, hw, hcap⟩ := w0.rd
  have hnc := w0.nil_cap
  generalize z0.take len0 = bs at *
  subst hl
  have HB : Hid (∀ x ∈ bs, 0 ≤ x ∧ x ≤ 255) := fun x hx => wf_u8 (hw x hx)
  have HR := Lib.hid hr
  have HNC := Lib.hid hnc
  have HK : Hid (Keeps [] w w) := Keeps.refl _ _
  clear hw w0 w1 hr hnc s0 hcap
  by_cases hlen : 500 < bs.length
  · go_enter Try.func5, Try.ntmps5
    go_wp2_with (first
      | (go_at_call 9; go_must (refine (bknown_calls _).mono ?_); rintro e w1 ⟨rfl, hk1⟩; replace HK : Hid (Keeps [] w w1) := HK.out.new hk1; clear hk1))
    go_ret
    exact ⟨rfl, HK.out.below⟩
  · obtain ⟨j, hj, hje⟩ := u64_modS a1 32 (by omega) (by omega)
    rw [show ((32 : Nat) : Int) = 32 from rfl] at hje
    obtain ⟨k, hkj⟩ : ∃ k : Nat, k = 1 + j := ⟨_, rfl⟩
    have hk1 : (1 : Int) + (j : Int) = (k : Int) := by omega
    have hkm : (k : Int) - 1 = (j : Int) := by omega
    obtain ⟨P, hP⟩ : ∃ P : Nat, 2 ^ j = P := ⟨_, rfl⟩
    obtain ⟨Q, hQ⟩ : ∃ Q : Nat, 2 ^ k = Q := ⟨_, rfl⟩
    have hpi : (2 : Int) ^ j = (P : Int) := by rw [← hP]; simp
    have hqi : (2 : Int) ^ k = (Q : Int) := by rw [← hQ]; simp
    have hP0 : 0 < P := by rw [← hP]; exact Nat.pow_pos (by omega)
    have hQ0 : 0 < Q := by rw [← hQ]; exact Nat.pow_pos (by omega)
    have hP1 : P ≤ 4294967296 := by rw [← hP]; exact Nat.le_trans (Nat.pow_le_pow_right (show 0 < 2 by omega) (show j ≤ 32 by omega)) (by decide)
    have hQ1 : Q ≤ 4294967296 := by rw [← hQ]; exact Nat.le_trans (Nat.pow_le_pow_right (show 0 < 2 by omega) (show k ≤ 32 by omega)) (by decide)
    have HSG : Hid (∀ R : List Bool, k ≤ R.length → ∃ (M : Nat) (n : Int) (L : List Bool), gtN k R = M ∧ gsN k R = n ∧ putE M k = 0 ∧ putB M k = L ∧ psE n k = 0 ∧ psB n k = L ∧ L.length = k ∧ M ≤ 4294967296 ∧ -4294967296 ≤ n ∧ n ≤ 4294967296 ∧ ((M < P ∧ n = M) ∨ (P ≤ M ∧ n = (M : Int) - (Q : Int)))) := by
      intro R hRl
      obtain ⟨M, n, L, a, b, c, d, e, f, g, h1, h2, h3, h4⟩ := sg_ok k (by omega) (by omega) R hRl
      rw [show k - 1 = j by omega, hP, hQ] at h4
      exact ⟨M, n, L, a, b, c, d, e, f, g, h1, h2, h3, h4⟩
    have hk32 : k ≤ 32 := by omega
    clear hP hQ hkj
    have HK1 := Lib.hid hk1
    clear hk1
    go_enter Try.func5, Try.ntmps5
    go_upto_region 4 with (first
      | (go_at_call 9; go_must (refine (bknown_calls _).mono ?_); rintro e w1 ⟨rfl, hk1⟩; replace HK : Hid (Keeps [] w w1) := HK.out.new hk1; clear hk1))
    rw [hje, HK1.out]
    clear hje HK1
    go_wp2_with (first
      | (go_at_call 15; with_reducible refine (rs2_new w _ bs _ rfl a0 cap0 HR1 HNC.out ?hl HB.out (Lib.hid (HR.out.new HR1.out.keeps))).mono ?_; (case hl => omega); rintro e w2 ⟨q2, rfl, hR2, -⟩; have HR2 := Lib.hid hR2; clear hR2)
      | (go_at_call 15; go_must (with_reducible refine (rsNew w _ bs _ rfl a0 cap0 HK HNC.out ?hl HB.out (Lib.hid (HR.out.new HK.out))).mono ?_); (case hl => omega); rintro e w1 ⟨q, rfl, hR1, -, -⟩; have HR1 := Lib.hid hR1; clear hR1))
    clear HR1 HNC HB HR HK
    go_loopg [7] 60 (fun q' v7 w3 => ∃ (i t : Nat), v7 = .int .i64 i ∧ i ≤ 60 ∧ Hid (i + q' = 60) ∧ Hid (RS2 w w3 q bs t q2 bs t))
    case atStart => exact ⟨0, 0, rfl, by omega, (show _ = _ from by omega), HR2.out⟩
    case round =>
      obtain ⟨i, t, rfl, hi, HQ, HR3⟩ := hrel
      clear HR2
      by_cases hib : i < 60
      · have hrl := restB_length bs t
        obtain ⟨F, hF⟩ : ∃ F : Nat, 8 * bs.length - t = F := ⟨_, rfl⟩
        rw [hF] at hrl
        have HF := Lib.hid hF
        clear hF
        by_cases hlt : F < k
        · obtain ⟨c1, c2, c3, c4⟩ := sg_tail k hk32 (restB bs t) (by omega)
          have C1 := Lib.hid c1
          have C2 := Lib.hid c2
          have C3 := Lib.hid c3
          have C4 := Lib.hid c4
          clear hrl c1 c2 c3 c4 HSG
          go_wp2_with (first
            | (go_at_call 17; go_must (with_reducible refine (rs2Get _ HR3).mono ?_); rw [C1.out, C2.out, C4.out, Nat.add_zero]; rintro e w4 ⟨rfl, hR4⟩; have HR4 := Lib.hid hR4; clear hR4)
            | (go_at_call 19; go_must (with_reducible refine (rs2GetSigned _ HR4).mono ?_); rw [C1.out, C3.out, C4.out, Nat.add_zero]; rintro e w5 ⟨rfl, hR5⟩; have HR5 := Lib.hid hR5; clear hR5)
            | (go_at_call 20; go_must (first | (with_reducible refine (rsAt (Lib.hid HR5.out.left)).mono ?_) | (with_reducible refine (rsAt (Lib.hid HR5.out.right)).mono ?_)); rintro e w6 ⟨rfl, rfl⟩)
            | (go_at_call 16; go_must (with_reducible refine (rsLeft (Lib.hid HR5.out.left)).mono ?_); rw [HF.out]; rintro e w6 ⟨rfl, hR6, -⟩; have HR6 := Lib.hid hR6; clear hR6))
          go_ret
          exact ⟨rfl, HR6.out.keeps.below⟩
        · obtain ⟨e1, e2, e3⟩ := gt_ok (k := k) (R := restB bs t) hk32 (by omega)
          obtain ⟨M, n, L, c1, c2, c3, c4, c5, c6, c7, c8, c9, c10, hmn⟩ := HSG.out (restB bs t) (by omega)
          have E1 := Lib.hid e1
          have E3 := Lib.hid e3
          have C1 := Lib.hid c1
          have C2 := Lib.hid c2
          have C3 := Lib.hid c3
          have C4 := Lib.hid c4
          have C5 := Lib.hid c5
          have C6 := Lib.hid c6
          have C7 := Lib.hid c7
          have HM : Hid (-9223372036854775808 ≤ (M : Int) ∧ (M : Int) ≤ 9223372036854775807) := by show _ ∧ _; omega
          have HN : Hid (-9223372036854775808 ≤ n ∧ n ≤ 9223372036854775807) := by show _ ∧ _; omega
          clear hrl c1 c2 c3 c4 c5 c6 c7 HSG e1 e2 e3
          obtain ⟨S, hS⟩ : ∃ S, strOfNums (pack L) = S := ⟨_, rfl⟩
          have HS := Lib.hid hS
          clear hS
          rcases hmn with ⟨hm1, rfl⟩ | ⟨hm1, rfl⟩
          all_goals
            go_upto_region 18 with (first
              | (go_at_call 17; go_must (with_reducible refine (rs2Get _ HR3).mono ?_); rw [E1.out, C1.out, E3.out]; rintro e w4 ⟨rfl, hR4⟩; have HR4 := Lib.hid hR4; clear hR4)
              | (go_at_call 19; go_must (with_reducible refine (rs2GetSigned _ HR4).mono ?_); rw [E1.out, C2.out, E3.out]; rintro e w5 ⟨rfl, hR5⟩; have HR5 := Lib.hid hR5; clear hR5)
              | (go_at_call 20; go_must (first | (with_reducible refine (rsAt (Lib.hid HR5.out.left)).mono ?_) | (with_reducible refine (rsAt (Lib.hid HR5.out.right)).mono ?_)); rintro e w6 ⟨rfl, rfl⟩)
              | (go_at_call 10; with_reducible refine (ws2_new w5 _ HW7).mono ?_; rintro e w8 ⟨p2, rfl, hW8, -⟩; have HW8 := Lib.hid hW8; clear hW8)
              | (go_at_call 10; go_must (refine (wsNew _ _ (Keeps.refl [] _)).mono ?_); rintro e w7 ⟨p, rfl, hW7, -, -⟩; have HW7 := Lib.hid hW7; clear hW7))
            have HWd : Hid (WS2 w5 w8.drew p [] p2 []) := HW8.out.new (Keeps.refl [] w8).drew
            go_region_with (first
                | (go_at_call 11; with_reducible refine (ws2Put (M : Int) (k : Int) HWd HM (by simp)).mono ?_; rw [C3.out, C4.out, List.nil_append]; rintro e w9 ⟨rfl, hW9⟩; have hkN := hW9.keeps; have HW9 := Lib.hid hW9.symm; clear hW9)
                | (go_at_call 12; with_reducible refine (ws2PutSigned _ (k : Int) HW9 HN (by simp)).mono ?_; rw [C5.out, C6.out, List.nil_append]; rintro e wa ⟨rfl, hWa⟩; have hkN := hWa.keeps; have HWa := Lib.hid hWa; clear hWa)
                | (go_at_call 18; with_reducible refine (wsBytes (Lib.hid HWa.out.right)).mono ?_; rintro e wb ⟨vb, rfl, hrb, -, hkb⟩; have hkN := HWa.out.keeps.new hkb; have HWb := Lib.hid (HWa.out.new hkb); clear hkb; have HRb := Lib.hid hrb; have hcvb := hrb.textv (P := Try.prog) 22 5 9 Try.underlying22 Try.underlying5 Try.underlying9; rw [HS.out] at hcvb; clear hrb)
                | (go_at_call 18; with_reducible refine (wsBytes (Lib.hid HWb.out.left)).mono ?_; rintro e wc ⟨vc, rfl, hrc, -, hkc⟩; have hkN := HWb.out.keeps.new hkc; have HWc := Lib.hid (HWb.out.new hkc); have hcvbc := (HRb.out.keeps hkc (fun _ _ => by simp)).textv (P := Try.prog) 22 5 9 Try.underlying22 Try.underlying5 Try.underlying9; rw [HS.out] at hcvbc; have hcvc := hrc.textv (P := Try.prog) 22 5 9 Try.underlying22 Try.underlying5 Try.underlying9; rw [HS.out] at hcvc; clear hrc hkc)
                | (go_at_call 14; with_reducible refine (wsLen (Lib.hid HWc.out.right)).mono ?_; rw [C7.out]; rintro e wd ⟨rfl, rfl⟩))
            all_goals
              go_wp2_with fail
              go_roundg (gk - 1)
              case measure => have := HQ.out; omega
              case rel => exact ⟨i + 1, t + k, by go_num, by omega, (show _ = _ from by have := HQ.out; omega), HR5.out.new hkN⟩
      · go_wp2_with fail
        go_ret
        exact ⟨rfl, HR3.out.keeps.below⟩
end Go.Proofs.Ytlnpajnejapckaa
