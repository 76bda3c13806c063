/-
  Layer 6 (rice), the document's side: Block, number.
-/
import Derived.Test.YtepbngdoeolepaaRice16
import Derived.Test.YtepbngdoeolepaaRef3d
set_option linter.unusedVariables false
set_option linter.unusedSimpArgs false
namespace Go.Proofs.Ytepbngdoeolepaa
open Go.RowKit Go.Proofs.Ytepbngdoeolepaa.Pure

set_option maxHeartbeats 2000000 in
theorem dblock_calls (n order : Int) (w : World) :
    Calls Try.prog 50 #[.int .i64 n, .int .i64 order] w fun e w' => e = .returned (.bool (rightB n order)) ∧ w = w' := by
  by_cases a1 : 1 ≤ n
  · by_cases a2 : n ≤ 512
    · by_cases a3 : 0 ≤ order
      · by_cases a4 : order ≤ 8
        · by_cases a5 : order ≤ n
          · have e : rightB n order = true := decide_eq_true ⟨a1, a2, a3, a4, a5⟩
            rw [e]
            clear e
            go_enter Try.func50, Try.ntmps50
            go_wp2
            go_ret
            exact ⟨rfl, rfl⟩
          · have e : rightB n order = false := decide_eq_false (by omega)
            rw [e]
            clear e
            go_enter Try.func50, Try.ntmps50
            go_wp2
            go_ret
            exact ⟨rfl, rfl⟩
        · have e : rightB n order = false := decide_eq_false (by omega)
          rw [e]
          clear e
          go_enter Try.func50, Try.ntmps50
          go_wp2
          go_ret
          exact ⟨rfl, rfl⟩
      · have e : rightB n order = false := decide_eq_false (by omega)
        rw [e]
        clear e
        go_enter Try.func50, Try.ntmps50
        go_wp2
        go_ret
        exact ⟨rfl, rfl⟩
    · have e : rightB n order = false := decide_eq_false (by omega)
      rw [e]
      clear e
      go_enter Try.func50, Try.ntmps50
      go_wp2
      go_ret
      exact ⟨rfl, rfl⟩
  · have e : rightB n order = false := decide_eq_false (by omega)
    rw [e]
    clear e
    go_enter Try.func50, Try.ntmps50
    go_wp2
    go_ret
    exact ⟨rfl, rfl⟩

set_option maxHeartbeats 2000000 in
theorem dnum_esc (g : Nat) (U : List Bool) (t : Nat) (k wd : Int) (w : World) (hD : Hid (IsD w g U t)) :
    Calls Try.prog 52 #[.pointer (some ⟨g, 0, none⟩), .int .i64 k, .bool true, .int .i64 wd] w fun e w' => e = .returned (.tuple #[.int .i64 (oneS true 0 wd (U.drop t)).1, .int .i64 (oneS true 0 wd (U.drop t)).2.1]) ∧ IsD w' g U (t + (oneS true 0 wd (U.drop t)).2.2) ∧ Keeps [g] w w' := by
  have HG := Lib.hid (dGetSigned_calls g U t wd w hD)
  have e : oneS true 0 wd (U.drop t) = (gsN wd (U.drop t), gtE wd (U.drop t), gtT wd (U.drop t)) := rfl
  rw [e]
  clear e
  generalize U.drop t = R at *
  go_enter Try.func52, Try.ntmps52
  go_wp2_with (first
    | (go_at_call 65; go_must (refine HG.out.mono ?_); rintro e w1 ⟨rfl, hR1, hk1⟩))
  go_ret2
  exact ⟨rfl, hR1, hk1⟩

set_option maxHeartbeats 2000000 in
theorem dnum_plain (g : Nat) (U : List Bool) (t : Nat) (k wd : Int) (w : World) (hD : Hid (IsD w g U t)) (h0 : 0 ≤ k) (h1 : k ≤ 31) (hs : U.length ≤ 8000000) :
    Calls Try.prog 52 #[.pointer (some ⟨g, 0, none⟩), .int .i64 k, .bool false, .int .i64 wd] w fun e w' => e = .returned (.tuple #[.int .i64 (oneS false k 0 (U.drop t)).1, .int .i64 (oneS false k 0 (U.drop t)).2.1]) ∧ IsD w' g U (t + (oneS false k 0 (U.drop t)).2.2) ∧ Keeps [g] w w' := by
  have e : oneS false k 0 (U.drop t) = numS k (U.drop t) := rfl
  rw [e]
  clear e
  obtain ⟨kN, rfl⟩ : ∃ kN : Nat, k = kN := ⟨k.toNat, by omega⟩
  have HU := Lib.hid (dUnary_calls g U t w hD)
  obtain ⟨R, hRe⟩ : ∃ R, U.drop t = R := ⟨_, rfl⟩
  have hRl : R.length ≤ 8000000 := by rw [← hRe, List.length_drop]; omega
  rw [hRe] at HU ⊢
  cases hc : cnt R with
  | none =>
    obtain ⟨e1, e2, e3⟩ := unR_none hc
    have hn : numS kN R = (0, 10, 0) := by unfold numS; rw [e1, e3]; rfl
    rw [e1, e2, e3] at HU
    rw [hn]
    clear hn e1 e2 e3 hc
    go_enter Try.func52, Try.ntmps52
    go_wp2_with (first
      | (go_at_call 66; go_must (refine HU.out.mono ?_); rintro e w1 ⟨rfl, hR1, hk1⟩))
    go_ret2
    exact ⟨rfl, hR1, hk1⟩
  | some n =>
    obtain ⟨e1, e2, e3⟩ := unR_some hc
    have hnl := cnt_lt R n hc
    rw [e1, e2, e3] at HU
    have HG := Lib.hid (fun W (h : Hid (IsD W g U (t + (n + 1)))) => dGet_calls g U (t + (n + 1)) (kN : Int) W h)
    have hRa : U.drop (t + (n + 1)) = R.drop (n + 1) := by rw [← List.drop_drop, hRe]
    rw [hRa] at HG
    have hunf : numS kN R = if gtE kN (R.drop (n + 1)) ≠ 0 then (0, gtE kN (R.drop (n + 1)), n + 1 + gtT kN (R.drop (n + 1))) else if 4294967295 ≤ (n : Int) * 2 ^ kN + gtN kN (R.drop (n + 1)) then (0, 12, n + 1 + gtT kN (R.drop (n + 1))) else (unfoldS ((n : Int) * 2 ^ kN + gtN kN (R.drop (n + 1))), 0, n + 1 + gtT kN (R.drop (n + 1))) := by
      unfold numS
      rw [e1, e2, e3, Int.toNat_natCast]
      rfl
    rw [hunf]
    clear hunf e1 e2 e3 hc hRe hRa
    generalize R.drop (n + 1) = R2 at *
    by_cases hl : R2.length < kN
    · obtain ⟨f1, f2, f3⟩ := gt_tail (by omega) hl
      rw [f1, f2, f3] at HG
      rw [f1, f3]
      rw [if_pos (by decide)]
      clear f1 f2 f3 hl
      go_enter Try.func52, Try.ntmps52
      go_wp2_with (first
        | (go_at_call 66; go_must (refine HU.out.mono ?_); rintro e w1 ⟨rfl, hR1, hk1⟩; have HR1 := Lib.hid hR1; have HK1 := Lib.hid hk1; clear hR1 hk1)
        | (go_at_call 51; go_must (refine (HG.out _ HR1).mono ?_); rintro e w2 ⟨rfl, hR2, hk2⟩))
      go_ret2
      exact ⟨rfl, hR2, HK1.out.then_ hk2 (fun b hb _ => hb)⟩
    · obtain ⟨f1, f2, f3⟩ := gt_ok (k := kN) (R := R2) (by omega) (by omega)
      rw [f1, f2, f3] at HG
      rw [f1, f2, f3, if_neg (by decide)]
      have hdv := val_take_lt R2 kN
      generalize val (R2.take kN) = d at *
      have hP32 : 2 ^ kN ≤ 2 ^ 31 := Nat.pow_le_pow_right (by omega) (by omega)
      obtain ⟨P, hP⟩ : ∃ P : Nat, 2 ^ kN = P := ⟨_, rfl⟩
      have hPi : (2 : Int) ^ kN = (P : Int) := by rw [← hP]; simp
      rw [hP] at hdv hP32
      rw [hPi]
      have hnp : n * P ≤ 8000000 * 2 ^ 31 := Nat.mul_le_mul (by omega) hP32
      obtain ⟨F, hF⟩ : ∃ F : Nat, n * P = F := ⟨_, rfl⟩
      have hFi : (n : Int) * (P : Int) = (F : Int) := by rw [← hF]; simp
      rw [hF] at hnp
      rw [hFi]
      obtain ⟨S, hS⟩ : ∃ S : Int, (F : Int) + (d : Int) = S := ⟨_, rfl⟩
      have hS0 : 0 ≤ S := by omega
      rw [hS]
      have hF9 : F ≤ 17179869184000000 := by omega
      have hS9 : S ≤ 17179871331483648 := by omega
      have hki : (0 : Int) ≤ (kN : Int) := by omega
      clear f1 f2 f3 hl hF hP hnp hP32 hdv
      by_cases hbig : 4294967295 ≤ S
      · rw [if_pos hbig]
        go_enter Try.func52, Try.ntmps52
        go_wp2_with (first
          | (go_at_call 66; go_must (refine HU.out.mono ?_); rintro e w1 ⟨rfl, hR1, hk1⟩; have HR1 := Lib.hid hR1; have HK1 := Lib.hid hk1; clear hR1 hk1)
          | (go_at_call 51; go_must (refine (HG.out _ HR1).mono ?_); rintro e w2 ⟨rfl, hR2, hk2⟩; have HR2 := Lib.hid hR2; have HK2 := Lib.hid (HK1.out.then_ hk2 (fun b hb _ => hb)); clear hR2 hk2))
        go_ret2
        exact ⟨rfl, by rw [← Nat.add_assoc]; exact HR2.out, HK2.out⟩
      · rw [if_neg hbig]
        obtain ⟨u, hu⟩ : ∃ u : Int, (S = 2 * u ∧ S.tmod 2 = 0 ∧ S.tdiv 2 = u ∧ unfoldS S = u) ∨ (S = 2 * u + 1 ∧ S.tmod 2 = 1 ∧ (-(S + 1)).tdiv 2 = -(u + 1) ∧ unfoldS S = -(u + 1)) := by
          rcases (show S % 2 = 0 ∨ S % 2 = 1 by omega) with h | h
          · refine ⟨S / 2, .inl ⟨by omega, ?_, ?_, ?_⟩⟩
            · rw [Int.tmod_eq_emod_of_nonneg hS0]; exact h
            · rw [Int.tdiv_eq_ediv_of_nonneg hS0]
            · unfold unfoldS; rw [if_neg (by omega)]
          · refine ⟨S / 2, .inr ⟨by omega, ?_, ?_, ?_⟩⟩
            · rw [Int.tmod_eq_emod_of_nonneg hS0]; exact h
            · rw [Int.neg_tdiv, Int.tdiv_eq_ediv_of_nonneg (by omega)]; omega
            · unfold unfoldS; rw [if_pos h]; omega
        rcases hu with ⟨hu0, hu1, hu2, hu3⟩ | ⟨hu0, hu1, hu2, hu3⟩
        · rw [hu3]
          have hub : 0 ≤ u ∧ u ≤ 4294967296 := by omega
          clear hu0 hu3
          go_enter Try.func52, Try.ntmps52
          go_wp2_with (first
            | (go_at_call 66; go_must (refine HU.out.mono ?_); rintro e w1 ⟨rfl, hR1, hk1⟩; have HR1 := Lib.hid hR1; have HK1 := Lib.hid hk1; clear hR1 hk1)
            | (go_at_call 51; go_must (refine (HG.out _ HR1).mono ?_); rintro e w2 ⟨rfl, hR2, hk2⟩; have HR2 := Lib.hid hR2; have HK2 := Lib.hid (HK1.out.then_ hk2 (fun b hb _ => hb)); clear hR2 hk2))
          go_ret2
          exact ⟨rfl, by rw [← Nat.add_assoc]; exact HR2.out, HK2.out⟩
        · rw [hu3]
          have hub : 0 ≤ u ∧ u ≤ 4294967296 := by omega
          have hneg : IntKind.i64.wrap (-(S + 1)) = -(S + 1) := IntWalk.i64_in _ (by omega)
          clear hu0 hu3
          go_enter Try.func52, Try.ntmps52
          go_wp2_with (first
            | (go_at_call 66; go_must (refine HU.out.mono ?_); rintro e w1 ⟨rfl, hR1, hk1⟩; have HR1 := Lib.hid hR1; have HK1 := Lib.hid hk1; clear hR1 hk1)
            | (go_at_call 51; go_must (refine (HG.out _ HR1).mono ?_); rintro e w2 ⟨rfl, hR2, hk2⟩; have HR2 := Lib.hid hR2; have HK2 := Lib.hid (HK1.out.then_ hk2 (fun b hb _ => hb)); clear hR2 hk2))
          go_ret2
          exact ⟨rfl, by rw [← Nat.add_assoc]; exact HR2.out, HK2.out⟩
end Go.Proofs.Ytepbngdoeolepaa
