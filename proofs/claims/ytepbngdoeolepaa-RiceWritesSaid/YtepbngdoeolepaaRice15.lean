/-
  Layer 6 (rice): number; what reading computes.
-/
import Derived.Test.YtepbngdoeolepaaRice14
set_option linter.unusedVariables false
set_option linter.unusedSimpArgs false
namespace Go.Proofs.Ytepbngdoeolepaa
open Go.RowKit Go.Proofs.Ytepbngdoeolepaa.Pure

/-- A reading's answer: what is read, the error, how many bits are gone. -/
def numS (k : Int) (R : List Bool) : Int × Int × Nat :=
  if unRE R ≠ 0 then (0, unRE R, unRT R)
  else if gtE k (R.drop (unRT R)) ≠ 0 then (0, gtE k (R.drop (unRT R)), unRT R + gtT k (R.drop (unRT R)))
  else if 4294967295 ≤ unRN R * 2 ^ k.toNat + gtN k (R.drop (unRT R)) then (0, 12, unRT R + gtT k (R.drop (unRT R)))
  else (unfoldS (unRN R * 2 ^ k.toNat + gtN k (R.drop (unRT R))), 0, unRT R + gtT k (R.drop (unRT R)))
theorem restB_add (bs : List Int) (t a : Nat) : restB bs (t + a) = (restB bs t).drop a := by unfold restB; rw [List.drop_drop]
theorem cnt_lt : ∀ (R : List Bool) (n : Nat), cnt R = some n → n < R.length := by
  intro R
  induction R with
  | nil => intro n h; cases h
  | cons b R ih =>
    intro n h
    cases b
    · unfold cnt at h
      cases h2 : cnt R with
      | none => rw [h2] at h; cases h
      | some m =>
        rw [h2] at h
        have := ih m h2
        have h3 : m + 1 = n := by simpa using h
        rw [List.length_cons]; omega
    · cases h
      simp

set_option maxHeartbeats 2000000 in
theorem number_calls (q : Nat) (sv : Value) (bs : List Int) (t : Nat) (k : Int) (w : World) (hR : Hid (IsR w q sv bs t)) (h0 : 0 ≤ k) (h1 : k ≤ 31) (hs : bs.length ≤ 1000000) :
    Calls Try.prog 62 #[.pointer (some ⟨q, 0, none⟩), .int .i64 k] w fun e w' => e = .returned (.tuple #[.int .i64 (numS k (restB bs t)).1, .int .i64 (numS k (restB bs t)).2.1]) ∧ IsR w' q sv bs (t + (numS k (restB bs t)).2.2) ∧ Keeps [q] w w' := by
  obtain ⟨kN, rfl⟩ : ∃ kN : Nat, k = kN := ⟨k.toNat, by omega⟩
  have HU := Lib.hid (rUnary_calls q sv bs t w hR)
  obtain ⟨R, hRe⟩ : ∃ R, restB bs t = R := ⟨_, rfl⟩
  have hRl : R.length ≤ 8000000 := by rw [← hRe, restB_length]; omega
  rw [hRe] at HU ⊢
  cases hc : cnt R with
  | none =>
    obtain ⟨e1, e2, e3⟩ := unR_none hc
    have hn : numS kN R = (0, 10, 0) := by unfold numS; rw [e1, e3]; rfl
    rw [e1, e2, e3] at HU
    rw [hn]
    clear hn e1 e2 e3 hc
    go_enter Try.func62, Try.ntmps62
    go_wp2_with (first
      | (go_at_call 69; go_must (refine HU.out.mono ?_); rintro e w1 ⟨rfl, hR1, hk1⟩))
    go_ret2
    exact ⟨rfl, hR1, hk1⟩
  | some n =>
    obtain ⟨e1, e2, e3⟩ := unR_some hc
    have hnl := cnt_lt R n hc
    rw [e1, e2, e3] at HU
    have HG := Lib.hid (fun W (h : Hid (IsR W q sv bs (t + (n + 1)))) => rGet_calls q sv bs (t + (n + 1)) (kN : Int) W h)
    have hRa : restB bs (t + (n + 1)) = R.drop (n + 1) := by rw [restB_add, hRe]
    rw [hRa] at HG
    have hunf : numS kN R = if gtE kN (R.drop (n + 1)) ≠ 0 then (0, gtE kN (R.drop (n + 1)), n + 1 + gtT kN (R.drop (n + 1))) else if 4294967295 ≤ (n : Int) * 2 ^ kN + gtN kN (R.drop (n + 1)) then (0, 12, n + 1 + gtT kN (R.drop (n + 1))) else (unfoldS ((n : Int) * 2 ^ kN + gtN kN (R.drop (n + 1))), 0, n + 1 + gtT kN (R.drop (n + 1))) := by
      unfold numS
      rw [e1, e2, e3, Int.toNat_natCast]
      rfl
    rw [hunf]
    clear hunf e1 e2 e3 hc hRe hRa
    generalize R.drop (n + 1) = R2 at *
    by_cases hl : R2.length < kN
    · obtain ⟨f1, f2, f3⟩ := gt_tail (by omega) hl
      rw [f1, f2, f3] at HG
      rw [f1, f3]
      rw [if_pos (by decide)]
      clear f1 f2 f3 hl
      go_enter Try.func62, Try.ntmps62
      go_wp2_with (first
        | (go_at_call 69; go_must (refine HU.out.mono ?_); rintro e w1 ⟨rfl, hR1, hk1⟩; have HR1 := Lib.hid hR1; have HK1 := Lib.hid hk1; clear hR1 hk1)
        | (go_at_call 27; go_must (refine (HG.out _ HR1).mono ?_); rintro e w2 ⟨rfl, hR2, hk2⟩))
      go_ret2
      exact ⟨rfl, hR2, HK1.out.then_ hk2 (fun b hb _ => hb)⟩
    · obtain ⟨f1, f2, f3⟩ := gt_ok (k := kN) (R := R2) (by omega) (by omega)
      rw [f1, f2, f3] at HG
      rw [f1, f2, f3, if_neg (by decide)]
      have hdv := val_take_lt R2 kN
      generalize val (R2.take kN) = d at *
      have hP32 : 2 ^ kN ≤ 2 ^ 31 := Nat.pow_le_pow_right (by omega) (by omega)
      have hP0 : 0 < 2 ^ kN := Nat.two_pow_pos _
      have hor := or_join kN ((n : Int) * 2 ^ kN) d (Int.mul_nonneg (by omega) (Int.le_of_lt (Int.pow_pos (by omega)))) (Int.mul_emod_left _ _)
      obtain ⟨P, hP⟩ : ∃ P : Nat, 2 ^ kN = P := ⟨_, rfl⟩
      have hPi : (2 : Int) ^ kN = (P : Int) := by rw [← hP]; simp
      rw [hP] at hdv hP32 hP0
      rw [hPi] at hor ⊢
      have hnp : n * P ≤ 8000000 * 2 ^ 31 := Nat.mul_le_mul (by omega) hP32
      obtain ⟨F, hF⟩ : ∃ F : Nat, n * P = F := ⟨_, rfl⟩
      have hFi : (n : Int) * (P : Int) = (F : Int) := by rw [← hF]; simp
      rw [hF] at hnp
      rw [hFi] at hor ⊢
      have hor2 := hor (by omega) (by omega) (by omega) (by omega)
      obtain ⟨S, hS⟩ : ∃ S : Int, (F : Int) + (d : Int) = S := ⟨_, rfl⟩
      have hS0 : 0 ≤ S := by omega
      rw [hS] at hor2 ⊢
      have hUF := Lib.hid (fun (h : S ≤ 2199023255552) W => unfold_calls S W hS0 h)
      have hF9 : F ≤ 17179869184000000 := by omega
      have hd9 : d ≤ 2147483648 := by omega
      clear hor f1 f2 f3 hl hF hP hS hnp hP32 hdv
      rcases (show 4294967295 ≤ S ∨ (¬ 4294967295 ≤ S ∧ S ≤ 2199023255552) by omega) with hbig | ⟨hbig, hb2⟩
      · rw [if_pos hbig]
        go_enter Try.func62, Try.ntmps62
        go_upto_region 7 with (first
          | (go_at_call 69; go_must (refine HU.out.mono ?_); rintro e w1 ⟨rfl, hR1, hk1⟩; have HR1 := Lib.hid hR1; have HK1 := Lib.hid hk1; clear hR1 hk1)
          | (go_at_call 27; go_must (refine (HG.out _ HR1).mono ?_); rintro e w2 ⟨rfl, hR2, hk2⟩; have HR2 := Lib.hid hR2; have HK2 := Lib.hid (HK1.out.then_ hk2 (fun b hb _ => hb)); clear hR2 hk2))
        go_wp2_with fail
        go_ret2
        exact ⟨rfl, by rw [← Nat.add_assoc]; exact HR2.out, HK2.out⟩
      · rw [if_neg hbig]
        go_enter Try.func62, Try.ntmps62
        go_upto_region 7 with (first
          | (go_at_call 69; go_must (refine HU.out.mono ?_); rintro e w1 ⟨rfl, hR1, hk1⟩; have HR1 := Lib.hid hR1; have HK1 := Lib.hid hk1; clear hR1 hk1)
          | (go_at_call 27; go_must (refine (HG.out _ HR1).mono ?_); rintro e w2 ⟨rfl, hR2, hk2⟩; have HR2 := Lib.hid hR2; have HK2 := Lib.hid (HK1.out.then_ hk2 (fun b hb _ => hb)); clear hR2 hk2))
        go_wp2_with (first
          | (go_at_call 70; go_must (refine (hUF.out hb2 _).mono ?_); rintro e w3 ⟨rfl, rfl⟩))
        go_ret2
        exact ⟨rfl, by rw [← Nat.add_assoc]; exact HR2.out, HK2.out⟩
end Go.Proofs.Ytepbngdoeolepaa
