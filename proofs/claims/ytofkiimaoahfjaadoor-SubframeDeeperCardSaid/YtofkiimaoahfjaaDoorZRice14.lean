/-
  Layer 6 (rice): plain facts of widths and of the least size.
  Layer 6 (rice): number; what reading computes.
  Layer 6 (rice): the reading of a part and of a block, as plain functions.
-/
import Derived.Test.YtofkiimaoahfjaaDoorZRice12
set_option maxRecDepth 100000
set_option linter.unusedVariables false
set_option linter.unusedSimpArgs false
namespace Go.Proofs.YtofkiimaoahfjaaDoor
open Go.RowKit Go.Proofs.YtofkiimaoahfjaaDoor.Pure

theorem bitLenAux_iff : ∀ (f x k : Nat), x < 2 ^ f → (Lib.bitLenAux f x ≤ k ↔ x < 2 ^ k) := by
  intro f
  induction f with
  | zero =>
    intro x k h
    have : x = 0 := by simpa using h
    subst this
    simp [Lib.bitLenAux]
    exact Nat.two_pow_pos _
  | succ f ih =>
    intro x k h
    unfold Lib.bitLenAux
    split
    · rename_i h0
      subst h0
      simp
      exact Nat.two_pow_pos _
    · rename_i h0
      cases k with
      | zero => simp; omega
      | succ k =>
        have := ih (x / 2) k (by rw [Nat.pow_succ] at h; omega)
        rw [Nat.pow_succ]
        omega
theorem bitLen_iff (x k : Nat) (h : x < 2 ^ 64) : Lib.bitLen x ≤ k ↔ x < 2 ^ k := bitLenAux_iff 64 x k h
/-- The least width of one number. -/
def wd0 (n : Int) : Int := if n = 0 then 0 else bitsS n
theorem wd0_range (n : Int) (h : -2147483648 < n ∧ n < 2147483648) : 0 ≤ wd0 n ∧ wd0 n ≤ 32 := by
  unfold wd0
  split
  · omega
  · unfold bitsS
    have hm : (magS n).toNat < 2 ^ 31 := by unfold magS; split <;> omega
    have := (bitLen_iff (magS n).toNat 31 (by omega)).2 hm
    omega
theorem wdS_eq (w n : Int) (hw : 0 ≤ w) : wdS w n = max w (wd0 n) := by
  unfold wdS wd0
  split <;> omega
theorem sgnB_iff (n : Int) (k : Nat) (h : -2147483648 < n ∧ n < 2147483648) : sgnB n k = decide (wd0 n ≤ k) := by
  unfold sgnB wd0
  by_cases hk : k = 0
  · subst hk
    simp
    by_cases hn : n = 0
    · simp [hn]
    · simp [hn]
      unfold bitsS
      omega
  · obtain ⟨j, rfl⟩ : ∃ j, k = j + 1 := ⟨k - 1, by omega⟩
    rw [if_neg (by omega)]
    have e : ((j + 1 : Nat) : Int).toNat - 1 = j := by omega
    rw [e]
    congr 1
    have hp : (0 : Int) < 2 ^ j := Int.pow_pos (by omega)
    have hc : (2 : Int) ^ j = ((2 ^ j : Nat) : Int) := by simp
    by_cases hn : n = 0
    · subst hn
      simp
      omega
    · rw [if_neg hn]
      unfold bitsS
      have hm : (magS n).toNat < 2 ^ 64 := by unfold magS; split <;> omega
      have := bitLen_iff (magS n).toNat j hm
      have h1 : ((magS n).toNat < 2 ^ j) ↔ (-2 ^ j ≤ n ∧ n < 2 ^ j) := by
        rw [hc]
        generalize 2 ^ j = P
        unfold magS
        split <;> omega
      rw [← h1, ← this]
      apply propext
      omega

/-! ### The least size -/
theorem loopK_least (F : List Int) : ∀ n k, k < n → farB k F = false → (loopK F n).2 = true ∧ (loopK F n).1.2.2 ≤ szK k F := by
  intro n
  induction n with
  | zero => intro k h; omega
  | succ n ih =>
    intro k hk hf
    refine ⟨loopK_ok F k (n + 1) hk hf, ?_⟩
    rw [loopK_succ]
    unfold stepK
    by_cases h : k = n
    · subst h
      split
      · exact Int.le_refl _
      · rename_i hn
        by_cases h2 : (loopK F k).2 = false
        · exact absurd ⟨hf, .inl h2⟩ hn
        · by_cases h3 : szK k F < (loopK F k).1.2.2
          · exact absurd ⟨hf, .inr h3⟩ hn
          · omega
    · obtain ⟨h1, h2⟩ := ih k (by omega) hf
      split
      · rename_i hn
        rcases hn.2 with h3 | h3
        · rw [h1] at h3; cases h3
        · show szK n F ≤ szK k F
          omega
      · exact h2
theorem bestS_leastK (c : List Int) (m k : Nat) (hk : k < escS m) (hf : farB k (c.map foldS) = false) : (bestS c m).2 = true ∧ (bestS c m).1.2.2 ≤ szK k (c.map foldS) := by
  obtain ⟨h1, h2⟩ := loopK_least (c.map foldS) (escS m) k hk hf
  unfold bestS
  split
  · rename_i h
    refine ⟨rfl, ?_⟩
    rcases h.2 with h3 | h3
    · rw [h1] at h3; cases h3
    · show 5 + widthS c * c.length ≤ _
      omega
  · exact ⟨h1, h2⟩
theorem bestS_leastW (c : List Int) (m : Nat) (hw : widthS c ≤ 31) : (bestS c m).2 = true ∧ (bestS c m).1.2.2 ≤ 5 + widthS c * c.length := by
  unfold bestS
  split
  · exact ⟨rfl, Int.le_refl _⟩
  · rename_i h
    by_cases h2 : (loopK (c.map foldS) (escS m)).2 = false
    · exact absurd ⟨hw, .inl h2⟩ h
    · by_cases h3 : 5 + widthS c * c.length < (loopK (c.map foldS) (escS m)).1.2.2
      · exact absurd ⟨hw, .inr h3⟩ h
      · exact ⟨by simpa using h2, by omega⟩
section
variable {L : List Int} {order : Nat}
theorem candGe (hl : L.length ≤ 600) (hin : ∀ n ∈ L, -2147483648 < n ∧ n < 2147483648) (p m : Nat) (hm : m ≤ 1) : 0 ≤ (candGo m (partsS L order p) [] 6).2.1 := by
  have hmem := partsS_mem L order p
  exact candGo_ge m hm (partsS L order p) (fun c hc => by have := (hmem c hc).2; omega) (fun c hc n hn => hin n ((hmem c hc).1 n hn)) [] 6 (by omega)
theorem stepM_least (hl : L.length ≤ 600) (hin : ∀ n ∈ L, -2147483648 < n ∧ n < 2147483648) (p m : Nat) (hm : m ≤ 1) (st : PS) :
    ((candGo m (partsS L order p) [] 6).2.2 = true → 0 ≤ (stepM L order p st m).2.2.2 ∧ (stepM L order p st m).2.2.2 ≤ (candGo m (partsS L order p) [] 6).2.1) ∧ (0 ≤ st.2.2.2 → 0 ≤ (stepM L order p st m).2.2.2 ∧ (stepM L order p st m).2.2.2 ≤ st.2.2.2) := by
  have hge := candGe (order := order) hl hin p m hm
  unfold stepM
  split
  · rename_i h
    refine ⟨fun _ => ⟨hge, Int.le_refl _⟩, fun h0 => ⟨hge, ?_⟩⟩
    show (candGo m (partsS L order p) [] 6).2.1 ≤ _
    rcases h.2 with h2 | h2 <;> omega
  · rename_i h
    refine ⟨fun h1 => ?_, fun h0 => ⟨h0, Int.le_refl _⟩⟩
    by_cases h2 : st.2.2.2 < 0
    · exact absurd ⟨h1, .inl h2⟩ h
    · by_cases h3 : (candGo m (partsS L order p) [] 6).2.1 < st.2.2.2
      · exact absurd ⟨h1, .inr h3⟩ h
      · omega
theorem stepP_less (hl : L.length ≤ 600) (hin : ∀ n ∈ L, -2147483648 < n ∧ n < 2147483648) (p : Nat) (st : PS) (h : 0 ≤ st.2.2.2) : 0 ≤ (stepP L order st p).2.2.2 ∧ (stepP L order st p).2.2.2 ≤ st.2.2.2 := by
  unfold stepP
  split
  · rw [loopM_succ, loopM_succ, loopM_zero]
    have h1 := (stepM_least (order := order) hl hin p 0 (by omega) st).2 h
    have h2 := (stepM_least (order := order) hl hin p 1 (by omega) _).2 h1.1
    omega
  · omega
theorem choose_least0 (hl : L.length ≤ 600) (hin : ∀ n ∈ L, -2147483648 < n ∧ n < 2147483648) (m : Nat) (hm : m ≤ 1) (hc : (candGo m (partsS L order 0) [] 6).2.2 = true) : (chooseS L order).2.2.2 ≤ (candGo m (partsS L order 0) [] 6).2.1 := by
  have hf0 : fitsB (L.length + order) order 0 = true := by
    unfold fitsB
    rw [decide_eq_true]
    simp
    omega
  have h1 : 0 ≤ (loopP L order 1).2.2.2 ∧ (loopP L order 1).2.2.2 ≤ (candGo m (partsS L order 0) [] 6).2.1 := by
    rw [loopP_succ, loopP_zero]
    unfold stepP
    rw [if_pos hf0, loopM_succ, loopM_succ, loopM_zero]
    obtain ⟨a0, a1⟩ := stepM_least (order := order) hl hin 0 0 (by omega) (0, 0, [], -1)
    obtain ⟨b0, b1⟩ := stepM_least (order := order) hl hin 0 1 (by omega) (stepM L order 0 (0, 0, [], -1) 0)
    rcases (show m = 0 ∨ m = 1 by omega) with rfl | rfl
    · have := a0 hc
      have := b1 this.1
      omega
    · exact b0 hc
  have step : ∀ n, 0 ≤ (loopP L order n).2.2.2 → 0 ≤ (loopP L order (n + 1)).2.2.2 ∧ (loopP L order (n + 1)).2.2.2 ≤ (loopP L order n).2.2.2 := by
    intro n h
    rw [loopP_succ]
    exact stepP_less hl hin n _ h
  have h2 : 0 ≤ (loopP L order 2).2.2.2 ∧ (loopP L order 2).2.2.2 ≤ (loopP L order 1).2.2.2 := step 1 h1.1
  have h3 : 0 ≤ (loopP L order 3).2.2.2 ∧ (loopP L order 3).2.2.2 ≤ (loopP L order 2).2.2.2 := step 2 h2.1
  have h4 : 0 ≤ (loopP L order 4).2.2.2 ∧ (loopP L order 4).2.2.2 ≤ (loopP L order 3).2.2.2 := step 3 h3.1
  have h5 : 0 ≤ (loopP L order 5).2.2.2 ∧ (loopP L order 5).2.2.2 ≤ (loopP L order 4).2.2.2 := step 4 h4.1
  show (loopP L order 5).2.2.2 ≤ _
  omega
end
theorem partsS_one (L : List Int) : partsS L 0 0 = [L] := by
  unfold partsS
  simp [chunks]
theorem cand_one (m : Nat) (L : List Int) (h : (bestS L m).2 = true) : (candGo m (partsS L 0 0) [] 6).2.2 = true ∧ (candGo m (partsS L 0 0) [] 6).2.1 = 6 + ((4 + m : Nat) + (bestS L m).1.2.2) := by
  rw [partsS_one]
  unfold candGo
  rw [if_pos h]
  exact ⟨rfl, rfl⟩
theorem few_plain (L : List Int) (hl : L.length ≤ 600) (hin : ∀ n ∈ L, -2147483648 < n ∧ n < 2147483648) (k : Nat) (hk : k < 31) (hf : farB k (L.map foldS) = false) : (chooseS L 0).2.2.2 ≤ 11 + szK k (L.map foldS) := by
  obtain ⟨h1, h2⟩ := bestS_leastK L 1 k hk hf
  obtain ⟨h3, h4⟩ := cand_one 1 L h1
  have := choose_least0 (order := 0) hl hin 1 (by omega) h3
  omega
theorem few_wide (L : List Int) (hl : L.length ≤ 600) (hin : ∀ n ∈ L, -2147483648 < n ∧ n < 2147483648) (hw : widthS L ≤ 31) : (chooseS L 0).2.2.2 ≤ 15 + widthS L * L.length := by
  obtain ⟨h1, h2⟩ := bestS_leastW L 0 hw
  obtain ⟨h3, h4⟩ := cand_one 0 L h1
  have := choose_least0 (order := 0) hl hin 0 (by omega) h3
  omega
theorem choose_range (L : List Int) (order : Nat) (hl : L.length ≤ 600) (hin : ∀ n ∈ L, -2147483648 < n ∧ n < 2147483648) : 0 ≤ (chooseS L order).2.2.2 ∧ (chooseS L order).2.2.2 ≤ 10000000000100 := by
  have hp := choose_plan hl hin (order := order) (by omega)
  obtain ⟨m, p, h1, h2, h3, h4, h5, h6, h7⟩ := hp
  refine ⟨h7, ?_⟩
  have h8 := bestS_range L 1 (by omega) hl hin
  have hok := bestS_ok L hin
  have hf0 : (candGo 1 (partsS L order 0) [] 6).2.2 = true ∧ (candGo 1 (partsS L order 0) [] 6).2.1 ≤ 10000000000100 := by
    have e : partsS L order 0 = [L] := by unfold partsS; simp [chunks]
    rw [e]
    unfold candGo
    rw [if_pos hok]
    refine ⟨rfl, ?_⟩
    show (6 : Int) + ((4 + 1 : Nat) + (bestS L 1).1.2.2) ≤ _
    omega
  have := choose_least0 (order := order) hl hin 1 (by omega) hf0.1
  omega
end Go.Proofs.YtofkiimaoahfjaaDoor

set_option maxRecDepth 100000
set_option linter.unusedVariables false
set_option linter.unusedSimpArgs false
namespace Go.Proofs.YtofkiimaoahfjaaDoor
open Go.RowKit Go.Proofs.YtofkiimaoahfjaaDoor.Pure

/-- A reading's answer: what is read, the error, how many bits are gone. -/
def numS (k : Int) (R : List Bool) : Int × Int × Nat :=
  if unRE R ≠ 0 then (0, unRE R, unRT R)
  else if gtE k (R.drop (unRT R)) ≠ 0 then (0, gtE k (R.drop (unRT R)), unRT R + gtT k (R.drop (unRT R)))
  else if 4294967295 ≤ unRN R * 2 ^ k.toNat + gtN k (R.drop (unRT R)) then (0, 12, unRT R + gtT k (R.drop (unRT R)))
  else (unfoldS (unRN R * 2 ^ k.toNat + gtN k (R.drop (unRT R))), 0, unRT R + gtT k (R.drop (unRT R)))
theorem restB_add (bs : List Int) (t a : Nat) : restB bs (t + a) = (restB bs t).drop a := by unfold restB; rw [List.drop_drop]
theorem cnt_lt : ∀ (R : List Bool) (n : Nat), cnt R = some n → n < R.length := by
  intro R
  induction R with
  | nil => intro n h; cases h
  | cons b R ih =>
    intro n h
    cases b
    · unfold cnt at h
      cases h2 : cnt R with
      | none => rw [h2] at h; cases h
      | some m =>
        rw [h2] at h
        have := ih m h2
        have h3 : m + 1 = n := by simpa using h
        rw [List.length_cons]; omega
    · cases h
      simp

set_option maxHeartbeats 2000000 in
theorem number_calls (q : Nat) (sv : Value) (bs : List Int) (t : Nat) (k : Int) (w : World) (hR : Hid (IsR w q sv bs t)) (h0 : 0 ≤ k) (h1 : k ≤ 31) (hs : bs.length ≤ 1000000) :
    Calls Tryd.prog 122 #[.pointer (some ⟨q, 0, none⟩), .int .i64 k] w fun e w' => e = .returned (.tuple #[.int .i64 (numS k (restB bs t)).1, .int .i64 (numS k (restB bs t)).2.1]) ∧ IsR w' q sv bs (t + (numS k (restB bs t)).2.2) ∧ Keeps [q] w w' := by
  obtain ⟨kN, rfl⟩ : ∃ kN : Nat, k = kN := ⟨k.toNat, by omega⟩
  have HU := Lib.hid (rUnary_calls q sv bs t w hR)
  obtain ⟨R, hRe⟩ : ∃ R, restB bs t = R := ⟨_, rfl⟩
  have hRl : R.length ≤ 8000000 := by rw [← hRe, restB_length]; omega
  rw [hRe] at HU ⊢
  cases hc : cnt R with
  | none =>
    obtain ⟨e1, e2, e3⟩ := unR_none hc
    have hn : numS kN R = (0, 10, 0) := by unfold numS; rw [e1, e3]; rfl
    rw [e1, e2, e3] at HU
    rw [hn]
    clear hn e1 e2 e3 hc
    go_enter Tryd.func122, Tryd.ntmps122
    go_wp2_with (first
      | (go_at_call 75; go_must (refine HU.out.mono ?_); rintro e w1 ⟨rfl, hR1, hk1⟩))
    go_ret2
    exact ⟨rfl, hR1, hk1⟩
  | some n =>
    obtain ⟨e1, e2, e3⟩ := unR_some hc
    have hnl := cnt_lt R n hc
    rw [e1, e2, e3] at HU
    have HG := Lib.hid (fun W (h : Hid (IsR W q sv bs (t + (n + 1)))) => rGet_calls q sv bs (t + (n + 1)) (kN : Int) W h)
    have hRa : restB bs (t + (n + 1)) = R.drop (n + 1) := by rw [restB_add, hRe]
    rw [hRa] at HG
    have hunf : numS kN R = if gtE kN (R.drop (n + 1)) ≠ 0 then (0, gtE kN (R.drop (n + 1)), n + 1 + gtT kN (R.drop (n + 1))) else if 4294967295 ≤ (n : Int) * 2 ^ kN + gtN kN (R.drop (n + 1)) then (0, 12, n + 1 + gtT kN (R.drop (n + 1))) else (unfoldS ((n : Int) * 2 ^ kN + gtN kN (R.drop (n + 1))), 0, n + 1 + gtT kN (R.drop (n + 1))) := by
      unfold numS
      rw [e1, e2, e3, Int.toNat_natCast]
      rfl
    rw [hunf]
    clear hunf e1 e2 e3 hc hRe hRa
    generalize R.drop (n + 1) = R2 at *
    by_cases hl : R2.length < kN
    · obtain ⟨f1, f2, f3⟩ := gt_tail (by omega) hl
      rw [f1, f2, f3] at HG
      rw [f1, f3]
      rw [if_pos (by decide)]
      clear f1 f2 f3 hl
      go_enter Tryd.func122, Tryd.ntmps122
      go_wp2_with (first
        | (go_at_call 75; go_must (refine HU.out.mono ?_); rintro e w1 ⟨rfl, hR1, hk1⟩; have HR1 := Lib.hid hR1; have HK1 := Lib.hid hk1; clear hR1 hk1)
        | (go_at_call 105; go_must (refine (HG.out _ HR1).mono ?_); rintro e w2 ⟨rfl, hR2, hk2⟩))
      go_ret2
      exact ⟨rfl, hR2, HK1.out.then_ hk2 (fun b hb _ => hb)⟩
    · obtain ⟨f1, f2, f3⟩ := gt_ok (k := kN) (R := R2) (by omega) (by omega)
      rw [f1, f2, f3] at HG
      rw [f1, f2, f3, if_neg (by decide)]
      have hdv := val_take_lt R2 kN
      generalize val (R2.take kN) = d at *
      have hP32 : 2 ^ kN ≤ 2 ^ 31 := Nat.pow_le_pow_right (by omega) (by omega)
      have hP0 : 0 < 2 ^ kN := Nat.two_pow_pos _
      have hor := or_join kN ((n : Int) * 2 ^ kN) d (Int.mul_nonneg (by omega) (Int.le_of_lt (Int.pow_pos (by omega)))) (Int.mul_emod_left _ _)
      obtain ⟨P, hP⟩ : ∃ P : Nat, 2 ^ kN = P := ⟨_, rfl⟩
      have hPi : (2 : Int) ^ kN = (P : Int) := by rw [← hP]; simp
      rw [hP] at hdv hP32 hP0
      rw [hPi] at hor ⊢
      have hnp : n * P ≤ 8000000 * 2 ^ 31 := Nat.mul_le_mul (by omega) hP32
      obtain ⟨F, hF⟩ : ∃ F : Nat, n * P = F := ⟨_, rfl⟩
      have hFi : (n : Int) * (P : Int) = (F : Int) := by rw [← hF]; simp
      rw [hF] at hnp
      rw [hFi] at hor ⊢
      have hor2 := hor (by omega) (by omega) (by omega) (by omega)
      obtain ⟨S, hS⟩ : ∃ S : Int, (F : Int) + (d : Int) = S := ⟨_, rfl⟩
      have hS0 : 0 ≤ S := by omega
      rw [hS] at hor2 ⊢
      have hUF := Lib.hid (fun (h : S ≤ 2199023255552) W => unfold_calls S W hS0 h)
      have hF9 : F ≤ 17179869184000000 := by omega
      have hd9 : d ≤ 2147483648 := by omega
      clear hor f1 f2 f3 hl hF hP hS hnp hP32 hdv
      rcases (show 4294967295 ≤ S ∨ (¬ 4294967295 ≤ S ∧ S ≤ 2199023255552) by omega) with hbig | ⟨hbig, hb2⟩
      · rw [if_pos hbig]
        go_enter Tryd.func122, Tryd.ntmps122
        go_upto_region 7 with (first
          | (go_at_call 75; go_must (refine HU.out.mono ?_); rintro e w1 ⟨rfl, hR1, hk1⟩; have HR1 := Lib.hid hR1; have HK1 := Lib.hid hk1; clear hR1 hk1)
          | (go_at_call 105; go_must (refine (HG.out _ HR1).mono ?_); rintro e w2 ⟨rfl, hR2, hk2⟩; have HR2 := Lib.hid hR2; have HK2 := Lib.hid (HK1.out.then_ hk2 (fun b hb _ => hb)); clear hR2 hk2))
        go_wp2_with fail
        go_ret2
        exact ⟨rfl, by rw [← Nat.add_assoc]; exact HR2.out, HK2.out⟩
      · rw [if_neg hbig]
        go_enter Tryd.func122, Tryd.ntmps122
        go_upto_region 7 with (first
          | (go_at_call 75; go_must (refine HU.out.mono ?_); rintro e w1 ⟨rfl, hR1, hk1⟩; have HR1 := Lib.hid hR1; have HK1 := Lib.hid hk1; clear hR1 hk1)
          | (go_at_call 105; go_must (refine (HG.out _ HR1).mono ?_); rintro e w2 ⟨rfl, hR2, hk2⟩; have HR2 := Lib.hid hR2; have HK2 := Lib.hid (HK1.out.then_ hk2 (fun b hb _ => hb)); clear hR2 hk2))
        go_wp2_with (first
          | (go_at_call 126; go_must (refine (hUF.out hb2 _).mono ?_); rintro e w3 ⟨rfl, rfl⟩))
        go_ret2
        exact ⟨rfl, by rw [← Nat.add_assoc]; exact HR2.out, HK2.out⟩
end Go.Proofs.YtofkiimaoahfjaaDoor

set_option maxRecDepth 100000
set_option linter.unusedVariables false
set_option linter.unusedSimpArgs false
namespace Go.Proofs.YtofkiimaoahfjaaDoor
open Go.RowKit Go.Proofs.YtofkiimaoahfjaaDoor.Pure

/-- One number of a part. -/
def oneS (esc : Bool) (k wd : Int) (R : List Bool) : Int × Int × Nat := if esc then (gsN wd R, gtE wd R, gtT wd R) else numS k R
/-- So many numbers: what is read (nothing where an error is), the error, how many bits are gone. -/
def listS (one : List Bool → Int × Int × Nat) : Nat → List Bool → List Int × Int × Nat
  | 0, _ => ([], 0, 0)
  | n + 1, R => if (one R).2.1 ≠ 0 then ([], (one R).2.1, (one R).2.2)
    else if (listS one n (R.drop (one R).2.2)).2.1 ≠ 0 then ([], (listS one n (R.drop (one R).2.2)).2.1, (one R).2.2 + (listS one n (R.drop (one R).2.2)).2.2)
    else ((one R).1 :: (listS one n (R.drop (one R).2.2)).1, 0, (one R).2.2 + (listS one n (R.drop (one R).2.2)).2.2)
theorem listS_zero (one : List Bool → Int × Int × Nat) (R : List Bool) : listS one 0 R = ([], 0, 0) := rfl
theorem listS_err (one : List Bool → Int × Int × Nat) (n : Nat) (R : List Bool) (h : (one R).2.1 ≠ 0) : listS one (n + 1) R = ([], (one R).2.1, (one R).2.2) := by
  rw [listS, if_pos h]
/-- What the loop holds: 'acc' is read, behind it 'listS' of the rest. -/
def RestS (one : List Bool → Int × Int × Nat) (acc : List Int) (n : Nat) (R : List Bool) (t : Nat) (X : List Int × Int × Nat) : Prop :=
  (X.2.1 ≠ 0 ∧ (listS one n R).2.1 = X.2.1 ∧ X.1 = [] ∧ X.2.2 = t + (listS one n R).2.2) ∨ (X.2.1 = 0 ∧ (listS one n R).2.1 = 0 ∧ X.1 = acc ++ (listS one n R).1 ∧ X.2.2 = t + (listS one n R).2.2)
theorem listS_nil (one : List Bool → Int × Int × Nat) (n : Nat) (R : List Bool) (h : (listS one n R).2.1 ≠ 0) : (listS one n R).1 = [] := by
  cases n with
  | zero => rfl
  | succ n =>
    rw [listS] at h ⊢
    split
    · rfl
    · rename_i h1
      rw [if_neg h1] at h
      split
      · rfl
      · rename_i h2
        rw [if_neg h2] at h
        exact (h rfl).elim
theorem RestS.start (one : List Bool → Int × Int × Nat) (n : Nat) (R : List Bool) : RestS one [] n R 0 (listS one n R) := by
  by_cases h : (listS one n R).2.1 = 0
  · exact .inr ⟨h, h, (List.nil_append _).symm, (Nat.zero_add _).symm⟩
  · exact .inl ⟨h, rfl, listS_nil one n R h, (Nat.zero_add _).symm⟩
theorem RestS.fin {one : List Bool → Int × Int × Nat} {acc : List Int} {R : List Bool} {t : Nat} {X : List Int × Int × Nat} (h : RestS one acc 0 R t X) : X = (acc, 0, t) := by
  rcases h with ⟨h0, h1, _⟩ | ⟨h0, _, h2, h3⟩
  · exact (h0 h1.symm).elim
  · obtain ⟨a, b, c⟩ := X
    simp only [listS, List.append_nil, Nat.add_zero] at h0 h2 h3
    subst h0 h2 h3
    rfl
theorem RestS.err {one : List Bool → Int × Int × Nat} {acc : List Int} {n : Nat} {R : List Bool} {t : Nat} {X : List Int × Int × Nat} (h : RestS one acc (n + 1) R t X) (he : (one R).2.1 ≠ 0) : X = ([], (one R).2.1, t + (one R).2.2) := by
  unfold RestS at h
  rw [listS_err one n R he] at h
  rcases h with ⟨h0, h1, h2, h3⟩ | ⟨h0, h1, _⟩
  · obtain ⟨a, b, c⟩ := X
    simp only at h0 h1 h2 h3
    subst h1 h2 h3
    rfl
  · exact (he h1).elim
theorem RestS.ok {one : List Bool → Int × Int × Nat} {acc : List Int} {n : Nat} {R : List Bool} {t : Nat} {X : List Int × Int × Nat} (h : RestS one acc (n + 1) R t X) (he : (one R).2.1 = 0) : RestS one (acc ++ [(one R).1]) n (R.drop (one R).2.2) (t + (one R).2.2) X := by
  unfold RestS at h ⊢
  rw [listS, if_neg (by simp [he])] at h
  by_cases h2 : (listS one n (R.drop (one R).2.2)).2.1 = 0
  · rw [if_neg (by simp [h2])] at h
    rcases h with ⟨h0, h1, _⟩ | ⟨h0, h1, h3, h4⟩
    · exact (h0 h1.symm).elim
    · exact .inr ⟨h0, h2, by rw [h3]; simp, by rw [h4]; simp only; omega⟩
  · rw [if_pos h2] at h
    rcases h with ⟨h0, h1, h3, h4⟩ | ⟨h0, h1, _⟩
    · exact .inl ⟨h0, h1, h3, by rw [h4]; simp only; omega⟩
    · exact (h2 h1).elim
/-- A part. -/
def readS (m count : Nat) (R : List Bool) : List Int × Int × Nat :=
  if gtE ((4 + m : Nat) : Int) R ≠ 0 then ([], gtE ((4 + m : Nat) : Int) R, gtT ((4 + m : Nat) : Int) R)
  else if gtN ((4 + m : Nat) : Int) R = (escS m : Int) then
    if gtE 5 (R.drop (4 + m)) ≠ 0 then ([], gtE 5 (R.drop (4 + m)), 4 + m + gtT 5 (R.drop (4 + m)))
    else ((listS (oneS true 0 (gtN 5 (R.drop (4 + m)))) count (R.drop (4 + m + 5))).1, (listS (oneS true 0 (gtN 5 (R.drop (4 + m)))) count (R.drop (4 + m + 5))).2.1, 4 + m + 5 + (listS (oneS true 0 (gtN 5 (R.drop (4 + m)))) count (R.drop (4 + m + 5))).2.2)
  else ((listS (oneS false (gtN ((4 + m : Nat) : Int) R) 0) count (R.drop (4 + m))).1, (listS (oneS false (gtN ((4 + m : Nat) : Int) R) 0) count (R.drop (4 + m))).2.1, 4 + m + (listS (oneS false (gtN ((4 + m : Nat) : Int) R) 0) count (R.drop (4 + m))).2.2)
/-- Part by part. -/
def partsR (m : Nat) : List Nat → List Bool → List Int × Int × Nat
  | [], _ => ([], 0, 0)
  | c :: cs, R => if (readS m c R).2.1 ≠ 0 then ([], (readS m c R).2.1, (readS m c R).2.2)
    else if (partsR m cs (R.drop (readS m c R).2.2)).2.1 ≠ 0 then ([], (partsR m cs (R.drop (readS m c R).2.2)).2.1, (readS m c R).2.2 + (partsR m cs (R.drop (readS m c R).2.2)).2.2)
    else ((readS m c R).1 ++ (partsR m cs (R.drop (readS m c R).2.2)).1, 0, (readS m c R).2.2 + (partsR m cs (R.drop (readS m c R).2.2)).2.2)
def RestP (m : Nat) (acc : List Int) (cs : List Nat) (R : List Bool) (t : Nat) (X : List Int × Int × Nat) : Prop :=
  (X.2.1 ≠ 0 ∧ (partsR m cs R).2.1 = X.2.1 ∧ X.1 = [] ∧ X.2.2 = t + (partsR m cs R).2.2) ∨ (X.2.1 = 0 ∧ (partsR m cs R).2.1 = 0 ∧ X.1 = acc ++ (partsR m cs R).1 ∧ X.2.2 = t + (partsR m cs R).2.2)
theorem partsR_nil (m : Nat) (cs : List Nat) (R : List Bool) (h : (partsR m cs R).2.1 ≠ 0) : (partsR m cs R).1 = [] := by
  cases cs with
  | nil => rfl
  | cons c cs =>
    rw [partsR] at h ⊢
    split
    · rfl
    · rename_i h1
      rw [if_neg h1] at h
      split
      · rfl
      · rename_i h2
        rw [if_neg h2] at h
        exact (h rfl).elim
theorem RestP.start (m : Nat) (cs : List Nat) (R : List Bool) : RestP m [] cs R 0 (partsR m cs R) := by
  by_cases h : (partsR m cs R).2.1 = 0
  · exact .inr ⟨h, h, (List.nil_append _).symm, (Nat.zero_add _).symm⟩
  · exact .inl ⟨h, rfl, partsR_nil m cs R h, (Nat.zero_add _).symm⟩
theorem RestP.fin {m : Nat} {acc : List Int} {R : List Bool} {t : Nat} {X : List Int × Int × Nat} (h : RestP m acc [] R t X) : X = (acc, 0, t) := by
  rcases h with ⟨h0, h1, _⟩ | ⟨h0, _, h2, h3⟩
  · exact (h0 h1.symm).elim
  · obtain ⟨a, b, c⟩ := X
    simp only [partsR, List.append_nil, Nat.add_zero] at h0 h2 h3
    subst h0 h2 h3
    rfl
theorem RestP.err {m : Nat} {acc : List Int} {c : Nat} {cs : List Nat} {R : List Bool} {t : Nat} {X : List Int × Int × Nat} (h : RestP m acc (c :: cs) R t X) (he : (readS m c R).2.1 ≠ 0) : X = ([], (readS m c R).2.1, t + (readS m c R).2.2) := by
  unfold RestP at h
  rw [show partsR m (c :: cs) R = ([], (readS m c R).2.1, (readS m c R).2.2) by rw [partsR, if_pos he]] at h
  rcases h with ⟨h0, h1, h2, h3⟩ | ⟨h0, h1, _⟩
  · obtain ⟨a, b, d⟩ := X
    simp only at h0 h1 h2 h3
    subst h1 h2 h3
    rfl
  · exact (he h1).elim
theorem RestP.ok {m : Nat} {acc : List Int} {c : Nat} {cs : List Nat} {R : List Bool} {t : Nat} {X : List Int × Int × Nat} (h : RestP m acc (c :: cs) R t X) (he : (readS m c R).2.1 = 0) : RestP m (acc ++ (readS m c R).1) cs (R.drop (readS m c R).2.2) (t + (readS m c R).2.2) X := by
  unfold RestP at h ⊢
  rw [partsR, if_neg (by simp [he])] at h
  by_cases h2 : (partsR m cs (R.drop (readS m c R).2.2)).2.1 = 0
  · rw [if_neg (by simp [h2])] at h
    rcases h with ⟨h0, h1, _⟩ | ⟨h0, h1, h3, h4⟩
    · exact (h0 h1.symm).elim
    · exact .inr ⟨h0, h2, by rw [h3]; simp, by rw [h4]; simp only; omega⟩
  · rw [if_pos h2] at h
    rcases h with ⟨h0, h1, h3, h4⟩ | ⟨h0, h1, _⟩
    · exact .inl ⟨h0, h1, h3, by rw [h4]; simp only; omega⟩
    · exact (h2 h1).elim
/-- The parts' counts. -/
def cntsS (n order p : Nat) : List Nat := (n / 2 ^ p - order) :: List.replicate (2 ^ p - 1) (n / 2 ^ p)
/-- A block. -/
def blockS (n order : Int) (R : List Bool) : List Int × Int × Nat :=
  if rblockB n order = false then ([], 1, 0)
  else if gtE 2 R ≠ 0 then ([], gtE 2 R, 0)
  else if 1 < gtN 2 R then ([], 2, 2)
  else if gtE 4 (R.drop 2) ≠ 0 then ([], gtE 4 (R.drop 2), 2)
  else if fitsB n.toNat order.toNat (gtN 4 (R.drop 2)).toNat = false then ([], 2, 6)
  else ((partsR (gtN 2 R).toNat (cntsS n.toNat order.toNat (gtN 4 (R.drop 2)).toNat) (R.drop 6)).1, (partsR (gtN 2 R).toNat (cntsS n.toNat order.toNat (gtN 4 (R.drop 2)).toNat) (R.drop 6)).2.1, 6 + (partsR (gtN 2 R).toNat (cntsS n.toNat order.toNat (gtN 4 (R.drop 2)).toNat) (R.drop 6)).2.2)
end Go.Proofs.YtofkiimaoahfjaaDoor
