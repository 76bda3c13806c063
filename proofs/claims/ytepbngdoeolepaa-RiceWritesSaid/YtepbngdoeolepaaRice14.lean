/-
  Layer 6 (rice): plain facts of widths and of the least size.
-/
import Derived.Test.YtepbngdoeolepaaRice13
set_option linter.unusedVariables false
set_option linter.unusedSimpArgs false
namespace Go.Proofs.Ytepbngdoeolepaa
open Go.RowKit Go.Proofs.Ytepbngdoeolepaa.Pure

theorem bitLenAux_iff : ∀ (f x k : Nat), x < 2 ^ f → (Lib.bitLenAux f x ≤ k ↔ x < 2 ^ k) := by
  intro f
  induction f with
  | zero =>
    intro x k h
    have : x = 0 := by simpa using h
    subst this
    simp [Lib.bitLenAux]
    exact Nat.two_pow_pos _
  | succ f ih =>
    intro x k h
    unfold Lib.bitLenAux
    split
    · rename_i h0
      subst h0
      simp
      exact Nat.two_pow_pos _
    · rename_i h0
      cases k with
      | zero => simp; omega
      | succ k =>
        have := ih (x / 2) k (by rw [Nat.pow_succ] at h; omega)
        rw [Nat.pow_succ]
        omega
theorem bitLen_iff (x k : Nat) (h : x < 2 ^ 64) : Lib.bitLen x ≤ k ↔ x < 2 ^ k := bitLenAux_iff 64 x k h
/-- The least width of one number. -/
def wd0 (n : Int) : Int := if n = 0 then 0 else bitsS n
theorem wd0_range (n : Int) (h : -2147483648 < n ∧ n < 2147483648) : 0 ≤ wd0 n ∧ wd0 n ≤ 32 := by
  unfold wd0
  split
  · omega
  · unfold bitsS
    have hm : (magS n).toNat < 2 ^ 31 := by unfold magS; split <;> omega
    have := (bitLen_iff (magS n).toNat 31 (by omega)).2 hm
    omega
theorem wdS_eq (w n : Int) (hw : 0 ≤ w) : wdS w n = max w (wd0 n) := by
  unfold wdS wd0
  split <;> omega
theorem sgnB_iff (n : Int) (k : Nat) (h : -2147483648 < n ∧ n < 2147483648) : sgnB n k = decide (wd0 n ≤ k) := by
  unfold sgnB wd0
  by_cases hk : k = 0
  · subst hk
    simp
    by_cases hn : n = 0
    · simp [hn]
    · simp [hn]
      unfold bitsS
      omega
  · obtain ⟨j, rfl⟩ : ∃ j, k = j + 1 := ⟨k - 1, by omega⟩
    rw [if_neg (by omega)]
    have e : ((j + 1 : Nat) : Int).toNat - 1 = j := by omega
    rw [e]
    congr 1
    have hp : (0 : Int) < 2 ^ j := Int.pow_pos (by omega)
    have hc : (2 : Int) ^ j = ((2 ^ j : Nat) : Int) := by simp
    by_cases hn : n = 0
    · subst hn
      simp
      omega
    · rw [if_neg hn]
      unfold bitsS
      have hm : (magS n).toNat < 2 ^ 64 := by unfold magS; split <;> omega
      have := bitLen_iff (magS n).toNat j hm
      have h1 : ((magS n).toNat < 2 ^ j) ↔ (-2 ^ j ≤ n ∧ n < 2 ^ j) := by
        rw [hc]
        generalize 2 ^ j = P
        unfold magS
        split <;> omega
      rw [← h1, ← this]
      apply propext
      omega

/-! ### The least size -/
theorem loopK_least (F : List Int) : ∀ n k, k < n → farB k F = false → (loopK F n).2 = true ∧ (loopK F n).1.2.2 ≤ szK k F := by
  intro n
  induction n with
  | zero => intro k h; omega
  | succ n ih =>
    intro k hk hf
    refine ⟨loopK_ok F k (n + 1) hk hf, ?_⟩
    rw [loopK_succ]
    unfold stepK
    by_cases h : k = n
    · subst h
      split
      · exact Int.le_refl _
      · rename_i hn
        by_cases h2 : (loopK F k).2 = false
        · exact absurd ⟨hf, .inl h2⟩ hn
        · by_cases h3 : szK k F < (loopK F k).1.2.2
          · exact absurd ⟨hf, .inr h3⟩ hn
          · omega
    · obtain ⟨h1, h2⟩ := ih k (by omega) hf
      split
      · rename_i hn
        rcases hn.2 with h3 | h3
        · rw [h1] at h3; cases h3
        · show szK n F ≤ szK k F
          omega
      · exact h2
theorem bestS_leastK (c : List Int) (m k : Nat) (hk : k < escS m) (hf : farB k (c.map foldS) = false) : (bestS c m).2 = true ∧ (bestS c m).1.2.2 ≤ szK k (c.map foldS) := by
  obtain ⟨h1, h2⟩ := loopK_least (c.map foldS) (escS m) k hk hf
  unfold bestS
  split
  · rename_i h
    refine ⟨rfl, ?_⟩
    rcases h.2 with h3 | h3
    · rw [h1] at h3; cases h3
    · show 5 + widthS c * c.length ≤ _
      omega
  · exact ⟨h1, h2⟩
theorem bestS_leastW (c : List Int) (m : Nat) (hw : widthS c ≤ 31) : (bestS c m).2 = true ∧ (bestS c m).1.2.2 ≤ 5 + widthS c * c.length := by
  unfold bestS
  split
  · exact ⟨rfl, Int.le_refl _⟩
  · rename_i h
    by_cases h2 : (loopK (c.map foldS) (escS m)).2 = false
    · exact absurd ⟨hw, .inl h2⟩ h
    · by_cases h3 : 5 + widthS c * c.length < (loopK (c.map foldS) (escS m)).1.2.2
      · exact absurd ⟨hw, .inr h3⟩ h
      · exact ⟨by simpa using h2, by omega⟩
section
variable {L : List Int} {order : Nat}
theorem candGe (hl : L.length ≤ 600) (hin : ∀ n ∈ L, -2147483648 < n ∧ n < 2147483648) (p m : Nat) (hm : m ≤ 1) : 0 ≤ (candGo m (partsS L order p) [] 6).2.1 := by
  have hmem := partsS_mem L order p
  exact candGo_ge m hm (partsS L order p) (fun c hc => by have := (hmem c hc).2; omega) (fun c hc n hn => hin n ((hmem c hc).1 n hn)) [] 6 (by omega)
theorem stepM_least (hl : L.length ≤ 600) (hin : ∀ n ∈ L, -2147483648 < n ∧ n < 2147483648) (p m : Nat) (hm : m ≤ 1) (st : PS) :
    ((candGo m (partsS L order p) [] 6).2.2 = true → 0 ≤ (stepM L order p st m).2.2.2 ∧ (stepM L order p st m).2.2.2 ≤ (candGo m (partsS L order p) [] 6).2.1) ∧ (0 ≤ st.2.2.2 → 0 ≤ (stepM L order p st m).2.2.2 ∧ (stepM L order p st m).2.2.2 ≤ st.2.2.2) := by
  have hge := candGe (order := order) hl hin p m hm
  unfold stepM
  split
  · rename_i h
    refine ⟨fun _ => ⟨hge, Int.le_refl _⟩, fun h0 => ⟨hge, ?_⟩⟩
    show (candGo m (partsS L order p) [] 6).2.1 ≤ _
    rcases h.2 with h2 | h2 <;> omega
  · rename_i h
    refine ⟨fun h1 => ?_, fun h0 => ⟨h0, Int.le_refl _⟩⟩
    by_cases h2 : st.2.2.2 < 0
    · exact absurd ⟨h1, .inl h2⟩ h
    · by_cases h3 : (candGo m (partsS L order p) [] 6).2.1 < st.2.2.2
      · exact absurd ⟨h1, .inr h3⟩ h
      · omega
theorem stepP_less (hl : L.length ≤ 600) (hin : ∀ n ∈ L, -2147483648 < n ∧ n < 2147483648) (p : Nat) (st : PS) (h : 0 ≤ st.2.2.2) : 0 ≤ (stepP L order st p).2.2.2 ∧ (stepP L order st p).2.2.2 ≤ st.2.2.2 := by
  unfold stepP
  split
  · rw [loopM_succ, loopM_succ, loopM_zero]
    have h1 := (stepM_least (order := order) hl hin p 0 (by omega) st).2 h
    have h2 := (stepM_least (order := order) hl hin p 1 (by omega) _).2 h1.1
    omega
  · omega
theorem choose_least0 (hl : L.length ≤ 600) (hin : ∀ n ∈ L, -2147483648 < n ∧ n < 2147483648) (m : Nat) (hm : m ≤ 1) (hc : (candGo m (partsS L order 0) [] 6).2.2 = true) : (chooseS L order).2.2.2 ≤ (candGo m (partsS L order 0) [] 6).2.1 := by
  have hf0 : fitsB (L.length + order) order 0 = true := by
    unfold fitsB
    rw [decide_eq_true]
    simp
    omega
  have h1 : 0 ≤ (loopP L order 1).2.2.2 ∧ (loopP L order 1).2.2.2 ≤ (candGo m (partsS L order 0) [] 6).2.1 := by
    rw [loopP_succ, loopP_zero]
    unfold stepP
    rw [if_pos hf0, loopM_succ, loopM_succ, loopM_zero]
    obtain ⟨a0, a1⟩ := stepM_least (order := order) hl hin 0 0 (by omega) (0, 0, [], -1)
    obtain ⟨b0, b1⟩ := stepM_least (order := order) hl hin 0 1 (by omega) (stepM L order 0 (0, 0, [], -1) 0)
    rcases (show m = 0 ∨ m = 1 by omega) with rfl | rfl
    · have := a0 hc
      have := b1 this.1
      omega
    · exact b0 hc
  have step : ∀ n, 0 ≤ (loopP L order n).2.2.2 → 0 ≤ (loopP L order (n + 1)).2.2.2 ∧ (loopP L order (n + 1)).2.2.2 ≤ (loopP L order n).2.2.2 := by
    intro n h
    rw [loopP_succ]
    exact stepP_less hl hin n _ h
  have h2 : 0 ≤ (loopP L order 2).2.2.2 ∧ (loopP L order 2).2.2.2 ≤ (loopP L order 1).2.2.2 := step 1 h1.1
  have h3 : 0 ≤ (loopP L order 3).2.2.2 ∧ (loopP L order 3).2.2.2 ≤ (loopP L order 2).2.2.2 := step 2 h2.1
  have h4 : 0 ≤ (loopP L order 4).2.2.2 ∧ (loopP L order 4).2.2.2 ≤ (loopP L order 3).2.2.2 := step 3 h3.1
  have h5 : 0 ≤ (loopP L order 5).2.2.2 ∧ (loopP L order 5).2.2.2 ≤ (loopP L order 4).2.2.2 := step 4 h4.1
  show (loopP L order 5).2.2.2 ≤ _
  omega
end
theorem partsS_one (L : List Int) : partsS L 0 0 = [L] := by
  unfold partsS
  simp [chunks]
theorem cand_one (m : Nat) (L : List Int) (h : (bestS L m).2 = true) : (candGo m (partsS L 0 0) [] 6).2.2 = true ∧ (candGo m (partsS L 0 0) [] 6).2.1 = 6 + ((4 + m : Nat) + (bestS L m).1.2.2) := by
  rw [partsS_one]
  unfold candGo
  rw [if_pos h]
  exact ⟨rfl, rfl⟩
theorem few_plain (L : List Int) (hl : L.length ≤ 600) (hin : ∀ n ∈ L, -2147483648 < n ∧ n < 2147483648) (k : Nat) (hk : k < 31) (hf : farB k (L.map foldS) = false) : (chooseS L 0).2.2.2 ≤ 11 + szK k (L.map foldS) := by
  obtain ⟨h1, h2⟩ := bestS_leastK L 1 k hk hf
  obtain ⟨h3, h4⟩ := cand_one 1 L h1
  have := choose_least0 (order := 0) hl hin 1 (by omega) h3
  omega
theorem few_wide (L : List Int) (hl : L.length ≤ 600) (hin : ∀ n ∈ L, -2147483648 < n ∧ n < 2147483648) (hw : widthS L ≤ 31) : (chooseS L 0).2.2.2 ≤ 15 + widthS L * L.length := by
  obtain ⟨h1, h2⟩ := bestS_leastW L 0 hw
  obtain ⟨h3, h4⟩ := cand_one 0 L h1
  have := choose_least0 (order := 0) hl hin 0 (by omega) h3
  omega
theorem choose_range (L : List Int) (order : Nat) (hl : L.length ≤ 600) (hin : ∀ n ∈ L, -2147483648 < n ∧ n < 2147483648) : 0 ≤ (chooseS L order).2.2.2 ∧ (chooseS L order).2.2.2 ≤ 10000000000100 := by
  have hp := choose_plan hl hin (order := order) (by omega)
  obtain ⟨m, p, h1, h2, h3, h4, h5, h6, h7⟩ := hp
  refine ⟨h7, ?_⟩
  have h8 := bestS_range L 1 (by omega) hl hin
  have hok := bestS_ok L hin
  have hf0 : (candGo 1 (partsS L order 0) [] 6).2.2 = true ∧ (candGo 1 (partsS L order 0) [] 6).2.1 ≤ 10000000000100 := by
    have e : partsS L order 0 = [L] := by unfold partsS; simp [chunks]
    rw [e]
    unfold candGo
    rw [if_pos hok]
    refine ⟨rfl, ?_⟩
    show (6 : Int) + ((4 + 1 : Nat) + (bestS L 1).1.2.2) ≤ _
    omega
  have := choose_least0 (order := order) hl hin 1 (by omega) hf0.1
  omega
end Go.Proofs.Ytepbngdoeolepaa
