/-
  Layer 6 (rice): that choose always finds a plan; what Write puts.
-/
import Derived.Test.YtepbngdoeolepaaRice7
set_option linter.unusedVariables false
set_option linter.unusedSimpArgs false
namespace Go.Proofs.Ytepbngdoeolepaa
open Go.RowKit Go.Proofs.Ytepbngdoeolepaa.Pure

theorem loopK_mono (F : List Int) (n : Nat) (h : (loopK F n).2 = true) : (loopK F (n + 1)).2 = true := by
  rw [loopK_succ]
  unfold stepK
  split
  · rfl
  · exact h
theorem loopK_le (F : List Int) (n k : Nat) (h : (loopK F n).2 = true) : (loopK F (n + k)).2 = true := by
  induction k with
  | zero => exact h
  | succ k ih => exact loopK_mono F (n + k) ih
theorem loopK_ok (F : List Int) (k n : Nat) (hk : k < n) (hf : farB k F = false) : (loopK F n).2 = true := by
  obtain ⟨d, rfl⟩ : ∃ d, n = k + 1 + d := ⟨n - (k + 1), by omega⟩
  apply loopK_le
  rw [loopK_succ]
  unfold stepK
  by_cases h : (loopK F k).2 = true
  · split
    · rfl
    · exact h
  · rw [if_pos ⟨hf, .inl (by simpa using h)⟩]
theorem far30 (F : List Int) (h : ∀ f ∈ F, 0 ≤ f ∧ f ≤ 4294967296) : farB 30 F = false := by
  unfold farB
  rw [List.any_eq_false]
  intro f hf
  obtain ⟨a, b⟩ := h f hf
  have : f / 2 ^ 30 ≤ 4 := by
    have e : (2 : Int) ^ 30 = 1073741824 := by decide
    rw [e]; omega
  simp
  omega
theorem bestS_ok (c : List Int) (hin : ∀ n ∈ c, -2147483648 < n ∧ n < 2147483648) : (bestS c 1).2 = true := by
  have h := loopK_ok (c.map foldS) 30 (escS 1) (by decide) (far30 _ (folds_range c hin))
  unfold bestS
  split
  · rfl
  · exact h
theorem candGo_ok (ps : List (List Int)) (hin : ∀ c ∈ ps, ∀ n ∈ c, -2147483648 < n ∧ n < 2147483648) : ∀ acc s, (candGo 1 ps acc s).2.2 = true := by
  induction ps with
  | nil => intro acc s; rfl
  | cons c ps ih =>
    intro acc s
    unfold candGo
    rw [if_pos (bestS_ok c (hin c (by simp)))]
    exact ih (fun c hc => hin c (by simp [hc])) _ _
theorem candGo_ge (m : Nat) (hm : m ≤ 1) (ps : List (List Int)) (hl : ∀ c ∈ ps, c.length ≤ 600) (hin : ∀ c ∈ ps, ∀ n ∈ c, -2147483648 < n ∧ n < 2147483648) : ∀ acc s, 0 ≤ s → 0 ≤ (candGo m ps acc s).2.1 := by
  induction ps with
  | nil => intro acc s h; exact h
  | cons c ps ih =>
    intro acc s h
    unfold candGo
    split
    · refine ih (fun c hc => hl c (by simp [hc])) (fun c hc => hin c (by simp [hc])) _ _ ?_
      have := (bestS_range c m hm (hl c (by simp)) (hin c (by simp))).1
      omega
    · exact h

/-- A state of choose that holds a plan. -/
def Plan (L : List Int) (order : Nat) (st : PS) : Prop := ∃ m p : Nat, st.1 = m ∧ st.2.1 = p ∧ m ≤ 1 ∧ p ≤ 4 ∧ fitsB (L.length + order) order p = true ∧ candGo m (partsS L order p) [] 6 = (st.2.2.1, st.2.2.2, true) ∧ 0 ≤ st.2.2.2
section
variable {L : List Int} {order : Nat}
theorem stepM_plan (hl : L.length ≤ 600) (hin : ∀ n ∈ L, -2147483648 < n ∧ n < 2147483648) (p m : Nat) (hp : p ≤ 4) (hm : m ≤ 1) (hf : fitsB (L.length + order) order p = true) (st : PS) (h : Plan L order st ∨ st = (0, 0, [], -1)) :
    (Plan L order (stepM L order p st m) ∨ stepM L order p st m = (0, 0, [], -1)) ∧ ((candGo m (partsS L order p) [] 6).2.2 = true → Plan L order (stepM L order p st m)) := by
  have hmem := partsS_mem L order p
  have hge := candGo_ge m hm (partsS L order p) (fun c hc => by have := (hmem c hc).2; omega) (fun c hc n hn => hin n ((hmem c hc).1 n hn)) [] 6 (by omega)
  have hplan : (candGo m (partsS L order p) [] 6).2.2 = true → Plan L order ((m : Int), (p : Int), (candGo m (partsS L order p) [] 6).1, (candGo m (partsS L order p) [] 6).2.1) := by
    intro h1
    refine ⟨m, p, rfl, rfl, hm, hp, hf, ?_, hge⟩
    rw [← h1]
  unfold stepM
  split
  · rename_i h1
    exact ⟨.inl (hplan h1.1), fun _ => hplan h1.1⟩
  · rename_i h1
    refine ⟨h, fun h2 => ?_⟩
    rcases h with h | h
    · exact h
    · exfalso
      apply h1
      refine ⟨h2, .inl ?_⟩
      rw [h]
      decide
theorem loopM_plan (hl : L.length ≤ 600) (hin : ∀ n ∈ L, -2147483648 < n ∧ n < 2147483648) (p : Nat) (hp : p ≤ 4) (hf : fitsB (L.length + order) order p = true) (st : PS) (h : Plan L order st ∨ st = (0, 0, [], -1)) : Plan L order (loopM L order p st 2) := by
  have hmem := partsS_mem L order p
  have h0 := (stepM_plan hl hin p 0 hp (by omega) hf st h).1
  have e : loopM L order p st 2 = stepM L order p (stepM L order p st 0) 1 := by rw [loopM_succ, loopM_succ, loopM_zero]
  rw [e]
  exact (stepM_plan hl hin p 1 hp (by omega) hf _ h0).2 (candGo_ok _ (fun c hc n hn => hin n ((hmem c hc).1 n hn)) _ _)
theorem choose_plan (hl : L.length ≤ 600) (hin : ∀ n ∈ L, -2147483648 < n ∧ n < 2147483648) (ho : order ≤ L.length + order) : Plan L order (chooseS L order) := by
  have hf0 : fitsB (L.length + order) order 0 = true := by
    unfold fitsB
    rw [decide_eq_true]
    simp
    omega
  have h1 : Plan L order (loopP L order 1) := by
    rw [loopP_succ, loopP_zero]
    unfold stepP
    rw [if_pos hf0]
    exact loopM_plan hl hin 0 (by omega) hf0 _ (.inr rfl)
  have step : ∀ n, n ≤ 4 → Plan L order (loopP L order n) → Plan L order (loopP L order (n + 1)) := by
    intro n hn h
    rw [loopP_succ]
    unfold stepP
    split
    · rename_i hf
      exact loopM_plan hl hin n hn hf _ (.inl h)
    · exact h
  exact step 4 (by omega) (step 3 (by omega) (step 2 (by omega) (step 1 (by omega) h1)))
end

/-! ### What Write puts -/
def numB (k : Int) (width : Int) (esc : Bool) (n : Int) : List Bool := if esc then psB n width else unB (foldS n / 2 ^ k.toNat) ++ putB (foldS n % 2 ^ k.toNat) k
def partB (m : Nat) (y : T3) (c : List Int) : List Bool := putB y.1 ((4 + m : Nat) : Int) ++ (if y.1 = (escS m : Int) then putB y.2.1 5 else []) ++ c.flatMap (numB y.1 y.2.1 (decide (y.1 = (escS m : Int))))
def partsB (m : Nat) : List T3 → List (List Int) → List Bool
  | y :: ys, c :: cs => partB m y c ++ partsB m ys cs
  | _, _ => []
def writeB (L : List Int) (order : Nat) : List Bool :=
  putB (chooseS L order).1 2 ++ putB (chooseS L order).2.1 4 ++ partsB (chooseS L order).1.toNat (chooseS L order).2.2.1 (partsS L order (chooseS L order).2.1.toNat)
end Go.Proofs.Ytepbngdoeolepaa
