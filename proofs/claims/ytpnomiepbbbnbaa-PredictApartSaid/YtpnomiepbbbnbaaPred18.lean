/-
  Layer 7 (predict): Search, as lists.
-/
import Derived.Test.YtpnomiepbbbnbaaPred17
set_option linter.unusedVariables false
set_option linter.unusedSimpArgs false
namespace Go.Proofs.Ytpnomiepbbbnbaa
open Go.RowKit

/-- The steps: 8, 4, 2, 1; so many are left. -/
def stepOf : Nat → Int
  | 4 => 8
  | 3 => 4
  | 2 => 2
  | 1 => 1
  | _ => 0
theorem stepOf_pos (e : Nat) (h : e ≤ 4) : (0 < e → 0 < stepOf e) ∧ 0 ≤ stepOf e ∧ stepOf e ≤ 8 ∧ (e = 0 → stepOf e = 0) := by
  have h' : e = 0 ∨ e = 1 ∨ e = 2 ∨ e = 3 ∨ e = 4 := by omega
  rcases h' with rfl | rfl | rfl | rfl | rfl <;> decide
theorem stepOf_half (e : Nat) (h : e ≤ 3) : stepOf (e + 1) / 2 = stepOf e := by
  have h' : e = 0 ∨ e = 1 ∨ e = 2 ∨ e = 3 := by omega
  rcases h' with rfl | rfl | rfl | rfl <;> decide

/-- What is tried at coefficient j: raised by the step, and by its opposite. -/
def mvK (j : Nat) (st : Int) : Nat → List (Nat × Int)
  | 0 => [(j, st), (j, -st)]
  | 1 => [(j, -st)]
  | _ => []
/-- From coefficient j on, d of them. -/
def mvJ (st : Int) : Nat → Nat → List (Nat × Int)
  | 0, _ => []
  | d + 1, j => mvK j st 0 ++ mvJ st d (j + 1)
/-- e steps. -/
def mvS (o : Nat) : Nat → List (Nat × Int)
  | 0 => []
  | e + 1 => mvJ (stepOf (e + 1)) o 0 ++ mvS o e

/-- Is a cost less than the one at hand? -/
def srcB (n : Int) : Option Int → Bool
  | none => true
  | some b => decide (n < b)
/-- One trial. -/
def srcT (xs : List Int) (S : List Int × Option Int) (m : Nat × Int) : List Int × Option Int :=
  if resE (S.1.set m.1 (S.1.getD m.1 0 + m.2)) 4 xs = 0 ∧ srcB (costN (S.1.set m.1 (S.1.getD m.1 0 + m.2)) 4 xs) S.2 = true then
    (S.1.set m.1 (S.1.getD m.1 0 + m.2), some (costN (S.1.set m.1 (S.1.getD m.1 0 + m.2)) 4 xs)) else S
def costO (xs : List Int) (C : List Int) : Option Int := if resE C 4 xs = 0 then some (costN C 4 xs) else none
/-- How it begins, and what comes out. -/
def src0 (xs : List Int) (o : Nat) : List Int × Option Int := (beginL o, costO xs (beginL o))
def srcF (xs : List Int) (o : Nat) : List Int × Option Int := (mvS o 4).foldl (srcT xs) (src0 xs o)

/-- What is always so. -/
structure SrcOk (xs : List Int) (o : Nat) (S : List Int × Option Int) : Prop where
  len : S.1.length = o
  small : ∀ c ∈ S.1, -2048 ≤ c ∧ c ≤ 2047
  cost : S.2 = costO xs S.1

theorem costN_bound (cs : List Int) (sh : Int) (xs : List Int) (h : xs.length ≤ 1000000) : 0 ≤ costN cs sh xs ∧ costN cs sh xs ≤ 2147483648000000 := by
  have h1 := absSum_bound (resO cs sh xs) (resO_in cs sh xs)
  have h2 := resO_length cs sh xs
  unfold costN
  omega
theorem resE_right {cs : List Int} {sh : Int} {xs : List Int} (h : resE cs sh xs = 0) : rightB cs sh = true := by
  cases hr : rightB cs sh
  · unfold resE at h; rw [if_pos hr] at h; omega
  · rfl

theorem SrcOk.begin (xs : List Int) (o : Nat) (ho : o ≤ 8) : SrcOk xs o (src0 xs o) := by
  refine ⟨?_, ?_, rfl⟩
  · have : ∀ o, o < 9 → (beginL o).length = o := by decide
    exact this o (by omega)
  · have : ∀ o, o < 9 → ∀ c ∈ beginL o, -2048 ≤ c ∧ c ≤ 2047 := by decide
    exact this o (by omega)

theorem SrcOk.step {xs : List Int} {o : Nat} {S : List Int × Option Int} (h : SrcOk xs o S) (m : Nat × Int) : SrcOk xs o (srcT xs S m) := by
  unfold srcT
  split
  · rename_i hc
    refine ⟨by simp [h.len], ?_, ?_⟩
    · have := resE_right hc.1
      exact all_cfB ((rightB_iff _ _).1 this).2.2.2
    · simp only [costO]
      rw [if_pos hc.1]
  · exact h

theorem SrcOk.fold {xs : List Int} {o : Nat} (l : List (Nat × Int)) : ∀ {S : List Int × Option Int}, SrcOk xs o S → SrcOk xs o (l.foldl (srcT xs) S) := by
  induction l with
  | nil => intro S h; exact h
  | cons m l ih => intro S h; exact ih (h.step m)

/-- No worse. -/
def LeO : Option Int → Option Int → Prop
  | _, none => True
  | some a, some b => a ≤ b
  | none, some _ => False
theorem LeO.refl (a : Option Int) : LeO a a := by cases a <;> simp [LeO]
theorem LeO.trans {a b c : Option Int} (h : LeO a b) (k : LeO b c) : LeO a c := by
  cases a <;> cases b <;> cases c <;> simp_all [LeO] <;> omega
theorem srcT_le (xs : List Int) (S : List Int × Option Int) (m : Nat × Int) : LeO (srcT xs S m).2 S.2 := by
  unfold srcT
  split
  · rename_i hc
    cases h : S.2 with
    | none => simp [LeO]
    | some b =>
      have := hc.2
      rw [h] at this
      simp only [srcB, decide_eq_true_eq] at this
      simp only [LeO]
      omega
  · exact LeO.refl _
theorem fold_le (xs : List Int) (l : List (Nat × Int)) : ∀ (S : List Int × Option Int), LeO (l.foldl (srcT xs) S).2 S.2 := by
  induction l with
  | nil => intro S; exact LeO.refl _
  | cons m l ih => intro S; exact LeO.trans (ih _) (srcT_le xs S m)

/-- Search's error, coefficients, shift. -/
def srcE (xs : List Int) (z : Int) : Int := if z < 0 ∨ 8 < z ∨ (xs.length : Int) < z then 1 else if xs.all inB = false then 12 else 0
def srcL (xs : List Int) (z : Int) : List Int := if srcE xs z = 0 then (srcF xs z.toNat).1 else []
def srcS (xs : List Int) (z : Int) : Int := if srcE xs z = 0 then 4 else 0

/-- What one trial's outcome is, in the walk's words. -/
theorem srcT_yes {xs C : List Int} {B : Option Int} {j : Nat} {by_ c N : Int} {C' : List Int} (hc : C.getD j 0 = c) (hC : C.set j (c + by_) = C') (hE : resE C' 4 xs = 0) (hN : costN C' 4 xs = N) (hb : srcB N B = true) :
    srcT xs (C, B) (j, by_) = (C', some N) := by
  unfold srcT
  simp only [hc, hC, hN]
  rw [if_pos ⟨hE, hb⟩]
theorem srcT_no {xs C : List Int} {B : Option Int} {j : Nat} {by_ c N : Int} {C' : List Int} (hc : C.getD j 0 = c) (hC : C.set j (c + by_) = C') (hN : costN C' 4 xs = N) (h : resE C' 4 xs ≠ 0 ∨ srcB N B = false) :
    srcT xs (C, B) (j, by_) = (C, B) := by
  unfold srcT
  simp only [hc, hC, hN]
  rw [if_neg]
  rintro ⟨h1, h2⟩
  rcases h with h | h
  · exact h h1
  · rw [h] at h2; cases h2
end Go.Proofs.Ytpnomiepbbbnbaa
