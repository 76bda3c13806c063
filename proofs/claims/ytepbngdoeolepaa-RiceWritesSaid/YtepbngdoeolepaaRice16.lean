/-
  Layer 6 (rice): the reading of a part and of a block, as plain functions.
-/
import Derived.Test.YtepbngdoeolepaaRice15
set_option linter.unusedVariables false
set_option linter.unusedSimpArgs false
namespace Go.Proofs.Ytepbngdoeolepaa
open Go.RowKit Go.Proofs.Ytepbngdoeolepaa.Pure

/-- One number of a part. -/
def oneS (esc : Bool) (k wd : Int) (R : List Bool) : Int × Int × Nat := if esc then (gsN wd R, gtE wd R, gtT wd R) else numS k R
/-- So many numbers: what is read (nothing where an error is), the error, how many bits are gone. -/
def listS (one : List Bool → Int × Int × Nat) : Nat → List Bool → List Int × Int × Nat
  | 0, _ => ([], 0, 0)
  | n + 1, R => if (one R).2.1 ≠ 0 then ([], (one R).2.1, (one R).2.2)
    else if (listS one n (R.drop (one R).2.2)).2.1 ≠ 0 then ([], (listS one n (R.drop (one R).2.2)).2.1, (one R).2.2 + (listS one n (R.drop (one R).2.2)).2.2)
    else ((one R).1 :: (listS one n (R.drop (one R).2.2)).1, 0, (one R).2.2 + (listS one n (R.drop (one R).2.2)).2.2)
theorem listS_zero (one : List Bool → Int × Int × Nat) (R : List Bool) : listS one 0 R = ([], 0, 0) := rfl
theorem listS_err (one : List Bool → Int × Int × Nat) (n : Nat) (R : List Bool) (h : (one R).2.1 ≠ 0) : listS one (n + 1) R = ([], (one R).2.1, (one R).2.2) := by
  rw [listS, if_pos h]
/-- What the loop holds: 'acc' is read, behind it 'listS' of the rest. -/
def RestS (one : List Bool → Int × Int × Nat) (acc : List Int) (n : Nat) (R : List Bool) (t : Nat) (X : List Int × Int × Nat) : Prop :=
  (X.2.1 ≠ 0 ∧ (listS one n R).2.1 = X.2.1 ∧ X.1 = [] ∧ X.2.2 = t + (listS one n R).2.2) ∨ (X.2.1 = 0 ∧ (listS one n R).2.1 = 0 ∧ X.1 = acc ++ (listS one n R).1 ∧ X.2.2 = t + (listS one n R).2.2)
theorem listS_nil (one : List Bool → Int × Int × Nat) (n : Nat) (R : List Bool) (h : (listS one n R).2.1 ≠ 0) : (listS one n R).1 = [] := by
  cases n with
  | zero => rfl
  | succ n =>
    rw [listS] at h ⊢
    split
    · rfl
    · rename_i h1
      rw [if_neg h1] at h
      split
      · rfl
      · rename_i h2
        rw [if_neg h2] at h
        exact (h rfl).elim
theorem RestS.start (one : List Bool → Int × Int × Nat) (n : Nat) (R : List Bool) : RestS one [] n R 0 (listS one n R) := by
  by_cases h : (listS one n R).2.1 = 0
  · exact .inr ⟨h, h, (List.nil_append _).symm, (Nat.zero_add _).symm⟩
  · exact .inl ⟨h, rfl, listS_nil one n R h, (Nat.zero_add _).symm⟩
theorem RestS.fin {one : List Bool → Int × Int × Nat} {acc : List Int} {R : List Bool} {t : Nat} {X : List Int × Int × Nat} (h : RestS one acc 0 R t X) : X = (acc, 0, t) := by
  rcases h with ⟨h0, h1, _⟩ | ⟨h0, _, h2, h3⟩
  · exact (h0 h1.symm).elim
  · obtain ⟨a, b, c⟩ := X
    simp only [listS, List.append_nil, Nat.add_zero] at h0 h2 h3
    subst h0 h2 h3
    rfl
theorem RestS.err {one : List Bool → Int × Int × Nat} {acc : List Int} {n : Nat} {R : List Bool} {t : Nat} {X : List Int × Int × Nat} (h : RestS one acc (n + 1) R t X) (he : (one R).2.1 ≠ 0) : X = ([], (one R).2.1, t + (one R).2.2) := by
  unfold RestS at h
  rw [listS_err one n R he] at h
  rcases h with ⟨h0, h1, h2, h3⟩ | ⟨h0, h1, _⟩
  · obtain ⟨a, b, c⟩ := X
    simp only at h0 h1 h2 h3
    subst h1 h2 h3
    rfl
  · exact (he h1).elim
theorem RestS.ok {one : List Bool → Int × Int × Nat} {acc : List Int} {n : Nat} {R : List Bool} {t : Nat} {X : List Int × Int × Nat} (h : RestS one acc (n + 1) R t X) (he : (one R).2.1 = 0) : RestS one (acc ++ [(one R).1]) n (R.drop (one R).2.2) (t + (one R).2.2) X := by
  unfold RestS at h ⊢
  rw [listS, if_neg (by simp [he])] at h
  by_cases h2 : (listS one n (R.drop (one R).2.2)).2.1 = 0
  · rw [if_neg (by simp [h2])] at h
    rcases h with ⟨h0, h1, _⟩ | ⟨h0, h1, h3, h4⟩
    · exact (h0 h1.symm).elim
    · exact .inr ⟨h0, h2, by rw [h3]; simp, by rw [h4]; simp only; omega⟩
  · rw [if_pos h2] at h
    rcases h with ⟨h0, h1, h3, h4⟩ | ⟨h0, h1, _⟩
    · exact .inl ⟨h0, h1, h3, by rw [h4]; simp only; omega⟩
    · exact (h2 h1).elim
/-- A part. -/
def readS (m count : Nat) (R : List Bool) : List Int × Int × Nat :=
  if gtE ((4 + m : Nat) : Int) R ≠ 0 then ([], gtE ((4 + m : Nat) : Int) R, gtT ((4 + m : Nat) : Int) R)
  else if gtN ((4 + m : Nat) : Int) R = (escS m : Int) then
    if gtE 5 (R.drop (4 + m)) ≠ 0 then ([], gtE 5 (R.drop (4 + m)), 4 + m + gtT 5 (R.drop (4 + m)))
    else ((listS (oneS true 0 (gtN 5 (R.drop (4 + m)))) count (R.drop (4 + m + 5))).1, (listS (oneS true 0 (gtN 5 (R.drop (4 + m)))) count (R.drop (4 + m + 5))).2.1, 4 + m + 5 + (listS (oneS true 0 (gtN 5 (R.drop (4 + m)))) count (R.drop (4 + m + 5))).2.2)
  else ((listS (oneS false (gtN ((4 + m : Nat) : Int) R) 0) count (R.drop (4 + m))).1, (listS (oneS false (gtN ((4 + m : Nat) : Int) R) 0) count (R.drop (4 + m))).2.1, 4 + m + (listS (oneS false (gtN ((4 + m : Nat) : Int) R) 0) count (R.drop (4 + m))).2.2)
/-- Part by part. -/
def partsR (m : Nat) : List Nat → List Bool → List Int × Int × Nat
  | [], _ => ([], 0, 0)
  | c :: cs, R => if (readS m c R).2.1 ≠ 0 then ([], (readS m c R).2.1, (readS m c R).2.2)
    else if (partsR m cs (R.drop (readS m c R).2.2)).2.1 ≠ 0 then ([], (partsR m cs (R.drop (readS m c R).2.2)).2.1, (readS m c R).2.2 + (partsR m cs (R.drop (readS m c R).2.2)).2.2)
    else ((readS m c R).1 ++ (partsR m cs (R.drop (readS m c R).2.2)).1, 0, (readS m c R).2.2 + (partsR m cs (R.drop (readS m c R).2.2)).2.2)
def RestP (m : Nat) (acc : List Int) (cs : List Nat) (R : List Bool) (t : Nat) (X : List Int × Int × Nat) : Prop :=
  (X.2.1 ≠ 0 ∧ (partsR m cs R).2.1 = X.2.1 ∧ X.1 = [] ∧ X.2.2 = t + (partsR m cs R).2.2) ∨ (X.2.1 = 0 ∧ (partsR m cs R).2.1 = 0 ∧ X.1 = acc ++ (partsR m cs R).1 ∧ X.2.2 = t + (partsR m cs R).2.2)
theorem partsR_nil (m : Nat) (cs : List Nat) (R : List Bool) (h : (partsR m cs R).2.1 ≠ 0) : (partsR m cs R).1 = [] := by
  cases cs with
  | nil => rfl
  | cons c cs =>
    rw [partsR] at h ⊢
    split
    · rfl
    · rename_i h1
      rw [if_neg h1] at h
      split
      · rfl
      · rename_i h2
        rw [if_neg h2] at h
        exact (h rfl).elim
theorem RestP.start (m : Nat) (cs : List Nat) (R : List Bool) : RestP m [] cs R 0 (partsR m cs R) := by
  by_cases h : (partsR m cs R).2.1 = 0
  · exact .inr ⟨h, h, (List.nil_append _).symm, (Nat.zero_add _).symm⟩
  · exact .inl ⟨h, rfl, partsR_nil m cs R h, (Nat.zero_add _).symm⟩
theorem RestP.fin {m : Nat} {acc : List Int} {R : List Bool} {t : Nat} {X : List Int × Int × Nat} (h : RestP m acc [] R t X) : X = (acc, 0, t) := by
  rcases h with ⟨h0, h1, _⟩ | ⟨h0, _, h2, h3⟩
  · exact (h0 h1.symm).elim
  · obtain ⟨a, b, c⟩ := X
    simp only [partsR, List.append_nil, Nat.add_zero] at h0 h2 h3
    subst h0 h2 h3
    rfl
theorem RestP.err {m : Nat} {acc : List Int} {c : Nat} {cs : List Nat} {R : List Bool} {t : Nat} {X : List Int × Int × Nat} (h : RestP m acc (c :: cs) R t X) (he : (readS m c R).2.1 ≠ 0) : X = ([], (readS m c R).2.1, t + (readS m c R).2.2) := by
  unfold RestP at h
  rw [show partsR m (c :: cs) R = ([], (readS m c R).2.1, (readS m c R).2.2) by rw [partsR, if_pos he]] at h
  rcases h with ⟨h0, h1, h2, h3⟩ | ⟨h0, h1, _⟩
  · obtain ⟨a, b, d⟩ := X
    simp only at h0 h1 h2 h3
    subst h1 h2 h3
    rfl
  · exact (he h1).elim
theorem RestP.ok {m : Nat} {acc : List Int} {c : Nat} {cs : List Nat} {R : List Bool} {t : Nat} {X : List Int × Int × Nat} (h : RestP m acc (c :: cs) R t X) (he : (readS m c R).2.1 = 0) : RestP m (acc ++ (readS m c R).1) cs (R.drop (readS m c R).2.2) (t + (readS m c R).2.2) X := by
  unfold RestP at h ⊢
  rw [partsR, if_neg (by simp [he])] at h
  by_cases h2 : (partsR m cs (R.drop (readS m c R).2.2)).2.1 = 0
  · rw [if_neg (by simp [h2])] at h
    rcases h with ⟨h0, h1, _⟩ | ⟨h0, h1, h3, h4⟩
    · exact (h0 h1.symm).elim
    · exact .inr ⟨h0, h2, by rw [h3]; simp, by rw [h4]; simp only; omega⟩
  · rw [if_pos h2] at h
    rcases h with ⟨h0, h1, h3, h4⟩ | ⟨h0, h1, _⟩
    · exact .inl ⟨h0, h1, h3, by rw [h4]; simp only; omega⟩
    · exact (h2 h1).elim
/-- The parts' counts. -/
def cntsS (n order p : Nat) : List Nat := (n / 2 ^ p - order) :: List.replicate (2 ^ p - 1) (n / 2 ^ p)
/-- A block. -/
def blockS (n order : Int) (R : List Bool) : List Int × Int × Nat :=
  if rightB n order = false then ([], 1, 0)
  else if gtE 2 R ≠ 0 then ([], gtE 2 R, 0)
  else if 1 < gtN 2 R then ([], 2, 2)
  else if gtE 4 (R.drop 2) ≠ 0 then ([], gtE 4 (R.drop 2), 2)
  else if fitsB n.toNat order.toNat (gtN 4 (R.drop 2)).toNat = false then ([], 2, 6)
  else ((partsR (gtN 2 R).toNat (cntsS n.toNat order.toNat (gtN 4 (R.drop 2)).toNat) (R.drop 6)).1, (partsR (gtN 2 R).toNat (cntsS n.toNat order.toNat (gtN 4 (R.drop 2)).toNat) (R.drop 6)).2.1, 6 + (partsR (gtN 2 R).toNat (cntsS n.toNat order.toNat (gtN 4 (R.drop 2)).toNat) (R.drop 6)).2.2)
end Go.Proofs.Ytepbngdoeolepaa
