/-
  Streams of bits, plain Lean: a bit more in bytes.
-/
import Derived.Test.YtepbngdoeolepaaPure
set_option linter.unusedVariables false
set_option linter.unusedSimpArgs false
namespace Go.Proofs.Ytepbngdoeolepaa.Pure

/-- The bytes, with room for one bit more. -/
def packR (l : List Bool) : List Int := if l.length % 8 = 0 then pack l ++ [0] else pack l
/-- The last byte. -/
def lastY (l : List Bool) : Int := ((val (l.drop (8 * (l.length / 8))) * 2 ^ (8 - l.length % 8) : Nat) : Int)

theorem pack_split (l : List Bool) : pack l = pack (l.take (8 * (l.length / 8))) ++ pack (l.drop (8 * (l.length / 8))) := by
  conv => lhs; rw [← List.take_append_drop (8 * (l.length / 8)) l]
  exact pack_append8 (by simp; omega) _

theorem pack_few (l : List Bool) (h : l.length ≤ 8) (h0 : 0 < l.length) : pack l = [((val l * 2 ^ (8 - l.length) : Nat) : Int)] := by
  rw [pack_ne (List.length_pos_iff.1 h0), List.take_of_length_le h, List.drop_of_length_le h, pack_nil]

theorem packR_eq (l : List Bool) : packR l = pack (l.take (8 * (l.length / 8))) ++ [lastY l] := by
  unfold packR lastY
  have hl : (l.drop (8 * (l.length / 8))).length = l.length % 8 := by simp; omega
  split
  · rename_i h
    rw [pack_split l]
    have : l.drop (8 * (l.length / 8)) = [] := List.eq_nil_of_length_eq_zero (by omega)
    rw [this, pack_nil, List.append_nil]
    simp [val]
  · rename_i h
    rw [pack_split l, pack_few (l.drop (8 * (l.length / 8))) (by omega) (by omega), hl]

theorem packHead_len (l : List Bool) : (pack (l.take (8 * (l.length / 8)))).length = l.length / 8 := by
  rw [pack_length]; simp; omega
theorem packR_len (l : List Bool) : (packR l).length = l.length / 8 + 1 := by
  rw [packR_eq, List.length_append, packHead_len]; rfl
theorem packR_get (l : List Bool) (h : l.length / 8 < (packR l).length) : (packR l)[l.length / 8] = lastY l := by
  have e := packHead_len l
  simp only [packR_eq]
  rw [List.getElem_append_right (by omega)]
  simp [e]
theorem lastY_range (l : List Bool) : 0 ≤ lastY l ∧ lastY l ≤ 255 ∧ lastY l % 2 ^ (8 - l.length % 8) = 0 := by
  unfold lastY
  have hl : (l.drop (8 * (l.length / 8))).length = l.length % 8 := by simp; omega
  have h1 := val_lt (l.drop (8 * (l.length / 8)))
  rw [hl] at h1
  have h2 : val (l.drop (8 * (l.length / 8))) * 2 ^ (8 - l.length % 8) < 2 ^ (l.length % 8) * 2 ^ (8 - l.length % 8) := Nat.mul_lt_mul_of_pos_right h1 (Nat.pow_pos (by omega))
  rw [← Nat.pow_add, show l.length % 8 + (8 - l.length % 8) = 8 by omega] at h2
  refine ⟨by omega, by omega, ?_⟩
  have : ((val (l.drop (8 * (l.length / 8))) * 2 ^ (8 - l.length % 8) : Nat) : Int) % ((2 ^ (8 - l.length % 8) : Nat) : Int) = 0 := by
    rw [← Int.natCast_emod, Nat.mul_mod_left]; rfl
  simp

theorem pack_snoc (l : List Bool) (x : Bool) : (packR l).set (l.length / 8) (lastY l + ((if x then 1 else 0) * 2 ^ (7 - l.length % 8) : Nat)) = pack (l ++ [x]) := by
  have e := packHead_len l
  have hl : (l.drop (8 * (l.length / 8))).length = l.length % 8 := by simp; omega
  rw [packR_eq, List.set_append_right _ _ (by omega), e]
  have : l ++ [x] = l.take (8 * (l.length / 8)) ++ (l.drop (8 * (l.length / 8)) ++ [x]) := by rw [← List.append_assoc, List.take_append_drop]
  rw [this, pack_append8 (by simp; omega), pack_few (l.drop (8 * (l.length / 8)) ++ [x]) (by rw [List.length_append, hl]; simp; omega) (by simp)]
  congr 1
  simp only [Nat.sub_self, List.set_cons_zero]
  congr 1
  rw [List.length_append, hl, val_snoc]
  unfold lastY
  have h7 : 8 - (l.length % 8 + [x].length) = 7 - l.length % 8 := by simp
  rw [h7, show 8 - l.length % 8 = (7 - l.length % 8) + 1 by omega, Nat.pow_succ]
  generalize 2 ^ (7 - l.length % 8) = P
  generalize val (l.drop (8 * (l.length / 8))) = V
  rw [Nat.add_mul, Nat.mul_comm P 2, ← Nat.mul_assoc, Nat.mul_comm V 2]
  exact (Int.natCast_add _ _).symm
end Go.Proofs.Ytepbngdoeolepaa.Pure
