/-
  Plain facts for BitsBack: what a script of calls puts, and that it is read as it was put.
-/
import Derived.Test.YtofkiimaoahfjaaDoorZBits8
set_option maxRecDepth 100000
set_option linter.unusedVariables false
set_option linter.unusedSimpArgs false
namespace Go.Proofs.YtofkiimaoahfjaaDoor
open Go.RowKit Go.Proofs.YtofkiimaoahfjaaDoor.Pure

theorem putB_len (n k : Int) : (putB n k).length ≤ 501 := by
  unfold putB
  split
  · rename_i h
    rw [bitsN_length]
    unfold putE at h
    split at h
    · cases h
    · omega
  · simp
theorem psB_len (n k : Int) : (psB n k).length ≤ 501 := by
  unfold psB
  split
  · rename_i h
    rw [bitsN_length]
    unfold psE at h
    split at h
    · cases h
    · omega
  · simp
theorem unB_len (n : Int) (h : n ≤ 500) : (unB n).length ≤ 501 := by
  unfold unB
  split
  · simp
    omega
  · simp

abbrev Op3 := Int × Int × Int
/-- The bits that a call puts behind the bits l. -/
def obits (l : List Bool) (o : Op3) : List Bool := if o.1 = 1 then putB o.2.1 o.2.2 else if o.1 = 2 then psB o.2.1 o.2.2 else if o.1 = 3 then unB o.2.1 else List.replicate (padN l.length) false
/-- The bits that calls put, one behind the other. -/
def wbits (ds : List Op3) : List Bool := ds.foldl (fun l o => l ++ obits l o) []
theorem wbits_nil : wbits [] = [] := rfl
theorem wbits_snoc (ds : List Op3) (o : Op3) : wbits (ds ++ [o]) = wbits ds ++ obits (wbits ds) o := by simp [wbits, List.foldl_append]
theorem wbits_prefix (ys : List Op3) : ∀ xs : List Op3, ∃ S, wbits (xs ++ ys) = wbits xs ++ S := by
  induction ys with
  | nil => intro xs; exact ⟨[], by simp⟩
  | cons y ys ih =>
    intro xs
    obtain ⟨S, hS⟩ := ih (xs ++ [y])
    refine ⟨obits (wbits xs) y ++ S, ?_⟩
    rw [List.append_assoc, List.singleton_append] at hS
    rw [hS, wbits_snoc, List.append_assoc]
/-- A call that was done. -/
def Good (o : Op3) : Prop := ((o.1 = 1 ∧ putE o.2.1 o.2.2 = 0) ∨ (o.1 = 2 ∧ psE o.2.1 o.2.2 = 0) ∨ (o.1 = 3 ∧ unE o.2.1 = 0) ∨ o.1 = 4) ∧
  (-9223372036854775808 ≤ o.2.1 ∧ o.2.1 ≤ 9223372036854775807)

theorem restB_pack (L : List Bool) (t : Nat) (h : t ≤ L.length) : restB (pack L) t = L.drop t ++ List.replicate (8 * ((L.length + 7) / 8) - L.length) false := by
  unfold restB
  rw [unpack_pack, List.drop_append_of_le_length h]
/-- What is ahead at the i-th call. -/
theorem wbits_at (ds : List Op3) (i : Nat) (hi : i < ds.length) : ∃ R, restB (pack (wbits ds)) (wbits (ds.take i)).length = obits (wbits (ds.take i)) ds[i] ++ R ∧
    (wbits (ds.take (i + 1))).length = (wbits (ds.take i)).length + (obits (wbits (ds.take i)) ds[i]).length ∧ (wbits (ds.take i)).length ≤ (wbits ds).length := by
  have e1 : ds.take (i + 1) = ds.take i ++ [ds[i]] := List.take_succ_eq_append_getElem hi
  have e2 : wbits (ds.take (i + 1)) = wbits (ds.take i) ++ obits (wbits (ds.take i)) ds[i] := by rw [e1, wbits_snoc]
  obtain ⟨S, hS⟩ := wbits_prefix (ds.drop (i + 1)) (ds.take (i + 1))
  rw [List.take_append_drop, e2] at hS
  generalize wbits ds = W at *
  generalize wbits (ds.take i) = A at *
  generalize obits A ds[i] = B at *
  refine ⟨S ++ List.replicate (8 * ((W.length + 7) / 8) - W.length) false, ?_, by rw [e2, List.length_append], by rw [hS]; simp⟩
  rw [restB_pack _ _ (by rw [hS]; simp)]
  generalize List.replicate (8 * ((W.length + 7) / 8) - W.length) false = Z
  rw [hS, List.append_assoc, List.drop_left, List.append_assoc]

theorem back_get (n k : Int) (R : List Bool) (h : putE n k = 0) : gtE k (putB n k ++ R) = 0 ∧ gtN k (putB n k ++ R) = n ∧ gtT k (putB n k ++ R) = (putB n k).length := by
  have hb : putB n k = bitsN k.toNat n.toNat := by unfold putB; rw [if_pos h]
  unfold putE at h
  split at h
  · cases h
  · rename_i h1
    split at h
    · cases h
    · rename_i h2
      obtain ⟨j, rfl⟩ : ∃ j : Nat, k = (j : Int) := ⟨k.toNat, by omega⟩
      rw [hb, Int.toNat_natCast, bitsN_length]
      obtain ⟨e1, e2, e3⟩ := gt_ok (k := j) (R := bitsN j n.toNat ++ R) (by omega) (by simp [bitsN_length])
      refine ⟨e1, ?_, e3⟩
      rw [e2, List.take_append_of_le_length (by rw [bitsN_length]; omega), List.take_of_length_le (by rw [bitsN_length]; omega), val_bitsN]
      rw [Int.toNat_natCast] at h2
      have hp : (0 : Int) < 2 ^ j := Int.pow_pos (by omega)
      have h3 : n / 2 ^ j = 0 := by omega
      have h4 := Int.emod_add_mul_ediv n (2 ^ j)
      rw [h3, Int.mul_zero] at h4
      have h5 := Int.emod_lt_of_pos n hp
      rw [Nat.mod_eq_of_lt]
      · omega
      · have h6 : ((2 ^ j : Nat) : Int) = 2 ^ j := by simp
        omega

theorem back_gets (n k : Int) (R : List Bool) (h : psE n k = 0) (hr : -9223372036854775808 ≤ n ∧ n ≤ 9223372036854775807) : gtE k (psB n k ++ R) = 0 ∧ gsN k (psB n k ++ R) = n ∧ gtT k (psB n k ++ R) = (psB n k).length := by
  have hb : psB n k = bitsN k.toNat (n % 18446744073709551616).toNat := by unfold psB; rw [if_pos h]
  unfold psE at h
  split at h
  · cases h
  · rename_i h1
    split at h
    · cases h
    · rename_i h2
      obtain ⟨j, rfl⟩ : ∃ j : Nat, k = (j : Int) := ⟨k.toNat, by omega⟩
      have hs : sgnB n j = true := by cases hh : sgnB n (j : Int) <;> simp_all
      obtain ⟨s0, s1⟩ := sgn_range n j hs
      rw [hb, Int.toNat_natCast, bitsN_length]
      obtain ⟨V, hV, hVn⟩ : ∃ V : Nat, bitsN j (n % 18446744073709551616).toNat = bitsN j V ∧ (V : Int) = if n < 0 then n + 2 ^ j else n := by
        by_cases hn : n < 0
        · exact ⟨(n + 2 ^ j).toNat, (ps_bits n j (by omega) hn s0).symm, by rw [if_pos hn]; omega⟩
        · exact ⟨n.toNat, by rw [ps_bits0 n (by omega) hr.2], by rw [if_neg hn]; omega⟩
      rw [hV]
      have hVl : V < 2 ^ j := by
        have h6 : ((2 ^ j : Nat) : Int) = 2 ^ j := by simp
        split at hVn <;> omega
      obtain ⟨e1, e2, e3⟩ := gt_ok (k := j) (R := bitsN j V ++ R) (by omega) (by simp [bitsN_length])
      have e4 : gtN (j : Int) (bitsN j V ++ R) = (V : Int) := by
        rw [e2, List.take_append_of_le_length (by rw [bitsN_length]; omega), List.take_of_length_le (by rw [bitsN_length]; omega), val_bitsN, Nat.mod_eq_of_lt hVl]
      refine ⟨e1, ?_, e3⟩
      unfold gsN
      rw [e1, e4, Int.toNat_natCast]
      cases j with
      | zero =>
        rw [if_neg (by intro hh; exact absurd hh.2.1 (by omega))]
        have : V = 0 := by simpa using hVl
        unfold sgnB at hs
        simp at hs
        omega
      | succ i =>
        have es : sgnB n ((i + 1 : Nat) : Int) = decide (-(2 ^ i) ≤ n ∧ n < 2 ^ i) := by
          unfold sgnB
          rw [if_neg (by omega), Int.toNat_natCast, Nat.add_sub_cancel]
        rw [es] at hs
        have hs := of_decide_eq_true hs
        rw [Nat.add_sub_cancel]
        have hp : (2 : Int) ^ (i + 1) = 2 * 2 ^ i := by rw [Int.pow_succ, Int.mul_comm]
        rw [hp] at hVn ⊢
        have hpp : (0 : Int) < 2 ^ i := Int.pow_pos (by omega)
        generalize (2 : Int) ^ i = P at *
        by_cases hn : n < 0
        · rw [if_pos hn] at hVn
          rw [if_pos ⟨rfl, by omega, by omega⟩]
          omega
        · rw [if_neg hn] at hVn
          rw [if_neg (by intro hh; have := hh.2.2; omega)]
          exact hVn
theorem cnt_rep (m : Nat) (R : List Bool) : cnt (List.replicate m false ++ true :: R) = some m := by
  induction m with
  | zero => rfl
  | succ m ih => rw [List.replicate_succ, List.cons_append]; simp [cnt, ih]
theorem back_un (n : Int) (R : List Bool) (h : unE n = 0) : unRE (unB n ++ R) = 0 ∧ unRN (unB n ++ R) = n ∧ unRT (unB n ++ R) = (unB n).length := by
  have hb : unB n = List.replicate n.toNat false ++ [true] := by unfold unB; rw [if_pos h]
  unfold unE at h
  split at h
  · cases h
  · rename_i h1
    have hc : cnt (unB n ++ R) = some n.toNat := by rw [hb, List.append_assoc]; exact cnt_rep _ _
    obtain ⟨e1, e2, e3⟩ := unR_some hc
    exact ⟨e1, by rw [e2]; omega, by rw [e3, hb]; simp⟩
theorem back_al (t : Nat) (R : List Bool) (m : Nat) (hm : padN t ≤ m) : alE t (List.replicate m false ++ R) = 0 ∧ alT t (List.replicate m false ++ R) = padN t := by
  have h : ((List.replicate m false ++ R).take (padN t)).all (fun b => !b) = true := by
    rw [List.take_append_of_le_length (by simpa using hm), List.take_replicate]
    simp
  exact ⟨by unfold alE; rw [if_pos h], by unfold alT; rw [if_pos h]⟩
/-- The end: what is left is noughts up to a whole byte. -/
theorem back_end (L : List Bool) : alE L.length (restB (pack L) L.length) = 0 ∧ alT L.length (restB (pack L) L.length) = padN L.length ∧ 8 * (pack L).length = L.length + padN L.length ∧ padN L.length < 8 := by
  have h1 : restB (pack L) L.length = List.replicate (padN L.length) false ++ [] := by
    rw [restB_pack _ _ (Nat.le_refl _), List.drop_length, List.nil_append, List.append_nil]
    congr 1
    unfold padN
    omega
  rw [h1]
  obtain ⟨e1, e2⟩ := back_al L.length [] (padN L.length) (Nat.le_refl _)
  refine ⟨e1, e2, ?_, ?_⟩
  · rw [pack_length]; unfold padN; omega
  · unfold padN; omega
end Go.Proofs.YtofkiimaoahfjaaDoor
