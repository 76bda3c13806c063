/-
  Layer 7 (predict): what the document's Search begins with.
  Layer 7 (predict): Search, as lists.
-/
import Derived.Test.YtofkiimaoahfjaaDoorZPred14
set_option maxRecDepth 100000
set_option linter.unusedVariables false
set_option linter.unusedSimpArgs false
namespace Go.Proofs.YtofkiimaoahfjaaDoor
open Go.RowKit

set_option maxHeartbeats 4000000 in
theorem refBegin_calls (k : Nat) (w : World) (hk : k ≤ 8) :
    Calls Tryd.prog 70 #[.int .i64 k] w fun e w' => ∃ v, e = .returned (.agg #[v, .int .i64 4]) ∧ Row w' .i64 3 v (beginL k) ∧ (∀ b, b ∈ fp v → w.heap.size ≤ b) ∧ Keeps [] w w' := by
  have hmk := run_mk Tryd.prog 22 3 .i64 8 Tryd.underlying22 info_i64 .i64 .i64 k k k k rfl rfl (by omega) (by omega) (by omega)
  obtain ⟨m4, hm4⟩ : ∃ m4, min k 4 = m4 := ⟨_, rfl⟩
  have hmin : (if (4 : Int) < (k : Int) then 4 else (k : Int)) = (m4 : Int) := by split <;> omega
  have HM4 := Lib.hid hm4
  have hm44 : m4 ≤ 4 := by omega
  have hm4k : m4 ≤ k := by omega
  clear hm4
  have HFL := Lib.hid (fixL_len m4 hm44)
  go_enter Tryd.func70, Tryd.ntmps70
  go_wp2_with (first
    | (go_at_call 37; go_must (with_reducible refine (refFixed_at (m4 : Int) m4 rfl hm44 _).mono ?_); rintro e wa ⟨va, rfl, hra, hfa, hka⟩; obtain ⟨aa, ca, hv, hqa⟩ := hra.rd; rw [HFL.out] at hv; subst hv))
  have hlt0 := hra.lt
  have HSZ : Hid (w.heap.size < wa.heap.size) := by have := hka.size; rw [World.size_alloc] at this; show _ < _; omega
  have HF : Hid (∀ ad, aa = some ad → ad.block < wa.heap.size) := by
    intro ad e
    subst e
    exact hlt0 ad.block (by simp [fp, Value.ownBlock])
  have HK1 : Hid (Keeps [] wa (((wa.alloc (.cells #[.slice aa m4 ca, .int .i64 0] 71)).alloc (.cells (madeCells #[.int .i64 0] k) 3)).alloc (.cells #[.slice (some ⟨wa.heap.size + 1, 0, none⟩) k k, .int .i64 4] 71))) := (((Keeps.refl _ _).alloc _).alloc _).alloc _
  have HG0 : Hid (Cell2 (((wa.alloc (.cells #[.slice aa m4 ca, .int .i64 0] 71)).alloc (.cells (madeCells #[.int .i64 0] k) 3)).alloc (.cells #[.slice (some ⟨wa.heap.size + 1, 0, none⟩) k k, .int .i64 4] 71)) w.heap.size 71 (.slice none 0 0) (.int .i64 0)) :=
    Cell2.keeps ⟨heap_alloc_new w _⟩ (hka.new HK1.out) (by simp)
  have HGA : Hid (Cell2 (((wa.alloc (.cells #[.slice aa m4 ca, .int .i64 0] 71)).alloc (.cells (madeCells #[.int .i64 0] k) 3)).alloc (.cells #[.slice (some ⟨wa.heap.size + 1, 0, none⟩) k k, .int .i64 4] 71)) wa.heap.size 71 (.slice aa m4 ca) (.int .i64 0)) :=
    Cell2.keeps ⟨heap_alloc_new wa _⟩ (((Keeps.refl [] _).alloc _).alloc _) (by simp)
  have HG2 : Hid (Cell2 (((wa.alloc (.cells #[.slice aa m4 ca, .int .i64 0] 71)).alloc (.cells (madeCells #[.int .i64 0] k) 3)).alloc (.cells #[.slice (some ⟨wa.heap.size + 1, 0, none⟩) k k, .int .i64 4] 71)) (wa.heap.size + 1 + 1) 71 (.slice (some ⟨wa.heap.size + 1, 0, none⟩) k k) (.int .i64 4)) := ⟨heap_alloc_at _ _ _ (by simp)⟩
  have HRW : Hid (Row (((wa.alloc (.cells #[.slice aa m4 ca, .int .i64 0] 71)).alloc (.cells (madeCells #[.int .i64 0] k) 3)).alloc (.cells #[.slice (some ⟨wa.heap.size + 1, 0, none⟩) k k, .int .i64 4] 71)) .i64 3 (.slice (some ⟨wa.heap.size + 1, 0, none⟩) k k) (List.replicate k 0)) := by
    have h := Row.made (wa.alloc (.cells #[.slice aa m4 ca, .int .i64 0] 71)) .i64 3 k (by omega)
    rw [World.size_alloc] at h
    exact h.keeps ((Keeps.refl [] _).alloc _) (fun _ _ => by simp)
  have HQ0 := Lib.hid (hqa.new HK1.out)
  have HK0 : Hid (Keeps [] w (((wa.alloc (.cells #[.slice aa m4 ca, .int .i64 0] 71)).alloc (.cells (madeCells #[.int .i64 0] k) 3)).alloc (.cells #[.slice (some ⟨wa.heap.size + 1, 0, none⟩) k k, .int .i64 4] 71))) := ((Keeps.refl _ _).alloc _ |>.new hka).new HK1.out
  clear hka hqa hra hfa HK1 hlt0
  generalize (((wa.alloc (.cells #[.slice aa m4 ca, .int .i64 0] 71)).alloc (.cells (madeCells #[.int .i64 0] k) 3)).alloc (.cells #[.slice (some ⟨wa.heap.size + 1, 0, none⟩) k k, .int .i64 4] 71)) = W at *
  have HBZ := Lib.hid (beginAt_zero k)
  have HSTP : Hid (∀ i, i < m4 → beginAt k (i + 1) = (beginAt k i).set i (16 * (fixL m4).getD i 0)) := fun i hi => by
    have := beginAt_step k i hk (by have := HM4.out; omega)
    rw [HM4.out] at this
    exact this
  have HBL : Hid (∀ i, i ≤ m4 → (beginAt k i).length = k) := fun i hi => beginAt_length k i hk (by have := HM4.out; omega)
  have HBE : Hid (beginAt k m4 = beginL k) := by
    have := beginAt_end k hk
    rw [HM4.out] at this
    exact this
  have HSM : Hid (∀ i, -6 ≤ (fixL m4).getD i 0 ∧ (fixL m4).getD i 0 ≤ 6) := fun i => fix_small m4 i hm44
  obtain ⟨ga, hga⟩ : ∃ ga, wa.heap.size = ga := ⟨_, rfl⟩
  rw [hga] at HSZ HF HGA HG2 HRW ⊢
  clear hga
  go_loopg [6] (m4 + 1) (fun q v6 w5 => ∃ i : Nat, v6 = .int .i64 i ∧ i ≤ m4 ∧ Hid (Row w5 .i64 3 (.slice (some ⟨ga + 1, 0, none⟩) k k) (beginAt k i)) ∧ Hid (i + q = m4 + 1) ∧ Hid (Keeps [ga + 1] W w5))
  case atStart => exact ⟨0, rfl, by omega, (by show Row _ _ _ _ _; rw [HBZ.out]; exact HRW.out), (show _ = _ from by omega), Keeps.refl _ _⟩
  case round =>
    obtain ⟨i, rfl, hi, HR, HQ, HKW⟩ := hrel
    have HC2 := Lib.hid (HG2.out.keeps HKW.out (by simp))
    have HCA := Lib.hid (HGA.out.keeps HKW.out (by simp))
    have hc0 := HC2.out.c0
    have hc1 := HC2.out.c1
    have ha0 := HCA.out.c0
    by_cases hlt : i < m4
    · have hil : i < (fixL m4).length := by rw [HFL.out]; exact hlt
      obtain ⟨b2, o2, hb2, hq2⟩ := (HQ0.out.keeps HKW.out (fun ad e => by have := HF.out ad e; simp; omega)).cellAt i hil
      subst hb2
      have HN : Hid (b2 ≠ ga + 1) := by have := HF.out _ rfl; simp only at this; show _ ≠ _; omega
      obtain ⟨x, hx⟩ : ∃ x, (fixL m4)[i] = x := ⟨_, rfl⟩
      have hx' : (fixL m4).getD i 0 = x := by rw [List.getD_eq_getElem?_getD, List.getElem?_eq_getElem hil, hx]; rfl
      obtain ⟨x0, x1⟩ := HSM.out i
      have HST := Lib.hid (HSTP.out i hlt)
      rw [hx'] at x0 x1 HST
      rw [hx] at hq2
      clear hx hx' hil
      obtain ⟨wo, rfl⟩ : ∃ x : World, x = wr := ⟨_, rfl⟩
      have hcr : wo.drew.cell? ⟨ga + 1, i, none⟩ = some (.int .i64 ((beginAt k i)[i]'(by rw [HBL.out i hi]; omega))) := HR.out.cell i (by rw [HBL.out i hi]; omega)
      have hfz : wo.drew.frozen? ⟨ga + 1, i, none⟩ = false := HR.out.frozen i
      have hik : (i : Int) < (k : Int) := by omega
      have hi0 : (0 : Int) ≤ (i : Int) := by omega
      have him : (i : Int) < (m4 : Int) := by omega
      have hmul : IntKind.i64.wrap (16 * x) = 16 * x := IntWalk.i64_in _ (by omega)
      go_upto_region 6 with fail
      go_region_held3 (fun w' => w'.cell? ⟨ga + 1 + 1, 0, none⟩ = some (.slice (some ⟨ga + 1, 0, none⟩) k k) ∧ w'.cell? ⟨ga, 0, none⟩ = some (.slice (some ⟨b2, o2, none⟩) m4 ca) ∧ w'.cell? ⟨b2, o2 + i, none⟩ = some (.int .i64 x))
        (first
          | (exact ⟨hc0, ha0, hq2⟩)
          | (exact ⟨((Keeps.refl [ga + 1] wo).drew.setCell (.inl (by simp)) _).cell hc0 (by simp), ((Keeps.refl [ga + 1] wo).drew.setCell (.inl (by simp)) _).cell ha0 (by simp), ((Keeps.refl [ga + 1] wo).drew.setCell (.inl (by simp)) _).cell hq2 (by simp only [List.mem_singleton]; exact HN.out)⟩)
          | go_keep)
        (fail)
      clear hmul hi0 him hik hcr hfz hc0 hc1 ha0 hq2
      go_wp2_with fail
      go_roundg (m4 - i)
      case measure => have := HQ.out; omega
      case rel =>
        refine ⟨i + 1, by go_num, by omega, ?_, (show _ = _ from by have := HQ.out; omega), HKW.out.then_ ((Keeps.refl [ga + 1] wo).drew.setCell (.inl (by simp)) _) (fun b hb _ => hb)⟩
        show Row _ _ _ _ _
        rw [HST.out]
        exact (HR.out.keeps ((Keeps.refl [] wo).drew) (fun _ _ => by simp)).set i (16 * x)
    · obtain rfl : i = m4 := by omega
      have HC0 := Lib.hid (HG0.out.keeps HKW.out (by simp; have := HSZ.out; omega))
      have hd0 := HC0.out.c0
      have hd1 := HC0.out.c1
      have hf0 := HC0.out.frozen 0
      have hf1 := HC0.out.frozen 1
      have HROW := Lib.hid HR.out
      rw [HBE.out] at HROW
      go_wp2_with fail
      have HE1 : Hid (((wr.setCell ⟨w.heap.size, 0, none⟩ (.slice (some ⟨ga + 1, 0, none⟩) k k)).setCell ⟨w.heap.size, 1, none⟩ (.int .i64 4)).heap[w.heap.size]? = some (.cells #[.slice (some ⟨ga + 1, 0, none⟩) k k, .int .i64 4] 71 (0, 0))) :=
        blk_set (blk_set HC0.out.hp 0 _) 1 (.int .i64 4)
      have HKE : Hid (Keeps [w.heap.size] wr ((wr.setCell ⟨w.heap.size, 0, none⟩ (.slice (some ⟨ga + 1, 0, none⟩) k k)).setCell ⟨w.heap.size, 1, none⟩ (.int .i64 4))) :=
        ((Keeps.refl _ wr).setCell (.inl (by simp)) _).setCell (.inl (by simp)) _
      refine bodyPost_ret (results_cell1 rfl _ _ w.heap.size 71 #[.slice (some ⟨ga + 1, 0, none⟩) k k, .int .i64 4] (0, 0) _ rfl HE1.out Tryd.underlying71 rfl (by kernel_rfl)) rfl ?_
      have HSZ' := HSZ.out
      refine ⟨_, rfl, HROW.out.keeps HKE.out (fun b hb h => by rw [fp_some, List.mem_singleton] at hb; rw [List.mem_singleton] at h; omega), (fun b hb => by rw [fp_some, List.mem_singleton] at hb; omega), ?_⟩
      exact (HK0.out.then_ HKW.out (fun b hb hlt => by rw [List.mem_singleton] at hb; omega)).then_ HKE.out (fun b hb hlt => by rw [List.mem_singleton] at hb; omega)
end Go.Proofs.YtofkiimaoahfjaaDoor

set_option maxRecDepth 100000
set_option linter.unusedVariables false
set_option linter.unusedSimpArgs false
namespace Go.Proofs.YtofkiimaoahfjaaDoor
open Go.RowKit

/-- The steps: 8, 4, 2, 1; so many are left. -/
def stepOf : Nat → Int
  | 4 => 8
  | 3 => 4
  | 2 => 2
  | 1 => 1
  | _ => 0
theorem stepOf_pos (e : Nat) (h : e ≤ 4) : (0 < e → 0 < stepOf e) ∧ 0 ≤ stepOf e ∧ stepOf e ≤ 8 ∧ (e = 0 → stepOf e = 0) := by
  have h' : e = 0 ∨ e = 1 ∨ e = 2 ∨ e = 3 ∨ e = 4 := by omega
  rcases h' with rfl | rfl | rfl | rfl | rfl <;> decide
theorem stepOf_half (e : Nat) (h : e ≤ 3) : stepOf (e + 1) / 2 = stepOf e := by
  have h' : e = 0 ∨ e = 1 ∨ e = 2 ∨ e = 3 := by omega
  rcases h' with rfl | rfl | rfl | rfl <;> decide

/-- What is tried at coefficient j: raised by the step, and by its opposite. -/
def mvK (j : Nat) (st : Int) : Nat → List (Nat × Int)
  | 0 => [(j, st), (j, -st)]
  | 1 => [(j, -st)]
  | _ => []
/-- From coefficient j on, d of them. -/
def mvJ (st : Int) : Nat → Nat → List (Nat × Int)
  | 0, _ => []
  | d + 1, j => mvK j st 0 ++ mvJ st d (j + 1)
/-- e steps. -/
def mvS (o : Nat) : Nat → List (Nat × Int)
  | 0 => []
  | e + 1 => mvJ (stepOf (e + 1)) o 0 ++ mvS o e

/-- Is a cost less than the one at hand? -/
def srcB (n : Int) : Option Int → Bool
  | none => true
  | some b => decide (n < b)
/-- One trial. -/
def srcT (xs : List Int) (S : List Int × Option Int) (m : Nat × Int) : List Int × Option Int :=
  if resE (S.1.set m.1 (S.1.getD m.1 0 + m.2)) 4 xs = 0 ∧ srcB (costN (S.1.set m.1 (S.1.getD m.1 0 + m.2)) 4 xs) S.2 = true then
    (S.1.set m.1 (S.1.getD m.1 0 + m.2), some (costN (S.1.set m.1 (S.1.getD m.1 0 + m.2)) 4 xs)) else S
def costO (xs : List Int) (C : List Int) : Option Int := if resE C 4 xs = 0 then some (costN C 4 xs) else none
/-- How it begins, and what comes out. -/
def src0 (xs : List Int) (o : Nat) : List Int × Option Int := (beginL o, costO xs (beginL o))
def srcF (xs : List Int) (o : Nat) : List Int × Option Int := (mvS o 4).foldl (srcT xs) (src0 xs o)

/-- What is always so. -/
structure SrcOk (xs : List Int) (o : Nat) (S : List Int × Option Int) : Prop where
  len : S.1.length = o
  small : ∀ c ∈ S.1, -2048 ≤ c ∧ c ≤ 2047
  cost : S.2 = costO xs S.1

theorem costN_bound (cs : List Int) (sh : Int) (xs : List Int) (h : xs.length ≤ 1000000) : 0 ≤ costN cs sh xs ∧ costN cs sh xs ≤ 2147483648000000 := by
  have h1 := absSum_bound (resO cs sh xs) (resO_in cs sh xs)
  have h2 := resO_length cs sh xs
  unfold costN
  omega
theorem resE_right {cs : List Int} {sh : Int} {xs : List Int} (h : resE cs sh xs = 0) : rightB cs sh = true := by
  cases hr : rightB cs sh
  · unfold resE at h; rw [if_pos hr] at h; omega
  · rfl

theorem SrcOk.begin (xs : List Int) (o : Nat) (ho : o ≤ 8) : SrcOk xs o (src0 xs o) := by
  refine ⟨?_, ?_, rfl⟩
  · have : ∀ o, o < 9 → (beginL o).length = o := by decide
    exact this o (by omega)
  · have : ∀ o, o < 9 → ∀ c ∈ beginL o, -2048 ≤ c ∧ c ≤ 2047 := by decide
    exact this o (by omega)

theorem SrcOk.step {xs : List Int} {o : Nat} {S : List Int × Option Int} (h : SrcOk xs o S) (m : Nat × Int) : SrcOk xs o (srcT xs S m) := by
  unfold srcT
  split
  · rename_i hc
    refine ⟨by simp [h.len], ?_, ?_⟩
    · have := resE_right hc.1
      exact all_cfB ((rightB_iff _ _).1 this).2.2.2
    · simp only [costO]
      rw [if_pos hc.1]
  · exact h

theorem SrcOk.fold {xs : List Int} {o : Nat} (l : List (Nat × Int)) : ∀ {S : List Int × Option Int}, SrcOk xs o S → SrcOk xs o (l.foldl (srcT xs) S) := by
  induction l with
  | nil => intro S h; exact h
  | cons m l ih => intro S h; exact ih (h.step m)

/-- No worse. -/
def LeO : Option Int → Option Int → Prop
  | _, none => True
  | some a, some b => a ≤ b
  | none, some _ => False
theorem LeO.refl (a : Option Int) : LeO a a := by cases a <;> simp [LeO]
theorem LeO.trans {a b c : Option Int} (h : LeO a b) (k : LeO b c) : LeO a c := by
  cases a <;> cases b <;> cases c <;> simp_all [LeO] <;> omega
theorem srcT_le (xs : List Int) (S : List Int × Option Int) (m : Nat × Int) : LeO (srcT xs S m).2 S.2 := by
  unfold srcT
  split
  · rename_i hc
    cases h : S.2 with
    | none => simp [LeO]
    | some b =>
      have := hc.2
      rw [h] at this
      simp only [srcB, decide_eq_true_eq] at this
      simp only [LeO]
      omega
  · exact LeO.refl _
theorem fold_le (xs : List Int) (l : List (Nat × Int)) : ∀ (S : List Int × Option Int), LeO (l.foldl (srcT xs) S).2 S.2 := by
  induction l with
  | nil => intro S; exact LeO.refl _
  | cons m l ih => intro S; exact LeO.trans (ih _) (srcT_le xs S m)

/-- Search's error, coefficients, shift. -/
def srcE (xs : List Int) (z : Int) : Int := if z < 0 ∨ 8 < z ∨ (xs.length : Int) < z then 1 else if xs.all inB = false then 12 else 0
def srcL (xs : List Int) (z : Int) : List Int := if srcE xs z = 0 then (srcF xs z.toNat).1 else []
def srcS (xs : List Int) (z : Int) : Int := if srcE xs z = 0 then 4 else 0

/-- What one trial's outcome is, in the walk's words. -/
theorem srcT_yes {xs C : List Int} {B : Option Int} {j : Nat} {by_ c N : Int} {C' : List Int} (hc : C.getD j 0 = c) (hC : C.set j (c + by_) = C') (hE : resE C' 4 xs = 0) (hN : costN C' 4 xs = N) (hb : srcB N B = true) :
    srcT xs (C, B) (j, by_) = (C', some N) := by
  unfold srcT
  simp only [hc, hC, hN]
  rw [if_pos ⟨hE, hb⟩]
theorem srcT_no {xs C : List Int} {B : Option Int} {j : Nat} {by_ c N : Int} {C' : List Int} (hc : C.getD j 0 = c) (hC : C.set j (c + by_) = C') (hN : costN C' 4 xs = N) (h : resE C' 4 xs ≠ 0 ∨ srcB N B = false) :
    srcT xs (C, B) (j, by_) = (C, B) := by
  unfold srcT
  simp only [hc, hC, hN]
  rw [if_neg]
  rintro ⟨h1, h2⟩
  rcases h with h | h
  · exact h h1
  · rw [h] at h2; cases h2
end Go.Proofs.YtofkiimaoahfjaaDoor
