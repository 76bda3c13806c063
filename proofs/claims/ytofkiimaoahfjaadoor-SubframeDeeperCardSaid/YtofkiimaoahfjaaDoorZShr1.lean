/-
  Layer 9 (subframe), plain: sizes of blocks of noughts, and of numbers that are none.
  Layer 9 (subframe), plain: what SubframeShrinks says.
  Layer 9 (subframe), plain: flat samples, lines, and lines that are moved up.
-/
import Derived.Test.YtofkiimaoahfjaaDoorZSub8
import Derived.Test.YtofkiimaoahfjaaDoorZSub10
set_option maxRecDepth 100000
set_option linter.unusedVariables false
set_option linter.unusedSimpArgs false
namespace Go.Proofs.YtofkiimaoahfjaaDoor
open Go.RowKit Go.Proofs.YtofkiimaoahfjaaDoor.Pure

theorem sumK_nonneg (k : Nat) (F : List Int) (hF : ∀ f ∈ F, 0 ≤ f) : 0 ≤ sumK k F := by
  unfold sumK
  induction F with
  | nil => simp
  | cons f F ih =>
    have h1 := ih (fun g hg => hF g (List.mem_cons_of_mem _ hg))
    have h2 : 0 ≤ f / 2 ^ k := Int.ediv_nonneg (hF f List.mem_cons_self) (by have : (0 : Int) < 2 ^ k := Int.pow_pos (by omega); omega)
    rw [List.map_cons, List.sum_cons]
    omega
theorem szK_len (k : Nat) (F : List Int) (hF : ∀ f ∈ F, 0 ≤ f) : (F.length : Int) ≤ szK k F := by
  unfold szK
  have h1 := sumK_nonneg k F hF
  have h2 : (1 : Int) * (F.length : Int) ≤ ((k : Int) + 1) * (F.length : Int) := Int.mul_le_mul_of_nonneg_right (by omega) (by omega)
  omega
theorem loopK_len (F : List Int) (hF : ∀ f ∈ F, 0 ≤ f) (n : Nat) : (loopK F n).2 = true → (F.length : Int) ≤ (loopK F n).1.2.2 := by
  unfold loopK
  induction n with
  | zero => intro h; cases h
  | succ n ih =>
    rw [List.range_succ, List.foldl_append, List.foldl_cons, List.foldl_nil]
    obtain ⟨st, hst⟩ : ∃ st, (List.range n).foldl (stepK F) ((0, 0, 0), false) = st := ⟨_, rfl⟩
    rw [hst] at ih ⊢
    unfold stepK
    split
    · intro _
      exact szK_len n F hF
    · exact ih
theorem widthS_mono (L : List Int) : ∀ w : Int, 0 ≤ w → w ≤ L.foldl wdS w := by
  induction L with
  | nil => intro w _; exact Int.le_refl _
  | cons x L ih =>
    intro w hw
    rw [List.foldl_cons]
    have h1 : w ≤ wdS w x := by unfold wdS; split <;> omega
    exact Int.le_trans h1 (ih _ (by omega))
theorem widthS_one (L : List Int) (h : ∀ x ∈ L, x ≠ 0) (hn : L ≠ []) : 1 ≤ widthS L := by
  cases L with
  | nil => exact absurd rfl hn
  | cons x L =>
    have hx := h x List.mem_cons_self
    unfold widthS
    rw [List.foldl_cons]
    have h1 : 1 ≤ wdS 0 x := by
      unfold wdS bitsS
      rw [if_neg hx]
      omega
    exact Int.le_trans h1 (widthS_mono L _ (by omega))
theorem bestS_len (c : List Int) (m : Nat) (h0 : ∀ x ∈ c, x ≠ 0) (hin : ∀ n ∈ c, -2147483648 < n ∧ n < 2147483648) (h : (bestS c m).2 = true) : (c.length : Int) ≤ (bestS c m).1.2.2 := by
  unfold bestS at h ⊢
  split
  · show (c.length : Int) ≤ 5 + widthS c * c.length
    rcases Classical.em (c = []) with rfl | hc
    · simp
    · have h1 := widthS_one c h0 hc
      have h2 : (1 : Int) * (c.length : Int) ≤ widthS c * (c.length : Int) := Int.mul_le_mul_of_nonneg_right h1 (by omega)
      omega
  · rename_i h2
    rw [if_neg h2] at h
    have := loopK_len (c.map foldS) (fun f hf => (folds_range c hin f hf).1) (escS m) h
    rw [List.length_map] at this
    exact this
theorem candGo_len (m : Nat) : ∀ (ps : List (List Int)) (acc : List T3) (s : Int), (∀ c ∈ ps, ∀ x ∈ c, x ≠ 0) → (∀ c ∈ ps, ∀ n ∈ c, -2147483648 < n ∧ n < 2147483648) → (candGo m ps acc s).2.2 = true → s + (ps.flatten.length : Int) ≤ (candGo m ps acc s).2.1 := by
  intro ps
  induction ps with
  | nil => intro acc s _ _ _; simp [candGo]
  | cons c ps ih =>
    intro acc s h0 hin h
    unfold candGo at h ⊢
    split at h
    · rename_i hb
      rw [if_pos hb]
      have h1 := ih _ _ (fun c hc => h0 c (List.mem_cons_of_mem _ hc)) (fun c hc => hin c (List.mem_cons_of_mem _ hc)) h
      have h2 := bestS_len c m (h0 c List.mem_cons_self) (hin c List.mem_cons_self) hb
      rw [List.flatten_cons, List.length_append]
      omega
    · cases h
/-- Numbers that are no noughts take a bit each, and more. -/
theorem rsize_ge (L : List Int) (o : Nat) (h0 : ∀ x ∈ L, x ≠ 0) (hl : L.length ≤ 600) (hok : rchkE L o = 0) : (L.length : Int) ≤ rsizeN L o := by
  obtain ⟨_, hin⟩ := rchk_ok L o hok
  unfold rsizeN
  rw [if_pos hok, Int.toNat_natCast]
  obtain ⟨m, p, h1, h2, h3, h4, h5, h6, h7⟩ := choose_plan hl hin (order := o) (by omega)
  have hf := (partsS_flat L o p h5).1
  have hmem := partsS_mem L o p
  have := candGo_len m (partsS L o p) [] 6 (fun c hc x hx => h0 x ((hmem c hc).1 x hx)) (fun c hc n hn => hin n ((hmem c hc).1 n hn)) (by rw [h6])
  rw [h6, hf] at this
  have h8 : 6 + (L.length : Int) ≤ (chooseS L o).2.2.2 := this
  omega
/-- Noughts take 15 bits at most. -/
theorem rsize_zero (L : List Int) (o : Nat) (h0 : ∀ x ∈ L, x = 0) (hl : L.length ≤ 600) (hok : rchkE L o = 0) : rsizeN L o ≤ 15 := by
  obtain ⟨_, hin⟩ := rchk_ok L o hok
  unfold rsizeN
  rw [if_pos hok, Int.toNat_natCast]
  have hw : widthS L = 0 := by
    unfold widthS
    have : ∀ L : List Int, (∀ x ∈ L, x = 0) → L.foldl wdS 0 = 0 := by
      intro L
      induction L with
      | nil => intro _; rfl
      | cons x L ih =>
        intro h
        rw [List.foldl_cons]
        have hx : wdS 0 x = 0 := by unfold wdS; rw [if_pos (h x List.mem_cons_self)]
        rw [hx]
        exact ih (fun y hy => h y (List.mem_cons_of_mem _ hy))
    exact this L h0
  obtain ⟨hb, hs⟩ := bestS_leastW L 0 (by omega)
  have e : partsS L o 0 = [L] := by unfold partsS; simp [chunks]
  have hc : (candGo 0 (partsS L o 0) [] 6).2.2 = true ∧ (candGo 0 (partsS L o 0) [] 6).2.1 = 6 + ((4 + 0 : Nat) + (bestS L 0).1.2.2) := by
    rw [e]
    unfold candGo
    rw [if_pos hb]
    exact ⟨rfl, rfl⟩
  have := choose_least0 hl hin 0 (by omega) hc.1
  rw [hc.2] at this
  rw [hw] at hs
  omega
theorem take_le (b x : Pl) (ok : Bool) (hb : 0 ≤ b.sz) : (takeP b x ok).sz ≤ b.sz := by
  unfold takeP
  split
  · rename_i h
    rcases h.2 with h | h <;> omega
  · exact Int.le_refl _
end Go.Proofs.YtofkiimaoahfjaaDoor

set_option maxRecDepth 100000
set_option linter.unusedVariables false
set_option linter.unusedSimpArgs false
namespace Go.Proofs.YtofkiimaoahfjaaDoor
open Go.RowKit Go.Proofs.YtofkiimaoahfjaaDoor.Pure

theorem take_keep (b x : Pl) (ok : Bool) (hb : 0 ≤ b.sz) (hx : ok = true → b.sz ≤ x.sz) : takeP b x ok = b := by
  unfold takeP
  split
  · rename_i h
    have := hx h.1
    rcases h.2 with h2 | h2 <;> omega
  · rfl
/-- A plan of a size from 0 to B. -/
def Upto (B : Int) (b : Pl) : Prop := 0 ≤ b.sz ∧ b.sz ≤ B
theorem Upto.take {B : Int} {b x : Pl} {ok : Bool} (h : Upto B b) (hx : ok = true → 0 ≤ x.sz) : Upto B (takeP b x ok) := by
  unfold takeP
  split
  · rename_i h1
    have h2 := hx h1.1
    rcases h1.2 with h3 | h3
    · have := h.1; omega
    · exact ⟨h2, by have := h.2; omega⟩
  · exact h
theorem mod_sz {xs cs : List Int} {sh D kd head : Int} (hl : xs.length ≤ 512) (hD : 0 ≤ D) (hh : 0 ≤ head) (hok : modOk xs cs sh = true) : 0 ≤ (modP xs cs sh D kd head).sz ∧ cs.length * D ≤ (modP xs cs sh D kd head).sz ∧ 0 ≤ rsizeN (leftL cs sh xs) cs.length := by
  have ho : resE cs sh xs = 0 ∧ rchkE (leftL cs sh xs) cs.length = 0 := of_decide_eq_true hok
  obtain ⟨_, _, hL⟩ := sm_facts xs cs sh ho.1 hl
  have h1 := (sm_size (leftL cs sh xs) cs.length ho.2 (by omega)).1
  have h2 : 0 ≤ (cs.length : Int) * D := Int.mul_nonneg (by omega) hD
  refine ⟨?_, ?_, h1⟩
  · show 0 ≤ head + cs.length * D + rsizeN (leftL cs sh xs) cs.length
    omega
  · show (cs.length : Int) * D ≤ head + cs.length * D + rsizeN (leftL cs sh xs) cs.length
    omega
theorem Upto.fold {B : Int} {xs : List Int} {D : Int} (hl : xs.length ≤ 512) (hD : 0 ≤ D) (l : List Nat) : ∀ b, Upto B b → Upto B (l.foldl (stepF xs D) b) := by
  induction l with
  | nil => intro b h; exact h
  | cons c l ih => intro b h; exact ih _ (h.take (fun ho => (mod_sz hl hD (by omega) ho).1))
theorem Upto.foldq {B : Int} {xs : List Int} {D : Int} (hl : xs.length ≤ 512) (hD : 0 ≤ D) (l : List Nat) : ∀ b, Upto B b → Upto B (l.foldl (stepQ xs D) b) := by
  induction l with
  | nil => intro b h; exact h
  | cons c l ih =>
    intro b h
    refine ih _ ?_
    unfold stepQ
    split
    · exact h.take (fun ho => (mod_sz hl hD (by omega) ho).1)
    · exact h
theorem upto_end {B : Int} {xs : List Int} {D : Int} (hl : xs.length ≤ 512) (hD : 0 ≤ D) (h : Upto B (fixP xs D)) : Upto B (qP xs D) ∧ Upto B (chooseP xs D) := by
  have h1 : Upto B (qP xs D) := Upto.foldq hl hD _ _ h
  exact ⟨h1, h1.take (fun _ => Int.mul_nonneg (by omega) hD)⟩
/-- Alike: no more than one sample. -/
theorem alike_upto {xs : List Int} {D : Int} (hl : xs.length ≤ 512) (hD : 0 ≤ D) (ha : alikeB xs = true) : Upto D (chooseP xs D) := by
  have h0 : c0P xs D = ⟨0, [], 0, [], D⟩ := by
    unfold c0P
    rw [ha]
    exact if_pos ⟨rfl, .inl (show (-1 : Int) < 0 by omega)⟩
  refine (upto_end hl hD (Upto.fold hl hD _ _ ?_)).2
  rw [h0]
  exact ⟨hD, Int.le_refl _⟩
/-- One fixed model's size is a bound. -/
theorem fix_upto {xs : List Int} {D : Int} (hl : xs.length ≤ 512) (hD : 0 ≤ D) (c : Nat) (hc : c < min 4 xs.length + 1) (hok : modOk xs (fixL c) 0 = true) : Upto (modP xs (fixL c) 0 D (8 + c) 0).sz (qP xs D) ∧ Upto (modP xs (fixL c) 0 D (8 + c) 0).sz (chooseP xs D) := by
  refine upto_end hl hD ?_
  have hsz := (mod_sz (D := D) (kd := 8 + c) (head := 0) hl hD (by omega) hok).1
  have hj : ∀ j : Nat, Upto (modP xs (fixL c) 0 D (8 + c) 0).sz ((List.range (c + 1 + j)).foldl (stepF xs D) (c0P xs D)) := by
    intro j
    induction j with
    | zero =>
      rw [Nat.add_zero, fold_range]
      obtain ⟨b, hb⟩ : ∃ b, (List.range c).foldl (stepF xs D) (c0P xs D) = b := ⟨_, rfl⟩
      rw [hb]
      unfold stepF
      rw [hok]
      unfold takeP
      split
      · exact ⟨hsz, Int.le_refl _⟩
      · rename_i h
        have h1 : ¬ (b.sz < 0 ∨ (modP xs (fixL c) 0 D (8 + c) 0).sz < b.sz) := fun h2 => h ⟨rfl, h2⟩
        exact ⟨by omega, by omega⟩
    | succ j ih =>
      rw [show c + 1 + (j + 1) = c + 1 + j + 1 by omega, List.range_succ, List.foldl_append]
      exact Upto.fold hl hD _ _ ih
  have := hj (min 4 xs.length + 1 - (c + 1))
  rw [show c + 1 + (min 4 xs.length + 1 - (c + 1)) = min 4 xs.length + 1 by omega] at this
  exact this
/-- Before the samples themselves are tried, none is a plan of them. -/
theorem take_kd {b x : Pl} {ok : Bool} (hb : b.kd ≠ 1) (hx : x.kd ≠ 1) : (takeP b x ok).kd ≠ 1 := by
  unfold takeP
  split
  · exact hx
  · exact hb
theorem qP_kd (xs : List Int) (D : Int) : (qP xs D).kd ≠ 1 := by
  have h0 : (c0P xs D).kd ≠ 1 := take_kd (by simp) (by simp)
  have h1 : ∀ (l : List Nat) (b : Pl), b.kd ≠ 1 → (l.foldl (stepF xs D) b).kd ≠ 1 := by
    intro l
    induction l with
    | nil => intro b h; exact h
    | cons c l ih => intro b h; exact ih _ (take_kd h (by show (8 + (c : Int)) ≠ 1; omega))
  have h2 : ∀ (l : List Nat) (b : Pl), b.kd ≠ 1 → (l.foldl (stepQ xs D) b).kd ≠ 1 := by
    intro l
    induction l with
    | nil => intro b h; exact h
    | cons c l ih =>
      intro b h
      refine ih _ ?_
      unfold stepQ
      split
      · exact take_kd h (by show (31 + (c : Int)) ≠ 1; omega)
      · exact h
  exact h2 _ _ (h1 _ _ h0)
theorem left_nil (xs : List Int) : leftL [] 0 xs = xs := by
  refine List.ext_getElem (by rw [leftL_length]; simp) (fun i h1 h2 => ?_)
  rw [leftL_get]
  have e : predI [] 0 (xs.take (([] : List Int).length + i)) = 0 := by simp [predI, dotp]
  unfold leftAt
  rw [e, List.length_nil, Nat.zero_add, List.getD_eq_getElem?_getD, List.getElem?_eq_getElem h2]
  simp
/-- Alike, and no noughts: the one sample. -/
theorem alike_one {xs : List Int} {d : Nat} (hd : d ≤ 24) (hl : 40 ≤ xs.length ∧ xs.length ≤ 512) (hfit : ∀ x ∈ xs, -(2 ^ d) ≤ x ∧ x < 2 ^ d) (ha : alikeB xs = true) (h0 : ∀ x ∈ xs, x ≠ 0) : chooseP xs ((d + 1 : Nat) : Int) = ⟨0, [], 0, [], ((d + 1 : Nat) : Int)⟩ := by
  obtain ⟨D, hD⟩ : ∃ D : Int, ((d + 1 : Nat) : Int) = D := ⟨_, rfl⟩
  rw [hD]
  have hD0 : 0 ≤ D := by omega
  have e0 : c0P xs D = ⟨0, [], 0, [], D⟩ := by
    unfold c0P
    rw [ha]
    exact if_pos ⟨rfl, .inl (show (-1 : Int) < 0 by omega)⟩
  have hge : ∀ (cs : List Int) (sh kd head : Int), 0 ≤ head → modOk xs cs sh = true → (cs = [] ∧ sh = 0 ∨ 1 ≤ cs.length) → D ≤ (modP xs cs sh D kd head).sz := by
    intro cs sh kd head hh hok hc
    have hs := mod_sz (D := D) (kd := kd) (head := head) hl.2 hD0 hh hok
    rcases hc with ⟨rfl, rfl⟩ | hc
    · have ho : resE [] 0 xs = 0 ∧ rchkE (leftL [] 0 xs) ([] : List Int).length = 0 := of_decide_eq_true hok
      have h3 := rsize_ge (leftL [] 0 xs) 0 (by rw [left_nil]; exact h0) (by rw [left_nil]; omega) ho.2
      rw [left_nil] at h3
      show D ≤ head + ((([] : List Int).length : Nat) : Int) * D + rsizeN (leftL [] 0 xs) ((([] : List Int).length : Nat) : Int)
      rw [left_nil]
      have e1 : ((([] : List Int).length : Nat) : Int) = 0 := rfl
      rw [e1]
      rw [show ((0 : Nat) : Int) = 0 from rfl] at h3
      omega
    · have h4 : 1 * D ≤ (cs.length : Int) * D := Int.mul_le_mul_of_nonneg_right (by omega) hD0
      omega
  have e1 : fixP xs D = ⟨0, [], 0, [], D⟩ := by
    unfold fixP
    rw [e0]
    have : ∀ (l : List Nat), (∀ c ∈ l, c ≤ 4) → l.foldl (stepF xs D) ⟨0, [], 0, [], D⟩ = ⟨0, [], 0, [], D⟩ := by
      intro l
      induction l with
      | nil => intro _; rfl
      | cons c l ih =>
        intro h
        have hc := h c List.mem_cons_self
        have hf := fixL_len c hc
        have : stepF xs D ⟨0, [], 0, [], D⟩ c = ⟨0, [], 0, [], D⟩ := take_keep _ _ _ hD0 (fun ho => hge (fixL c) 0 (8 + c) 0 (by omega) ho (by
          rcases Nat.eq_zero_or_pos c with rfl | h1
          · exact .inl ⟨rfl, rfl⟩
          · exact .inr (by omega)))
        rw [List.foldl_cons, this]
        exact ih (fun c' h' => h c' (List.mem_cons_of_mem _ h'))
    exact this _ (fun c h => by rw [List.mem_range] at h; omega)
  have e2 : qP xs D = ⟨0, [], 0, [], D⟩ := by
    unfold qP
    rw [e1]
    have : ∀ (l : List Nat), (∀ c ∈ l, c = 2 ∨ c = 4 ∨ c = 8) → l.foldl (stepQ xs D) ⟨0, [], 0, [], D⟩ = ⟨0, [], 0, [], D⟩ := by
      intro l
      induction l with
      | nil => intro _; rfl
      | cons c l ih =>
        intro h
        have hc := h c List.mem_cons_self
        have : stepQ xs D ⟨0, [], 0, [], D⟩ c = ⟨0, [], 0, [], D⟩ := by
          unfold stepQ
          split
          · rename_i hlt
            have he := srcE_ok (xs := xs) (o := c) (by omega) (by omega) (in_B (by omega) hfit)
            have hlen : (srcL xs c).length = c := by
              rw [he.2.1]
              exact (fold_ok xs c (mvS c 4) _ (SrcOk.begin xs c (by omega))).len
            exact take_keep _ _ _ hD0 (fun ho => hge (srcL xs c) (srcS xs c) (31 + c) (9 + 12 * c) (by omega) ho (.inr (by omega)))
          · rfl
        rw [List.foldl_cons, this]
        exact ih (fun c' h' => h c' (List.mem_cons_of_mem _ h'))
    exact this _ (fun c h => by simpa using h)
  unfold chooseP
  rw [e2]
  refine take_keep _ _ _ hD0 (fun _ => ?_)
  show D ≤ (xs.length : Int) * D
  have h4 : 1 * D ≤ (xs.length : Int) * D := Int.mul_le_mul_of_nonneg_right (by omega) hD0
  omega
end Go.Proofs.YtofkiimaoahfjaaDoor

set_option maxRecDepth 100000
set_option linter.unusedVariables false
set_option linter.unusedSimpArgs false
namespace Go.Proofs.YtofkiimaoahfjaaDoor
open Go.RowKit Go.Proofs.YtofkiimaoahfjaaDoor.Pure

theorem schk_of (S : List Int) (depth : Nat) (hn : 1 ≤ S.length ∧ S.length ≤ 512) (hd : 4 ≤ depth ∧ depth ≤ 25) (h : ∀ x ∈ S, -(2 ^ (depth - 1)) ≤ x ∧ x < 2 ^ (depth - 1)) : schkE S depth = 0 := by
  unfold schkE
  have h1 : sbrB S.length depth = true := decide_eq_true (by omega)
  rw [h1, if_pos rfl, Int.toNat_natCast, if_pos]
  rw [List.all_eq_true]
  exact fun x hx => decide_eq_true (h x hx)
theorem skind_ok {S : List Int} {depth : Int} (h : schkE S depth = 0) : skindN S depth = (planS S depth).kd ∧ sputB S depth = swB S depth := by
  unfold skindN sputB
  rw [if_pos h, if_pos h]
  exact ⟨rfl, rfl⟩
theorem alike_rep (n : Nat) (B : Int) : alikeB (List.replicate n B) = true := by
  unfold alikeB
  rw [List.all_eq_true]
  intro x hx
  have h1 := List.eq_of_mem_replicate hx
  cases n with
  | zero => cases hx
  | succ n => rw [List.replicate_succ, List.headD_cons, h1]; simp
theorem down_rep (n : Nat) (A : Int) (k : Nat) : downS (List.replicate n A) k = List.replicate n (A / 2 ^ k) := by unfold downS; rw [List.map_replicate]

theorem flat_law (A : Int) (n : Nat) (hA : 0 ≤ A ∧ A ≤ 999) (hn : 40 ≤ n ∧ n ≤ 239) :
    schkE (List.replicate n A) 20 = 0 ∧ (skindN (List.replicate n A) 20 = 0 ∨ A = 0) ∧ (sputB (List.replicate n A) 20).length ≤ 48 := by
  have hc : schkE (List.replicate n A) 20 = 0 := schk_of _ 20 (by rw [List.length_replicate]; omega) (by omega) (fun x hx => by
    have := List.eq_of_mem_replicate hx
    have e : (2 : Int) ^ (20 - 1) = 524288 := rfl
    rw [e]
    omega)
  have hok := s_ok _ _ hc
  obtain ⟨hk1, hk2⟩ := skind_ok hc
  have hxs := down_rep n A (wasS (List.replicate n A))
  have hal : alikeB (downS (List.replicate n A) (wasS (List.replicate n A))) = true := by rw [hxs]; exact alike_rep _ _
  have hlen := hok.len
  rw [List.length_replicate] at hlen
  have hD := hok.D
  have hdv := was_div (List.replicate n A) A (by rw [List.mem_replicate]; omega)
  have hsl := sw_len _ _ hok
  have hup := alike_upto (xs := downS (List.replicate n A) (wasS (List.replicate n A))) (D := depS (List.replicate n A) 20) (by omega) (by omega) hal
  refine ⟨hc, ?_, ?_⟩
  · by_cases h0 : A = 0
    · exact .inr h0
    · left
      rw [hk1]
      obtain ⟨d, hd⟩ : ∃ d : Nat, depS (List.replicate n A) 20 = ((d + 1 : Nat) : Int) := ⟨(depS (List.replicate n A) 20).toNat - 1, by omega⟩
      have hdd : (depS (List.replicate n A) 20).toNat - 1 = d := by omega
      have hfit := hok.fits
      rw [hdd] at hfit
      have := alike_one (xs := downS (List.replicate n A) (wasS (List.replicate n A))) (d := d) (by omega) (by omega) hfit hal (fun x hx => by
        rw [hxs] at hx
        have h1 := List.eq_of_mem_replicate hx
        intro h2
        rw [h2] at h1
        have h3 := Int.mul_ediv_cancel' (Int.dvd_of_emod_eq_zero hdv)
        rw [← h1] at h3
        simp at h3
        exact h0 h3.symm)
      rw [← hd] at this
      show (chooseP _ _).kd = 0
      rw [this]
  · rw [hk2]
    have h2 : (planS (List.replicate n A) 20).sz ≤ depS (List.replicate n A) 20 := hup.2
    have h3 : depS (List.replicate n A) 20 = 20 - (wasS (List.replicate n A) : Int) := rfl
    omega

/-- A line's samples. -/
def lineS (A ST : Int) (n : Nat) : List Int := (List.range n).map (fun i : Nat => A + ST * (i : Int))
theorem lineS_length (A ST : Int) (n : Nat) : (lineS A ST n).length = n := by simp [lineS]
theorem lineS_get (A ST : Int) (n i : Nat) (h : i < n) : (lineS A ST n).getD i 0 = A + ST * i := by simp [lineS, h]
theorem lineS_mem {A ST : Int} {n : Nat} {x : Int} (h : x ∈ lineS A ST n) : ∃ i : Nat, i < n ∧ x = A + ST * i := by
  obtain ⟨i, hi, rfl⟩ := List.mem_map.1 h
  exact ⟨i, List.mem_range.1 hi, rfl⟩
theorem srev_take (xs : List Int) (i : Nat) (h : i < xs.length) : (xs.take (i + 1)).reverse = xs.getD i 0 :: (xs.take i).reverse := by
  rw [List.take_succ_eq_append_getElem h, List.reverse_append, List.getD_eq_getElem?_getD, List.getElem?_eq_getElem h]
  rfl
theorem sline_left (A ST : Int) (n t : Nat) (h : 2 + t < n) : leftAt (fixL 2) 0 (lineS A ST n) (2 + t) = 0 := by
  have hl := lineS_length A ST n
  unfold leftAt
  have hp : ∀ ys : List Int, predI (fixL 2) 0 ys = dotp (fixL 2) ys.reverse := fun ys => by simp [predI]
  rw [hp, show 2 + t = t + 1 + 1 by omega, srev_take _ (t + 1) (by rw [hl]; omega), srev_take _ t (by rw [hl]; omega), lineS_get _ _ _ _ (by omega), lineS_get _ _ _ _ (by omega), lineS_get _ _ _ _ (by omega)]
  simp only [fixL, dotp, Int.natCast_add]
  grind
theorem sline_zero (A ST : Int) (n : Nat) : ∀ x ∈ leftL (fixL 2) 0 (lineS A ST n), x = 0 := by
  intro x hx
  obtain ⟨t, ht, rfl⟩ := List.mem_map.1 hx
  have h1 := List.mem_range.1 ht
  rw [lineS_length] at h1
  have e : (fixL 2).length = 2 := rfl
  rw [e] at h1 ⊢
  exact sline_left A ST n t (by omega)
theorem line_down (A ST : Int) (n k : Nat) (hn : 2 ≤ n) (hd : ∀ x ∈ lineS A ST n, x % 2 ^ k = 0) : ∃ a s : Int, A = 2 ^ k * a ∧ ST = 2 ^ k * s ∧ downS (lineS A ST n) k = lineS a s n := by
  have hp : (0 : Int) < 2 ^ k := Int.pow_pos (by omega)
  have h0 := Int.dvd_of_emod_eq_zero (hd (A + ST * ((0 : Nat) : Int)) (List.mem_map.2 ⟨0, List.mem_range.2 (by omega), rfl⟩))
  have h1 := Int.dvd_of_emod_eq_zero (hd (A + ST * ((1 : Nat) : Int)) (List.mem_map.2 ⟨1, List.mem_range.2 (by omega), rfl⟩))
  have e0 : A + ST * ((0 : Nat) : Int) = A := by simp
  have e1 : A + ST * ((1 : Nat) : Int) = A + ST := by simp
  rw [e0] at h0
  rw [e1] at h1
  have h2 : (2 : Int) ^ k ∣ ST := (Int.dvd_add_right h0).1 h1
  obtain ⟨a, rfl⟩ := h0
  obtain ⟨s, rfl⟩ := h2
  refine ⟨a, s, rfl, rfl, ?_⟩
  unfold downS lineS
  rw [List.map_map]
  refine List.map_congr_left (fun i _ => ?_)
  show (2 ^ k * a + 2 ^ k * s * (i : Int)) / 2 ^ k = a + s * i
  rw [Int.mul_assoc, ← Int.mul_add]
  exact Int.mul_ediv_cancel_left _ (by omega)

theorem line_law (A ST : Int) (n : Nat) (hA : 0 ≤ A ∧ A ≤ 999) (hS : 1 ≤ ST ∧ ST ≤ 50) (hn : 40 ≤ n ∧ n ≤ 239) :
    schkE (lineS A ST n) 20 = 0 ∧ skindN (lineS A ST n) 20 ≠ 0 ∧ skindN (lineS A ST n) 20 ≠ 1 ∧ ((sputB (lineS A ST n) 20).length : Int) < 10 * n := by
  have hmem : ∀ x ∈ lineS A ST n, 0 ≤ x ∧ x ≤ 13000 := by
    intro x hx
    obtain ⟨i, hi, rfl⟩ := lineS_mem hx
    have h1 : ST * (i : Int) ≤ 50 * (i : Int) := Int.mul_le_mul_of_nonneg_right hS.2 (by omega)
    have h2 : 0 ≤ ST * (i : Int) := Int.mul_nonneg (by omega) (by omega)
    omega
  have hc : schkE (lineS A ST n) 20 = 0 := schk_of _ 20 (by rw [lineS_length]; omega) (by omega) (fun x hx => by
    have := hmem x hx
    have e : (2 : Int) ^ (20 - 1) = 524288 := rfl
    rw [e]
    omega)
  have hok := s_ok _ _ hc
  obtain ⟨hk1, hk2⟩ := skind_ok hc
  have hD := hok.D
  have hlen := hok.len
  rw [lineS_length] at hlen
  have hsl := sw_len _ _ hok
  obtain ⟨a, s, ea, es, exs⟩ := line_down A ST n (wasS (lineS A ST n)) (by omega) (was_div _)
  have hfit := hok.fits
  obtain ⟨d, hd⟩ : ∃ d : Nat, depS (lineS A ST n) 20 = ((d + 1 : Nat) : Int) := ⟨(depS (lineS A ST n) 20).toNat - 1, by omega⟩
  have hdd : (depS (lineS A ST n) 20).toNat - 1 = d := by omega
  rw [hdd, exs] at hfit
  have hs0 : s ≠ 0 := by
    intro h
    rw [h] at es
    simp at es
    omega
  have hal : alikeB (lineS a s n) = false := by
    cases hb : alikeB (lineS a s n)
    · rfl
    · exfalso
      unfold alikeB at hb
      rw [List.all_eq_true] at hb
      have h1 := of_decide_eq_true (hb (a + s * ((1 : Nat) : Int)) (List.mem_map.2 ⟨1, List.mem_range.2 (by omega), rfl⟩))
      have h2 : (lineS a s n).headD 0 = a := by
        obtain ⟨m, rfl⟩ : ∃ m, n = m + 1 := ⟨n - 1, by omega⟩
        unfold lineS
        rw [List.range_succ_eq_map, List.map_cons, List.headD_cons]
        simp
      rw [h2] at h1
      simp at h1
      exact hs0 (by omega)
  have hmok : modOk (lineS a s n) (fixL 2) 0 = true := by
    have hz := sline_zero a s n
    have hzl : (leftL (fixL 2) 0 (lineS a s n)).length = n - 2 := by rw [leftL_length, lineS_length]; rfl
    have hzi : (leftL (fixL 2) 0 (lineS a s n)).all inB = true := by
      rw [List.all_eq_true]
      intro x hx
      rw [hz x hx]
      decide
    refine decide_eq_true ⟨?_, ?_⟩
    · unfold resE
      rw [if_neg (by decide), if_neg (by rw [lineS_length]; show ¬ n < 2; omega), if_neg (by rw [in_B (d := d) (by omega) hfit]; simp), if_neg (by rw [hzi]; simp)]
    · have e : ((fixL 2).length : Int) = 2 := rfl
      unfold rchkE
      rw [e, hzl]
      have : rblockB (((n - 2 : Nat) : Int) + 2) 2 = true := decide_eq_true (by omega)
      rw [this, if_pos rfl, if_pos hzi]
  have hup := fix_upto (xs := lineS a s n) (D := depS (lineS A ST n) 20) (by rw [lineS_length]; omega) (by omega) 2 (by rw [lineS_length]; omega) hmok
  have hzr := rsize_zero (leftL (fixL 2) 0 (lineS a s n)) 2 (sline_zero a s n) (by rw [leftL_length, lineS_length]; omega) (of_decide_eq_true hmok).2
  have hms : (modP (lineS a s n) (fixL 2) 0 (depS (lineS A ST n) 20) (8 + ((2 : Nat) : Int)) 0).sz ≤ 2 * depS (lineS A ST n) 20 + 15 := by
    show 0 + ((fixL 2).length : Int) * depS (lineS A ST n) 20 + rsizeN (leftL (fixL 2) 0 (lineS a s n)) ((fixL 2).length : Int) ≤ _
    have e : ((fixL 2).length : Int) = 2 := rfl
    rw [e]
    rw [show ((2 : Nat) : Int) = 2 from rfl] at hzr
    omega
  have hpl : planS (lineS A ST n) 20 = chooseP (lineS a s n) (depS (lineS A ST n) 20) := by unfold planS; rw [exs]
  have hnD : 40 * depS (lineS A ST n) 20 ≤ ((lineS a s n).length : Int) * depS (lineS A ST n) 20 := Int.mul_le_mul_of_nonneg_right (by rw [lineS_length]; omega) (by omega)
  have hq : chooseP (lineS a s n) (depS (lineS A ST n) 20) = qP (lineS a s n) (depS (lineS A ST n) 20) := by
    unfold chooseP
    refine take_keep _ _ _ hup.1.1 (fun _ => ?_)
    show _ ≤ ((lineS a s n).length : Int) * depS (lineS A ST n) 20
    have := hup.1.2
    omega
  refine ⟨hc, ?_, ?_, ?_⟩
  · rw [hk1, hpl]
    have hp := hok.ok
    rw [exs, hpl] at hp
    rcases hp with ⟨_, h⟩ | h | ⟨c, _, _, h, _⟩ | ⟨c, _, _, h, _⟩
    · rw [hal] at h; cases h
    · rw [h]; show (1 : Int) ≠ 0; omega
    · rw [h]; show (8 + (c : Int)) ≠ 0; omega
    · rw [h]; show (31 + (c : Int)) ≠ 0; omega
  · rw [hk1, hpl, hq]
    exact qP_kd _ _
  · rw [hk2, hsl, hpl]
    have h3 : depS (lineS A ST n) 20 = 20 - (wasS (lineS A ST n) : Int) := rfl
    have h4 := hup.2.2
    omega
/-- Samples that are moved up. -/
def upS (S : List Int) : List Int := S.map (fun x => 16 * x)
theorem up_law (S : List Int) (hS : ∀ x ∈ S, 0 ≤ x ∧ x ≤ 13000) (hx : ∃ x ∈ S, x ≠ 0) (hl : 1 ≤ S.length ∧ S.length ≤ 512) : schkE S 20 = 0 ∧ schkE (upS S) 24 = 0 ∧ (sputB (upS S) 24).length = (sputB S 20).length + 4 := by
  have hc : schkE S 20 = 0 := schk_of _ 20 hl (by omega) (fun x hx => by
    have := hS x hx
    have e : (2 : Int) ^ (20 - 1) = 524288 := rfl
    rw [e]
    omega)
  have hul : (upS S).length = S.length := List.length_map _
  have hc2 : schkE (upS S) 24 = 0 := schk_of _ 24 (by omega) (by omega) (fun x hx => by
    obtain ⟨y, hy, rfl⟩ := List.mem_map.1 hx
    have := hS y hy
    have e : (2 : Int) ^ (24 - 1) = 8388608 := rfl
    rw [e]
    omega)
  have hok := s_ok _ _ hc
  have hok2 := s_ok _ _ hc2
  have hk := hok.k
  have hr : ∀ x ∈ S, -9223372036854775808 ≤ x ∧ x ≤ 9223372036854775807 := fun x hx => by have := hS x hx; omega
  have hr2 : ∀ x ∈ upS S, -9223372036854775808 ≤ x ∧ x ≤ 9223372036854775807 := fun x hx => by
    obtain ⟨y, hy, rfl⟩ := List.mem_map.1 hx
    have := hS y hy
    omega
  obtain ⟨x0, hx0, hne⟩ := hx
  have ho : orS S ≠ 0 := fun h => hne ((orS_zero S hr).1 h x0 hx0)
  have ho2 : orS (upS S) ≠ 0 := fun h => by
    have := (orS_zero (upS S) hr2).1 h (16 * x0) (List.mem_map.2 ⟨x0, hx0, rfl⟩)
    omega
  have hpow : ∀ j : Nat, (2 : Int) ^ (j + 4) = 16 * 2 ^ j := fun j => by rw [Int.pow_add, Int.mul_comm]; rfl
  have hiff : ∀ j : Nat, j + 4 ≤ 64 → (orS (upS S) % 2 ^ (j + 4) = 0 ↔ orS S % 2 ^ j = 0) := by
    intro j hj
    rw [orS_mod _ _ hj, orS_mod _ _ (by omega)]
    constructor
    · intro h x hx
      have h1 := h (16 * x) (List.mem_map.2 ⟨x, hx, rfl⟩)
      rw [hpow, Int.mul_emod_mul_of_pos _ _ (by omega)] at h1
      omega
    · intro h x hx
      obtain ⟨y, hy, rfl⟩ := List.mem_map.1 hx
      rw [hpow, Int.mul_emod_mul_of_pos _ _ (by omega), h y hy]
      rfl
  have hsp := tz_spec (orS S) ho (orS_range S)
  have hw : wasS (upS S) = wasS S + 4 := by
    refine tz_of (orS (upS S)) (wasS S + 4) ho2 (orS_range _) ((hiff (wasS S) (by omega)).2 hsp.1) (fun h => hsp.2.1 ?_)
    have e : wasS S + 4 + 1 = wasS S + 1 + 4 := by omega
    rw [e] at h
    exact (hiff (wasS S + 1) (by omega)).1 h
  have hdn : downS (upS S) (wasS (upS S)) = downS S (wasS S) := by
    unfold downS upS
    rw [List.map_map]
    refine List.map_congr_left (fun x _ => ?_)
    show (16 * x) / 2 ^ wasS (upS S) = x / 2 ^ wasS S
    rw [hw, hpow, Int.mul_ediv_mul_of_pos _ _ (by omega)]
  have hdp : depS (upS S) 24 = depS S 20 := by unfold depS; rw [hw]; omega
  have hpl : planS (upS S) 24 = planS S 20 := by unfold planS; rw [hdn, hdp]
  refine ⟨hc, hc2, ?_⟩
  rw [(skind_ok hc).2, (skind_ok hc2).2]
  have h1 := sw_len _ _ hok
  have h2 := sw_len _ _ hok2
  rw [hpl, hw] at h2
  omega
end Go.Proofs.YtofkiimaoahfjaaDoor
