/-
  Layer 9 (subframe), plain: the bits of a plan; what the chosen plan is.
  Layer 9 (subframe): some, Kind, Write.
-/
import Derived.Test.YtofkiimaoahfjaaDoorZSub7
import Derived.StillTailTactics
set_option maxRecDepth 100000
set_option linter.unusedVariables false
set_option linter.unusedSimpArgs false
namespace Go.Proofs.YtofkiimaoahfjaaDoor
open Go.RowKit Go.Proofs.YtofkiimaoahfjaaDoor.Pure

/-- Some signed numbers' bits. -/
def psS (l : List Int) (width : Int) : List Bool := l.flatMap (fun x => psB x width)
theorem psS_snoc (l : List Int) (x width : Int) : psS (l ++ [x]) width = psS l width ++ psB x width := by simp [psS]
theorem psS_le (l : List Int) (width : Int) : (psS l width).length ≤ 32 * l.length := by
  induction l with
  | nil => simp [psS]
  | cons x l ih =>
    have h := psB_le x width
    have e : psS (x :: l) width = psB x width ++ psS l width := rfl
    rw [e, List.length_append, List.length_cons]
    omega
theorem psS_len (l : List Int) (k : Nat) (h : ∀ x ∈ l, (psB x k).length = k) : (psS l k).length = l.length * k := by
  induction l with
  | nil => simp [psS]
  | cons x l ih =>
    have e : psS (x :: l) k = psB x k ++ psS l k := rfl
    rw [e, List.length_append, h x List.mem_cons_self, ih (fun y hy => h y (List.mem_cons_of_mem _ hy)), List.length_cons, Nat.succ_mul]
    omega
theorem ps_fit (n : Int) (j : Nat) (hj : j ≤ 31) (h0 : -(2 ^ j) ≤ n) (h1 : n < 2 ^ j) : psE n ((j + 1 : Nat) : Int) = 0 ∧ (psB n ((j + 1 : Nat) : Int)).length = j + 1 := by
  have hs : sgnB n ((j + 1 : Nat) : Int) = true := by
    unfold sgnB
    rw [if_neg (by omega), show (((j + 1 : Nat) : Int)).toNat - 1 = j by omega]
    exact decide_eq_true ⟨h0, h1⟩
  have he : psE n ((j + 1 : Nat) : Int) = 0 := by
    unfold psE
    rw [if_neg (by omega), if_neg (by rw [hs]; simp)]
  refine ⟨he, ?_⟩
  unfold psB
  rw [if_pos he, bitsN_length]
  omega
theorem put_fit (n : Int) (j : Nat) (hj : j ≤ 32) (h0 : 0 ≤ n) (h1 : n < 2 ^ j) : (putB n (j : Nat)).length = j := by
  have he := (putE_cases n j hj).2.2 h0 h1
  unfold putB
  rw [if_pos he, bitsN_length]
  omega

/-- A head's bits: the kind, and the bits that are wasted. -/
def headB (kd : Int) (k : Nat) : List Bool := putB kd 7 ++ (if 0 < k then putB 1 1 ++ unB ((k : Int) - 1) else putB 0 1)
/-- The bits behind the head. -/
def bodyB (xs : List Int) (D : Int) (p : Pl) : List Bool :=
  if p.kd = 0 then psS (xs.take 1) D else if p.kd = 1 then psS xs D
  else psS (xs.take p.cs.length) D ++ (if 31 < p.kd then putB 11 4 ++ putB p.sh 5 ++ psS p.cs 12 else []) ++ rwB p.L p.cs.length
theorem headB_len (kd : Int) (k : Nat) (h0 : 0 ≤ kd) (h1 : kd < 128) (hk : k ≤ 60000) : (headB kd k).length = 8 + k := by
  unfold headB
  rw [List.length_append, show (7 : Int) = ((7 : Nat) : Int) from rfl, put_fit kd 7 (by omega) h0 (by omega)]
  by_cases hk0 : 0 < k
  · rw [if_pos hk0, List.length_append, show (1 : Int) = ((1 : Nat) : Int) from rfl, put_fit _ 1 (by omega) (by omega) (by omega)]
    have e : unE ((k : Int) - ((1 : Nat) : Int)) = 0 := by unfold unE; rw [if_neg (by omega)]
    unfold unB
    rw [if_pos e, List.length_append, List.length_replicate, List.length_singleton]
    omega
  · rw [if_neg hk0, show (1 : Int) = ((1 : Nat) : Int) from rfl, put_fit _ 1 (by omega) (by omega) (by omega)]
    omega

/-- A plan that choose may have made. -/
def PlOk (xs : List Int) (D : Int) (p : Pl) : Prop :=
  (p = ⟨0, [], 0, [], D⟩ ∧ alikeB xs = true) ∨ p = ⟨1, [], 0, [], xs.length * D⟩ ∨
  (∃ c : Nat, c ≤ 4 ∧ c ≤ xs.length ∧ p = modP xs (fixL c) 0 D (8 + c) 0 ∧ modOk xs (fixL c) 0 = true) ∨
  (∃ c : Nat, (c = 2 ∨ c = 4 ∨ c = 8) ∧ c < xs.length ∧ p = modP xs (srcL xs c) (srcS xs c) D (31 + c) (9 + 12 * c) ∧ modOk xs (srcL xs c) (srcS xs c) = true)
def PlOr (xs : List Int) (D : Int) (p : Pl) : Prop := p.sz < 0 ∨ PlOk xs D p
theorem take_or {xs : List Int} {D : Int} {b x : Pl} {ok : Bool} (h : PlOr xs D b) (hx : ok = true → PlOk xs D x) : PlOr xs D (takeP b x ok) := by
  unfold takeP
  split
  · rename_i h1
    exact .inr (hx h1.1)
  · exact h
theorem fold_or (xs : List Int) (D : Int) (l : List Nat) (hl : ∀ c ∈ l, c ≤ 4 ∧ c ≤ xs.length) : ∀ b, PlOr xs D b → PlOr xs D (l.foldl (stepF xs D) b) := by
  induction l with
  | nil => intro b h; exact h
  | cons c l ih =>
    intro b h
    have hc := hl c List.mem_cons_self
    exact ih (fun c' h' => hl c' (List.mem_cons_of_mem _ h')) _ (take_or h (fun ho => .inr (.inr (.inl ⟨c, hc.1, hc.2, rfl, ho⟩))))
theorem foldq_or (xs : List Int) (D : Int) (l : List Nat) (hl : ∀ c ∈ l, c = 2 ∨ c = 4 ∨ c = 8) : ∀ b, PlOr xs D b → PlOr xs D (l.foldl (stepQ xs D) b) := by
  induction l with
  | nil => intro b h; exact h
  | cons c l ih =>
    intro b h
    have hc := hl c List.mem_cons_self
    refine ih (fun c' h' => hl c' (List.mem_cons_of_mem _ h')) _ ?_
    unfold stepQ
    split
    · rename_i hlt
      exact take_or h (fun ho => .inr (.inr (.inr ⟨c, hc, hlt, rfl, ho⟩)))
    · exact h
/-- What the chosen plan is. -/
theorem choose_ok (xs : List Int) (D : Int) (hD : 0 ≤ D) : PlOk xs D (chooseP xs D) ∧ 0 ≤ (chooseP xs D).sz := by
  have hz : 0 ≤ (chooseP xs D).sz := take_pos _ _ (Int.mul_nonneg (by omega) hD)
  refine ⟨?_, hz⟩
  have h0 : PlOr xs D (c0P xs D) := take_or (.inl (show (-1 : Int) < 0 by omega)) (fun h => .inl ⟨rfl, h⟩)
  have h1 : PlOr xs D (fixP xs D) := fold_or xs D _ (fun c h => by rw [List.mem_range] at h; omega) _ h0
  have h2 : PlOr xs D (qP xs D) := foldq_or xs D _ (fun c h => by simpa using h) _ h1
  have h3 : PlOr xs D (chooseP xs D) := take_or h2 (fun _ => .inr (.inl rfl))
  rcases h3 with h | h
  · omega
  · exact h

/-- What is told of a plan's numbers. -/
structure PlIs (xs : List Int) (D : Int) (p : Pl) : Prop where
  kd : p.kd = 0 ∨ p.kd = 1 ∨ (2 ≤ p.kd ∧ p.kd ≤ 40)
  cs8 : p.cs.length ≤ 8
  csx : p.cs.length ≤ xs.length
  cr : ∀ c ∈ p.cs, -2048 ≤ c ∧ c ≤ 2047
  sh : 0 ≤ p.sh ∧ p.sh ≤ 15
  Ll : p.L.length ≤ 512
  rk : 2 ≤ p.kd → rchkE p.L p.cs.length = 0
  len : ((bodyB xs D p).length : Int) = p.sz
theorem fixL_small (c : Nat) : ∀ x ∈ fixL c, -2048 ≤ x ∧ x ≤ 2047 := by
  unfold fixL
  split <;> simp
theorem mod_is (xs cs : List Int) (sh : Int) (d : Nat) (kd head : Int) (hd : d ≤ 31) (hfit : ∀ x ∈ xs, -(2 ^ d) ≤ x ∧ x < 2 ^ d) (hl : xs.length ≤ 512) (hcx : cs.length ≤ xs.length) (hc : ∀ c ∈ cs, -2048 ≤ c ∧ c ≤ 2047)
    (hok : modOk xs cs sh = true) (hk : 2 ≤ kd ∧ kd ≤ 40) (hh : head = if 31 < kd then 9 + 12 * (cs.length : Int) else 0) : PlIs xs ((d + 1 : Nat) : Int) (modP xs cs sh ((d + 1 : Nat) : Int) kd head) := by
  have ho : resE cs sh xs = 0 ∧ rchkE (leftL cs sh xs) cs.length = 0 := of_decide_eq_true hok
  obtain ⟨hc8, hO, hL⟩ := sm_facts xs cs sh ho.1 hl
  have h1 : rightB cs sh = true := by
    cases h : rightB cs sh
    · have := ho.1
      unfold resE at this
      rw [if_pos h] at this
      cases this
    · rfl
  have h2 := (rightB_iff cs sh).1 h1
  refine ⟨.inr (.inr hk), hc8, hcx, hc, ⟨h2.2.1, h2.2.2.1⟩, hL, fun _ => ho.2, ?_⟩
  obtain ⟨o, _, _, _, _, _, _, hw, _⟩ := rw_ok (leftL cs sh xs) cs.length ho.2
  have hps : (psS (xs.take cs.length) ((d + 1 : Nat) : Int)).length = cs.length * (d + 1) := by
    rw [psS_len _ _ (fun x hx => (ps_fit x d hd (hfit x (List.mem_of_mem_take hx)).1 (hfit x (List.mem_of_mem_take hx)).2).2), List.length_take, Nat.min_eq_left hcx]
  have hcs : (psS cs 12).length = cs.length * 12 := psS_len cs 12 (fun x hx => (ps_fit x 11 (by omega) (hc x hx).1 (by have := (hc x hx).2; omega)).2)
  have e : bodyB xs ((d + 1 : Nat) : Int) (modP xs cs sh ((d + 1 : Nat) : Int) kd head) = psS (xs.take cs.length) ((d + 1 : Nat) : Int) ++ (if 31 < kd then putB 11 4 ++ putB sh 5 ++ psS cs 12 else []) ++ rwB (leftL cs sh xs) cs.length := by
    unfold bodyB modP
    simp only
    rw [if_neg (by omega), if_neg (by omega)]
  rw [e, List.length_append, List.length_append, hps]
  show _ = head + cs.length * ((d + 1 : Nat) : Int) + rsizeN (leftL cs sh xs) cs.length
  rw [← hw, hh]
  have hn : ((cs.length * (d + 1) : Nat) : Int) = (cs.length : Int) * ((d + 1 : Nat) : Int) := by simp
  by_cases h3 : 31 < kd
  · rw [if_pos h3, if_pos h3, List.length_append, List.length_append, hcs]
    have e1 : (putB 11 4).length = 4 := put_fit 11 4 (by omega) (by omega) (by omega)
    have e2 : (putB sh 5).length = 5 := put_fit sh 5 (by omega) h2.2.1 (by omega)
    rw [e1, e2]
    omega
  · rw [if_neg h3, if_neg h3, List.length_nil]
    omega
theorem in_B {xs : List Int} {d : Nat} (hd : d ≤ 30) (hfit : ∀ x ∈ xs, -(2 ^ d) ≤ x ∧ x < 2 ^ d) : xs.all inB = true := by
  rw [List.all_eq_true]
  intro x hx
  have h := hfit x hx
  have h2 : (2 : Nat) ^ d ≤ 2 ^ 30 := Nat.pow_le_pow_right (by omega) hd
  have h3 : ((2 ^ d : Nat) : Int) = (2 : Int) ^ d := by simp
  have h4 : (2 : Nat) ^ 30 = 1073741824 := rfl
  rw [inB_iff]
  omega
theorem pl_is (xs : List Int) (d : Nat) (p : Pl) (hd : d ≤ 30) (hfit : ∀ x ∈ xs, -(2 ^ d) ≤ x ∧ x < 2 ^ d) (hl : 1 ≤ xs.length ∧ xs.length ≤ 512) (h : PlOk xs ((d + 1 : Nat) : Int) p) : PlIs xs ((d + 1 : Nat) : Int) p := by
  rcases h with ⟨rfl, -⟩ | rfl | ⟨c, h1, h2, rfl, h4⟩ | ⟨c, h1, h2, rfl, h4⟩
  · refine ⟨.inl rfl, by simp, by simp, (fun c h => by cases h), ⟨by simp, by simp⟩, by simp, (fun h => by simp at h), ?_⟩
    show ((psS (xs.take 1) ((d + 1 : Nat) : Int)).length : Int) = ((d + 1 : Nat) : Int)
    rw [psS_len _ _ (fun x hx => (ps_fit x d (by omega) (hfit x (List.mem_of_mem_take hx)).1 (hfit x (List.mem_of_mem_take hx)).2).2), List.length_take, Nat.min_eq_left hl.1]
    omega
  · refine ⟨.inr (.inl rfl), by simp, by simp, (fun c h => by cases h), ⟨by simp, by simp⟩, by simp, (fun h => by simp at h), ?_⟩
    show ((psS xs ((d + 1 : Nat) : Int)).length : Int) = xs.length * ((d + 1 : Nat) : Int)
    rw [psS_len _ _ (fun x hx => (ps_fit x d (by omega) (hfit x hx).1 (hfit x hx).2).2)]
    simp
  · have hf := fixL_len c h1
    exact mod_is xs (fixL c) 0 d (8 + c) 0 (by omega) hfit hl.2 (by omega) (fixL_small c) h4 (by omega) (by rw [if_neg (by omega)])
  · have hf := srcL_ok xs c (by omega)
    have he := srcE_ok (xs := xs) (o := c) (by omega) (by omega) (in_B hd hfit)
    have hlen : (srcL xs c).length = c := by
      rw [he.2.1]
      exact (fold_ok xs c (mvS c 4) _ (SrcOk.begin xs c (by omega))).len
    exact mod_is xs (srcL xs c) (srcS xs c) d (31 + c) (9 + 12 * c) (by omega) hfit hl.2 (by omega) hf.2.1 h4 (by omega) (by rw [if_pos (by omega), hlen])

/-- Samples of so many bits waste fewer. -/
theorem was_small (S : List Int) (j : Nat) (hj : j ≤ 62) (h : ∀ x ∈ S, -(2 ^ j) ≤ x ∧ x < 2 ^ j) : wasS S ≤ j := by
  have hp : (2 : Nat) ^ j ≤ 2 ^ 62 := Nat.pow_le_pow_right (by omega) hj
  have hp2 : (2 : Nat) ^ 62 = 4611686018427387904 := rfl
  have hp3 : ((2 ^ j : Nat) : Int) = (2 : Int) ^ j := by simp
  by_cases h0 : orS S = 0
  · have e : wasS S = 0 := by unfold wasS tzS; rw [if_pos h0]
    omega
  · have hx : ∃ x ∈ S, x ≠ 0 := by
      apply Classical.byContradiction
      intro hn
      exact h0 ((orS_zero S (fun x hx => by have := h x hx; omega)).2 (fun x hx => Classical.byContradiction fun h1 => hn ⟨x, hx, h1⟩))
    obtain ⟨x, hx, hx0⟩ := hx
    have h1 := was_div S x hx
    have h2 := h x hx
    have h3 : (2 : Int) ^ wasS S ∣ x := Int.dvd_of_emod_eq_zero h1
    have h4 : ((2 ^ wasS S : Nat) : Int) ∣ x := by rw [Int.natCast_pow]; exact h3
    have h5 := Nat.le_of_dvd (Int.natAbs_pos.2 hx0) (Int.natAbs_dvd_natAbs.2 h4)
    rw [Int.natAbs_natCast] at h5
    have h6 : 2 ^ wasS S ≤ 2 ^ j := by omega
    exact (Nat.pow_le_pow_iff_right (show 1 < 2 by omega)).1 h6
/-- Samples that are moved down. -/
def downS (S : List Int) (k : Nat) : List Int := S.map (fun x => x / 2 ^ k)
theorem down_fit (S : List Int) (k d : Nat) (h : ∀ x ∈ S, -(2 ^ (d + k)) ≤ x ∧ x < 2 ^ (d + k)) : ∀ y ∈ downS S k, -(2 ^ d) ≤ y ∧ y < 2 ^ d := by
  intro y hy
  obtain ⟨x, hx, rfl⟩ := List.mem_map.1 hy
  have h1 := h x hx
  have hp : (0 : Int) < 2 ^ k := Int.pow_pos (by omega)
  rw [Int.pow_add] at h1
  refine ⟨(Int.le_ediv_iff_mul_le hp).2 (by rw [Int.neg_mul]; exact h1.1), (Int.ediv_lt_iff_lt_mul hp).2 h1.2⟩
/-- The depth of what is not wasted, and the plan, and the bits. -/
def depS (S : List Int) (depth : Int) : Int := depth - wasS S
def planS (S : List Int) (depth : Int) : Pl := chooseP (downS S (wasS S)) (depS S depth)
def swB (S : List Int) (depth : Int) : List Bool := headB (planS S depth).kd (wasS S) ++ bodyB (downS S (wasS S)) (depS S depth) (planS S depth)
structure SOk (S : List Int) (depth : Int) : Prop where
  n : 1 ≤ S.length ∧ S.length ≤ 512
  d : 4 ≤ depth ∧ depth ≤ 25
  k : wasS S ≤ 24
  D : 1 ≤ depS S depth ∧ depS S depth ≤ 25
  fit : ∀ x ∈ S, -(2 ^ (depth.toNat - 1)) ≤ x ∧ x < 2 ^ (depth.toNat - 1)
  fits : ∀ y ∈ downS S (wasS S), -(2 ^ ((depS S depth).toNat - 1)) ≤ y ∧ y < 2 ^ ((depS S depth).toNat - 1)
  len : (downS S (wasS S)).length = S.length
  ok : PlOk (downS S (wasS S)) (depS S depth) (planS S depth)
  is : PlIs (downS S (wasS S)) (depS S depth) (planS S depth)
theorem s_ok (S : List Int) (depth : Int) (h : schkE S depth = 0) : SOk S depth := by
  unfold schkE at h
  cases hb : sbrB S.length depth
  · rw [hb] at h; cases h
  · rw [hb] at h
    obtain ⟨h1, h2, h3, h4⟩ := sbr_facts hb
    have hall : S.all (fun x => fitB x (depth.toNat - 1)) = true := by
      cases ha : S.all (fun x => fitB x (depth.toNat - 1))
      · rw [ha] at h; cases h
      · rfl
    have hfit : ∀ x ∈ S, -(2 ^ (depth.toNat - 1)) ≤ x ∧ x < 2 ^ (depth.toNat - 1) := fun x hx => of_decide_eq_true (List.all_eq_true.1 hall x hx)
    have hk := was_small S (depth.toNat - 1) (by omega) hfit
    have hD : 1 ≤ depS S depth ∧ depS S depth ≤ 25 := by unfold depS; omega
    obtain ⟨d, hd⟩ : ∃ d : Nat, depS S depth = ((d + 1 : Nat) : Int) := ⟨(depS S depth).toNat - 1, by omega⟩
    have hdd : (depS S depth).toNat - 1 = d := by omega
    have hdk : depth.toNat - 1 = d + wasS S := by unfold depS at hd; omega
    have hlen : (downS S (wasS S)).length = S.length := List.length_map _
    have hfits : ∀ y ∈ downS S (wasS S), -(2 ^ d) ≤ y ∧ y < 2 ^ d := down_fit S (wasS S) d (by rw [← hdk]; exact hfit)
    have hok := (choose_ok (downS S (wasS S)) (depS S depth) (by omega)).1
    refine ⟨by omega, ⟨h3, h4⟩, by omega, hD, hfit, by rw [hdd]; exact hfits, hlen, hok, ?_⟩
    rw [hd]
    refine pl_is _ d _ (by omega) hfits (by rw [hlen]; omega) ?_
    rw [← hd]
    exact hok
theorem sw_len (S : List Int) (depth : Int) (h : SOk S depth) : ((swB S depth).length : Int) = 8 + wasS S + (planS S depth).sz := by
  unfold swB
  have h1 := h.is.kd
  have h2 := h.k
  rw [List.length_append, headB_len _ _ (by omega) (by omega) (by omega)]
  have := h.is.len
  omega
end Go.Proofs.YtofkiimaoahfjaaDoor

set_option maxRecDepth 100000
set_option linter.unusedVariables false
set_option linter.unusedSimpArgs false
namespace Go.Proofs.YtofkiimaoahfjaaDoor
open Go.RowKit

theorem PB.same {w w' : World} {g : Nat} {kd wd D sh sz : Int} {sv cv rv : Value} {bs : List Nat} (h : PB w g kd wd D sv cv sh rv sz) (hs : Same bs w w') (hg : g ∈ bs) : PB w' g kd wd D sv cv sh rv sz := ⟨(hs g hg).trans h.hp⟩
theorem Rd.blk {w : World} {k : IntKind} {a : Option Addr} {xs : List Int} (h : Rd w k a xs) : ∃ lb : List Nat, (∀ ad, a = some ad → 0 < xs.length → ad.block ∈ lb) ∧ ∀ b, b ∈ lb → ∃ ad, a = some ad ∧ 0 < xs.length ∧ b = ad.block := by
  rcases Nat.eq_zero_or_pos xs.length with h0 | h0
  · exact ⟨[], fun ad _ h => (by omega), fun b hb => (by cases hb)⟩
  · obtain ⟨b, o', hae, hcc⟩ := h.form h0
    refine ⟨[b], fun ad e _ => ?_, fun b' hb' => ?_⟩
    · rw [hae] at e; cases e; simp
    · rw [List.mem_singleton] at hb'
      exact ⟨_, hae, h0, hb'⟩

set_option maxHeartbeats 2000000 in
theorem ssome_calls (L : List Int) (width : Int) (n : Nat) (hn : n = L.length) (a : Option Addr) (c : Nat) (w0 w : World) (p : Nat) (sv : Value) (l : List Bool) (bs : List Nat) (hx : Hid (Rd w .i64 a L)) (hm : Hid (∀ ad, a = some ad → 0 < L.length → ad.block ∈ bs))
    (hr : Hid (∀ x ∈ L, -9223372036854775808 ≤ x ∧ x ≤ 9223372036854775807)) (hW : Hid (WO w0 w p sv l bs)) (hl : l.length ≤ 200000000000) (hll : L.length ≤ 600) :
    Calls Tryd.prog 31 #[.pointer (some ⟨p, 0, none⟩), .slice a n c, .int .i64 width] w fun e w' => e = .returned (.tuple #[]) ∧ WO w0 w' p sv (l ++ psS L width) bs ∧ Same bs w w' := by
  subst hn
  have HLL := Lib.hid hl
  have hxl := hx.out.small
  clear hl
  go_enter Tryd.func31, Tryd.ntmps31
  go_wp2_with fail
  go_loopg [10] (L.length + 1) (fun q v10 wr => ∃ (i : Nat), v10 = .int .i64 i ∧ i ≤ L.length ∧ Hid (WO w0 wr p sv (l ++ psS (L.take i) width) bs) ∧ Hid (Same bs w wr) ∧ Hid (i + q = L.length + 1))
  case atStart => exact ⟨0, rfl, by omega, by show WO _ _ _ _ _ _; simp [psS]; exact hW.out, (fun b hb => rfl), (show _ = _ from by omega)⟩
  case round =>
    obtain ⟨i, rfl, hi, HW, HS, HQ⟩ := hrel
    obtain ⟨q1, rfl⟩ : ∃ g : Nat, g = gk := ⟨_, rfl⟩
    obtain ⟨wa, rfl⟩ : ∃ y : World, y = wr := ⟨_, rfl⟩
    by_cases hlt : i < L.length
    · obtain ⟨b1, o1, rfl, hc1⟩ := (hx.out.same HS.out hm.out).cellAt i hlt
      obtain ⟨x, hx1⟩ : ∃ x, L[i] = x := ⟨_, rfl⟩
      have HXR := Lib.hid (hr.out x (by rw [← hx1]; exact List.getElem_mem _))
      have HN : Hid (psS (L.take (i + 1)) width = psS (L.take i) width ++ psB x width) := by show _ = _; rw [List.take_succ_eq_append_getElem hlt, psS_snoc, hx1]
      rw [hx1] at hc1
      have HLN : Hid ((l ++ psS (L.take i) width).length ≤ 800000000000) := by
        have h1 := psS_le (L.take i) width
        have h2 := HLL.out
        show _ ≤ _
        rw [List.length_append]
        rw [List.length_take] at h1
        omega
      clear hx1
      go_wp2_with (first
        | (go_at_call 58; go_must (with_reducible refine (woPutSigned x width HW HXR HLN.out).mono ?_); rintro e w4 ⟨rfl, hW4, hs4⟩))
      go_roundg (L.length - i)
      case measure => have := HQ.out; omega
      case rel =>
        refine ⟨i + 1, by go_num, by omega, ?_, (fun b hb => (hs4 b hb).trans (HS.out b hb)), (show _ = _ from by have := HQ.out; omega)⟩
        show WO _ _ _ _ _ _
        rw [HN.out, ← List.append_assoc]
        exact hW4
    · obtain rfl : i = L.length := by omega
      rw [List.take_length] at HW
      go_wp2_with fail
      go_end0
      exact ⟨rfl, HW.out, HS.out⟩
theorem woRice (L : List Int) (order : Int) (n : Nat) (hn : n = L.length) (a : Option Addr) (c : Nat) (w0 w : World) (p : Nat) (sv : Value) (l : List Bool) (bs : List Nat) (hnc : a = none → c = 0) (hl : L.length ≤ 600) (hc : L.length ≤ c) (h1 : -9223372036854775808 ≤ order ∧ order ≤ 9223372036854775807) (hx : Hid (Rd w .i64 a L))
    (hm : Hid (∀ ad, a = some ad → 0 < L.length → ad.block ∈ bs)) (hW : Hid (WO w0 w p sv l bs)) (hb : l.length ≤ 1000000000) :
    Calls Tryd.prog 32 #[.pointer (some ⟨p, 0, none⟩), .slice a n c, .int .i64 order] w fun e w' => e = .returned (.int .i64 (rchkE L order)) ∧ WO w0 w' p sv (l ++ rwB L order) bs ∧ Same bs w w' := by
  obtain ⟨sv', g1, g2, g3, g4⟩ := hW.out
  exact (rwrite_calls L order n hn a c w p sv' l hnc hl hc h1 hx g1 hb (fun ad e h => (g4 _ (hm.out ad e h)).2)).mono fun e w' ⟨he, hw⟩ => ⟨he, WO.step g2 g3 g4 hw⟩
theorem schk_range (S : List Int) (depth : Int) : schkE S depth = 0 ∨ schkE S depth = 1 ∨ schkE S depth = 12 := by
  unfold schkE
  split <;> (try split) <;> simp

/-- What choose makes of samples that are right. -/
theorem choose_s (S : List Int) (depth : Int) (h : SOk S depth) (a : Option Addr) (c : Nat) (w : World) (hr : Hid (∀ x ∈ S, -9223372036854775808 ≤ x ∧ x ≤ 9223372036854775807)) (hx : Hid (Rd w .i64 a S)) (hT : Hid (Tab w)) :
    Calls Tryd.prog 29 #[.slice a S.length c, .int .i64 depth] w fun e w' =>
      ∃ sv cv rv, e = .returned (.agg #[.int .i64 (planS S depth).kd, .int .i64 (wasS S), .int .i64 (depS S depth), sv, cv, .int .i64 (planS S depth).sh, rv, .int .i64 (planS S depth).sz]) ∧ Row w' .i64 3 sv (downS S (wasS S)) ∧ Row w' .i64 3 cv (planS S depth).cs ∧ Row w' .i64 3 rv (planS S depth).L ∧
        (∀ j, j ∈ fp sv → w.heap.size ≤ j) ∧ (∀ j, j ∈ fp cv → w.heap.size ≤ j) ∧ (∀ j, j ∈ fp rv → w.heap.size ≤ j) ∧ Keeps [] w w' :=
  schoose_calls S depth _ rfl a c (wasS S) (depS S depth) (downS S (wasS S)) w rfl h.k rfl h.D rfl h.n hr hx hT
/-- What Kind answers. -/
def skindN (S : List Int) (depth : Int) : Int := if schkE S depth = 0 then (planS S depth).kd else 0
set_option maxHeartbeats 2000000 in
theorem skind_calls (S : List Int) (depth : Int) (n : Nat) (hn : n = S.length) (a : Option Addr) (c : Nat) (w : World) (hr : Hid (∀ x ∈ S, -9223372036854775808 ≤ x ∧ x ≤ 9223372036854775807)) (hx : Hid (Rd w .i64 a S)) (hT : Hid (Tab w)) :
    Calls Tryd.prog 14 #[.slice a n c, .int .i64 depth] w fun e w' => e = .returned (.tuple #[.int .i64 (skindN S depth), .int .i64 (schkE S depth)]) ∧ Keeps [] w w' := by
  subst hn
  have HC := Lib.hid (scheck_calls S depth _ rfl a c w hr hx)
  by_cases he : schkE S depth = 0
  · have HCH := Lib.hid (fun W (hk : Keeps [] w W) => choose_s S depth (s_ok S depth he) a c W hr (Lib.hid (hx.out.new hk)) (Lib.hid (hT.out.new hk)))
    have HN : Hid (skindN S depth = (planS S depth).kd) := by show _ = _; unfold skindN; rw [if_pos he]
    rw [HN.out]
    rw [he] at HC ⊢
    obtain ⟨pl, hpl⟩ : ∃ pl, planS S depth = pl := ⟨_, rfl⟩
    rw [hpl] at HCH ⊢
    have hfld : ∀ (x0 x1 x2 x3 x4 x5 x6 x7 : Value) (W : World), Sem.run Tryd.prog (Instr.field 61 (.agg #[x0, x1, x2, x3, x4, x5, x6, x7]) 0) W = .ok x0 W := by intros; kernel_rfl
    clear he HN hpl
    go_enter Tryd.func14, Tryd.ntmps14
    go_wp2_with (first
      | (go_at_call 28; go_must (with_reducible refine HC.out.mono ?_); rintro e w1 ⟨rfl, hk1⟩; have HK1 := Lib.hid hk1; clear hk1)
      | (go_at_call 29; go_must (with_reducible refine (HCH.out _ HK1.out).mono ?_); rintro e w2 ⟨sv, cv, rv, rfl, -, -, -, -, -, -, hk2⟩; have HK2 := Lib.hid hk2; clear hk2))
    go_ret2
    exact ⟨rfl, HK1.out.new HK2.out⟩
  · have HN : Hid (skindN S depth = 0) := by show _ = _; unfold skindN; rw [if_neg he]
    rw [HN.out]
    have hER := schk_range S depth
    obtain ⟨E, hE⟩ : ∃ E, schkE S depth = E := ⟨_, rfl⟩
    rw [hE] at HC he hER ⊢
    clear HN hE
    go_enter Tryd.func14, Tryd.ntmps14
    go_wp2_with (first
      | (go_at_call 28; go_must (with_reducible refine HC.out.mono ?_); rintro e w1 ⟨rfl, hk1⟩; have HK1 := Lib.hid hk1; clear hk1))
    go_ret2
    exact ⟨rfl, HK1.out⟩
end Go.Proofs.YtofkiimaoahfjaaDoor
