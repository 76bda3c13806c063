/-
  Layer 9 (subframe), plain: what was written is read: lists, the head.
  Layer 9 (subframe), plain: what was written is read: the samples.
  Layer 9 (subframe), plain: what was written is read, in no more bits than the samples have.
-/
import Derived.Test.YtofkiimaoahfjaaDoorZRd9
import Derived.Test.YtofkiimaoahfjaaDoorZSub11
import Derived.Test.YtofkiimaoahfjaaDoorZBack
set_option maxRecDepth 100000
set_option linter.unusedVariables false
set_option linter.unusedSimpArgs false
namespace Go.Proofs.YtofkiimaoahfjaaDoor
open Go.RowKit Go.Proofs.YtofkiimaoahfjaaDoor.Pure

theorem psS_app (a b : List Int) (width : Int) : psS (a ++ b) width = psS a width ++ psS b width := by simp [psS]
theorem list_back (width : Int) (l : List Int) (R : List Bool) (h : ∀ x ∈ l, psE x width = 0 ∧ -9223372036854775808 ≤ x ∧ x ≤ 9223372036854775807) : ∀ i, i ≤ l.length → listI width 0 (psS l width ++ R) i = (l.take i, 0, (psS (l.take i) width).length) := by
  intro i
  induction i with
  | zero => intro _; rfl
  | succ i ih =>
    intro hi
    have h1 := ih (by omega)
    have hx := h l[i] (List.getElem_mem _)
    have hd : (psS l width ++ R).drop (psS (l.take i) width).length = psB l[i] width ++ (psS (l.drop (i + 1)) width ++ R) := by
      have e : psS l width = psS (l.take i) width ++ (psB l[i] width ++ psS (l.drop (i + 1)) width) := by
        have e1 : l = l.take i ++ (l[i] :: l.drop (i + 1)) := by rw [← List.drop_eq_getElem_cons (by omega), List.take_append_drop]
        exact (congrArg (fun z => psS z width) e1).trans (psS_app _ _ _)
      rw [e, List.append_assoc, List.drop_left, List.append_assoc]
    obtain ⟨b1, b2, b3⟩ := back_gets l[i] width (psS (l.drop (i + 1)) width ++ R) hx.1 hx.2
    unfold listI
    rw [h1, if_pos rfl]
    show ((l.take i) ++ [gsN width ((psS l width ++ R).drop (psS (l.take i) width).length)], gtE width ((psS l width ++ R).drop (psS (l.take i) width).length), (psS (l.take i) width).length + gtT width ((psS l width ++ R).drop (psS (l.take i) width).length)) = _
    rw [hd, b1, b2, b3, List.take_succ_eq_append_getElem (by omega), psS_snoc, List.length_append]
theorem get_back (n k : Int) (R : List Bool) (h : putE n k = 0) : iN k 0 (putB n k ++ R) = n ∧ iE k 0 (putB n k ++ R) = 0 ∧ iT k 0 (putB n k ++ R) = (putB n k).length := by
  obtain ⟨a, b, c⟩ := back_get n k R h
  unfold iN iE iT
  rw [if_pos rfl, if_pos rfl, if_pos rfl]
  exact ⟨b, a, c⟩
theorem head_back (kd : Int) (k : Nat) (depth : Int) (R : List Bool) (hk : kindB kd = true) (hk2 : k ≤ 24) (hkd : (k : Int) < depth) : (hd2 (headB kd k ++ R)).1 = kd ∧ hd4 (headB kd k ++ R) = ((k : Int), 0, (headB kd k).length) ∧ headE depth (headB kd k ++ R) = 0 := by
  have hr := of_decide_eq_true hk
  have h64 : 0 ≤ kd ∧ kd < 64 := by omega
  have e7 := put7 kd h64.1 h64.2
  have e6 := put_bits kd 6 (by omega) h64.1 (by omega)
  rw [show ((6 : Nat) : Int) = 6 from rfl] at e6
  rw [← e6] at e7
  have e1 : ([false] : List Bool) = putB 0 1 := by decide +kernel
  rw [e1] at e7
  obtain ⟨Z, hZ⟩ : ∃ Z, (if 0 < k then putB 1 1 ++ unB ((k : Int) - 1) else putB 0 1) = Z := ⟨_, rfl⟩
  have eR : headB kd k ++ R = putB 0 1 ++ (putB kd 6 ++ (Z ++ R)) := by
    unfold headB
    rw [hZ, e7]
    simp only [List.append_assoc]
  have p0 : putE 0 1 = 0 := by decide +kernel
  have p6 : putE kd 6 = 0 := (putE_cases kd 6 (by omega)).2.2 h64.1 (by omega)
  obtain ⟨a1, a2, a3⟩ := get_back 0 1 (putB kd 6 ++ (Z ++ R)) p0
  obtain ⟨b1, b2, b3⟩ := get_back kd 6 (Z ++ R) p6
  have l1 : (putB 0 1).length = 1 := by decide +kernel
  have l6 : (putB kd 6).length = 6 := put_fit kd 6 (by omega) h64.1 (by omega)
  rw [l1] at a3
  rw [l6] at b3
  have s1 : hd1 (headB kd k ++ R) = (0, 1) := by
    unfold hd1
    rw [eR, a1, a2, a3]
    rfl
  have d1 : (headB kd k ++ R).drop 1 = putB kd 6 ++ (Z ++ R) := by
    rw [eR, ← l1, List.drop_left]
  have s2 : hd2 (headB kd k ++ R) = (kd, 0, 7) := by
    unfold hd2
    rw [s1]
    show (iN 6 0 ((headB kd k ++ R).drop 1), mE (iE 6 0 ((headB kd k ++ R).drop 1)) (kindB (iN 6 0 ((headB kd k ++ R).drop 1))), 1 + iT 6 0 ((headB kd k ++ R).drop 1)) = _
    rw [d1, b1, b2, b3, hk]
    rfl
  have d7 : (headB kd k ++ R).drop 7 = Z ++ R := by
    have : (headB kd k ++ R).drop 7 = ((headB kd k ++ R).drop 1).drop 6 := by rw [List.drop_drop]
    rw [this, d1, ← l6, List.drop_left]
  have hl : (headB kd k).length = 8 + k := headB_len kd k h64.1 (by omega) (by omega)
  have s4 : hd4 (headB kd k ++ R) = ((k : Int), 0, (headB kd k).length) := by
    by_cases hk0 : 0 < k
    · rw [if_pos hk0] at hZ
      subst hZ
      have p1 : putE 1 1 = 0 := by decide +kernel
      have l11 : (putB 1 1).length = 1 := by decide +kernel
      obtain ⟨c1, c2, c3⟩ := get_back 1 1 (unB ((k : Int) - 1) ++ R) p1
      rw [l11] at c3
      have s3 : hd3 (headB kd k ++ R) = (1, 0, 8) := by
        unfold hd3
        rw [s2]
        show (iN 1 0 ((headB kd k ++ R).drop 7), iE 1 0 ((headB kd k ++ R).drop 7), 7 + iT 1 0 ((headB kd k ++ R).drop 7)) = _
        rw [d7, List.append_assoc, c1, c2, c3]
      have d8 : (headB kd k ++ R).drop 8 = unB ((k : Int) - 1) ++ R := by
        have : (headB kd k ++ R).drop 8 = ((headB kd k ++ R).drop 7).drop 1 := by rw [List.drop_drop]
        rw [this, d7, List.append_assoc, ← l11, List.drop_left]
      have pu : unE ((k : Int) - 1) = 0 := by unfold unE; rw [if_neg (by omega)]
      obtain ⟨u1, u2, u3⟩ := back_un ((k : Int) - 1) R pu
      have lu : (unB ((k : Int) - 1)).length = k := by
        unfold unB
        rw [if_pos pu, List.length_append, List.length_replicate, List.length_singleton]
        omega
      unfold hd4
      rw [s3, if_pos ⟨rfl, rfl⟩]
      show (unRN ((headB kd k ++ R).drop 8) + 1, unRE ((headB kd k ++ R).drop 8), 8 + unRT ((headB kd k ++ R).drop 8)) = _
      rw [d8, u1, u2, u3, lu, hl]
      congr 1
      omega
    · obtain rfl : k = 0 := by omega
      rw [if_neg hk0] at hZ
      subst hZ
      obtain ⟨c1, c2, c3⟩ := get_back 0 1 R p0
      rw [l1] at c3
      have s3 : hd3 (headB kd 0 ++ R) = (0, 0, 8) := by
        unfold hd3
        rw [s2]
        show (iN 1 0 ((headB kd 0 ++ R).drop 7), iE 1 0 ((headB kd 0 ++ R).drop 7), 7 + iT 1 0 ((headB kd 0 ++ R).drop 7)) = _
        rw [d7, c1, c2, c3]
      unfold hd4
      rw [s3, if_neg (by simp), hl]
      rfl
  refine ⟨by rw [s2], s4, ?_⟩
  unfold headE
  rw [s4]
  show mE 0 (decide ((k : Int) < depth)) = 0
  rw [decide_eq_true hkd]
  rfl
end Go.Proofs.YtofkiimaoahfjaaDoor

set_option maxRecDepth 100000
set_option linter.unusedVariables false
set_option linter.unusedSimpArgs false
namespace Go.Proofs.YtofkiimaoahfjaaDoor
open Go.RowKit Go.Proofs.YtofkiimaoahfjaaDoor.Pure

theorem restR_back (cs : List Int) (sh : Int) (xs : List Int) (hc : cs.length ≤ xs.length) (hx : xs.all inB = true) : ∀ d t, t + d = xs.length - cs.length → restR cs sh (xs.take (cs.length + t)) ((leftL cs sh xs).drop t) = some xs := by
  intro d
  induction d with
  | zero =>
    intro t ht
    rw [List.drop_of_length_le (by rw [leftL_length]; omega), List.take_of_length_le (by omega)]
    rfl
  | succ d ih =>
    intro t ht
    have h1 : t < (leftL cs sh xs).length := by rw [leftL_length]; omega
    have h2 : cs.length + t < xs.length := by omega
    rw [List.drop_eq_getElem_cons h1, leftL_get, restR]
    have e : leftAt cs sh xs (cs.length + t) + predI cs sh (xs.take (cs.length + t)) = xs[cs.length + t] := by
      unfold leftAt
      rw [List.getD_eq_getElem?_getD, List.getElem?_eq_getElem h2]
      simp
    rw [e, if_pos (List.all_eq_true.1 hx _ (List.getElem_mem h2)), ← List.take_succ_eq_append_getElem h2]
    exact ih (t + 1) (by omega)

theorem back_law (cs : List Int) (sh : Int) (xs : List Int) (h : resE cs sh xs = 0) : cs.length ≤ xs.length ∧ (resO cs sh xs).length = xs.length - cs.length ∧ rstE cs sh (xs.take cs.length) (resO cs sh xs) = 0 ∧ rstO cs sh (xs.take cs.length) (resO cs sh xs) = xs := by
  have hO : resO cs sh xs = leftL cs sh xs := by unfold resO; rw [if_pos h]
  rw [hO]
  have hr : rightB cs sh = true := by
    cases hr : rightB cs sh
    · unfold resE at h; rw [if_pos hr] at h; omega
    · rfl
  have hl : ¬ xs.length < cs.length := by
    intro hl
    unfold resE at h; rw [if_neg (by rw [hr]; simp), if_pos hl] at h; omega
  have hx : xs.all inB = true := by
    cases hx : xs.all inB
    · unfold resE at h; rw [if_neg (by rw [hr]; simp), if_neg hl, if_pos hx] at h; omega
    · rfl
  have hL : (leftL cs sh xs).all inB = true := by
    cases hL : (leftL cs sh xs).all inB
    · unfold resE at h; rw [if_neg (by rw [hr]; simp), if_neg hl, if_neg (by rw [hx]; simp), if_pos hL] at h; omega
    · rfl
  refine ⟨by omega, leftL_length cs sh xs, ?_⟩
  have hw : (xs.take cs.length).all inB = true := by
    rw [List.all_eq_true]
    exact fun y hy => List.all_eq_true.1 hx y (List.mem_of_mem_take hy)
  exact (rstE_res (xs.take cs.length) (leftL cs sh xs) hr (by simp; omega) hw hL).2 xs (by
    have := restR_back cs sh xs (by omega) hx (xs.length - cs.length) 0 (by omega)
    simpa using this)




theorem tail_back (cs : List Int) (sh : Int) (xs : List Int) (R : List Bool) (hl : xs.length ≤ 512) (hcx : cs.length ≤ xs.length) (hok : modOk xs cs sh = true) :
    tailS xs.length cs.length cs sh (xs.take cs.length) 0 (rwB (leftL cs sh xs) cs.length ++ R) = (xs, 0, (rwB (leftL cs sh xs) cs.length).length) := by
  have ho : resE cs sh xs = 0 ∧ rchkE (leftL cs sh xs) cs.length = 0 := of_decide_eq_true hok
  obtain ⟨o, h1, h2, h3, h4, h5, h6, h7, h8⟩ := rw_ok (leftL cs sh xs) cs.length ho.2
  have hb := h8 R
  have hn : ((leftL cs sh xs).length : Int) + (cs.length : Int) = (xs.length : Int) := by rw [leftL_length]; omega
  rw [hn] at hb
  have hO : resO cs sh xs = leftL cs sh xs := by unfold resO; rw [if_pos ho.1]
  obtain ⟨-, -, b1, b2⟩ := back_law cs sh xs ho.1
  rw [hO] at b1 b2
  unfold tailS
  rw [if_neg (by simp), hb]
  show (if (0 : Int) ≠ 0 then _ else (rstO cs sh (xs.take cs.length) (leftL cs sh xs), rstE cs sh (xs.take cs.length) (leftL cs sh xs), (rwB (leftL cs sh xs) cs.length).length)) = _
  rw [if_neg (by simp), b1, b2]
theorem ps_ok {xs : List Int} {d : Nat} (hd : d ≤ 30) (hfit : ∀ x ∈ xs, -(2 ^ d) ≤ x ∧ x < 2 ^ d) : ∀ x ∈ xs, psE x ((d + 1 : Nat) : Int) = 0 ∧ -9223372036854775808 ≤ x ∧ x ≤ 9223372036854775807 := by
  intro x hx
  have h := hfit x hx
  exact ⟨(ps_fit x d (by omega) h.1 h.2).1, by
    have h2 : (2 : Nat) ^ d ≤ 2 ^ 30 := Nat.pow_le_pow_right (by omega) hd
    have h3 : ((2 ^ d : Nat) : Int) = (2 : Int) ^ d := by simp
    have h4 : (2 : Nat) ^ 30 = 1073741824 := rfl
    omega⟩
theorem body_md (xs cs : List Int) (sh D kd head : Int) (hk : 2 ≤ kd) : bodyB xs D (modP xs cs sh D kd head) = mdB xs cs sh D (decide (31 < kd)) := by
  unfold bodyB modP mdB
  simp only
  rw [if_neg (by omega), if_neg (by omega)]
  simp only [decide_eq_true_eq]
/-- The samples are read back. -/
theorem body_back (xs : List Int) (d : Nat) (p : Pl) (R : List Bool) (hd : d ≤ 24) (hfit : ∀ x ∈ xs, -(2 ^ d) ≤ x ∧ x < 2 ^ d) (hl : 1 ≤ xs.length ∧ xs.length ≤ 512) (h : PlOk xs ((d + 1 : Nat) : Int) p) :
    bodyS p.kd xs.length ((d + 1 : Nat) : Int) (bodyB xs ((d + 1 : Nat) : Int) p ++ R) = (xs, 0, (bodyB xs ((d + 1 : Nat) : Int) p).length) := by
  have hps := ps_ok (by omega) hfit
  have htk : ∀ c, ∀ x ∈ xs.take c, psE x ((d + 1 : Nat) : Int) = 0 ∧ -9223372036854775808 ≤ x ∧ x ≤ 9223372036854775807 := fun c x hx => hps x (List.mem_of_mem_take hx)
  have lb : ∀ c, c ≤ xs.length → ∀ R, listI ((d + 1 : Nat) : Int) 0 (psS (xs.take c) ((d + 1 : Nat) : Int) ++ R) c = (xs.take c, 0, (psS (xs.take c) ((d + 1 : Nat) : Int)).length) := by
    intro c hc R
    have := list_back ((d + 1 : Nat) : Int) (xs.take c) R (htk c) c (by rw [List.length_take]; omega)
    rw [List.take_take, Nat.min_self] at this
    exact this
  rcases h with ⟨rfl, ha⟩ | rfl | ⟨c, h1, h2, rfl, h4⟩ | ⟨c, h1, h2, rfl, h4⟩
  · have e : bodyB xs ((d + 1 : Nat) : Int) ⟨0, [], 0, [], ((d + 1 : Nat) : Int)⟩ = psS (xs.take 1) ((d + 1 : Nat) : Int) := rfl
    rw [e]
    show (List.replicate xs.length ((listI ((d + 1 : Nat) : Int) 0 (psS (xs.take 1) ((d + 1 : Nat) : Int) ++ R) 1).1.headD 0), _, _) = _
    rw [lb 1 hl.1 R]
    show (List.replicate xs.length ((xs.take 1).headD 0), 0, _) = _
    congr 1
    cases xs with
    | nil => simp at hl
    | cons y l =>
      unfold alikeB at ha
      rw [List.all_eq_true] at ha
      refine (List.eq_replicate_iff.2 ⟨rfl, fun x hx => ?_⟩).symm
      exact of_decide_eq_true (ha x hx)
  · have e : bodyB xs ((d + 1 : Nat) : Int) ⟨1, [], 0, [], xs.length * ((d + 1 : Nat) : Int)⟩ = psS xs ((d + 1 : Nat) : Int) := rfl
    rw [e]
    show listI ((d + 1 : Nat) : Int) 0 (psS xs ((d + 1 : Nat) : Int) ++ R) xs.length = _
    have := lb xs.length (Nat.le_refl _) R
    rw [List.take_length] at this
    exact this
  · have hf := fixL_len c h1
    have e := body_md xs (fixL c) 0 ((d + 1 : Nat) : Int) (8 + c) 0 (by omega)
    rw [decide_eq_false (by omega)] at e
    rw [e]
    have e2 : mdB xs (fixL c) 0 ((d + 1 : Nat) : Int) false = psS (xs.take c) ((d + 1 : Nat) : Int) ++ rwB (leftL (fixL c) 0 xs) (fixL c).length := by
      unfold mdB
      rw [hf]
      simp
    rw [e2]
    have e3 : bodyS (8 + (c : Int)) xs.length ((d + 1 : Nat) : Int) = fixS xs.length ((d + 1 : Nat) : Int) c := by
      funext R
      unfold bodyS
      rw [if_neg (by omega), if_neg (by omega), if_pos (by omega), show (8 + (c : Int) - 8).toNat = c by omega]
    show bodyS (8 + (c : Int)) xs.length ((d + 1 : Nat) : Int) _ = _
    rw [e3]
    unfold fixS
    rw [if_neg (by omega), List.append_assoc, lb c h2]
    show ((tailS xs.length c (fixL (min c 4)) 0 (xs.take c) 0 ((psS (xs.take c) ((d + 1 : Nat) : Int) ++ (rwB (leftL (fixL c) 0 xs) (fixL c).length ++ R)).drop (psS (xs.take c) ((d + 1 : Nat) : Int)).length)).1, _, _) = _
    rw [List.drop_left, show min c 4 = c by omega]
    have tb := tail_back (fixL c) 0 xs R hl.2 (by omega) h4
    rw [hf] at tb ⊢
    rw [tb, List.length_append]
  · have hsr := srcL_ok xs c (by omega)
    have he := srcE_ok (xs := xs) (o := c) (by omega) (by omega) (in_B (by omega) hfit)
    have hf : (srcL xs c).length = c := by
      rw [he.2.1]
      exact (fold_ok xs c (mvS c 4) _ (SrcOk.begin xs c (by omega))).len
    have hsh : 0 ≤ srcS xs c ∧ srcS xs c ≤ 15 := by rcases hsr.2.2 with h | h <;> rw [h] <;> omega
    have e := body_md xs (srcL xs c) (srcS xs c) ((d + 1 : Nat) : Int) (31 + c) (9 + 12 * c) (by omega)
    rw [decide_eq_true (by omega)] at e
    rw [e]
    generalize srcL xs c = cs at *
    generalize srcS xs c = sh at *
    have e2 : mdB xs cs sh ((d + 1 : Nat) : Int) true = psS (xs.take c) ((d + 1 : Nat) : Int) ++ (putB 11 4 ++ (putB sh 5 ++ (psS cs 12 ++ rwB (leftL cs sh xs) cs.length))) := by
      unfold mdB
      rw [hf]
      simp only [if_pos, List.append_assoc]
    rw [e2]
    have e3 : bodyS (31 + (c : Int)) xs.length ((d + 1 : Nat) : Int) = seaS xs.length ((d + 1 : Nat) : Int) c := by
      funext R
      unfold bodyS
      rw [if_neg (by omega), if_neg (by omega), if_neg (by omega), show (31 + (c : Int) - 31).toNat = c by omega]
    show bodyS (31 + (c : Int)) xs.length ((d + 1 : Nat) : Int) _ = _
    rw [e3]
    have p11 : putE 11 4 = 0 := by decide +kernel
    have psh : putE sh 5 = 0 := (putE_cases sh 5 (by omega)).2.2 hsh.1 (by omega)
    have l11 : (putB 11 4).length = 4 := by decide +kernel
    have lsh : (putB sh 5).length = 5 := put_fit sh 5 (by omega) hsh.1 (by omega)
    obtain ⟨RR, hRR⟩ : ∃ RR, rwB (leftL cs sh xs) cs.length ++ R = RR := ⟨_, rfl⟩
    obtain ⟨a1, a2, a3⟩ := get_back 11 4 (putB sh 5 ++ (psS cs 12 ++ RR)) p11
    obtain ⟨b1, b2, b3⟩ := get_back sh 5 (psS cs 12 ++ RR) psh
    have hcs : ∀ x ∈ cs, psE x 12 = 0 ∧ -9223372036854775808 ≤ x ∧ x ≤ 9223372036854775807 := fun x hx => by
      have h := hsr.2.1 x hx
      exact ⟨(ps_fit x 11 (by omega) h.1 (by have := h.2; omega)).1, by omega⟩
    have cb := list_back 12 cs RR hcs c (by omega)
    rw [← hf, List.take_length] at cb
    have m1 : md1 0 (putB 11 4 ++ (putB sh 5 ++ (psS cs 12 ++ RR))) = (0, 4) := by
      unfold md1
      rw [a1, a2, a3, l11]
      rfl
    have dr4 : (putB 11 4 ++ (putB sh 5 ++ (psS cs 12 ++ RR))).drop 4 = putB sh 5 ++ (psS cs 12 ++ RR) := by rw [← l11, List.drop_left]
    have m2 : md2 0 (putB 11 4 ++ (putB sh 5 ++ (psS cs 12 ++ RR))) = (sh, 0, 9) := by
      unfold md2
      rw [m1]
      show (iN 5 0 ((putB 11 4 ++ (putB sh 5 ++ (psS cs 12 ++ RR))).drop 4), iE 5 0 ((putB 11 4 ++ (putB sh 5 ++ (psS cs 12 ++ RR))).drop 4), 4 + iT 5 0 ((putB 11 4 ++ (putB sh 5 ++ (psS cs 12 ++ RR))).drop 4)) = _
      rw [dr4, b1, b2, b3, lsh]
    have dr9 : (putB 11 4 ++ (putB sh 5 ++ (psS cs 12 ++ RR))).drop 9 = psS cs 12 ++ RR := by
      have : (putB 11 4 ++ (putB sh 5 ++ (psS cs 12 ++ RR))).drop 9 = ((putB 11 4 ++ (putB sh 5 ++ (psS cs 12 ++ RR))).drop 4).drop 5 := by rw [List.drop_drop]
      rw [this, dr4, ← lsh, List.drop_left]
    have m3 : md3 0 (putB 11 4 ++ (putB sh 5 ++ (psS cs 12 ++ RR))) = 0 := by
      unfold md3
      rw [m2]
      show mE 0 (decide (sh ≤ 15)) = 0
      rw [decide_eq_true hsh.2]
      rfl
    have m4 : md4 c 0 (putB 11 4 ++ (putB sh 5 ++ (psS cs 12 ++ RR))) = (cs, 0, (psS cs 12).length) := by
      unfold md4
      rw [m3, m2]
      show listI 12 0 ((putB 11 4 ++ (putB sh 5 ++ (psS cs 12 ++ RR))).drop 9) c = _
      rw [dr9, ← hf]
      exact cb
    have eR : psS (xs.take c) ((d + 1 : Nat) : Int) ++ (putB 11 4 ++ (putB sh 5 ++ (psS cs 12 ++ rwB (leftL cs sh xs) cs.length))) ++ R = psS (xs.take c) ((d + 1 : Nat) : Int) ++ (putB 11 4 ++ (putB sh 5 ++ (psS cs 12 ++ RR))) := by
      rw [← hRR]
      simp only [List.append_assoc]
    rw [eR]
    unfold seaS
    rw [if_neg (by omega), lb c (by omega)]
    unfold seaI
    have dT : (psS (xs.take c) ((d + 1 : Nat) : Int) ++ (putB 11 4 ++ (putB sh 5 ++ (psS cs 12 ++ RR)))).drop (psS (xs.take c) ((d + 1 : Nat) : Int)).length = putB 11 4 ++ (putB sh 5 ++ (psS cs 12 ++ RR)) := List.drop_left ..
    have dTT : (psS (xs.take c) ((d + 1 : Nat) : Int) ++ (putB 11 4 ++ (putB sh 5 ++ (psS cs 12 ++ RR)))).drop ((psS (xs.take c) ((d + 1 : Nat) : Int)).length + (9 + (psS cs 12).length)) = RR := by
      rw [← List.drop_drop, dT, ← List.drop_drop, dr9, List.drop_left]
    have tb := tail_back cs sh xs R hl.2 (by omega) h4
    rw [hRR, hf] at tb
    simp only [dT, m2, m4, dTT, tb]
    rw [hf]
    simp only [List.length_append, l11, lsh, Prod.mk.injEq, true_and]
    omega
end Go.Proofs.YtofkiimaoahfjaaDoor

set_option maxRecDepth 100000
set_option linter.unusedVariables false
set_option linter.unusedSimpArgs false
namespace Go.Proofs.YtofkiimaoahfjaaDoor
open Go.RowKit Go.Proofs.YtofkiimaoahfjaaDoor.Pure

theorem pl_kind {xs : List Int} {D : Int} {p : Pl} (h : PlOk xs D p) : kindB p.kd = true := by
  rcases h with ⟨rfl, -⟩ | rfl | ⟨c, h1, h2, rfl, h4⟩ | ⟨c, h1, h2, rfl, h4⟩
  · exact decide_eq_true (by simp)
  · exact decide_eq_true (by simp)
  · exact decide_eq_true (by show _ ∨ _; simp only [modP]; omega)
  · exact decide_eq_true (by show _ ∨ _; simp only [modP]; omega)
theorem take_verb (b x : Pl) : (takeP b x true).sz ≤ x.sz := by
  unfold takeP
  split
  · exact Int.le_refl _
  · rename_i h
    simp at h
    omega
/-- In no more bits than the samples have and 8, and one for each that is wasted. -/
theorem sw_le (S : List Int) (depth : Int) (h : SOk S depth) : ((swB S depth).length : Int) ≤ 8 + S.length * (depth - wasS S) + wasS S := by
  rw [sw_len S depth h]
  have h1 : (planS S depth).sz ≤ (downS S (wasS S)).length * depS S depth := take_verb _ _
  rw [h.len] at h1
  unfold depS at h1
  omega
theorem map_down (S : List Int) : (downS S (wasS S)).map (fun x => x * 2 ^ wasS S) = S := by
  unfold downS
  rw [List.map_map]
  have : ∀ x ∈ S, ((fun x => x * 2 ^ wasS S) ∘ fun x => x / 2 ^ wasS S) x = x := fun x hx => Int.ediv_mul_cancel (Int.dvd_of_emod_eq_zero (was_div S x hx))
  exact (List.map_congr_left this).trans (List.map_id' S)
/-- What was written is read. -/
theorem read_back (S : List Int) (depth : Int) (h : SOk S depth) (R : List Bool) : readX S.length depth (swB S depth ++ R) = (S, 0, (swB S depth).length) := by
  have hsb : sbrB S.length depth = true := decide_eq_true (by have := h.n; have := h.d; omega)
  obtain ⟨d, hd⟩ : ∃ d : Nat, depS S depth = ((d + 1 : Nat) : Int) := ⟨(depS S depth).toNat - 1, by have := h.D; omega⟩
  have hdd : (depS S depth).toNat - 1 = d := by omega
  have hfit := h.fits
  rw [hdd] at hfit
  have hok := h.ok
  have hde : depth - (wasS S : Int) = ((d + 1 : Nat) : Int) := hd
  obtain ⟨a1, a2, a3⟩ := head_back (planS S depth).kd (wasS S) depth (bodyB (downS S (wasS S)) (depS S depth) (planS S depth) ++ R) (pl_kind hok) h.k (by omega)
  have eR : swB S depth ++ R = headB (planS S depth).kd (wasS S) ++ (bodyB (downS S (wasS S)) (depS S depth) (planS S depth) ++ R) := by unfold swB; rw [List.append_assoc]
  have hb := body_back (downS S (wasS S)) d (planS S depth) R (by have := h.D; omega) hfit (by rw [h.len]; exact h.n) (by rw [← hd]; exact hok)
  rw [h.len] at hb
  have hl : (swB S depth).length = (headB (planS S depth).kd (wasS S)).length + (bodyB (downS S (wasS S)) (depS S depth) (planS S depth)).length := by unfold swB; rw [List.length_append]
  rw [eR, hl]
  unfold readX
  rw [hsb, if_pos rfl, Int.toNat_natCast]
  unfold readB
  rw [a1, a2, a3, List.drop_left]
  simp only
  rw [hde, hd, hb]
  have hall : (downS S (wasS S)).all (fun x => fitB x (((d + 1 : Nat) : Int).toNat - 1)) = true := by
    rw [List.all_eq_true]
    intro x hx
    have := hfit x hx
    rw [show ((d + 1 : Nat) : Int).toNat - 1 = d by omega]
    exact decide_eq_true this
  simp only [ne_eq, not_true_eq_false, if_false, hall, Bool.true_eq_false]
  rw [Int.toNat_natCast, map_down]
end Go.Proofs.YtofkiimaoahfjaaDoor
