/-
  Layer 6 (rice): what was written is read; it has as many bits as Size tells.
-/
import Derived.Test.YtofkiimaoahfjaaDoorZRice14
import Derived.Test.YtofkiimaoahfjaaDoorZBack
set_option maxRecDepth 100000
set_option linter.unusedVariables false
set_option linter.unusedSimpArgs false
namespace Go.Proofs.YtofkiimaoahfjaaDoor
open Go.RowKit Go.Proofs.YtofkiimaoahfjaaDoor.Pure

theorem unfold_fold (n : Int) : unfoldS (foldS n) = n := by
  unfold unfoldS foldS
  split <;> split <;> omega
theorem loopK_good (F : List Int) : ∀ n, (loopK F n).2 = true → ∃ k : Nat, k < n ∧ farB k F = false ∧ (loopK F n).1 = ((k : Int), 0, szK k F) := by
  intro n
  induction n with
  | zero => intro h; cases h
  | succ n ih =>
    intro h
    rw [loopK_succ] at h ⊢
    unfold stepK at h ⊢
    split
    · rename_i hc
      exact ⟨n, by omega, hc.1, rfl⟩
    · rename_i hc
      rw [if_neg hc] at h
      obtain ⟨k, h1, h2, h3⟩ := ih h
      exact ⟨k, by omega, h2, h3⟩
theorem foldl_wd (c : List Int) : ∀ w : Int, 0 ≤ w → w ≤ c.foldl wdS w ∧ ∀ n ∈ c, wd0 n ≤ c.foldl wdS w := by
  induction c with
  | nil => intro w h; exact ⟨Int.le_refl _, fun n hn => by cases hn⟩
  | cons x c ih =>
    intro w h
    rw [List.foldl_cons]
    have e := wdS_eq w x h
    obtain ⟨a, b⟩ := ih (wdS w x) (by rw [e]; omega)
    refine ⟨by omega, fun n hn => ?_⟩
    rcases List.mem_cons.1 hn with rfl | hn
    · omega
    · exact b n hn
theorem wd0_le (c : List Int) (n : Int) (hn : n ∈ c) : wd0 n ≤ widthS c := (foldl_wd c 0 (Int.le_refl _)).2 n hn
/-- What best chooses: the escape, and the numbers have its width; or a parameter, and no number is too far. -/
theorem bestS_good (c : List Int) (m : Nat) (hin : ∀ n ∈ c, -2147483648 < n ∧ n < 2147483648) (h : (bestS c m).2 = true) :
    ((bestS c m).1 = ((escS m : Int), widthS c, 5 + widthS c * c.length) ∧ 0 ≤ widthS c ∧ widthS c ≤ 31 ∧ ∀ n ∈ c, psE n (widthS c) = 0) ∨
    (∃ k : Nat, k < escS m ∧ farB k (c.map foldS) = false ∧ (bestS c m).1 = ((k : Int), 0, szK k (c.map foldS))) := by
  have hw := widthS_range c
  unfold bestS at h ⊢
  split
  · rename_i h1
    refine .inl ⟨rfl, hw.1, h1.1, fun n hn => ?_⟩
    obtain ⟨wn, hwn⟩ : ∃ wn : Nat, widthS c = wn := ⟨(widthS c).toNat, by omega⟩
    have h2 := wd0_le c n hn
    have h3 := sgnB_iff n wn (hin n hn)
    rw [hwn] at h1 h2 ⊢
    unfold psE
    rw [if_neg (by omega), h3, decide_eq_true h2, if_neg (by simp)]
  · rename_i h1
    rw [if_neg h1] at h
    exact .inr (loopK_good _ _ h)
theorem far_mem {k : Nat} {c : List Int} (h : farB k (c.map foldS) = false) : ∀ n ∈ c, foldS n / 2 ^ k ≤ 65536 := by
  intro n hn
  unfold farB at h
  have h1 := List.any_eq_false.1 h (foldS n) (List.mem_map_of_mem hn)
  simp at h1
  exact h1
theorem foldS_far (n : Int) (h : -2147483648 < n ∧ n < 2147483648) : 0 ≤ foldS n ∧ foldS n ≤ 4294967294 := by
  unfold foldS
  split <;> omega

/-! ### One number -/
theorem num_plain (n : Int) (k : Nat) (hk : k ≤ 31) (hn : -2147483648 < n ∧ n < 2147483648) (hf : foldS n / 2 ^ k ≤ 65536) :
    unE (foldS n / 2 ^ k) = 0 ∧ putE (foldS n % 2 ^ k) k = 0 := by
  obtain ⟨f0, f1⟩ := foldS_far n hn
  have hp : (0 : Int) < 2 ^ k := Int.pow_pos (by omega)
  have h0 : 0 ≤ foldS n / 2 ^ k := Int.ediv_nonneg f0 (by omega)
  have h1 := Int.emod_nonneg (foldS n) (show (2 : Int) ^ k ≠ 0 by omega)
  have h2 := Int.emod_lt_of_pos (foldS n) hp
  refine ⟨by unfold unE; rw [if_neg (by omega)], ?_⟩
  unfold putE
  rw [if_neg (by omega), Int.toNat_natCast, Int.ediv_eq_zero_of_lt h1 h2, if_neg (by omega)]
theorem back_num (n : Int) (k : Nat) (R : List Bool) (hk : k ≤ 31) (hn : -2147483648 < n ∧ n < 2147483648) (hf : foldS n / 2 ^ k ≤ 65536) :
    oneS false k 0 (numB k 0 false n ++ R) = (n, 0, (numB k 0 false n).length) ∧ ((numB k 0 false n).length : Int) = foldS n / 2 ^ k + 1 + k := by
  obtain ⟨f0, f1⟩ := foldS_far n hn
  obtain ⟨hu, hp⟩ := num_plain n k hk hn hf
  have hb : numB k 0 false n = unB (foldS n / 2 ^ k) ++ putB (foldS n % 2 ^ k) k := by unfold numB; rw [if_neg (by simp), Int.toNat_natCast]
  have hd : foldS n / 2 ^ k * 2 ^ k + foldS n % 2 ^ k = foldS n := Int.ediv_mul_add_emod _ _
  have hq0 : 0 ≤ foldS n / 2 ^ k := Int.ediv_nonneg f0 (Int.le_of_lt (Int.pow_pos (by omega)))
  obtain ⟨u1, u2, u3⟩ := back_un (foldS n / 2 ^ k) (putB (foldS n % 2 ^ k) k ++ R) hu
  obtain ⟨g1, g2, g3⟩ := back_get (foldS n % 2 ^ k) k R hp
  have hul : (unB (foldS n / 2 ^ k)).length = (foldS n / 2 ^ k).toNat + 1 := by unfold unB; rw [if_pos hu]; simp
  have hpl : (putB (foldS n % 2 ^ k) k).length = k := by unfold putB; rw [if_pos hp, bitsN_length, Int.toNat_natCast]
  rw [hb, List.append_assoc]
  refine ⟨?_, by rw [List.length_append, hul, hpl]; omega⟩
  unfold oneS
  rw [if_neg (by simp)]
  unfold numS
  rw [u1, u2, u3, List.drop_left, g1, g2, g3, Int.toNat_natCast, hd, if_neg (by simp), if_neg (by simp), if_neg (by omega), unfold_fold, List.length_append]
theorem back_sgn (n : Int) (wd : Int) (R : List Bool) (hn : -2147483648 < n ∧ n < 2147483648) (hw : 0 ≤ wd) (h : psE n wd = 0) (k : Int) :
    oneS true 0 wd (numB k wd true n ++ R) = (n, 0, (numB k wd true n).length) ∧ ((numB k wd true n).length : Int) = wd := by
  obtain ⟨g1, g2, g3⟩ := back_gets n wd R h (by omega)
  have hb : numB k wd true n = psB n wd := by unfold numB; rw [if_pos rfl]
  rw [hb]
  refine ⟨?_, by unfold psB; rw [if_pos h, bitsN_length]; omega⟩
  unfold oneS
  rw [if_pos rfl, g1, g2, g3]
/-- A list. -/
theorem back_list (one : List Bool → Int × Int × Nat) (f : Int → List Bool) : ∀ (c : List Int) (R : List Bool), (∀ n ∈ c, ∀ R, one (f n ++ R) = (n, 0, (f n).length)) → listS one c.length (c.flatMap f ++ R) = (c, 0, (c.flatMap f).length) := by
  intro c
  induction c with
  | nil => intro R _; rfl
  | cons n c ih =>
    intro R h
    have h1 := h n List.mem_cons_self (c.flatMap f ++ R)
    have h2 := ih R (fun x hx => h x (List.mem_cons_of_mem _ hx))
    rw [List.flatMap_cons, List.append_assoc, List.length_cons, listS, h1]
    simp only [List.drop_left, h2, List.length_append]
    rw [if_neg (by simp), if_neg (by simp)]
theorem len_list (f : Int → List Bool) (z : Int → Int) : ∀ c : List Int, (∀ n ∈ c, ((f n).length : Int) = z n) → ((c.flatMap f).length : Int) = (c.map z).sum := by
  intro c
  induction c with
  | nil => intro _; rfl
  | cons n c ih =>
    intro h
    rw [List.flatMap_cons, List.length_append, List.map_cons, List.sum_cons, ← ih (fun x hx => h x (List.mem_cons_of_mem _ hx)), ← h n List.mem_cons_self]
    omega
theorem sum_plain (k : Nat) : ∀ c : List Int, (c.map (fun n => foldS n / 2 ^ k + 1 + (k : Int))).sum = szK k (c.map foldS) := by
  intro c
  induction c with
  | nil => simp [szK, sumK]
  | cons n c ih =>
    rw [List.map_cons, List.sum_cons, ih]
    unfold szK sumK
    simp only [List.map_cons, List.sum_cons, List.length_cons, List.length_map, List.map_map]
    rw [show ((c.length + 1 : Nat) : Int) = (c.length : Int) + 1 by omega, Int.mul_add, Int.mul_one]
    omega
theorem sum_const (wd : Int) : ∀ c : List Int, (c.map (fun _ => wd)).sum = wd * c.length := by
  intro c
  induction c with
  | nil => simp
  | cons n c ih => rw [List.map_cons, List.sum_cons, ih, List.length_cons, show ((c.length + 1 : Nat) : Int) = (c.length : Int) + 1 by omega, Int.mul_add, Int.mul_one]; omega
theorem putE_small (n k : Nat) (hk : k ≤ 32) (h : n < 2 ^ k) : putE (n : Int) (k : Int) = 0 := by
  unfold putE
  rw [if_neg (by omega), Int.toNat_natCast, if_neg]
  intro hh
  have h6 : ((2 ^ k : Nat) : Int) = 2 ^ k := by simp
  have := Int.ediv_eq_zero_of_lt (show (0 : Int) ≤ n by omega) (show (n : Int) < 2 ^ k by omega)
  omega
theorem putB_length {n k : Int} (h : putE n k = 0) (hk : 0 ≤ k) : ((putB n k).length : Int) = k := by
  unfold putB
  rw [if_pos h, bitsN_length]
  omega
/-- A part. -/
theorem back_part (c : List Int) (m : Nat) (hm : m ≤ 1) (hin : ∀ n ∈ c, -2147483648 < n ∧ n < 2147483648) (h : (bestS c m).2 = true) (R : List Bool) :
    readS m c.length (partB m (bestS c m).1 c ++ R) = (c, 0, (partB m (bestS c m).1 c).length) ∧ ((partB m (bestS c m).1 c).length : Int) = (4 + m : Nat) + (bestS c m).1.2.2 := by
  have hE := escS_le m hm
  have hE2 : escS m < 2 ^ (4 + m) := by unfold escS; have := Nat.two_pow_pos (4 + m); omega
  rcases bestS_good c m hin h with ⟨h1, h2, h3, h4⟩ | ⟨k, h1, h2, h3⟩
  · rw [h1]
    obtain ⟨wn, hwn⟩ : ∃ wn : Nat, widthS c = wn := ⟨(widthS c).toNat, by omega⟩
    rw [hwn] at h3 h4 ⊢
    have p1 := putE_small (escS m) (4 + m) (by omega) hE2
    have p2 := putE_small wn 5 (by omega) (by omega)
    have p2 : putE (wn : Int) 5 = 0 := p2
    have l1 := putB_length p1 (by omega)
    have l2 := putB_length p2 (by omega)
    have hb : partB m ((escS m : Int), (wn : Int), 5 + (wn : Int) * (c.length : Int)) c = putB (escS m : Int) ((4 + m : Nat) : Int) ++ (putB (wn : Int) 5 ++ c.flatMap (numB (escS m : Int) (wn : Int) true)) := by
      unfold partB
      rw [if_pos rfl, decide_eq_true rfl, List.append_assoc]
    have hbl := back_list (oneS true 0 (wn : Int)) (numB (escS m : Int) (wn : Int) true) c R (fun n hn R => (back_sgn n wn R (hin n hn) (by omega) (h4 n hn) _).1)
    have hll := len_list (numB (escS m : Int) (wn : Int) true) (fun _ => (wn : Int)) c (fun n hn => (back_sgn n wn [] (hin n hn) (by omega) (h4 n hn) _).2)
    rw [sum_const] at hll
    rw [hb]
    generalize c.flatMap (numB (escS m : Int) (wn : Int) true) = Z at *
    obtain ⟨g1, g2, g3⟩ := back_get (escS m : Int) ((4 + m : Nat) : Int) (putB (wn : Int) 5 ++ (Z ++ R)) p1
    obtain ⟨f1, f2, f3⟩ := back_get (wn : Int) 5 (Z ++ R) p2
    generalize putB (escS m : Int) ((4 + m : Nat) : Int) = A at *
    generalize putB (wn : Int) 5 = B at *
    have lA : A.length = 4 + m := by omega
    have lB : B.length = 5 := by omega
    have d1 : (A ++ (B ++ (Z ++ R))).drop (4 + m) = B ++ (Z ++ R) := by rw [← lA, List.drop_left]
    have d2 : (A ++ (B ++ (Z ++ R))).drop (4 + m + 5) = Z ++ R := by rw [← List.drop_drop, d1, ← lB, List.drop_left]
    have es : A ++ (B ++ Z) ++ R = A ++ (B ++ (Z ++ R)) := by simp
    constructor
    · rw [es]
      unfold readS
      rw [g1, g2, d1, d2, f1, f2, hbl, if_neg (by simp), if_pos rfl, if_neg (by simp)]
      simp only [List.length_append, lA, lB]
      simp
      omega
    · simp only [List.length_append, lA, lB]
      omega
  · rw [h3]
    have p1 := putE_small k (4 + m) (by omega) (by omega)
    have l1 := putB_length p1 (by omega)
    have hne : ¬ ((k : Int) = (escS m : Int)) := by omega
    have hb : partB m ((k : Int), 0, szK k (c.map foldS)) c = putB (k : Int) ((4 + m : Nat) : Int) ++ c.flatMap (numB (k : Int) 0 false) := by
      unfold partB
      rw [if_neg hne, decide_eq_false hne, List.append_nil]
    have hfm := far_mem h2
    have hbl := back_list (oneS false (k : Int) 0) (numB (k : Int) 0 false) c R (fun n hn R => (back_num n k R (by omega) (hin n hn) (hfm n hn)).1)
    have hll := len_list (numB (k : Int) 0 false) (fun n => foldS n / 2 ^ k + 1 + (k : Int)) c (fun n hn => (back_num n k [] (by omega) (hin n hn) (hfm n hn)).2)
    rw [sum_plain] at hll
    rw [hb]
    generalize c.flatMap (numB (k : Int) 0 false) = Z at *
    obtain ⟨g1, g2, g3⟩ := back_get (k : Int) ((4 + m : Nat) : Int) (Z ++ R) p1
    generalize putB (k : Int) ((4 + m : Nat) : Int) = A at *
    have lA : A.length = 4 + m := by omega
    have d1 : (A ++ (Z ++ R)).drop (4 + m) = Z ++ R := by rw [← lA, List.drop_left]
    constructor
    · rw [List.append_assoc]
      unfold readS
      rw [g1, g2, d1, hbl, if_neg (by simp), if_neg hne]
      simp only [List.length_append, lA]
    · simp only [List.length_append, lA]
      omega
/-- The parts. -/
theorem back_parts (m : Nat) (hm : m ≤ 1) : ∀ (ps : List (List Int)) (acc : List T3) (s : Int) (R : List Bool), (∀ c ∈ ps, ∀ n ∈ c, -2147483648 < n ∧ n < 2147483648) → (candGo m ps acc s).2.2 = true →
    partsR m (ps.map List.length) (partsB m (ps.map (fun c => (bestS c m).1)) ps ++ R) = (ps.flatten, 0, (partsB m (ps.map (fun c => (bestS c m).1)) ps).length) ∧
    (candGo m ps acc s).2.1 = s + (partsB m (ps.map (fun c => (bestS c m).1)) ps).length := by
  intro ps
  induction ps with
  | nil => intro acc s R _ _; exact ⟨rfl, by simp [candGo, partsB]⟩
  | cons c ps ih =>
    intro acc s R hin h
    unfold candGo at h ⊢
    split at h
    · rename_i hb
      rw [if_pos hb]
      obtain ⟨a1, a2⟩ := ih _ _ R (fun d hd => hin d (List.mem_cons_of_mem _ hd)) h
      obtain ⟨b1, b2⟩ := back_part c m hm (hin c List.mem_cons_self) hb (partsB m (ps.map (fun c => (bestS c m).1)) ps ++ R)
      rw [a2]
      simp only [List.map_cons, partsB, partsR, List.append_assoc, List.flatten_cons]
      constructor
      · rw [b1]
        simp only [List.drop_left, a1, List.length_append]
        rw [if_neg (by simp), if_neg (by simp)]
      · rw [List.length_append]
        omega
    · cases h
theorem chunks_flat (size : Nat) : ∀ n R, R.length = n * size → (chunks size n R).flatten = R := by
  intro n
  induction n with
  | zero => intro R h; have : R = [] := List.eq_nil_of_length_eq_zero (by omega); subst this; rfl
  | succ n ih =>
    intro R h
    rw [chunks, List.flatten_cons, ih _ (by rw [List.length_drop, h, Nat.succ_mul]; omega), List.take_append_drop]
theorem chunks_lens (size : Nat) : ∀ n R, R.length = n * size → (chunks size n R).map List.length = List.replicate n size := by
  intro n
  induction n with
  | zero => intro R h; rfl
  | succ n ih =>
    intro R h
    rw [chunks, List.map_cons, ih _ (by rw [List.length_drop, h, Nat.succ_mul]; omega), List.replicate_succ, List.length_take, h, Nat.succ_mul]
    congr 1
    omega
theorem partsS_flat (L : List Int) (order p : Nat) (h : fitsB (L.length + order) order p = true) : (partsS L order p).flatten = L ∧ (partsS L order p).map List.length = cntsS (L.length + order) order p := by
  obtain ⟨size, h1, h2, h3⟩ := fits_facts _ _ _ h
  obtain ⟨q, hq⟩ : ∃ q, 2 ^ p = q + 1 := ⟨2 ^ p - 1, by have := Nat.two_pow_pos p; omega⟩
  have h4 : (L.drop (size - order)).length = q * size := by
    rw [hq, Nat.succ_mul] at h2
    rw [List.length_drop]
    omega
  have h5 : size - order ≤ L.length := by
    rw [hq, Nat.succ_mul] at h2
    omega
  unfold partsS cntsS
  rw [h1, hq, Nat.add_sub_cancel]
  constructor
  · rw [List.flatten_cons, chunks_flat _ _ _ h4, List.take_append_drop]
  · rw [List.map_cons, chunks_lens _ _ _ h4, List.length_take, Nat.min_eq_left h5]
/-- A block: what was written is read, and has as many bits as Size tells. -/
theorem back_block (L : List Int) (order : Nat) (R : List Bool) (hl : L.length ≤ 600) (hin : ∀ n ∈ L, -2147483648 < n ∧ n < 2147483648) (hr : rblockB ((L.length : Int) + order) order = true) :
    blockS ((L.length : Int) + order) order (writeB L order ++ R) = (L, 0, (writeB L order).length) ∧ ((writeB L order).length : Int) = (chooseS L order).2.2.2 := by
  obtain ⟨m, p, e1, e2, hm, hp, hf, hc, _⟩ := choose_plan hl hin (order := order) (by omega)
  have hmem := partsS_mem L order p
  have hgo : (candGo m (partsS L order p) [] 6).2.2 = true := by rw [hc]
  obtain ⟨b1, b2⟩ := back_parts m hm (partsS L order p) [] 6 R (fun c hcm n hn => hin n ((hmem c hcm).1 n hn)) hgo
  have hpp := candGo_parts m (partsS L order p) [] 6 hgo
  obtain ⟨s1, s2⟩ := partsS_flat L order p hf
  have e3 : (chooseS L order).2.2.1 = (partsS L order p).map (fun c => (bestS c m).1) := by rw [← List.nil_append (List.map _ _), ← hpp, hc]
  have e4 : (chooseS L order).2.2.2 = (candGo m (partsS L order p) [] 6).2.1 := by rw [hc]
  have hw : writeB L order = putB (m : Int) 2 ++ (putB (p : Int) 4 ++ partsB m ((partsS L order p).map (fun c => (bestS c m).1)) (partsS L order p)) := by
    unfold writeB
    rw [e1, e2, e3, Int.toNat_natCast, Int.toNat_natCast, List.append_assoc]
  have p1 : putE (m : Int) 2 = 0 := putE_small m 2 (by omega) (by omega)
  have p2 : putE (p : Int) 4 = 0 := putE_small p 4 (by omega) (by omega)
  have l1 := putB_length p1 (by omega)
  have l2 := putB_length p2 (by omega)
  rw [e4, b2, hw]
  rw [s1, s2] at b1
  generalize partsB m ((partsS L order p).map (fun c => (bestS c m).1)) (partsS L order p) = Z at *
  obtain ⟨g1, g2, g3⟩ := back_get (m : Int) 2 (putB (p : Int) 4 ++ (Z ++ R)) p1
  obtain ⟨f1, f2, f3⟩ := back_get (p : Int) 4 (Z ++ R) p2
  generalize putB (m : Int) 2 = A at *
  generalize putB (p : Int) 4 = B at *
  have lA : A.length = 2 := by omega
  have lB : B.length = 4 := by omega
  have d1 : (A ++ (B ++ (Z ++ R))).drop 2 = B ++ (Z ++ R) := by rw [← lA, List.drop_left]
  have d2 : (A ++ (B ++ (Z ++ R))).drop 6 = Z ++ R := by rw [show 6 = 2 + 4 from rfl, ← List.drop_drop, d1, ← lB, List.drop_left]
  have es : A ++ (B ++ Z) ++ R = A ++ (B ++ (Z ++ R)) := by simp
  have en : ((L.length : Int) + (order : Int)).toNat = L.length + order := by omega
  constructor
  · rw [es]
    unfold blockS
    rw [hr, g1, g2, d1, d2, f1, f2, en, Int.toNat_natCast, Int.toNat_natCast, Int.toNat_natCast, hf, b1, if_neg (by simp), if_neg (by simp), if_neg (by omega), if_neg (by simp), if_neg (by simp)]
    simp only [List.length_append, lA, lB]
    simp
    omega
  · simp only [List.length_append, lA, lB]
    omega
end Go.Proofs.YtofkiimaoahfjaaDoor
