/-
  Plain laws of the numbers' bytes (layer 5): what Put makes Get reads; what Get reads Put makes. No program in sight.
-/
import Derived.Test.YtjgljjpgknjihaaCode2
set_option linter.unusedVariables false
set_option linter.unusedSimpArgs false
namespace Go.Proofs.Ytjgljjpgknjihaa

/-- The number of the last bytes. -/
def valT : List Int → Int
  | [] => 0
  | x :: t => (x % 64) * 64 ^ t.length + valT t

/-- Bytes that can't be first ones. -/
def Later (t : List Int) : Prop := ∀ x ∈ t, x / 64 = 2

theorem valT_range (t : List Int) : 0 ≤ valT t ∧ valT t < 64 ^ t.length := by
  induction t with
  | nil => simp [valT]
  | cons x t ih =>
    obtain ⟨h0, h1⟩ := ih
    have hp : (0 : Int) < 64 ^ t.length := Int.pow_pos (by omega)
    have hx0 : 0 ≤ x % 64 := Int.emod_nonneg _ (by omega)
    have hx1 : x % 64 ≤ 63 := by omega
    have e1 : (x % 64) * 64 ^ t.length ≤ 63 * 64 ^ t.length := Int.mul_le_mul_of_nonneg_right hx1 (by omega)
    have e0 : 0 ≤ (x % 64) * 64 ^ t.length := Int.mul_nonneg hx0 (by omega)
    simp only [valT, List.length_cons, Int.pow_succ]
    constructor <;> omega

theorem getL_all (b : List Int) : ∀ (d i : Nat) (l g : Int) (t : List Int), t.length = d → Later t → (∀ j (h : j < t.length), b[i + j]? = some t[j]) →
    getL b d i l g = some (l * 64 ^ d + valT t, g * 64 ^ d + valT t) := by
  intro d
  induction d with
  | zero =>
    intro i l g t ht _ _
    rw [List.eq_nil_of_length_eq_zero ht]
    simp [getL, valT]
  | succ d ih =>
    intro i l g t ht hL hb
    cases t with
    | nil => simp at ht
    | cons x t =>
      have hl : t.length = d := by simpa using ht
      have h0 := hb 0 (by simp)
      simp only [Nat.add_zero, List.getElem_cons_zero] at h0
      obtain ⟨hi, hx⟩ := List.getElem?_eq_some_iff.1 h0
      have hx2 : x / 64 = 2 := hL x (by simp)
      rw [getL, dif_pos hi, hx, if_pos hx2]
      rw [ih (i + 1) _ _ t hl (fun y hy => hL y (List.mem_cons_of_mem _ hy)) (fun j hj => by
        have := hb (j + 1) (by simp; omega)
        simp only [List.getElem_cons_succ] at this
        rw [← this]; congr 1; omega)]
      simp only [valT, Int.pow_succ, hl]
      congr 2 <;> (rw [Int.add_mul, Int.mul_assoc, Int.mul_comm 64, Int.add_assoc])

theorem getL_short (b : List Int) : ∀ (d i : Nat) (l g : Int) (t : List Int), b.length = i + t.length → t.length ≤ d → Later t → (∀ j (h : j < t.length), b[i + j]? = some t[j]) →
    getL b d i l g = some (l * 64 ^ d + valT t * 64 ^ (d - t.length), g * 64 ^ d + valT t * 64 ^ (d - t.length) + (64 ^ (d - t.length) - 1)) := by
  intro d
  induction d with
  | zero =>
    intro i l g t _ ht _ _
    obtain rfl : t = [] := List.eq_nil_of_length_eq_zero (by omega)
    simp [getL, valT]
  | succ d ih =>
    intro i l g t hlen ht hL hb
    cases t with
    | nil =>
      have hi : ¬ i < b.length := by simp at hlen; omega
      have hz : ∀ (d' i' : Nat) (l' g' : Int), b.length ≤ i' → getL b d' i' l' g' = some (l' * 64 ^ d', g' * 64 ^ d' + (64 ^ d' - 1)) := by
        intro d'
        induction d' with
        | zero => intro i' l' g' _; simp [getL]
        | succ d' ih' =>
          intro i' l' g' h'
          rw [getL, dif_neg (by omega), ih' _ _ _ (by omega), Int.pow_succ]
          have hp : (0 : Int) < 64 ^ d' := Int.pow_pos (by omega)
          congr 2
          · rw [Int.mul_assoc, Int.mul_comm 64]
          · rw [Int.add_mul, Int.mul_assoc, Int.mul_comm 64 (64 ^ d')]
            omega
      rw [hz _ _ _ _ (by omega)]
      simp [valT]
    | cons x t =>
      have h0 := hb 0 (by simp)
      simp only [Nat.add_zero, List.getElem_cons_zero] at h0
      obtain ⟨hi, hx⟩ := List.getElem?_eq_some_iff.1 h0
      have hx2 : x / 64 = 2 := hL x (by simp)
      have htd : t.length ≤ d := by simp at ht; omega
      rw [getL, dif_pos hi, hx, if_pos hx2]
      rw [ih (i + 1) _ _ t (by simp at hlen; omega) htd (fun y hy => hL y (List.mem_cons_of_mem _ hy)) (fun j hj => by
        have := hb (j + 1) (by simp; omega)
        simp only [List.getElem_cons_succ] at this
        rw [← this]; congr 1; omega)]
      have e : d + 1 - (x :: t).length = d - t.length := by simp
      have ep : (64 : Int) ^ d = 64 ^ t.length * 64 ^ (d - t.length) := by rw [← Int.pow_add]; congr 1; omega
      rw [e]
      simp only [valT, Int.pow_succ]
      have e2 : ∀ y : Int, (y * 64 + x % 64) * 64 ^ d + valT t * 64 ^ (d - t.length) = y * (64 ^ d * 64) + (x % 64 * 64 ^ t.length + valT t) * 64 ^ (d - t.length) := by
        intro y
        rw [Int.add_mul, Int.add_mul, Int.mul_assoc, Int.mul_comm 64, Int.mul_assoc (x % 64), ← ep]
        omega
      rw [e2 l, e2 g]

theorem tailB_later (t : Nat) : ∀ n, Later (tailB n t) := by
  induction t with
  | zero => intro n x hx; simp [tailB] at hx
  | succ t ih =>
    intro n x hx
    rw [tailB, List.mem_append] at hx
    rcases hx with hx | hx
    · exact ih _ x hx
    · simp at hx; omega

theorem valT_tailB (t : Nat) : ∀ n, valT (tailB n t) = n % 64 ^ t := by
  induction t with
  | zero => intro n; simp [tailB, valT, Int.emod_one]
  | succ t ih =>
    intro n
    rw [tailB_cons, valT, ih, tailB_length]
    have hp : (0 : Int) < 64 ^ t := Int.pow_pos (by omega)
    have e : (128 + n / 64 ^ t % 64) % 64 = n / 64 ^ t % 64 := by omega
    rw [e, Int.pow_succ]
    have h1 := Int.emod_add_mul_ediv n (64 ^ t)
    have h2 := Int.emod_add_mul_ediv (n / 64 ^ t) 64
    have h3 := Int.emod_add_mul_ediv n (64 ^ t * 64)
    rw [← Int.ediv_ediv_of_nonneg (by omega)] at h3
    generalize n / 64 ^ t / 64 = q at *
    generalize n / 64 ^ t % 64 = r at *
    rw [Int.mul_assoc] at h3
    have h4 : 64 ^ t * (n / 64 ^ t) = 64 ^ t * r + 64 ^ t * (64 * q) := by rw [← h2, Int.mul_add]
    rw [Int.mul_comm r]
    omega

/-- The bytes behind the first are told by the number that they are. -/
theorem tailB_of (t : List Int) (hL : Later t) : ∀ n : Int, n % 64 ^ t.length = valT t → tailB n t.length = t := by
  induction t with
  | nil => intro n _; rfl
  | cons x t ih =>
    intro n h
    have hx2 : x / 64 = 2 := hL x (by simp)
    have hp : (0 : Int) < 64 ^ t.length := Int.pow_pos (by omega)
    obtain ⟨v0, v1⟩ := valT_range t
    have hx0 : 0 ≤ x % 64 := Int.emod_nonneg _ (by omega)
    rw [List.length_cons, tailB_cons]
    have e : n % 64 ^ (t.length + 1) % 64 ^ t.length = n % 64 ^ t.length := Int.emod_emod_of_dvd n ⟨64, Int.pow_succ _ _⟩
    have h1 : n % 64 ^ t.length = valT t := by
      rw [← e]
      rw [List.length_cons] at h
      rw [h, valT, Int.add_comm, Int.add_mul_emod_self_right, Int.emod_eq_of_lt v0 v1]
    rw [ih (fun y hy => hL y (List.mem_cons_of_mem _ hy)) n h1]
    congr 1
    have h2 := valT_tailB (t.length + 1) n
    rw [tailB_cons, valT, tailB_length, valT_tailB, h1] at h2
    rw [List.length_cons] at h
    rw [h, valT] at h2
    have h3 : (128 + n / 64 ^ t.length % 64) % 64 * 64 ^ t.length = x % 64 * 64 ^ t.length := by omega
    have h4 := Int.eq_of_mul_eq_mul_right (Int.ne_of_gt hp) h3
    omega

theorem sizeB_iff (n : Int) (k : Nat) (h0 : 0 ≤ n) (h1 : n ≤ 68719476735) (hk2 : 2 ≤ k) (hk7 : k ≤ 7) : sizeB n = k ↔ lowB k ≤ n ∧ n < 2 ^ (5 * k + 1) := by
  have hk' : k = 2 ∨ k = 3 ∨ k = 4 ∨ k = 5 ∨ k = 6 ∨ k = 7 := by omega
  unfold sizeB lowB
  rcases hk' with rfl | rfl | rfl | rfl | rfl | rfl <;> simp <;> (repeat' split) <;> omega

theorem lead_first (k : Nat) (m : Int) (hk2 : 2 ≤ k) (hk7 : k ≤ 7) (h0 : 0 ≤ m) (h1 : m < 2 ^ (7 - k)) : lead (256 - 2 ^ (8 - k) + m) = k ∧ (256 - 2 ^ (8 - k) + m) % 2 ^ (7 - k) = m := by
  have hk' : k = 2 ∨ k = 3 ∨ k = 4 ∨ k = 5 ∨ k = 6 ∨ k = 7 := by omega
  unfold lead
  rcases hk' with rfl | rfl | rfl | rfl | rfl | rfl <;> simp at h1 ⊢ <;> (repeat' split) <;> omega

theorem lead_back (b : Int) (h0 : 0 ≤ b) (h1 : b ≤ 255) (hk2 : 2 ≤ lead b) (hk7 : lead b ≤ 7) : b = 256 - 2 ^ (8 - lead b) + b % 2 ^ (7 - lead b) ∧ 0 ≤ b % 2 ^ (7 - lead b) ∧ b % 2 ^ (7 - lead b) < 2 ^ (7 - lead b) := by
  have hp : (0 : Int) < 2 ^ (7 - lead b) := Int.pow_pos (by omega)
  refine ⟨?_, Int.emod_nonneg _ (by omega), Int.emod_lt_of_pos _ hp⟩
  have hk' : lead b = 2 ∨ lead b = 3 ∨ lead b = 4 ∨ lead b = 5 ∨ lead b = 6 ∨ lead b = 7 := by omega
  clear hp hk2 hk7
  rcases hk' with e | e | e | e | e | e
  all_goals
    rw [e]
    unfold lead at e
    (repeat' split at e) <;> first | omega | (exfalso; omega) | (simp; omega)

theorem getL_some (b : List Int) : ∀ (d i : Nat) (l g : Int) (r : Int × Int), getL b d i l g = some r → Later ((b.drop i).take d) := by
  intro d
  induction d with
  | zero => intro i l g r _ x hx; simp at hx
  | succ d ih =>
    intro i l g r h
    rw [getL] at h
    split at h
    · rename_i hi
      split at h
      · rename_i hx
        rw [List.drop_eq_getElem_cons hi, List.take_succ_cons]
        intro y hy
        rcases List.mem_cons.1 hy with rfl | hy
        · exact hx
        · exact ih _ _ _ _ h y hy
      · cases h
    · rename_i hi
      rw [List.drop_of_length_le (by omega)]
      intro y hy
      simp at hy

theorem high_part (n : Int) (k : Nat) (h0 : 0 ≤ n) (h1 : n ≤ 68719476735) (hs : ¬ n < 128) (hk : sizeB n = k) : 2 ≤ k ∧ k ≤ 7 ∧ 0 ≤ n / 64 ^ (k - 1) ∧ n / 64 ^ (k - 1) < 2 ^ (7 - k) := by
  have hk2 : 2 ≤ k := by rw [← hk]; unfold sizeB; repeat (first | omega | split)
  have hk7 : k ≤ 7 := by rw [← hk]; exact sizeB_le n
  have h := (sizeB_iff n k h0 h1 hk2 hk7).1 hk
  have hk' : k = 2 ∨ k = 3 ∨ k = 4 ∨ k = 5 ∨ k = 6 ∨ k = 7 := by omega
  refine ⟨hk2, hk7, ?_⟩
  rcases hk' with rfl | rfl | rfl | rfl | rfl | rfl <;> simp at h ⊢ <;> omega

theorem putS_length (n : Int) : (putS n).length = if n < 128 then 1 else sizeB n := by
  unfold putS
  split
  · rfl
  · rename_i h
    rw [List.length_cons, tailB_length]
    have : 2 ≤ sizeB n := by unfold sizeB; repeat (first | omega | split)
    omega

theorem putS_range (n : Int) (h0 : 0 ≤ n) (h1 : n ≤ 68719476735) : ∀ x ∈ putS n, 0 ≤ x ∧ x ≤ 255 := by
  intro x hx
  unfold putS at hx
  split at hx
  · simp at hx; omega
  · rename_i h
    obtain ⟨hk2, hk7, p0, p1⟩ := high_part n _ h0 h1 h rfl
    rcases List.mem_cons.1 hx with rfl | hx
    · have hk' : sizeB n = 2 ∨ sizeB n = 3 ∨ sizeB n = 4 ∨ sizeB n = 5 ∨ sizeB n = 6 ∨ sizeB n = 7 := by omega
      rcases hk' with e | e | e | e | e | e <;> rw [e] at p1 p0 ⊢ <;> simp at p1 p0 ⊢ <;> omega
    · have := tailB_later _ _ x hx
      omega

/-- What Put makes Get reads, whatever comes behind. -/
theorem get_put (n : Int) (h0 : 0 ≤ n) (h1 : n ≤ 68719476735) (more : List Int) : getS (putS n ++ more) = (n, ((putS n).length : Int), 0) := by
  rw [putS_length]
  unfold putS
  split
  · rename_i h
    have : lead n = 0 := by unfold lead; rw [if_pos h]
    simp [getS, this]
  · rename_i h
    obtain ⟨hk2, hk7, p0, p1⟩ := high_part n _ h0 h1 h rfl
    obtain ⟨e1, e2⟩ := lead_first (sizeB n) _ hk2 hk7 p0 p1
    have hsz := (sizeB_iff n _ h0 h1 hk2 hk7).1 rfl
    unfold getS
    simp only [List.cons_append]
    rw [e1, e2, if_neg (by omega), if_neg (by omega)]
    rw [getL_all _ _ 1 _ _ (tailB n (sizeB n - 1)) (tailB_length _ _) (tailB_later _ _) (fun j hj => by
      rw [Nat.add_comm 1 j, List.getElem?_cons_succ, List.getElem?_append_left hj, List.getElem?_eq_getElem hj])]
    have e3 : n / 64 ^ (sizeB n - 1) * 64 ^ (sizeB n - 1) + valT (tailB n (sizeB n - 1)) = n := by
      rw [valT_tailB, Int.mul_comm, Int.mul_ediv_add_emod]
    simp only [e3]
    have h2 : lowB (sizeB n) ≤ n := hsz.1
    rw [if_neg (by omega), if_neg (by simp [tailB_length]; omega)]

/-- Each beginning of a number's bytes ends too soon. -/
theorem get_cut (n : Int) (h0 : 0 ≤ n) (h1 : n ≤ 68719476735) (i : Nat) (hi : i < (putS n).length) : getS ((putS n).take i) = (0, 0, 10) := by
  cases i with
  | zero => simp [getS]
  | succ i =>
    rw [putS_length] at hi
    by_cases h : n < 128
    · rw [if_pos h] at hi; omega
    · rw [if_neg h] at hi
      obtain ⟨hk2, hk7, p0, p1⟩ := high_part n _ h0 h1 h rfl
      obtain ⟨e1, e2⟩ := lead_first (sizeB n) _ hk2 hk7 p0 p1
      have hsz := (sizeB_iff n _ h0 h1 hk2 hk7).1 rfl
      unfold putS
      rw [if_neg h, List.take_succ_cons]
      unfold getS
      simp only
      rw [e1, e2, if_neg (by omega), if_neg (by omega)]
      have hlen : ((tailB n (sizeB n - 1)).take i).length = i := by rw [List.length_take, tailB_length]; omega
      rw [getL_short _ _ 1 _ _ ((tailB n (sizeB n - 1)).take i) (by simp; omega) (by omega) (fun x hx => tailB_later _ _ x (List.mem_of_mem_take hx)) (fun j hj => by
        rw [Nat.add_comm 1 j, List.getElem?_cons_succ, List.getElem?_eq_getElem hj])]
      simp only
      have hg : n ≤ n / 64 ^ (sizeB n - 1) * 64 ^ (sizeB n - 1) + valT ((tailB n (sizeB n - 1)).take i) * 64 ^ (sizeB n - 1 - ((tailB n (sizeB n - 1)).take i).length) + (64 ^ (sizeB n - 1 - ((tailB n (sizeB n - 1)).take i).length) - 1) := by
        rw [hlen]
        have e3 : n / 64 ^ (sizeB n - 1) * 64 ^ (sizeB n - 1) + valT (tailB n (sizeB n - 1)) = n := by
          rw [valT_tailB, Int.mul_comm, Int.mul_ediv_add_emod]
        have e4 : valT (tailB n (sizeB n - 1)) = valT ((tailB n (sizeB n - 1)).take i) * 64 ^ (sizeB n - 1 - i) + valT ((tailB n (sizeB n - 1)).drop i) := by
          have key : ∀ (a b : List Int), valT (a ++ b) = valT a * 64 ^ b.length + valT b := by
            intro a b
            induction a with
            | nil => simp [valT]
            | cons x a ih =>
              rw [List.cons_append, valT, ih, valT, List.length_append, Int.pow_add, Int.add_mul]
              rw [Int.mul_assoc (x % 64)]
              omega
          have := key ((tailB n (sizeB n - 1)).take i) ((tailB n (sizeB n - 1)).drop i)
          rw [List.take_append_drop, List.length_drop, tailB_length] at this
          exact this
        have e5 := (valT_range ((tailB n (sizeB n - 1)).drop i)).2
        rw [List.length_drop, tailB_length] at e5
        omega
      have h2 : lowB (sizeB n) ≤ n := hsz.1
      rw [if_neg (by omega), if_pos (by simp; omega)]

/-- What is read is a number whose bytes are just those that were read. -/
theorem put_get (b : List Int) (hb : ∀ x ∈ b, 0 ≤ x ∧ x ≤ 255) (n k : Int) (h : getS b = (n, k, 0)) : 0 ≤ n ∧ n ≤ 68719476735 ∧ k = ((putS n).length : Int) ∧ (putS n).length ≤ b.length ∧ b.take (putS n).length = putS n := by
  cases b with
  | nil => simp [getS] at h
  | cons b0 t =>
    have hb0 := hb b0 (by simp)
    by_cases hk0 : lead b0 = 0
    · have h128 : b0 < 128 := by
        unfold lead at hk0
        (repeat' split at hk0) <;> omega
      simp [getS, hk0] at h
      obtain ⟨rfl, rfl⟩ := h
      refine ⟨hb0.1, by omega, ?_, ?_, ?_⟩ <;> simp [putS, h128]
    · by_cases hk1 : lead b0 = 1 ∨ 7 < lead b0
      · simp [getS, hk0, hk1] at h
      · obtain ⟨e1, e2, e3⟩ := lead_back b0 hb0.1 hb0.2 (by omega) (by omega)
        generalize hk : lead b0 = k at *
        have hk2 : 2 ≤ k := by omega
        have hk7 : k ≤ 7 := by omega
        generalize hm : b0 % 2 ^ (7 - k) = m at *
        unfold getS at h
        simp only at h
        rw [hk, if_neg hk0, if_neg hk1, hm] at h
        split at h
        · simp at h
        · rename_i l g hl
          split at h
          · simp at h
          · rename_i hg
            split at h
            · simp at h
            · rename_i hlen
              simp only [Prod.mk.injEq, and_true] at h
              obtain ⟨rfl, rfl⟩ := h
              have hL := getL_some _ _ _ _ _ _ hl
              rw [List.drop_succ_cons, List.drop_zero] at hL
              have htl : (t.take (k - 1)).length = k - 1 := by simp at hlen ⊢; omega
              have hall := getL_all (b0 :: t) (k - 1) 1 m m (t.take (k - 1)) htl hL (fun j hj => by
                rw [Nat.add_comm 1 j, List.getElem?_cons_succ, List.getElem?_eq_getElem (by simp at hj; omega), List.getElem_take])
              rw [hl] at hall
              simp only [Option.some.injEq, Prod.mk.injEq] at hall
              obtain ⟨el, eg⟩ := hall
              have hv := valT_range (t.take (k - 1))
              rw [htl] at hv
              have hp : (0 : Int) < 64 ^ (k - 1) := Int.pow_pos (by omega)
              have hdiv : l / 64 ^ (k - 1) = m := by
                rw [el, Int.add_comm, Int.add_mul_ediv_right _ _ (Int.ne_of_gt hp), Int.ediv_eq_zero_of_lt hv.1 hv.2, Int.zero_add]
              have hmod : l % 64 ^ (k - 1) = valT (t.take (k - 1)) := by
                rw [el, Int.add_comm, Int.add_mul_emod_self_right, Int.emod_eq_of_lt hv.1 hv.2]
              have hlg : g = l := by rw [el, eg]
              have hl0 : 0 ≤ l := by
                rw [el]
                have := Int.mul_nonneg e2 (Int.le_of_lt hp)
                omega
              have hlt : l < 2 ^ (5 * k + 1) := by
                have h1 := Int.mul_ediv_add_emod l (64 ^ (k - 1))
                have hk' : k = 2 ∨ k = 3 ∨ k = 4 ∨ k = 5 ∨ k = 6 ∨ k = 7 := by omega
                rw [hdiv, hmod] at h1
                clear hl hL eg hg hlen htl hdiv hmod
                rcases hk' with rfl | rfl | rfl | rfl | rfl | rfl <;> simp at * <;> omega
              have hlast : l ≤ 68719476735 := by
                have h1 : (2 : Int) ^ (5 * k + 1) ≤ 2 ^ 36 := by exact_mod_cast Nat.pow_le_pow_right (show 0 < 2 by omega) (show 5 * k + 1 ≤ 36 by omega)
                omega
              have hlow : lowB k ≤ l := by omega
              have hsz : sizeB l = k := (sizeB_iff l k hl0 hlast hk2 hk7).2 ⟨hlow, hlt⟩
              have h128 : ¬ l < 128 := by
                intro h
                have : sizeB l = 1 := by unfold sizeB; rw [if_pos h]
                omega
              have hput : putS l = b0 :: t.take (k - 1) := by
                unfold putS
                rw [if_neg h128, hsz, hdiv, ← e1]
                congr 1
                have := tailB_of (t.take (k - 1)) hL l (by rw [htl]; exact hmod)
                rw [htl] at this
                exact this
              rw [hput]
              refine ⟨hl0, hlast, ?_, ?_, ?_⟩
              · simp at hlen ⊢; omega
              · simp at hlen ⊢; omega
              · rw [List.length_cons, htl, show k - 1 + 1 = (k - 1) + 1 from rfl, List.take_succ_cons]
theorem get_err (b : List Int) : (∃ n k, getS b = (n, k, 0)) ∨ getS b = (0, 0, 10) ∨ getS b = (0, 0, 2) := by
  unfold getS
  cases b with
  | nil => exact .inr (.inl rfl)
  | cons b0 t =>
    simp only
    split
    · exact .inl ⟨_, _, rfl⟩
    · split
      · exact .inr (.inr rfl)
      · split
        · exact .inr (.inr rfl)
        · split
          · exact .inr (.inr rfl)
          · split
            · exact .inr (.inl rfl)
            · exact .inl ⟨_, _, rfl⟩
end Go.Proofs.Ytjgljjpgknjihaa
