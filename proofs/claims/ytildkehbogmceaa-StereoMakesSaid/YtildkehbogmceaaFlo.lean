/-
  Whole numbers as float64: the operations that stay exact.
-/
import Derived.Laws.FloatArith
import Derived.Laws.ComplexArith
set_option linter.unusedVariables false
set_option linter.unusedSimpArgs false
namespace Go.Proofs.Ytildkehbogmceaa
open Ieee

theorem log2_mul_pow (m K : Nat) (hm : 0 < m) : (m * 2 ^ K).log2 = m.log2 + K := by
  have h0 : m * 2 ^ K ≠ 0 := Nat.ne_of_gt (Nat.mul_pos hm (Nat.two_pow_pos K))
  have h1 : 2 ^ m.log2 ≤ m := (Nat.le_log2 (by omega)).1 (Nat.le_refl _)
  have h2 : m < 2 ^ (m.log2 + 1) := (Nat.log2_lt (by omega)).1 (Nat.lt_succ_self _)
  apply Nat.le_antisymm
  · apply Nat.le_of_lt_succ
    refine (Nat.log2_lt h0).2 ?_
    rw [show (m.log2 + K).succ = (m.log2 + 1) + K by omega, Nat.pow_add]
    exact Nat.mul_lt_mul_of_pos_right h2 (Nat.two_pow_pos K)
  · refine (Nat.le_log2 h0).2 ?_
    rw [Nat.pow_add]
    exact Nat.mul_le_mul_right _ h1
theorem log2_range (m : Nat) (hm : 0 < m) : 2 ^ m.log2 ≤ m ∧ m < 2 ^ (m.log2 + 1) := ⟨(Nat.le_log2 (by omega)).1 (Nat.le_refl _), (Nat.log2_lt (by omega)).1 (Nat.lt_succ_self _)⟩
theorem log2_le52 (m : Nat) (hm : 0 < m) (h : m < 2 ^ 53) : m.log2 ≤ 52 := by
  have := (Nat.log2_lt (n := m) (k := 53) (by omega)).2 h
  omega
theorem gap_eq (m d : Nat) (hm : 0 < m) : 1 <<< min d ((m * 2 ^ d).log2 + 2) = 2 ^ d := by
  rw [log2_mul_pow m d hm, Nat.min_eq_left (by omega), Nat.one_shiftLeft]
theorem cut_exact (way : Toward) (neg : Bool) (m d : Nat) (hm : 0 < m) : way.cut neg (m * 2 ^ d) d = m := by
  have hp := Nat.two_pow_pos d
  unfold Toward.cut
  simp only [gap_eq m d hm, Nat.mul_div_cancel m hp, Nat.mul_mod_left]
  cases way <;> simp
/-- A magnitude below 2^53, at some place, spread by a power of two. -/
theorem nearest_eq (neg : Bool) (m K : Nat) (p : Int) (hm : 0 < m) (hm2 : m < 2 ^ 53) (hp : -1000 ≤ p ∧ p ≤ 900) :
    double.nearest neg (m * 2 ^ K) (p - K) = double.word neg ((p + m.log2 + 1022).toNat * 2 ^ 52 + m * 2 ^ (52 - m.log2)) := by
  have hlg := log2_le52 m hm hm2
  obtain ⟨h1, h2⟩ := log2_range m hm
  have h0 : m * 2 ^ K ≠ 0 := Nat.ne_of_gt (Nat.mul_pos hm (Nat.two_pow_pos K))
  have hlp : double.leastPlace = -1074 := by decide
  have hfb : double.fractionBits = 52 := rfl
  have hbi : double.binade = 2 ^ 52 := rfl
  have hir : double.infRung = 2047 * 2 ^ 52 := by decide
  unfold Format.nearest
  rw [if_neg h0]
  simp only [log2_mul_pow m K hm, hlp, hfb, hbi, hir]
  have hlast : max (p - (K : Int) + ((m.log2 + K : Nat) : Int) - ((52 : Nat) : Int)) (-1074) = p + m.log2 - 52 := by omega
  rw [hlast]
  have hkept : Toward.even.cut neg ((m * 2 ^ K) <<< (p - (K : Int) - (p + (m.log2 : Int) - 52)).toNat) (p + (m.log2 : Int) - 52 - (p - (K : Int))).toNat = m * 2 ^ (52 - m.log2) := by
    by_cases hk : K ≤ 52 - m.log2
    · have e1 : (p - (K : Int) - (p + (m.log2 : Int) - 52)).toNat = 52 - m.log2 - K := by omega
      have e2 : (p + (m.log2 : Int) - 52 - (p - (K : Int))).toNat = 0 := by omega
      rw [e1, e2, Nat.shiftLeft_eq, Nat.mul_assoc, ← Nat.pow_add, show K + (52 - m.log2 - K) = 52 - m.log2 by omega]
      have := cut_exact .even neg (m * 2 ^ (52 - m.log2)) 0 (Nat.mul_pos hm (Nat.two_pow_pos _))
      rwa [Nat.pow_zero, Nat.mul_one] at this
    · have e1 : (p - (K : Int) - (p + (m.log2 : Int) - 52)).toNat = 0 := by omega
      have e2 : (p + (m.log2 : Int) - 52 - (p - (K : Int))).toNat = K - (52 - m.log2) := by omega
      rw [e1, e2, Nat.shiftLeft_eq, Nat.pow_zero, Nat.mul_one]
      have := cut_exact .even neg (m * 2 ^ (52 - m.log2)) (K - (52 - m.log2)) (Nat.mul_pos hm (Nat.two_pow_pos _))
      rw [Nat.mul_assoc, ← Nat.pow_add, show 52 - m.log2 + (K - (52 - m.log2)) = K by omega] at this
      exact this
  rw [hkept]
  have hrung : (p + (m.log2 : Int) - 52 - -1074).toNat = (p + m.log2 + 1022).toNat := by omega
  rw [hrung]
  have hle : m * 2 ^ (52 - m.log2) < 2 ^ 53 := by
    have : m * 2 ^ (52 - m.log2) < 2 ^ (m.log2 + 1) * 2 ^ (52 - m.log2) := Nat.mul_lt_mul_of_pos_right h2 (Nat.two_pow_pos _)
    rw [← Nat.pow_add, show m.log2 + 1 + (52 - m.log2) = 53 by omega] at this
    exact this
  rw [Nat.min_eq_left]
  omega
theorem kept_range (m : Nat) (hm : 0 < m) (hm2 : m < 2 ^ 53) : 2 ^ 52 ≤ m * 2 ^ (52 - m.log2) ∧ m * 2 ^ (52 - m.log2) < 2 ^ 53 := by
  have hlg := log2_le52 m hm hm2
  obtain ⟨h1, h2⟩ := log2_range m hm
  constructor
  · have : 2 ^ m.log2 * 2 ^ (52 - m.log2) ≤ m * 2 ^ (52 - m.log2) := Nat.mul_le_mul_right _ h1
    rwa [← Nat.pow_add, show m.log2 + (52 - m.log2) = 52 by omega] at this
  · have : m * 2 ^ (52 - m.log2) < 2 ^ (m.log2 + 1) * 2 ^ (52 - m.log2) := Nat.mul_lt_mul_of_pos_right h2 (Nat.two_pow_pos _)
    rwa [← Nat.pow_add, show m.log2 + 1 + (52 - m.log2) = 53 by omega] at this
theorem read_eq (neg : Bool) (m : Nat) (p : Int) (hm : 0 < m) (hm2 : m < 2 ^ 53) (hp : -1000 ≤ p ∧ p ≤ 900) :
    double.read (double.word neg ((p + m.log2 + 1022).toNat * 2 ^ 52 + m * 2 ^ (52 - m.log2))) = .number neg (m * 2 ^ (52 - m.log2)) (p - ((52 - m.log2 : Nat) : Int)) := by
  have hlg := log2_le52 m hm hm2
  obtain ⟨h1, h2⟩ := kept_range m hm hm2
  have hlp : double.leastPlace = -1074 := by decide
  have hbi : double.binade = 4503599627370496 := by decide
  have hir : double.infRung = 2047 * 4503599627370496 := by decide
  have hsw : double.signWeight = 9223372036854775808 := by decide
  obtain ⟨E, hE⟩ : ∃ E : Nat, (p + m.log2 + 1022).toNat = E := ⟨_, rfl⟩
  obtain ⟨Q, hQ⟩ : ∃ Q, m * 2 ^ (52 - m.log2) = Q := ⟨_, rfl⟩
  rw [hE, hQ]
  rw [hQ] at h1 h2
  have hpl : p - ((52 - m.log2 : Nat) : Int) = -1074 + (E : Int) := by omega
  rw [hpl]
  have hE2 : E ≤ 1974 := by omega
  have hp2 : (2 : Nat) ^ 52 = 4503599627370496 := by decide
  have hp3 : (2 : Nat) ^ 53 = 9007199254740992 := by decide
  rw [hp2] at h1 ⊢
  rw [hp3] at h2
  obtain ⟨Rg, hRg⟩ : ∃ Rg, E * 4503599627370496 + Q = Rg := ⟨_, rfl⟩
  have hQ9 : 4503599627370496 + (Q - 4503599627370496) = Q := by omega
  have hR1 : Rg < 9223372036854775808 := by omega
  have hR2 : ¬ Rg < 4503599627370496 := by omega
  have hR3 : Rg < 2047 * 4503599627370496 := by omega
  have hR4 : Rg % 4503599627370496 = Q - 4503599627370496 := by omega
  have hR5 : Rg / 4503599627370496 = E + 1 := by omega
  rw [hRg]
  unfold Format.read Format.word
  simp only [hlp, hbi, hir, hsw]
  cases neg
  · have e1 : Rg / 9223372036854775808 = 0 := Nat.div_eq_of_lt hR1
    have e2 : Rg % 9223372036854775808 = Rg := Nat.mod_eq_of_lt hR1
    simp only [Bool.false_eq_true, if_false, e1, e2, if_neg hR2, if_pos hR3, hR4, hR5]
    rw [hQ9, Nat.add_sub_cancel]
    rfl
  · have e1 : (9223372036854775808 + Rg) / 9223372036854775808 = 1 := by omega
    have e2 : (9223372036854775808 + Rg) % 9223372036854775808 = Rg := by omega
    simp only [if_true, e1, e2, if_neg hR2, if_pos hR3, hR4, hR5]
    rw [hQ9, Nat.add_sub_cancel]
    rfl

/-- The whole number n as a float64's bits. -/
def FI (n : Int) : Nat := double.nearest (decide (n < 0)) n.natAbs 0
theorem FI_of (n : Int) : floatOfInt .f64 n = FI n := rfl
theorem FI_zero : FI 0 = 0 := by decide
/-- The datum stands for n. -/
def Rep (d : Datum) (n : Int) : Prop := ∃ k : Nat, d = .number (decide (n < 0)) (n.natAbs * 2 ^ k) (-(k : Int))
theorem FI_word (n : Int) (h0 : n ≠ 0) (h : n.natAbs < 2 ^ 53) : FI n = double.word (decide (n < 0)) (((0 : Int) + n.natAbs.log2 + 1022).toNat * 2 ^ 52 + n.natAbs * 2 ^ (52 - n.natAbs.log2)) := by
  have := nearest_eq (decide (n < 0)) n.natAbs 0 0 (by omega) h (by omega)
  rw [Nat.pow_zero, Nat.mul_one] at this
  exact this
theorem read_FI (n : Int) (h : n.natAbs < 2 ^ 53) : Rep (double.read (FI n)) n := by
  by_cases h0 : n = 0
  · subst h0
    obtain ⟨k, hk⟩ : ∃ k : Nat, k = 1074 := ⟨_, rfl⟩
    refine ⟨k, ?_⟩
    rw [FI_zero, Int.natAbs_zero, Nat.zero_mul, hk]
    rfl
  · rw [FI_word n h0 h, read_eq _ _ _ (by omega) h (by omega)]
    exact ⟨52 - n.natAbs.log2, by rw [Int.zero_sub]⟩
theorem write_rep (n : Int) (k : Nat) (h : n.natAbs < 2 ^ 53) : double.write (.number (decide (n < 0)) (n.natAbs * 2 ^ k) (-(k : Int))) = FI n := by
  show double.nearest _ _ _ = _
  by_cases h0 : n = 0
  · subst h0
    simp [Format.nearest, FI]
  · have := nearest_eq (decide (n < 0)) n.natAbs k 0 (by omega) h (by omega)
    rw [Int.zero_sub] at this
    rw [this, FI_word n h0 h]
theorem signed_rep (n : Int) (m u : Nat) : signed (decide (n < 0)) (n.natAbs * m) u = n * (m : Int) * 2 ^ u := by
  unfold signed
  rw [Nat.shiftLeft_eq]
  by_cases h : n < 0
  · rw [decide_eq_true h, if_pos rfl]
    have : (n.natAbs : Int) = -n := by omega
    push_cast
    rw [this, Int.neg_mul, Int.neg_mul, Int.neg_neg]
  · rw [decide_eq_false h, if_neg (by simp)]
    have : (n.natAbs : Int) = n := by omega
    push_cast
    rw [this]
theorem natAbs_mul_pow (n : Int) (K : Nat) : (n * 2 ^ K).natAbs = n.natAbs * 2 ^ K := by
  rw [Int.natAbs_mul, Int.natAbs_pow]
  rfl
theorem mul_pow_neg (n : Int) (K : Nat) : (n * 2 ^ K < 0) ↔ n < 0 := by
  have hp : (0 : Int) < 2 ^ K := Int.pow_pos (by omega)
  constructor
  · intro h
    rcases Int.lt_or_le n 0 with h1 | h1
    · exact h1
    · have := Int.mul_nonneg h1 (Int.le_of_lt hp)
      omega
  · intro h
    exact Int.mul_neg_of_neg_of_pos h hp
theorem mul_pow_zero (n : Int) (K : Nat) : (n * 2 ^ K = 0) ↔ n = 0 := by
  have hp : (0 : Int) < 2 ^ K := Int.pow_pos (by omega)
  constructor
  · intro h
    rcases Int.mul_eq_zero.1 h with h1 | h1
    · exact h1
    · omega
  · intro h
    rw [h, Int.zero_mul]
/-- The sum of two data. -/
theorem sum_rep {d e : Datum} {a b : Int} (hd : Rep d a) (he : Rep e b) : ∃ f, d.sum e = some f ∧ Rep f (a + b) := by
  obtain ⟨k1, rfl⟩ := hd
  obtain ⟨k2, rfl⟩ := he
  obtain ⟨K, hK⟩ : ∃ K, max k1 k2 = K := ⟨_, rfl⟩
  have hb : min (-(k1 : Int)) (-(k2 : Int)) = -(K : Int) := by omega
  have e1 : (-(k1 : Int) - -(K : Int)).toNat = K - k1 := by omega
  have e2 : (-(k2 : Int) - -(K : Int)).toNat = K - k2 := by omega
  have hpw : ∀ k u : Nat, ((2 ^ k : Nat) : Int) * 2 ^ u = 2 ^ (k + u) := by
    intro k u
    push_cast
    rw [Int.pow_add]
  have htot : signed (decide (a < 0)) (a.natAbs * 2 ^ k1) (K - k1) + signed (decide (b < 0)) (b.natAbs * 2 ^ k2) (K - k2) = (a + b) * 2 ^ K := by
    rw [signed_rep, signed_rep, Int.mul_assoc, Int.mul_assoc, hpw, hpw, show k1 + (K - k1) = K by omega, show k2 + (K - k2) = K by omega, ← Int.add_mul]
  refine ⟨_, rfl, K, ?_⟩
  simp only [hb, e1, e2, htot]
  congr 1
  · by_cases h0 : a + b = 0
    · rw [if_pos ((mul_pow_zero (a + b) K).2 h0), h0]
      by_cases ha : a < 0
      · have : ¬ b < 0 := by omega
        simp [this]
      · simp [ha]
    · rw [if_neg (fun h => h0 ((mul_pow_zero (a + b) K).1 h))]
      exact decide_eq_decide.2 (mul_pow_neg (a + b) K)
  · exact natAbs_mul_pow _ _
theorem add_FI (a b : Int) (ha : a.natAbs < 2 ^ 53) (hb : b.natAbs < 2 ^ 53) (hs : (a + b).natAbs < 2 ^ 53) : double.add (FI a) (FI b) = some (FI (a + b)) := by
  obtain ⟨f, h1, k, rfl⟩ := sum_rep (read_FI a ha) (read_FI b hb)
  unfold Format.add
  rw [h1, Option.map_some, write_rep _ _ hs]

theorem sub_FI (a b : Int) (ha : a.natAbs < 2 ^ 53) (hb : b.natAbs < 2 ^ 53) (hs : (a - b).natAbs < 2 ^ 53) : double.sub (FI a) (FI b) = some (FI (a - b)) := by
  obtain ⟨k1, h1⟩ := read_FI a ha
  obtain ⟨k2, h2⟩ := read_FI b hb
  unfold Format.sub
  rw [h1, h2]
  obtain ⟨K, hK⟩ : ∃ K, max k1 k2 = K := ⟨_, rfl⟩
  have hbb : min (-(k1 : Int)) (-(k2 : Int)) = -(K : Int) := by omega
  have e1 : (-(k1 : Int) - -(K : Int)).toNat = K - k1 := by omega
  have e2 : (-(k2 : Int) - -(K : Int)).toNat = K - k2 := by omega
  have hpw : ∀ k u : Nat, ((2 ^ k : Nat) : Int) * 2 ^ u = 2 ^ (k + u) := by
    intro k u
    push_cast
    rw [Int.pow_add]
  have hneg : signed (!decide (b < 0)) (b.natAbs * 2 ^ k2) (K - k2) = -signed (decide (b < 0)) (b.natAbs * 2 ^ k2) (K - k2) := by
    unfold signed
    cases decide (b < 0) <;> simp
  have htot : signed (decide (a < 0)) (a.natAbs * 2 ^ k1) (K - k1) + signed (!decide (b < 0)) (b.natAbs * 2 ^ k2) (K - k2) = (a - b) * 2 ^ K := by
    rw [hneg, signed_rep, signed_rep, Int.mul_assoc, Int.mul_assoc, hpw, hpw, show k1 + (K - k1) = K by omega, show k2 + (K - k2) = K by omega, ← Int.sub_eq_add_neg, ← Int.sub_mul]
  have hw := write_rep (a - b) K hs
  rw [← hw]
  simp only [Datum.opposite, Datum.sum, hbb, e1, e2, htot, Option.map_some]
  congr 3
  · by_cases h0 : a - b = 0
    · rw [if_pos ((mul_pow_zero (a - b) K).2 h0), h0]
      have hab : a = b := by omega
      rw [hab]
      cases decide (b < 0) <;> rfl
    · rw [if_neg (fun h => h0 ((mul_pow_zero (a - b) K).1 h))]
      exact decide_eq_decide.2 (mul_pow_neg (a - b) K)
  · exact natAbs_mul_pow _ _
theorem mul_FI (a b : Int) (ha : a.natAbs < 2 ^ 53) (hb : b.natAbs < 2 ^ 53) (hs : (a * b).natAbs < 2 ^ 53) (h1 : a = 0 → 0 ≤ b) (h2 : b = 0 → 0 ≤ a) : double.mul (FI a) (FI b) = some (FI (a * b)) := by
  obtain ⟨k1, e1⟩ := read_FI a ha
  obtain ⟨k2, e2⟩ := read_FI b hb
  unfold Format.mul
  rw [e1, e2]
  have hw := write_rep (a * b) (k1 + k2) hs
  rw [← hw]
  simp only [Datum.product, Option.map_some]
  congr 3
  · by_cases ha0 : a = 0
    · have hb0 := h1 ha0
      subst ha0
      simp [hb0]
    · by_cases hb0 : b = 0
      · have ha1 := h2 hb0
        subst hb0
        simp [ha1]
      · rcases Int.lt_or_gt_of_ne ha0 with p | p
        · rcases Int.lt_or_gt_of_ne hb0 with q | q
          · have := Int.mul_pos_of_neg_of_neg p q
            simp [p, q, show ¬ a * b < 0 by omega]
          · have := Int.mul_neg_of_neg_of_pos p q
            simp [p, show ¬ b < 0 by omega, this]
        · rcases Int.lt_or_gt_of_ne hb0 with q | q
          · have := Int.mul_neg_of_pos_of_neg p q
            simp [q, show ¬ a < 0 by omega, this]
          · have := Int.mul_pos p q
            simp [show ¬ a < 0 by omega, show ¬ b < 0 by omega, show ¬ a * b < 0 by omega]
  · rw [Int.natAbs_mul, Nat.pow_add]
    ac_rfl
  · omega
theorem toInt_FI (n : Int) (h : n.natAbs < 2 ^ 53) : (double.read (FI n)).toInt .zero = some n := by
  obtain ⟨k, e⟩ := read_FI n h
  rw [e]
  by_cases h0 : n = 0
  · subst h0
    have : ∀ k : Nat, (Toward.zero.cut false (((0 : Int).natAbs * 2 ^ k) <<< (-(k : Int)).toNat) (-(-(k : Int))).toNat) = 0 := by
      intro k
      rw [Int.natAbs_zero, Nat.zero_mul, Nat.zero_shiftLeft]
      unfold Toward.cut
      simp
    simp only [Datum.toInt, Datum.integral]
    have h2 := this k
    have hd : decide ((0 : Int) < 0) = false := rfl
    rw [hd, h2]
    rfl
  · have e1 : (-(k : Int)).toNat = 0 := by omega
    have e2 : (-(-(k : Int))).toNat = k := by omega
    simp only [Datum.toInt, Datum.integral, e1, e2, Nat.shiftLeft_zero]
    rw [cut_exact _ _ _ _ (by omega)]
    have := signed_rep n 1 0
    rw [Nat.mul_one] at this
    rw [this]
    simp
theorem int_FI (n : Int) (h : n.natAbs < 2 ^ 53) : floatToIntVal .f64 (FI n) .i64 = some n := by
  unfold floatToIntVal
  have : (FloatKind.f64.decode (FI n)).toInt .zero = some n := toInt_FI n h
  rw [this]
  have h1 : IntKind.i64.min = -9223372036854775808 := by decide
  have h2 : IntKind.i64.max = 9223372036854775807 := by decide
  simp only [h1, h2]
  rw [if_pos]
  have hp : (2 : Nat) ^ 53 = 9007199254740992 := by decide
  omega
theorem trunc_FI (n : Int) (h : n.natAbs < 2 ^ 53) : double.write ((double.read (FI n)).integral .zero) = FI n := by
  obtain ⟨k, e⟩ := read_FI n h
  rw [e]
  by_cases h0 : n = 0
  · subst h0
    have hc : (Toward.zero.cut (decide ((0 : Int) < 0)) (((0 : Int).natAbs * 2 ^ k) <<< (-(k : Int)).toNat) (-(-(k : Int))).toNat) = 0 := by
      rw [Int.natAbs_zero, Nat.zero_mul, Nat.zero_shiftLeft]
      unfold Toward.cut
      simp
    simp only [Datum.integral, hc]
    rfl
  · have e1 : (-(k : Int)).toNat = 0 := by omega
    have e2 : (-(-(k : Int))).toNat = k := by omega
    simp only [Datum.integral, e1, e2, Nat.shiftLeft_zero]
    rw [cut_exact _ _ _ _ (by omega)]
    rfl
theorem order_FI (a b : Int) (ha : a.natAbs < 2 ^ 53) (hb : b.natAbs < 2 ^ 53) : double.order (FI a) (FI b) = some (compare a b) := by
  obtain ⟨k1, h1⟩ := read_FI a ha
  obtain ⟨k2, h2⟩ := read_FI b hb
  unfold Format.order
  rw [h1, h2]
  obtain ⟨K, hK⟩ : ∃ K, max k1 k2 = K := ⟨_, rfl⟩
  have hbb : min (-(k1 : Int)) (-(k2 : Int)) = -(K : Int) := by omega
  have e1 : (-(k1 : Int) - -(K : Int)).toNat = K - k1 := by omega
  have e2 : (-(k2 : Int) - -(K : Int)).toNat = K - k2 := by omega
  have hpw : ∀ k u : Nat, ((2 ^ k : Nat) : Int) * 2 ^ u = 2 ^ (k + u) := by
    intro k u
    push_cast
    rw [Int.pow_add]
  simp only [Datum.order, hbb, e1, e2]
  rw [signed_rep, signed_rep, Int.mul_assoc, Int.mul_assoc, hpw, hpw, show k1 + (K - k1) = K by omega, show k2 + (K - k2) = K by omega]
  congr 1
  have hp : (0 : Int) < 2 ^ K := Int.pow_pos (by omega)
  rcases Int.lt_trichotomy a b with h | h | h
  · have h3 : a * 2 ^ K < b * 2 ^ K := Int.mul_lt_mul_of_pos_right h hp
    rw [Int.compare_eq_lt.2 h, Int.compare_eq_lt.2 h3]
  · rw [h, Int.compare_eq_eq.2 rfl, Int.compare_eq_eq.2 rfl]
  · have h3 : b * 2 ^ K < a * 2 ^ K := Int.mul_lt_mul_of_pos_right h hp
    rw [Int.compare_eq_gt.2 h, Int.compare_eq_gt.2 h3]
theorem eq_FI (a b : Int) (ha : a.natAbs < 2 ^ 53) (hb : b.natAbs < 2 ^ 53) : (FloatKind.f64.format.order (FI a) (FI b) == some Ordering.eq) = decide (a = b) := by
  have : FloatKind.f64.format.order (FI a) (FI b) = some (compare a b) := order_FI a b ha hb
  rw [this]
  rcases Int.lt_trichotomy a b with h | h | h
  · rw [Int.compare_eq_lt.2 h, decide_eq_false (by omega)]; rfl
  · rw [Int.compare_eq_eq.2 h, decide_eq_true h]; rfl
  · rw [Int.compare_eq_gt.2 h, decide_eq_false (by omega)]; rfl
theorem gt_FI (a b : Int) (ha : a.natAbs < 2 ^ 53) (hb : b.natAbs < 2 ^ 53) : (FloatKind.f64.format.order (FI a) (FI b) == some Ordering.gt) = decide (b < a) := by
  have : FloatKind.f64.format.order (FI a) (FI b) = some (compare a b) := order_FI a b ha hb
  rw [this]
  rcases Int.lt_trichotomy a b with h | h | h
  · rw [Int.compare_eq_lt.2 h, decide_eq_false (by omega)]; rfl
  · rw [Int.compare_eq_eq.2 h, decide_eq_false (by omega)]; rfl
  · rw [Int.compare_eq_gt.2 h, decide_eq_true (by omega)]; rfl

/-- Half of s, as a float64's bits. -/
def HI (s : Int) : Nat := double.nearest (decide (s < 0)) s.natAbs (-1)
theorem read_two : double.read (FI 2) = .number false 4503599627370496 (-51) := by decide
theorem half_FI (s : Int) (h : s.natAbs < 2 ^ 53) : double.div (FI s) (FI 2) = some (HI s) := by
  unfold Format.div
  rw [read_two]
  by_cases h0 : s = 0
  · subst h0
    rw [FI_zero]
    decide
  · rw [FI_word s h0 h, read_eq _ _ _ (by omega) h (by omega)]
    obtain ⟨q1, q2⟩ := kept_range s.natAbs (by omega) h
    obtain ⟨M, hM⟩ : ∃ M, s.natAbs * 2 ^ (52 - s.natAbs.log2) = M := ⟨_, rfl⟩
    obtain ⟨k, hk⟩ : ∃ k, 52 - s.natAbs.log2 = k := ⟨_, rfl⟩
    rw [hM] at q1 q2 ⊢
    have hMl : M.log2 = 52 := by
      apply Nat.le_antisymm
      · exact Nat.le_of_lt_succ ((Nat.log2_lt (by have := Nat.two_pow_pos 52; omega)).2 q2)
      · exact (Nat.le_log2 (by have := Nat.two_pow_pos 52; omega)).2 q1
    have h2l : (4503599627370496 : Nat).log2 = 52 := by decide
    have hfb : double.fractionBits + 2 = 54 := rfl
    simp only [Datum.quotient, hfb, hMl, h2l]
    rw [if_neg (by decide)]
    have hd : M <<< (54 + 52 - 52) = M * 4 * 4503599627370496 := by
      rw [Nat.shiftLeft_eq, Nat.mul_assoc]
    rw [hd, Nat.mul_div_cancel _ (by decide), Nat.mul_mod_left]
    have hn := nearest_eq (decide (s < 0)) s.natAbs (k + 3) (-1) (by omega) h (by omega)
    have hn0 := nearest_eq (decide (s < 0)) s.natAbs 0 (-1) (by omega) h (by omega)
    rw [Nat.pow_zero, Nat.mul_one] at hn0
    show Option.map double.write _ = _
    rw [Option.map_some]
    refine congrArg some ?_
    show double.nearest _ _ _ = _
    unfold HI
    have hx : double.nearest (decide (s < 0)) s.natAbs (-1) = double.nearest (decide (s < 0)) (s.natAbs * 2 ^ (k + 3)) (-1 - ((k + 3 : Nat) : Int)) := by
      rw [hn, ← hn0]
      rfl
    rw [hx]
    have hm8 : 2 * (M * 4) + ((0 : Nat) != 0).toNat = s.natAbs * 2 ^ (k + 3) := by
      rw [← hM, hk, Nat.pow_add]
      show 2 * (s.natAbs * 2 ^ k * 4) + 0 = _
      rw [show (2 : Nat) ^ 3 = 8 from rfl, show s.natAbs * (2 ^ k * 8) = s.natAbs * 2 ^ k * 8 from (Nat.mul_assoc _ _ _).symm]
      generalize s.natAbs * 2 ^ k = y
      omega
    rw [hm8]
    have hsg : (decide (s < 0) ^^ false) = decide (s < 0) := by cases decide (s < 0) <;> rfl
    rw [hsg]
    refine congrArg (fun q => double.nearest (decide (s < 0)) (s.natAbs * 2 ^ (k + 3)) q) ?_
    rw [hk]
    omega
theorem floor_HI (s : Int) (h : s.natAbs < 2 ^ 52) : double.write ((double.read (HI s)).integral .down) = FI (s / 2) := by
  have h53 : s.natAbs < 2 ^ 53 := Nat.lt_trans h (by decide)
  by_cases h0 : s = 0
  · subst h0
    decide
  · have hw : HI s = double.word (decide (s < 0)) (((-1 : Int) + s.natAbs.log2 + 1022).toNat * 2 ^ 52 + s.natAbs * 2 ^ (52 - s.natAbs.log2)) := by
      have := nearest_eq (decide (s < 0)) s.natAbs 0 (-1) (by omega) h53 (by omega)
      rw [Nat.pow_zero, Nat.mul_one] at this
      exact this
    rw [hw, read_eq _ _ _ (by omega) h53 (by omega)]
    obtain ⟨k, hk⟩ : ∃ k, 52 - s.natAbs.log2 = k := ⟨_, rfl⟩
    rw [hk]
    have e1 : (-1 - (k : Int)).toNat = 0 := by omega
    have e2 : (-(-1 - (k : Int))).toNat = k + 1 := by omega
    simp only [Datum.integral, e1, e2, Nat.shiftLeft_zero]
    have hp := Nat.two_pow_pos k
    have hcut : Toward.down.cut (decide (s < 0)) (s.natAbs * 2 ^ k) (k + 1) = (s / 2).natAbs := by
      unfold Toward.cut
      have hgap : 1 <<< min (k + 1) ((s.natAbs * 2 ^ k).log2 + 2) = 2 * 2 ^ k := by
        rw [log2_mul_pow _ _ (by omega), Nat.min_eq_left (by omega), Nat.one_shiftLeft, Nat.pow_succ, Nat.mul_comm]
      have hlow : s.natAbs * 2 ^ k / (2 * 2 ^ k) = s.natAbs / 2 := Nat.mul_div_mul_right _ _ hp
      have hrest : s.natAbs * 2 ^ k % (2 * 2 ^ k) = s.natAbs % 2 * 2 ^ k := Nat.mul_mod_mul_right _ _ _
      simp only [hgap, hlow, hrest]
      by_cases hs : s < 0
      · rw [decide_eq_true hs]
        rcases Nat.mod_two_eq_zero_or_one s.natAbs with hm | hm
        · rw [hm, Nat.zero_mul]
          simp
          omega
        · rw [hm, Nat.one_mul]
          have : (2 ^ k != 0) = true := by simp
          simp [this]
          omega
      · rw [decide_eq_false hs]
        simp
        omega
    rw [hcut]
    have hsg : decide (s < 0) = decide (s / 2 < 0) := decide_eq_decide.2 (by omega)
    rw [hsg]
    rfl
theorem word_lt63 (n : Int) (h : n.natAbs < 2 ^ 53) : ∃ r : Nat, r < 9223372036854775808 ∧ FI n = (if n < 0 then 9223372036854775808 + r else r) ∧ FI n.natAbs = r := by
  by_cases h0 : n = 0
  · subst h0
    exact ⟨0, by omega, by rw [FI_zero]; rfl, FI_zero⟩
  · have hsw : double.signWeight = 9223372036854775808 := by decide
    have h1 := FI_word n h0 h
    have h2 := FI_word (n.natAbs : Int) (by omega) (by simpa using h)
    obtain ⟨q1, q2⟩ := kept_range n.natAbs (by omega) h
    have hlg := log2_le52 n.natAbs (by omega) h
    have hp2 : (2 : Nat) ^ 52 = 4503599627370496 := by decide
    have hp3 : (2 : Nat) ^ 53 = 9007199254740992 := by decide
    obtain ⟨r, hr⟩ : ∃ r, ((0 : Int) + n.natAbs.log2 + 1022).toNat * 2 ^ 52 + n.natAbs * 2 ^ (52 - n.natAbs.log2) = r := ⟨_, rfl⟩
    have hrl : r < 9223372036854775808 := by rw [← hr, hp2]; omega
    refine ⟨r, hrl, ?_, ?_⟩
    · rw [h1, hr]
      unfold Format.word
      rw [hsw]
      by_cases hn : n < 0
      · rw [decide_eq_true hn, if_pos rfl, if_pos hn]
      · rw [decide_eq_false hn, if_neg (by simp), if_neg hn]
    · rw [h2, Int.natAbs_natCast, hr]
      unfold Format.word
      rw [decide_eq_false (by omega), if_neg (by simp)]
theorem max_FI (a : Int) (ha : a.natAbs < 2 ^ 53) : (FloatKind.f64.format.order (FI a) 9218868437227405311 == some Ordering.gt) = false := by
  obtain ⟨k, h1⟩ := read_FI a ha
  obtain ⟨z, hz⟩ : ∃ z : Nat, z = 971 := ⟨_, rfl⟩
  have h2 : double.read 9218868437227405311 = .number false 9007199254740991 (z : Int) := by rw [hz]; decide
  have : FloatKind.f64.format.order (FI a) 9218868437227405311 = (double.read (FI a)).order (double.read 9218868437227405311) := rfl
  rw [this, h1, h2]
  have hbb : min (-(k : Int)) (z : Int) = -(k : Int) := by omega
  have e1 : (-(k : Int) - -(k : Int)).toNat = 0 := by omega
  have e2 : ((z : Int) - -(k : Int)).toNat = z + k := by omega
  simp only [Datum.order, hbb, e1, e2]
  rw [signed_rep]
  have hs : signed false 9007199254740991 (z + k) = 9007199254740991 * 2 ^ (z + k) := by
    unfold signed
    rw [if_neg (by simp), Nat.shiftLeft_eq, Int.natCast_mul, Int.natCast_pow]
    rfl
  rw [hs]
  have hlt : a * ((2 ^ k : Nat) : Int) * 2 ^ 0 < 9007199254740991 * 2 ^ (z + k) := by
    have hp : (0 : Int) < 2 ^ k := Int.pow_pos (by omega)
    have hp2 : (2 : Int) ≤ 2 ^ z := by
      obtain ⟨y, hy⟩ : ∃ y, z = y + 1 := ⟨970, hz⟩
      rw [hy, Int.pow_succ]
      have h3 : (0 : Int) < 2 ^ y := Int.pow_pos (by omega)
      omega
    have hp3 : (2 : Nat) ^ 53 = 9007199254740992 := by decide
    have ha2 : a < 9007199254740991 * 2 := by omega
    have h4 : (9007199254740991 : Int) * 2 ≤ 9007199254740991 * 2 ^ z := Int.mul_le_mul_of_nonneg_left hp2 (by omega)
    rw [Int.pow_zero, Int.mul_one, Int.pow_add, ← Int.mul_assoc]
    rw [Int.natCast_pow]
    exact Int.mul_lt_mul_of_pos_right (by omega) hp
  rw [Int.compare_eq_lt.2 hlt]
  rfl
end Go.Proofs.Ytildkehbogmceaa
