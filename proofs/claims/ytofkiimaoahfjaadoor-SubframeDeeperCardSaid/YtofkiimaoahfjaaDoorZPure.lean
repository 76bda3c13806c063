/-
  Plain Lean, with no program in sight: lists of bits, the highest first; the number that they are; the bytes that hold them; the digits as a text.
-/
set_option maxRecDepth 100000
set_option linter.unusedVariables false
set_option linter.unusedSimpArgs false
namespace Go.Proofs.YtofkiimaoahfjaaDoor.Pure

/-- The k lowest bits of n, the highest first. -/
def bitsN : Nat → Nat → List Bool
  | 0, _ => []
  | k + 1, n => bitsN k (n / 2) ++ [n % 2 == 1]

/-- The number that bits are. -/
def val (l : List Bool) : Nat := l.foldl (fun a b => 2 * a + (if b then 1 else 0)) 0

theorem bitsN_length (k : Nat) : ∀ n, (bitsN k n).length = k := by
  induction k with
  | zero => intro n; rfl
  | succ k ih => intro n; simp [bitsN, ih]

theorem val_snoc (l : List Bool) (b : Bool) : val (l ++ [b]) = 2 * val l + (if b then 1 else 0) := by
  simp [val, List.foldl_append]

theorem foldl_val (l : List Bool) : ∀ a, l.foldl (fun a b => 2 * a + (if b then 1 else 0)) a = a * 2 ^ l.length + val l := by
  induction l with
  | nil => intro a; simp [val]
  | cons x l ih =>
    intro a
    have h1 := ih (2 * a + (if x then 1 else 0))
    have h2 := ih (2 * 0 + (if x then 1 else 0))
    simp only [val, List.foldl_cons, List.length_cons] at *
    rw [h1, h2, Nat.pow_succ]
    simp only [Nat.mul_zero, Nat.zero_add, Nat.add_mul]
    have e : 2 * a * 2 ^ l.length = a * (2 ^ l.length * 2) := by rw [Nat.mul_comm 2 a, Nat.mul_assoc, Nat.mul_comm 2]
    omega

theorem val_append (a b : List Bool) : val (a ++ b) = val a * 2 ^ b.length + val b := by
  show (a ++ b).foldl _ 0 = _
  rw [List.foldl_append, foldl_val]
  rfl

theorem val_cons (x : Bool) (l : List Bool) : val (x :: l) = (if x then 1 else 0) * 2 ^ l.length + val l := by
  have := val_append [x] l
  simpa [val] using this

theorem val_lt (l : List Bool) : val l < 2 ^ l.length := by
  induction l with
  | nil => simp [val]
  | cons x l ih =>
    rw [val_cons, List.length_cons, Nat.pow_succ]
    cases x <;> simp <;> omega

theorem val_bitsN (k : Nat) : ∀ n, val (bitsN k n) = n % 2 ^ k := by
  induction k with
  | zero => intro n; simp [bitsN, val, Nat.mod_one]
  | succ k ih =>
    intro n
    rw [bitsN, val_snoc, ih, Nat.pow_succ, Nat.mul_comm (2 ^ k) 2, Nat.mod_mul]
    rcases Nat.mod_two_eq_zero_or_one n with h | h <;> simp [h] <;> omega

theorem bitsN_val (l : List Bool) : bitsN l.length (val l) = l := by
  suffices h : ∀ k (l : List Bool), l.length = k → bitsN k (val l) = l from h _ l rfl
  intro k
  induction k with
  | zero => intro l h; rw [List.eq_nil_of_length_eq_zero h]; rfl
  | succ k ih =>
    intro l h
    have hne : l ≠ [] := by intro e; simp [e] at h
    have e := List.dropLast_concat_getLast hne
    rw [← e, bitsN, val_snoc]
    have hl : l.dropLast.length = k := by simp [h]
    have e2 : (2 * val l.dropLast + if l.getLast hne = true then 1 else 0) / 2 = val l.dropLast := by split <;> omega
    rw [e2, ih _ hl]
    congr 2
    cases l.getLast hne <;> simp

theorem val_inj {a b : List Bool} (hl : a.length = b.length) (h : val a = val b) : a = b := by
  rw [← bitsN_val a, ← bitsN_val b, hl, h]

theorem bitsN_mod (k n : Nat) : bitsN k (n % 2 ^ k) = bitsN k n :=
  val_inj (by simp [bitsN_length]) (by simp [val_bitsN])

theorem bitsN_eq {k n m : Nat} (h : n % 2 ^ k = m % 2 ^ k) : bitsN k n = bitsN k m := by
  rw [← bitsN_mod k n, h, bitsN_mod]

theorem bitsN_inj {k n m : Nat} (hn : n < 2 ^ k) (hm : m < 2 ^ k) (h : bitsN k n = bitsN k m) : n = m := by
  have := congrArg val h
  rwa [val_bitsN, val_bitsN, Nat.mod_eq_of_lt hn, Nat.mod_eq_of_lt hm] at this

theorem bitsN_append (j k n : Nat) : bitsN (j + k) n = bitsN j (n / 2 ^ k) ++ bitsN k n := by
  refine val_inj (by simp [bitsN_length]) ?_
  rw [val_append, val_bitsN, val_bitsN, val_bitsN, bitsN_length, Nat.pow_add, Nat.mul_comm (2 ^ j), Nat.mod_mul, Nat.mul_comm]
  omega

theorem bitsN_cons (k n : Nat) : bitsN (k + 1) n = (n / 2 ^ k % 2 == 1) :: bitsN k n := by
  rw [Nat.add_comm, bitsN_append]; rfl

theorem bitsN_zeroes (k : Nat) : bitsN k 0 = List.replicate k false := by
  induction k with
  | zero => rfl
  | succ k ih => rw [bitsN_cons, ih]; simp [List.replicate_succ]

theorem val_replicate_false (k : Nat) : val (List.replicate k false) = 0 := by
  rw [← bitsN_zeroes, val_bitsN]; simp

/-! ### Bytes -/

/-- The bytes that bits make, with noughts behind up to a whole byte. -/
def pack : List Bool → List Int
  | [] => []
  | b0 :: l => (val ((b0 :: l).take 8) * 2 ^ (8 - ((b0 :: l).take 8).length) : Nat) :: pack ((b0 :: l).drop 8)
  termination_by l => l.length
  decreasing_by simp; omega

theorem pack_nil : pack [] = [] := by unfold pack; rfl
theorem pack_ne {l : List Bool} (h : l ≠ []) : pack l = ((val (l.take 8) * 2 ^ (8 - (l.take 8).length) : Nat) : Int) :: pack (l.drop 8) := by
  cases l with
  | nil => exact absurd rfl h
  | cons b l => conv => lhs; unfold pack

/-- The bits of bytes. -/
def unpack (b : List Int) : List Bool := b.flatMap fun x => bitsN 8 x.toNat

theorem unpack_nil : unpack [] = [] := rfl
theorem unpack_cons (x : Int) (b : List Int) : unpack (x :: b) = bitsN 8 x.toNat ++ unpack b := by simp [unpack]
theorem unpack_append (a b : List Int) : unpack (a ++ b) = unpack a ++ unpack b := by simp [unpack]
theorem unpack_length (b : List Int) : (unpack b).length = 8 * b.length := by
  induction b with
  | nil => rfl
  | cons x b ih => rw [unpack_cons, List.length_append, ih, bitsN_length]; simp; omega

theorem pack_length (l : List Bool) : (pack l).length = (l.length + 7) / 8 := by
  suffices h : ∀ n (l : List Bool), l.length ≤ n → (pack l).length = (l.length + 7) / 8 from h _ l (Nat.le_refl _)
  intro n
  induction n with
  | zero => intro l h; obtain rfl : l = [] := List.eq_nil_of_length_eq_zero (by omega); simp [pack_nil]
  | succ n ih =>
    intro l h
    by_cases hl : l = []
    · subst hl; simp [pack_nil]
    · have : 0 < l.length := List.length_pos_iff.2 hl
      rw [pack_ne hl, List.length_cons, ih _ (by simp; omega)]
      simp; omega

theorem pack_range (l : List Bool) : ∀ x ∈ pack l, 0 ≤ x ∧ x ≤ 255 := by
  suffices h : ∀ n (l : List Bool), l.length ≤ n → ∀ x ∈ pack l, 0 ≤ x ∧ x ≤ 255 from h _ l (Nat.le_refl _)
  intro n
  induction n with
  | zero => intro l h; obtain rfl : l = [] := List.eq_nil_of_length_eq_zero (by omega); simp [pack_nil]
  | succ n ih =>
    intro l h x hx
    by_cases hl : l = []
    · subst hl; simp [pack_nil] at hx
    · have : 0 < l.length := List.length_pos_iff.2 hl
      rw [pack_ne hl] at hx
      rcases List.mem_cons.1 hx with rfl | hx
      · have h1 := val_lt (l.take 8)
        have h2 : (l.take 8).length ≤ 8 := by simp; omega
        have h3 : val (l.take 8) * 2 ^ (8 - (l.take 8).length) < 2 ^ (l.take 8).length * 2 ^ (8 - (l.take 8).length) := Nat.mul_lt_mul_of_pos_right h1 (Nat.pow_pos (by omega))
        rw [← Nat.pow_add, show (l.take 8).length + (8 - (l.take 8).length) = 8 by omega] at h3
        omega
      · exact ih _ (by simp; omega) x hx

theorem pack_append8 {a : List Bool} (h : a.length % 8 = 0) (b : List Bool) : pack (a ++ b) = pack a ++ pack b := by
  suffices g : ∀ n (a : List Bool), a.length ≤ n → a.length % 8 = 0 → pack (a ++ b) = pack a ++ pack b from g _ a (Nat.le_refl _) h
  intro n
  induction n with
  | zero => intro a h0 _; obtain rfl : a = [] := List.eq_nil_of_length_eq_zero (by omega); simp [pack_nil]
  | succ n ih =>
    intro a h0 h8
    by_cases hl : a = []
    · subst hl; simp [pack_nil]
    · have hp : 0 < a.length := List.length_pos_iff.2 hl
      have h9 : 8 ≤ a.length := by omega
      rw [pack_ne hl, pack_ne (by simp [hl])]
      rw [List.take_append_of_le_length h9, List.drop_append_of_le_length h9, ih _ (by simp; omega) (by simp; omega)]
      rfl

theorem pack8 {l : List Bool} (h : l.length = 8) : pack l = [(val l : Int)] := by
  rw [pack_ne (by intro e; simp [e] at h), List.take_of_length_le (by omega), List.drop_of_length_le (by omega), pack_nil, h]
  simp

theorem pack_unpack {b : List Int} (h : ∀ x ∈ b, 0 ≤ x ∧ x ≤ 255) : pack (unpack b) = b := by
  induction b with
  | nil => simp [unpack_nil, pack_nil]
  | cons x b ih =>
    rw [unpack_cons, pack_append8 (by simp [bitsN_length]), ih (fun y hy => h y (List.mem_cons_of_mem _ hy)), pack8 (bitsN_length _ _), val_bitsN]
    have := h x (List.mem_cons_self)
    have e : ((x.toNat % 2 ^ 8 : Nat) : Int) = x := by omega
    rw [e]; rfl

theorem pack_pad (l : List Bool) (k : Nat) (hk : l.length + k ≤ 8 * ((l.length + 7) / 8)) : pack (l ++ List.replicate k false) = pack l := by
  suffices g : ∀ n (l : List Bool), l.length ≤ n → l.length + k ≤ 8 * ((l.length + 7) / 8) → pack (l ++ List.replicate k false) = pack l from g _ l (Nat.le_refl _) hk
  intro n
  induction n with
  | zero =>
    intro l h0 hk
    rw [List.eq_nil_of_length_eq_zero (by omega : l.length = 0)] at hk ⊢
    have : k = 0 := by simp at hk; omega
    subst this; rfl
  | succ n ih =>
    intro l h0 hk
    by_cases hl : l = []
    · subst hl
      have : k = 0 := by simp at hk; omega
      subst this; rfl
    · have hp : 0 < l.length := List.length_pos_iff.2 hl
      rw [pack_ne (by simp [hl]), pack_ne hl]
      by_cases h8 : 8 ≤ l.length
      · rw [List.take_append_of_le_length h8, List.drop_append_of_le_length h8, ih _ (by simp; omega) (by simp; omega)]
      · have e1 : (l ++ List.replicate k false).take 8 = l ++ List.replicate k false := List.take_of_length_le (by simp; omega)
        have e2 : l.take 8 = l := List.take_of_length_le (by omega)
        rw [e1, e2, List.drop_of_length_le (by simp; omega), List.drop_of_length_le (by omega), val_append, val_replicate_false, List.length_replicate, List.length_append, List.length_replicate]
        congr 2
        rw [Nat.add_zero, Nat.mul_assoc, ← Nat.pow_add, show k + (8 - (l.length + k)) = 8 - l.length by omega]

theorem unpack_pack (l : List Bool) : unpack (pack l) = l ++ List.replicate (8 * ((l.length + 7) / 8) - l.length) false := by
  suffices g : ∀ n (l : List Bool), l.length ≤ n → unpack (pack l) = l ++ List.replicate (8 * ((l.length + 7) / 8) - l.length) false from g _ l (Nat.le_refl _)
  intro n
  induction n with
  | zero => intro l h0; rw [List.eq_nil_of_length_eq_zero (by omega : l.length = 0)]; simp [pack_nil, unpack_nil]
  | succ n ih =>
    intro l h0
    by_cases hl : l = []
    · subst hl; simp [pack_nil, unpack_nil]
    · have hp : 0 < l.length := List.length_pos_iff.2 hl
      rw [pack_ne hl, unpack_cons, ih _ (by simp; omega)]
      by_cases h8 : 8 ≤ l.length
      · have e1 : (l.take 8).length = 8 := by simp; omega
        have e3 : 8 * (((l.drop 8).length + 7) / 8) - (l.drop 8).length = 8 * ((l.length + 7) / 8) - l.length := by simp; omega
        rw [e3, e1, ← List.append_assoc]
        congr 1
        have e2 : ((val (l.take 8) * 2 ^ (8 - 8) : Nat) : Int).toNat = val (l.take 8) := by simp
        rw [e2]
        have e4 := bitsN_val (l.take 8)
        rw [e1] at e4
        rw [e4, List.take_append_drop]
      · have e2 : l.take 8 = l := List.take_of_length_le (by omega)
        have e3 : l.drop 8 = [] := List.drop_of_length_le (by omega)
        rw [e2, e3]
        have e4 : ((val l * 2 ^ (8 - l.length) : Nat) : Int).toNat = val (l ++ List.replicate (8 - l.length) false) := by
          rw [val_append, val_replicate_false, List.length_replicate, Int.toNat_natCast]; rfl
        have e5 : (l ++ List.replicate (8 - l.length) false).length = 8 := by simp; omega
        have e6 := bitsN_val (l ++ List.replicate (8 - l.length) false)
        rw [e5] at e6
        rw [e4, e6]
        have e7 : 8 * ((l.length + 7) / 8) - l.length = 8 - l.length := by omega
        rw [e7]; simp

/-! ### Digits as a text -/

/-- A digit's byte. -/
def dig (b : Bool) : UInt8 := if b then 49 else 48
/-- The text of digits. -/
def dstr (l : List Bool) : ByteArray := ⟨(l.map dig).toArray⟩

theorem dstr_size (l : List Bool) : (dstr l).size = l.length := by simp [dstr, ByteArray.size]
theorem dstr_data (l : List Bool) : (dstr l).data.toList = l.map dig := by simp [dstr]
theorem dig_inj {a b : Bool} (h : dig a = dig b) : a = b := by cases a <;> cases b <;> simp_all [dig]
theorem dstr_inj {a b : List Bool} (h : dstr a = dstr b) : a = b := by
  have h1 : a.map dig = b.map dig := by rw [← dstr_data, ← dstr_data, h]
  have h2 : ∀ (a b : List Bool), a.map dig = b.map dig → a = b := by
    intro a
    induction a with
    | nil => intro b h; cases b <;> simp_all
    | cons x a ih =>
      intro b h
      cases b with
      | nil => simp at h
      | cons y b =>
        simp only [List.map_cons, List.cons.injEq] at h
        rw [dig_inj h.1, ih b h.2]
  exact h2 a b h1
theorem dstr_append (a b : List Bool) : dstr a ++ dstr b = dstr (a ++ b) := by
  apply ByteArray.ext
  simp [dstr, ByteArray.data_append]

end Go.Proofs.YtofkiimaoahfjaaDoor.Pure
