/-
  Layer 9 (subframe): fits, right, isKind.
  Layer 9 (subframe), plain: the bits that are wasted.
  Layer 9 (subframe): TrailingZeros64, wasted, check.
-/
import Derived.Test.YtofkiimaoahfjaaDoorZMem
import Derived.Test.YtofkiimaoahfjaaDoorProg
import Derived.WalkSpells
import Derived.WalkLawsBesides
import Derived.BigQuiet
import Derived.Lib.Hide
import Derived.Test.YtofkiimaoahfjaaDoorZBitOps
import Derived.Lib.TrailingZeros
import Derived.Test.YtofkiimaoahfjaaDoorZBoth
import Derived.Shelf.Spec.TrailingZeros
set_option maxRecDepth 100000
set_option linter.unusedVariables false
set_option linter.unusedSimpArgs false
namespace Go.Proofs.YtofkiimaoahfjaaDoor
open Go.RowKit

/-- Has x k + 1 bits? -/
def fitB (x : Int) (k : Nat) : Bool := decide (-(2 ^ k) ≤ x ∧ x < 2 ^ k)
theorem sfits_calls (x : Int) (k : Nat) (d : Int) (hd : d = k + 1) (w : World) (hx : -9223372036854775808 ≤ x ∧ x ≤ 9223372036854775807) (hk : k ≤ 62) :
    Calls Tryd.prog 45 #[.int .i64 x, .int .i64 d] w fun e w' => e = .returned (.bool (fitB x k)) ∧ w' = w := by
  subst hd
  obtain ⟨P, hP⟩ : ∃ P : Nat, 2 ^ k = P := ⟨_, rfl⟩
  have hPi : (2 : Int) ^ k = (P : Int) := by rw [← hP]; simp
  have hP0 : 0 < P := by rw [← hP]; exact Nat.two_pow_pos k
  obtain ⟨Q, hQ⟩ : ∃ Q, x / (P : Int) = Q := ⟨_, rfl⟩
  have h1 := Int.emod_add_mul_ediv x (P : Int)
  have h2 := Int.emod_nonneg x (show (P : Int) ≠ 0 by omega)
  have h3 := Int.emod_lt_of_pos x (show (0 : Int) < P by omega)
  rw [hQ] at h1
  have hki : (0 : Int) ≤ (k : Int) := by omega
  have hkn : ((k : Int) + 1 - 1) = (k : Int) := by omega
  have hq0 : Q = 0 → fitB x k = true := by
    intro h
    subst h
    unfold fitB
    rw [hPi]
    rw [Int.mul_zero] at h1
    exact decide_eq_true (by omega)
  have hq1 : Q = -1 → fitB x k = true := by
    intro h
    subst h
    unfold fitB
    rw [hPi]
    have : (P : Int) * -1 = -(P : Int) := by omega
    rw [this] at h1
    exact decide_eq_true (by omega)
  have hq2 : Q ≠ 0 → Q ≠ -1 → fitB x k = false := by
    intro a b
    unfold fitB
    rw [hPi]
    apply decide_eq_false
    rintro ⟨c, d⟩
    rcases Int.lt_or_le Q 0 with h | h
    · have h4 : Q ≤ -2 := by omega
      have h5 : (P : Int) * Q ≤ (P : Int) * -2 := Int.mul_le_mul_of_nonneg_left h4 (by omega)
      omega
    · have h4 : 1 ≤ Q := by omega
      have h5 : (P : Int) * 1 ≤ (P : Int) * Q := Int.mul_le_mul_of_nonneg_left h4 (by omega)
      omega
  clear h1 h2 h3 hP
  by_cases h0 : Q = 0
  · rw [hq0 h0]
    subst h0
    clear hq0 hq1 hq2
    go_enter Tryd.func45, Tryd.ntmps45
    go_wp2
    go_ret
    exact ⟨rfl, rfl⟩
  · by_cases h1 : Q = -1
    · rw [hq1 h1]
      subst h1
      clear hq0 hq1 hq2
      go_enter Tryd.func45, Tryd.ntmps45
      go_wp2
      go_ret
      exact ⟨rfl, rfl⟩
    · rw [hq2 h0 h1]
      have b0 : (Q == 0) = false := beq_eq_false_iff_ne.2 h0
      have b1 : (Q == -1) = false := beq_eq_false_iff_ne.2 h1
      clear hq0 hq1 hq2 h0 h1
      go_enter Tryd.func45, Tryd.ntmps45
      go_wp2
      go_ret
      exact ⟨rfl, rfl⟩
/-- Is there such a block? -/
def sbrB (n depth : Int) : Bool := decide (1 ≤ n ∧ n ≤ 512 ∧ 4 ≤ depth ∧ depth ≤ 25)
theorem sright_calls (n depth : Int) (w : World) :
    Calls Tryd.prog 42 #[.int .i64 n, .int .i64 depth] w fun e w' => e = .returned (.bool (sbrB n depth)) ∧ w' = w := by
  by_cases a1 : 1 ≤ n
  · by_cases a2 : n ≤ 512
    · by_cases a3 : 4 ≤ depth
      · by_cases a4 : depth ≤ 25
        · have e : sbrB n depth = true := decide_eq_true ⟨a1, a2, a3, a4⟩
          rw [e]
          clear e
          go_enter Tryd.func42, Tryd.ntmps42
          go_wp2
          go_ret
          exact ⟨rfl, rfl⟩
        · have e : sbrB n depth = false := decide_eq_false (by omega)
          rw [e]
          clear e
          go_enter Tryd.func42, Tryd.ntmps42
          go_wp2
          go_ret
          exact ⟨rfl, rfl⟩
      · have e : sbrB n depth = false := decide_eq_false (by omega)
        rw [e]
        clear e
        go_enter Tryd.func42, Tryd.ntmps42
        go_wp2
        go_ret
        exact ⟨rfl, rfl⟩
    · have e : sbrB n depth = false := decide_eq_false (by omega)
      rw [e]
      clear e
      go_enter Tryd.func42, Tryd.ntmps42
      go_wp2
      go_ret
      exact ⟨rfl, rfl⟩
  · have e : sbrB n depth = false := decide_eq_false (by omega)
    rw [e]
    clear e
    go_enter Tryd.func42, Tryd.ntmps42
    go_wp2
    go_ret
    exact ⟨rfl, rfl⟩
end Go.Proofs.YtofkiimaoahfjaaDoor

set_option maxRecDepth 100000
set_option linter.unusedVariables false
set_option linter.unusedSimpArgs false
namespace Go.Proofs.YtofkiimaoahfjaaDoor

theorem pow_dvd64 (k : Nat) (hk : k ≤ 64) : ∃ q : Int, (18446744073709551616 : Int) = 2 ^ k * q := ⟨2 ^ (64 - k), by rw [← Int.pow_add, show k + (64 - k) = 64 by omega]; rfl⟩
theorem mod_wrap (n : Int) (k : Nat) (hk : k ≤ 64) : IntKind.i64.wrap n % 2 ^ k = n % 2 ^ k := by
  obtain ⟨q, hq⟩ := pow_dvd64 k hk
  have h : ∃ z : Int, IntKind.i64.wrap n = n + 18446744073709551616 * z := by
    rw [IntKind.wrap_i64]
    refine ⟨-((n + 9223372036854775808) / 18446744073709551616), ?_⟩
    omega
  obtain ⟨z, hz⟩ := h
  rw [hz, hq, Int.mul_assoc, Int.add_mul_emod_self_left]
theorem mod_wrapU (n : Int) (k : Nat) (hk : k ≤ 64) : (n % 18446744073709551616) % 2 ^ k = n % 2 ^ k := by
  obtain ⟨q, hq⟩ := pow_dvd64 k hk
  exact Int.emod_emod_of_dvd n ⟨q, hq⟩
theorem or_range (a b : Int) : -9223372036854775808 ≤ bits .or .i64 a b ∧ bits .or .i64 a b ≤ 9223372036854775807 := by
  show -9223372036854775808 ≤ IntKind.i64.wrap ((BitVec.ofInt 64 a ||| BitVec.ofInt 64 b).toNat : Int) ∧ IntKind.i64.wrap ((BitVec.ofInt 64 a ||| BitVec.ofInt 64 b).toNat : Int) ≤ _
  rw [IntKind.wrap_i64]
  omega
/-- 2^k divides a | b where it divides both. -/
theorem or_mod (a b : Int) (k : Nat) (hk : k ≤ 64) : bits .or .i64 a b % 2 ^ k = 0 ↔ a % 2 ^ k = 0 ∧ b % 2 ^ k = 0 := by
  have e : bits .or .i64 a b = IntKind.i64.wrap ((BitVec.ofInt 64 a ||| BitVec.ofInt 64 b).toNat : Int) := rfl
  rw [e, mod_wrap _ k hk, BitVec.toNat_or, toNat_ofInt64, toNat_ofInt64]
  have f : ∀ x : Int, (((x % 18446744073709551616).toNat % 2 ^ k : Nat) : Int) = x % 2 ^ k := by
    intro x
    rw [Int.natCast_emod, Int.toNat_of_nonneg (Int.emod_nonneg _ (by omega)), Int.natCast_pow]
    exact mod_wrapU x k hk
  rw [← f a, ← f b]
  have g : ∀ n : Nat, ((n : Int) % 2 ^ k) = ((n % 2 ^ k : Nat) : Int) := by
    intro n
    rw [Int.natCast_emod, Int.natCast_pow]
    rfl
  rw [g, Nat.or_mod_two_pow]
  have h := @Nat.or_eq_zero_iff ((a % 18446744073709551616).toNat % 2 ^ k) ((b % 18446744073709551616).toNat % 2 ^ k)
  omega

/-- All samples' bits, one over the other. -/
def orS (S : List Int) : Int := S.foldl (fun a x => bits .or .i64 a x) 0
theorem orS_snoc (S : List Int) (x : Int) : orS (S ++ [x]) = bits .or .i64 (orS S) x := by simp [orS, List.foldl_append]
theorem orS_range (S : List Int) : -9223372036854775808 ≤ orS S ∧ orS S ≤ 9223372036854775807 := by
  rcases List.eq_nil_or_concat S with rfl | ⟨R, x, rfl⟩
  · exact ⟨by decide, by decide⟩
  · rw [List.concat_eq_append, orS_snoc]
    exact or_range _ _
theorem foldl_or (k : Nat) (hk : k ≤ 64) : ∀ (S : List Int) (a : Int), S.foldl (fun a x => bits .or .i64 a x) a % 2 ^ k = 0 ↔ a % 2 ^ k = 0 ∧ ∀ x ∈ S, x % 2 ^ k = 0
  | [], a => by simp
  | x :: S, a => by
    rw [List.foldl_cons, foldl_or k hk S, or_mod a x k hk]
    simp only [List.mem_cons, forall_eq_or_imp, and_assoc]
theorem orS_mod (S : List Int) (k : Nat) (hk : k ≤ 64) : orS S % 2 ^ k = 0 ↔ ∀ x ∈ S, x % 2 ^ k = 0 := by
  unfold orS
  rw [foldl_or k hk]
  simp
theorem orS_zero (S : List Int) (hS : ∀ x ∈ S, -9223372036854775808 ≤ x ∧ x ≤ 9223372036854775807) : orS S = 0 ↔ ∀ x ∈ S, x = 0 := by
  constructor
  · intro h x hx
    have h1 := (orS_mod S 64 (by omega)).1 (by rw [h]; rfl) x hx
    have h2 := hS x hx
    have e : (2 : Int) ^ 64 = 18446744073709551616 := rfl
    rw [e] at h1
    omega
  · intro h
    have h1 := (orS_mod S 64 (by omega)).2 (fun x hx => by rw [h x hx]; rfl)
    have h2 := orS_range S
    have e : (2 : Int) ^ 64 = 18446744073709551616 := rfl
    rw [e] at h1
    omega

/-- How many bits are wasted. -/
def tzS (A : Int) : Nat := if A = 0 then 0 else Lib.ctz 64 (A % 18446744073709551616).toNat
def wasS (S : List Int) : Nat := tzS (orS S)
theorem tz_spec (A : Int) (hA : A ≠ 0) (hr : -9223372036854775808 ≤ A ∧ A ≤ 9223372036854775807) : A % 2 ^ tzS A = 0 ∧ A % 2 ^ (tzS A + 1) ≠ 0 ∧ tzS A < 64 := by
  unfold tzS
  rw [if_neg hA]
  obtain ⟨X, hX⟩ : ∃ X, (A % 18446744073709551616).toNat = X := ⟨_, rfl⟩
  have hX0 : 0 < X := by omega
  have hX1 : X < 2 ^ 64 := by have : (2 : Nat) ^ 64 = 18446744073709551616 := rfl; omega
  have hXA : (X : Int) = A % 18446744073709551616 := by omega
  rw [hX]
  unfold Lib.ctz
  rw [if_neg (by omega)]
  obtain ⟨m, hm, hlt⟩ := Lib.ctzFrom_spec 64 X hX0 hX1
  obtain ⟨c, hc⟩ : ∃ c, Lib.ctzFrom 64 X = c := ⟨_, rfl⟩
  rw [hc] at hm hlt ⊢
  have f : ∀ j, j ≤ 64 → A % 2 ^ j = ((X % 2 ^ j : Nat) : Int) := by
    intro j hj
    rw [Int.natCast_emod, hXA, Int.natCast_pow]
    exact (mod_wrapU A j hj).symm
  refine ⟨?_, ?_, hlt⟩
  · rw [f c (by omega), hm, Nat.mul_mod_right]
    rfl
  · rw [f (c + 1) (by omega), hm, Nat.pow_succ, Nat.mul_mod_mul_left]
    have h2 : 0 < 2 ^ c := Nat.two_pow_pos c
    have h3 : (2 * m + 1) % 2 = 1 := by omega
    rw [h3]
    omega
theorem pow_step (k j : Nat) (h : k < j) : ∃ q : Int, (2 : Int) ^ j = 2 ^ (k + 1) * q := ⟨2 ^ (j - (k + 1)), by rw [← Int.pow_add, show k + 1 + (j - (k + 1)) = j by omega]⟩
theorem tz_unique (A : Int) (k j : Nat) (h1 : A % 2 ^ k = 0) (h2 : A % 2 ^ (k + 1) ≠ 0) (h3 : A % 2 ^ j = 0) (h4 : A % 2 ^ (j + 1) ≠ 0) : k = j := by
  rcases Nat.lt_trichotomy k j with h | h | h
  · obtain ⟨q, hq⟩ := pow_step k j h
    exact absurd (Int.emod_eq_zero_of_dvd (Int.dvd_trans ⟨q, hq⟩ (Int.dvd_of_emod_eq_zero h3))) h2
  · exact h
  · obtain ⟨q, hq⟩ := pow_step j k h
    exact absurd (Int.emod_eq_zero_of_dvd (Int.dvd_trans ⟨q, hq⟩ (Int.dvd_of_emod_eq_zero h1))) h4
theorem tz_of (A : Int) (k : Nat) (hA : A ≠ 0) (hr : -9223372036854775808 ≤ A ∧ A ≤ 9223372036854775807) (h1 : A % 2 ^ k = 0) (h2 : A % 2 ^ (k + 1) ≠ 0) : tzS A = k := by
  obtain ⟨a, b, _⟩ := tz_spec A hA hr
  exact tz_unique A _ _ a b h1 h2
/-- On the way of the document's loop: any * 2^k is A. -/
theorem tz_end (A any : Int) (k : Nat) (hr : -9223372036854775808 ≤ A ∧ A ≤ 9223372036854775807) (h : any * 2 ^ k = A) (ho : any % 2 ≠ 0) : tzS A = k := by
  have hp : (0 : Int) < 2 ^ k := Int.pow_pos (by omega)
  have ha : any ≠ 0 := by intro e; subst e; exact ho rfl
  subst h
  refine tz_of _ k (Int.mul_ne_zero ha (by omega)) hr (Int.mul_emod_left _ _) ?_
  rw [Int.pow_succ, Int.mul_comm any, Int.mul_emod_mul_of_pos _ _ hp]
  intro h
  rcases Int.mul_eq_zero.1 h with h | h
  · omega
  · exact ho h
theorem tz_small (A any : Int) (k : Nat) (hr : -9223372036854775808 ≤ A ∧ A ≤ 9223372036854775807) (h : any * 2 ^ k = A) (ha : any ≠ 0) : k ≤ 63 := by
  rcases Nat.lt_or_ge k 64 with h1 | h1
  · omega
  · exfalso
    have h2 : (2 : Int) ^ 64 ≤ 2 ^ k := by exact_mod_cast Nat.pow_le_pow_right (show 0 < 2 by omega) h1
    have h3 : (2 : Int) ^ 64 = 18446744073709551616 := rfl
    rw [h3] at h2
    rcases Int.lt_or_le any 0 with h4 | h4
    · have : any * 2 ^ k ≤ -1 * 2 ^ k := Int.mul_le_mul_of_nonneg_right (by omega) (by omega)
      omega
    · have : 1 * 2 ^ k ≤ any * 2 ^ k := Int.mul_le_mul_of_nonneg_right (by omega) (by omega)
      omega
theorem tz_half (A any : Int) (k : Nat) (h : any * 2 ^ k = A) (he : any % 2 = 0) : (any / 2) * 2 ^ (k + 1) = A := by
  subst h
  obtain ⟨b, rfl⟩ : ∃ b, any = 2 * b := ⟨any / 2, by omega⟩
  have e : 2 * b / 2 = b := by omega
  rw [e, Int.pow_succ, Int.mul_comm (2 ^ k), ← Int.mul_assoc, Int.mul_comm 2 b]
theorem was_div (S : List Int) : ∀ x ∈ S, x % 2 ^ wasS S = 0 := by
  by_cases h : orS S = 0
  · have : wasS S = 0 := by unfold wasS tzS; rw [if_pos h]
    rw [this]
    intro x _
    omega
  · obtain ⟨a, _, c⟩ := tz_spec (orS S) h (orS_range S)
    exact (orS_mod S _ (by unfold wasS; omega)).1 a
end Go.Proofs.YtofkiimaoahfjaaDoor

set_option maxRecDepth 100000
set_option linter.unusedVariables false
set_option linter.unusedSimpArgs false
namespace Go.Proofs.YtofkiimaoahfjaaDoor
open Go.RowKit

/-- The table of math/bits in its variable. -/
def Tab (w : World) : Prop := TabAt 0 Lib.deBruijn64tab w
theorem Tab.new {w w' : World} (h : Tab w) (hk : Keeps [] w w') : Tab w' := fun j hj => hk.cell (h j hj) (by simp)
theorem Tab.lt {w : World} (h : Tab w) : 0 < w.heap.size := World.block_lt_of_cell? w ⟨0, 0, none⟩ (h 0 (by decide))

theorem stz_core (x k idx : Nat) (w : World) (hx0 : ((x : Int) == 0) = false)
    (key : IntKind.u64.wrap (bits BinOp.and IntKind.u64 (x : Int) (IntKind.u64.wrap (-(x : Int))) * 285870213051353865) / 288230376151711744 = (idx : Int))
    (hi : idx < 64) (hk : k < 64) (hcell : w.cell? ⟨0, idx, none⟩ = some (.int .u8 k)) :
    Calls Tryd.prog 85 #[.int .u64 x] w fun e w' => e = .returned (.int .i64 k) ∧ w' = w := by
  go_enter Tryd.func85, Tryd.ntmps85
  go_wp2_with (simp only [key])
  go_ret
  exact ⟨rfl, rfl⟩
theorem stz_calls (x : Nat) (hx : x < 18446744073709551616) (h0 : x ≠ 0) (w : World) (hT : Hid (Tab w)) :
    Calls Tryd.prog 85 #[.int .u64 x] w fun e w' => e = .returned (.int .i64 (Lib.ctz 64 x)) ∧ w' = w := by
  obtain ⟨hlow, hk⟩ := Lib.lowest_bit 64 x h0 hx
  obtain ⟨hi, htab⟩ := Lib.deBruijn64_at _ hk
  have hcell := hT.out _ hi
  rw [htab] at hcell
  exact stz_core x _ _ w (by simp; omega) (tz64_key x _ hx h0 hlow) hi hk hcell

set_option maxHeartbeats 1000000 in
theorem swasted_calls (S : List Int) (n : Nat) (hn : n = S.length) (a : Option Addr) (c : Nat) (w : World) (hx : Hid (Rd w .i64 a S)) (hT : Hid (Tab w)) :
    Calls Tryd.prog 52 #[.slice a n c] w fun e w' => e = .returned (.int .i64 (wasS S)) ∧ w' = w := by
  subst hn
  have hl := hx.out.small
  go_enter Tryd.func52, Tryd.ntmps52
  go_wp2_with fail
  go_loopg [3, 8] (S.length + 1) (fun q v3 v8 wr => wr = w ∧ ∃ (i : Nat) (A : Int), v3 = .int .i64 A ∧ v8 = .int .i64 i ∧ i ≤ S.length ∧ Hid (A = orS (S.take i)) ∧ Hid (i + q = S.length + 1))
  case atStart => exact ⟨rfl, 0, 0, rfl, rfl, by omega, (show _ = _ from rfl), (show _ = _ from by omega)⟩
  case round =>
    obtain ⟨rfl, i, A, rfl, rfl, hi, HA, HQ⟩ := hrel
    by_cases hlt : i < S.length
    · obtain ⟨b1, o1, rfl, hc1⟩ := hx.out.cellAt i hlt
      obtain ⟨x, hx1⟩ : ∃ x, S[i] = x := ⟨_, rfl⟩
      rw [hx1] at hc1
      have HN : Hid (bits .or .i64 A x = orS (S.take (i + 1))) := by
        show _ = _
        rw [List.take_succ_eq_append_getElem hlt, orS_snoc, hx1, HA.out]
      clear hx1
      go_wp2_with fail
      go_roundg (S.length - i)
      case measure => have := HQ.out; omega
      case rel => exact ⟨rfl, i + 1, _, rfl, by go_num, by omega, HN.out, (show _ = _ from by omega)⟩
    · obtain rfl : i = S.length := by omega
      have hA : A = orS S := by rw [HA.out, List.take_length]
      have hr := orS_range S
      rw [← hA] at hr
      have HR : Hid (wasS S = tzS A) := by show _ = _; unfold wasS; rw [hA]
      have HRG := Lib.hid hr
      clear HA hA hr
      by_cases h0 : A = 0
      · subst h0
        go_wp2_with fail
        go_ret
        refine ⟨?_, rfl⟩
        rw [HR.out]
        rfl
      · have hb : (A == 0) = false := beq_eq_false_iff_ne.2 h0
        obtain ⟨X, hX⟩ : ∃ X : Nat, (A % 18446744073709551616).toNat = X := ⟨_, rfl⟩
        have hcv : IntKind.u64.wrap A = (X : Int) := by rw [IntKind.wrap_u64]; omega
        have hX0 : X ≠ 0 := by have := HRG.out; omega
        have hX1 : X < 18446744073709551616 := by omega
        have HTZ : Hid (Lib.ctz 64 X = tzS A) := by show _ = _; unfold tzS; rw [if_neg h0, hX]
        clear hX h0
        go_wp2_with (first
          | (go_at_call 85; go_must (with_reducible refine (stz_calls X hX1 hX0 _ hT).mono ?_); rw [HTZ.out]; rintro e w1 ⟨rfl, rfl⟩))
        go_ret
        refine ⟨?_, rfl⟩
        rw [HR.out]
        rfl

set_option maxHeartbeats 1000000 in
theorem snfit_calls (x : Int) (g : Nat) (k : Nat) (d : Int) (hd : d = k + 1) (w : World) (hx : -9223372036854775808 ≤ x ∧ x ≤ 9223372036854775807) (hk : k ≤ 62) (hc : Hid (w.cell? ⟨g, 0, none⟩ = some (.int .i64 d))) :
    Calls Tryd.prog 51 #[.int .i64 x, .pointer (some ⟨g, 0, none⟩)] w fun e w' => e = .returned (.bool (!fitB x k)) ∧ w' = w := by
  have hc0 := hc.out
  have HX := Lib.hid hx
  have HB := Lib.hid hd
  clear hx hd
  cases hb : fitB x k
  all_goals
    have HFB := Lib.hid hb
    clear hb
    go_enter Tryd.func51, Tryd.ntmps51
    go_wp2_with (first
      | (go_at_call 45; go_must (with_reducible refine (sfits_calls x k d HB.out _ HX.out hk).mono ?_); rw [HFB.out]; rintro e w1 ⟨rfl, rfl⟩))
    go_ret
    exact ⟨rfl, rfl⟩

set_option maxHeartbeats 1000000 in
theorem sindex_fit (xs : List Int) (m : Nat) (hm : m = xs.length) (a : Option Addr) (c : Nat) (g : Nat) (k : Nat) (d : Int) (hd : d = k + 1) (w : World) (hr : Hid (∀ x ∈ xs, -9223372036854775808 ≤ x ∧ x ≤ 9223372036854775807)) (hk : k ≤ 62) (hc : Hid (w.cell? ⟨g, 0, none⟩ = some (.int .i64 d))) (hx : Hid (Rd w .i64 a xs)) :
    Calls Tryd.prog 84 #[.slice a m c, .func (.func 51) #[] #[.pointer (some ⟨g, 0, none⟩)]] w fun e w' => e = .returned (.int .i64 (idxOf (fun x => fitB x k) xs)) ∧ w' = w := by
  subst hm
  obtain ⟨p, hp⟩ : ∃ p : Int → Bool, (fun x => fitB x k) = p := ⟨_, rfl⟩
  have HPX : Hid (∀ x, fitB x k = p x) := fun x => by rw [← hp]
  have HD := Lib.hid hd
  rw [hp]
  clear hp hd
  have hxl := hx.out.small
  go_enter Tryd.func84, Tryd.ntmps84
  go_wp2_with fail
  go_loopg [5, 8] (xs.length + 1) (fun q v5 v8 w2 => w2 = w ∧ ∃ (i : Nat), v8 = .int .i64 i ∧ i ≤ xs.length ∧ Hid ((xs.drop i).all p = xs.all p) ∧ Hid (∀ j (h : j < xs.length), j < i → p xs[j] = true) ∧ Hid (i + q = xs.length + 1))
  case atStart => exact ⟨rfl, 0, rfl, by omega, (show _ = _ from by simp), (fun j h h0 => by omega), (show _ = _ from by omega)⟩
  case round =>
    obtain ⟨rfl, i, rfl, hi, HT, HF, HQ⟩ := hrel
    by_cases hlt : i < xs.length
    · obtain ⟨b1, o1, rfl, hc1⟩ := hx.out.cellAt i hlt
      obtain ⟨x, hx1⟩ : ∃ x, xs[i] = x := ⟨_, rfl⟩
      rw [hx1] at hc1
      have HS := Lib.hid (all_step p xs i hlt x hx1 HT.out)
      have HN := Lib.hid (all_no p xs i hlt x hx1 HT.out)
      have HXR := Lib.hid (hr.out x (by rw [← hx1]; exact List.getElem_mem _))
      have HX := Lib.hid hx1
      clear hx1
      cases hb : p x
      · have HB := Lib.hid hb
        clear hb
        go_wp2_with (first
          | (go_at_call 51; go_must (with_reducible refine (snfit_calls x g k d HD.out _ HXR.out hk hc).mono ?_); rw [HPX.out, HB.out]; rintro e w1 ⟨rfl, rfl⟩))
        go_ret
        refine ⟨?_, rfl⟩
        rw [idx_at p xs i hlt (by rw [HX.out, HB.out]) HF.out]
        rfl
      · have HB := Lib.hid hb
        clear hb
        go_wp2_with (first
          | (go_at_call 51; go_must (with_reducible refine (snfit_calls x g k d HD.out _ HXR.out hk hc).mono ?_); rw [HPX.out, HB.out]; rintro e w1 ⟨rfl, rfl⟩))
        go_roundg (xs.length - i)
        case measure => have := HQ.out; omega
        case rel =>
          refine ⟨rfl, i + 1, by go_num, by omega, HS.out HB.out, (fun j h hj => ?_), (show _ = _ from by omega)⟩
          rcases Nat.lt_or_ge j i with h1 | h1
          · exact HF.out j h h1
          · obtain rfl : j = i := by omega
            rw [HX.out, HB.out]
    · obtain rfl : i = xs.length := by omega
      go_wp2
      go_ret
      refine ⟨?_, rfl⟩
      rw [idx_all p xs (all_end p xs HT.out)]
      rfl

theorem scontains_fit (xs : List Int) (m : Nat) (hm : m = xs.length) (a : Option Addr) (c : Nat) (g : Nat) (k : Nat) (d : Int) (hd : d = k + 1) (w : World) (hr : Hid (∀ x ∈ xs, -9223372036854775808 ≤ x ∧ x ≤ 9223372036854775807)) (hk : k ≤ 62) (hc : Hid (w.cell? ⟨g, 0, none⟩ = some (.int .i64 d))) (hx : Hid (Rd w .i64 a xs)) :
    Calls Tryd.prog 50 #[.slice a m c, .func (.func 51) #[] #[.pointer (some ⟨g, 0, none⟩)]] w fun e w' => e = .returned (.bool (!xs.all (fun x => fitB x k))) ∧ w' = w := by
  subst hm
  have HI := Lib.hid (sindex_fit xs _ rfl a c g k d hd w hr hk hc hx)
  obtain ⟨p, hp⟩ : ∃ p : Int → Bool, (fun x => fitB x k) = p := ⟨_, rfl⟩
  rw [hp] at HI ⊢
  clear hp hd
  go_enter Tryd.func50, Tryd.ntmps50
  cases hb : xs.all p
  · have HB := Lib.hid hb
    clear hb
    have h0 := idx_no p xs HB.out
    generalize hr : idxOf p xs = r at h0
    have HR := Lib.hid hr
    clear hr
    go_wp2_with (first
      | (go_at_call 84; go_must (with_reducible refine HI.out.mono ?_); rw [HR.out]; rintro e w1 ⟨rfl, rfl⟩))
    go_ret
    exact ⟨rfl, rfl⟩
  · have HB := Lib.hid hb
    clear hb
    go_wp2_with (first
      | (go_at_call 84; go_must (with_reducible refine HI.out.mono ?_); rw [idx_all p xs HB.out]; rintro e w1 ⟨rfl, rfl⟩))
    go_ret
    exact ⟨rfl, rfl⟩

/-- What check answers. -/
def schkE (S : List Int) (depth : Int) : Int := if sbrB S.length depth then (if S.all (fun x => fitB x (depth.toNat - 1)) then 0 else 12) else 1
theorem schk_one {S : List Int} {depth : Int} (h : sbrB S.length depth = false) : schkE S depth = 1 := by unfold schkE; rw [h]; rfl
theorem sbr_facts {n depth : Int} (h : sbrB n depth = true) : 1 ≤ n ∧ n ≤ 512 ∧ 4 ≤ depth ∧ depth ≤ 25 := of_decide_eq_true h
set_option maxHeartbeats 1000000 in
theorem scheck_calls (S : List Int) (depth : Int) (n : Nat) (hn : n = S.length) (a : Option Addr) (c : Nat) (w : World) (hr : Hid (∀ x ∈ S, -9223372036854775808 ≤ x ∧ x ≤ 9223372036854775807)) (hx : Hid (Rd w .i64 a S)) :
    Calls Tryd.prog 28 #[.slice a n c, .int .i64 depth] w fun e w' => e = .returned (.int .i64 (schkE S depth)) ∧ Keeps [] w w' := by
  subst hn
  have hmf : ∀ (fn : Fn) (first cap : Array Value) (w : World), Sem.run Tryd.prog (Instr.makeFunc fn first cap) w = .ok (.func fn first cap) w := fun _ _ _ _ => rfl
  have HK : Hid (Keeps [] w (w.alloc (.cells #[.int .i64 depth] 3))) := (Keeps.refl _ _).alloc _
  have hcell : (w.alloc (.cells #[.int .i64 depth] 3)).cell? ⟨w.heap.size, 0, none⟩ = some (.int .i64 depth) := by go_simp
  have HC := Lib.hid hcell
  have hxl := hx.out.small
  cases hb : sbrB S.length depth
  · have HB := Lib.hid hb
    rw [schk_one hb]
    clear hb
    go_enter Tryd.func28, Tryd.ntmps28
    go_wp2_with (first
      | (go_at_call 42; go_must (with_reducible refine (sright_calls _ _ _).mono ?_); rw [HB.out]; rintro e w1 ⟨rfl, rfl⟩))
    go_ret
    exact ⟨rfl, HK.out⟩
  · have HB := Lib.hid hb
    obtain ⟨h1, h2, h3, h4⟩ := sbr_facts hb
    obtain ⟨k, hk⟩ : ∃ k : Nat, depth = k + 1 := ⟨depth.toNat - 1, by omega⟩
    have hkk : depth.toNat - 1 = k := by omega
    have hk6 : k ≤ 62 := by omega
    have HE : Hid (schkE S depth = if S.all (fun x => fitB x k) then 0 else 12) := by show _ = _; unfold schkE; rw [hb, hkk]; rfl
    rw [HE.out]
    have HCT := Lib.hid (fun W h1 h2 => scontains_fit S _ rfl a c w.heap.size k depth hk W hr hk6 h1 h2)
    have HXA : Hid (Rd (w.alloc (.cells #[.int .i64 depth] 3)) .i64 a S) := hx.out.new HK.out
    generalize (fun x => fitB x k) = p at *
    clear HE hb h1 h2 h3 h4 hk hkk
    cases hb : S.all p
    · have HB2 := Lib.hid hb
      clear hb
      go_enter Tryd.func28, Tryd.ntmps28
      go_wp2_with (first
        | (go_at_call 42; go_must (with_reducible refine (sright_calls _ _ _).mono ?_); rw [HB.out]; rintro e w1 ⟨rfl, rfl⟩)
        | (go_at_call 50; go_must (with_reducible refine (HCT.out _ HC HXA).mono ?_); rw [HB2.out]; rintro e w1 ⟨rfl, rfl⟩))
      go_ret
      exact ⟨rfl, HK.out⟩
    · have HB2 := Lib.hid hb
      clear hb
      go_enter Tryd.func28, Tryd.ntmps28
      go_wp2_with (first
        | (go_at_call 42; go_must (with_reducible refine (sright_calls _ _ _).mono ?_); rw [HB.out]; rintro e w1 ⟨rfl, rfl⟩)
        | (go_at_call 50; go_must (with_reducible refine (HCT.out _ HC HXA).mono ?_); rw [HB2.out]; rintro e w1 ⟨rfl, rfl⟩))
      go_ret
      exact ⟨rfl, HK.out⟩
end Go.Proofs.YtofkiimaoahfjaaDoor
