/-
  The document's Put (shellacref05): the digits of a number's bytes; room.
-/
import Derived.Test.YtjgljjpgknjihaaCodeP
import Derived.Test.YtjgljjpgknjihaaRef3a
set_option linter.unusedVariables false
set_option linter.unusedSimpArgs false
namespace Go.Proofs.Ytjgljjpgknjihaa
open Go.RowKit Go.Proofs.Ytjgljjpgknjihaa.Pure

/-- t groups of six digits, each behind 10. -/
def grp : Nat → List Bool → List Bool
  | 0, _ => []
  | t + 1, d => true :: false :: d.take 6 ++ grp t (d.drop 6)

theorem grp_snoc (t : Nat) : ∀ d : List Bool, grp (t + 1) d = grp t d ++ (true :: false :: (d.drop (6 * t)).take 6) := by
  induction t with
  | zero => intro d; simp [grp]
  | succ t ih =>
    intro d
    rw [grp, ih (d.drop 6), grp, List.drop_drop]
    simp [Nat.mul_succ, Nat.add_comm]

theorem pack_grp (t : Nat) : ∀ n : Nat, pack (grp t (bitsN (6 * t) n)) = tailB (n : Int) t := by
  induction t with
  | zero => intro n; simp [grp, pack_nil, tailB]
  | succ t ih =>
    intro n
    have e : bitsN (6 * (t + 1)) n = bitsN 6 (n / 2 ^ (6 * t)) ++ bitsN (6 * t) n := by
      rw [show 6 * (t + 1) = 6 + 6 * t by omega, bitsN_append]
    rw [grp, e, List.take_left' (bitsN_length _ _), List.drop_left' (bitsN_length _ _), tailB_cons]
    have e2 : pack ((true :: false :: bitsN 6 (n / 2 ^ (6 * t))) ++ grp t (bitsN (6 * t) n)) = pack (true :: false :: bitsN 6 (n / 2 ^ (6 * t))) ++ pack (grp t (bitsN (6 * t) n)) :=
      pack_append8 (by simp [bitsN_length]) _
    rw [show (true :: false :: bitsN 6 (n / 2 ^ (6 * t)) ++ grp t (bitsN (6 * t) n)) = (true :: false :: bitsN 6 (n / 2 ^ (6 * t))) ++ grp t (bitsN (6 * t) n) from rfl, e2, ih, pack8 (by simp [bitsN_length])]
    rw [List.singleton_append]
    congr 1
    rw [val_cons, val_cons, val_bitsN]
    simp only [List.length_cons, bitsN_length]
    have e3 : (2 : Nat) ^ (6 * t) = 64 ^ t := by rw [Nat.pow_mul]
    rw [e3]
    have : ((n : Int) / 64 ^ t) = ((n / 64 ^ t : Nat) : Int) := by rw [Int.natCast_ediv, Int.natCast_pow]; rfl
    rw [this]
    generalize n / 64 ^ t = m
    simp

/-- The digits of a number's bytes. -/
def encD (n : Nat) (k : Nat) : List Bool := (List.replicate k true ++ [false]) ++ (bitsN (5 * k + 1) n).take (7 - k) ++ grp (k - 1) ((bitsN (5 * k + 1) n).drop (7 - k))

theorem pack_enc (n : Int) (k : Nat) (h0 : 0 ≤ n) (h1 : n ≤ 68719476735) (hs : ¬ n < 128) (hk : sizeB n = k) : pack (encD n.toNat k) = putS n := by
  obtain ⟨hk2, hk7, p0, p1⟩ := high_part n k h0 h1 hs hk
  have e : bitsN (5 * k + 1) n.toNat = bitsN (7 - k) (n.toNat / 2 ^ (6 * (k - 1))) ++ bitsN (6 * (k - 1)) n.toNat := by
    rw [← bitsN_append]; congr 1; omega
  have e5 : ((n.toNat : Nat) : Int) = n := Int.toNat_of_nonneg h0
  unfold encD putS
  rw [if_neg hs, hk, e, List.take_left' (bitsN_length _ _), List.drop_left' (bitsN_length _ _)]
  rw [pack_append8 (by simp [bitsN_length]; omega), pack_grp, e5, pack8 (by simp [bitsN_length]; omega), List.singleton_append]
  congr 1
  have e3 : (2 : Nat) ^ (6 * (k - 1)) = 64 ^ (k - 1) := by rw [Nat.pow_mul]
  have e4 : n / 64 ^ (k - 1) = ((n.toNat / 64 ^ (k - 1) : Nat) : Int) := by rw [Int.natCast_ediv, Int.natCast_pow, e5]; rfl
  rw [e4] at p0 p1 ⊢
  rw [e3, val_append, val_bitsN, bitsN_length]
  generalize n.toNat / 64 ^ (k - 1) = m at *
  have hk' : k = 2 ∨ k = 3 ∨ k = 4 ∨ k = 5 ∨ k = 6 ∨ k = 7 := by omega
  clear e e4 hk
  rcases hk' with rfl | rfl | rfl | rfl | rfl | rfl <;> simp [val] at p1 ⊢ <;> omega

theorem dstr_extract (l : List Bool) (a b : Nat) : (dstr l).extract a b = dstr ((l.take b).drop a) := by
  apply ByteArray.ext
  rw [ByteArray.data_extract]
  simp [dstr, List.map_drop, List.map_take]
  rw [List.drop_take]
theorem ones_extract (k : Nat) (hk : k ≤ 8) : (⟨#[49, 49, 49, 49, 49, 49, 49, 49]⟩ : ByteArray).extract 0 k = dstr (List.replicate k true) := by
  have hk' : k = 0 ∨ k = 1 ∨ k = 2 ∨ k = 3 ∨ k = 4 ∨ k = 5 ∨ k = 6 ∨ k = 7 ∨ k = 8 := by omega
  rcases hk' with rfl | rfl | rfl | rfl | rfl | rfl | rfl | rfl | rfl <;> rfl
theorem zero_text : (⟨#[48]⟩ : ByteArray) = dstr [false] := rfl
theorem ten_text : (⟨#[49, 48]⟩ : ByteArray) = dstr [true, false] := rfl

theorem refRoom_calls (k : Int) (w : World) (h0 : 1 ≤ k) (h1 : k ≤ 10) :
    Calls Try.prog 24 #[.int .i64 k] w fun e w' => e = .returned (.int .i64 (if k = 1 then 7 else 5 * k + 1)) ∧ w = w' := by
  by_cases h : k = 1
  · subst h
    go_enter Try.func24, Try.ntmps24
    go_wp2
    go_ret
    exact ⟨rfl, rfl⟩
  · rw [if_neg h]
    go_enter Try.func24, Try.ntmps24
    go_wp2
    go_ret
    exact ⟨rfl, rfl⟩

end Go.Proofs.Ytjgljjpgknjihaa
