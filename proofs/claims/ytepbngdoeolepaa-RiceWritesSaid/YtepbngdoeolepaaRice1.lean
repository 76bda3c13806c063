/-
  Layer 6 (rice), the small functions: bits, escape, right, fits, check.
-/
import Derived.Test.YtepbngdoeolepaaFold
import Derived.Test.YtepbngdoeolepaaApp
set_option linter.unusedVariables false
set_option linter.unusedSimpArgs false
namespace Go.Proofs.Ytepbngdoeolepaa
open Go.RowKit

theorem Rd.cellAt {w : World} {k : IntKind} {a : Option Addr} {xs : List Int} (h : Rd w k a xs) (i : Nat) (hi : i < xs.length) : ∃ b o, a = some ⟨b, o, none⟩ ∧ w.cell? ⟨b, o + i, none⟩ = some (.int k xs[i]) := h.at_ i hi
/-- Within the bounds of samples. -/
def inB (x : Int) : Bool := decide (-2147483648 < x ∧ x < 2147483648)
theorem inB_iff (x : Int) : inB x = true ↔ -2147483648 < x ∧ x < 2147483648 := by simp [inB]
theorem inB_not (x : Int) : inB x = false ↔ ¬ (-2147483648 < x ∧ x < 2147483648) := by simp [inB]

theorem rwide_calls (x : Int) (w : World) :
    Calls Try.prog 56 #[.int .i64 x] w fun e w' => e = .returned (.bool (!inB x)) ∧ w = w' := by
  by_cases h1 : x ≤ -2147483648
  · go_enter Try.func56, Try.ntmps56
    go_wp2
    go_ret
    have : ¬ (-2147483648 < x) := by omega
    simp [inB, this]
  · by_cases h2 : 2147483648 ≤ x
    · go_enter Try.func56, Try.ntmps56
      go_wp2
      go_ret
      have : ¬ (x < 2147483648) := by omega
      simp [inB, this]
    · go_enter Try.func56, Try.ntmps56
      go_wp2
      go_ret
      have e1 : -2147483648 < x := by omega
      have e2 : x < 2147483648 := by omega
      simp [inB, e1, e2]

theorem all_step (p : Int → Bool) (xs : List Int) (i : Nat) (h : i < xs.length) (x : Int) (hx : xs[i] = x) (hp : (xs.drop i).all p = xs.all p) : p x = true → (xs.drop (i + 1)).all p = xs.all p := by
  intro h1
  rw [← hp, List.drop_eq_getElem_cons h, List.all_cons, hx, h1, Bool.true_and]
theorem all_no (p : Int → Bool) (xs : List Int) (i : Nat) (h : i < xs.length) (x : Int) (hx : xs[i] = x) (hp : (xs.drop i).all p = xs.all p) : p x = false → xs.all p = false := by
  intro h1
  rw [← hp, List.drop_eq_getElem_cons h, List.all_cons, hx, h1, Bool.false_and]
theorem all_end (p : Int → Bool) (xs : List Int) (hp : (xs.drop xs.length).all p = xs.all p) : xs.all p = true := by
  rw [← hp]; simp

/-- Where the first is that fails the test; or -1. -/
def idxOf (p : Int → Bool) (xs : List Int) : Int := if xs.all p then -1 else (xs.findIdx (fun x => !p x) : Nat)
theorem idx_all (p : Int → Bool) (xs : List Int) (h : xs.all p = true) : idxOf p xs = -1 := by unfold idxOf; rw [h]; rfl
theorem idx_no (p : Int → Bool) (xs : List Int) (h : xs.all p = false) : 0 ≤ idxOf p xs := by unfold idxOf; rw [h]; simp
theorem idx_at (p : Int → Bool) (xs : List Int) (i : Nat) (h : i < xs.length) (hp : p xs[i] = false) (hf : ∀ j (h : j < xs.length), j < i → p xs[j] = true) : idxOf p xs = i := by
  have e : xs.findIdx (fun x => !p x) = i := by
    rw [List.findIdx_eq h]
    refine ⟨by rw [hp]; rfl, fun j hj => by rw [hf j (by omega) hj]; rfl⟩
  have e2 : xs.all p = false := by
    rw [List.all_eq_false]
    exact ⟨xs[i], List.getElem_mem h, by rw [hp]; simp⟩
  unfold idxOf
  rw [e2, e]; rfl

set_option maxHeartbeats 1000000 in
theorem rindex_wide (xs : List Int) (m : Nat) (hm : m = xs.length) (a : Option Addr) (c : Nat) (w : World) (hx : Hid (Rd w .i64 a xs)) :
    Calls Try.prog 67 #[.slice a m c, .func (.func 56) #[] #[]] w fun e w' => e = .returned (.int .i64 (idxOf inB xs)) ∧ w = w' := by
  subst hm
  have hxl := hx.out.small
  go_enter Try.func67, Try.ntmps67
  go_wp2_with fail
  go_loopg [5, 8] (xs.length + 1) (fun q v5 v8 w2 => w2 = w ∧ ∃ (i : Nat), v8 = .int .i64 i ∧ i ≤ xs.length ∧ Hid ((xs.drop i).all inB = xs.all inB) ∧ Hid (∀ j (h : j < xs.length), j < i → inB xs[j] = true) ∧ Hid (i + q = xs.length + 1))
  case atStart => exact ⟨rfl, 0, rfl, by omega, (show _ = _ from by simp), (fun j h h0 => by omega), (show _ = _ from by omega)⟩
  case round =>
    obtain ⟨rfl, i, rfl, hi, HT, HF, HQ⟩ := hrel
    by_cases hlt : i < xs.length
    · obtain ⟨b1, o1, rfl, hc1⟩ := hx.out.cellAt i hlt
      obtain ⟨x, hx1⟩ : ∃ x, xs[i] = x := ⟨_, rfl⟩
      rw [hx1] at hc1
      have HS := Lib.hid (all_step inB xs i hlt x hx1 HT.out)
      have HN := Lib.hid (all_no inB xs i hlt x hx1 HT.out)
      have HX := Lib.hid hx1
      clear hx1
      cases hb : inB x
      · have HB := Lib.hid hb
        clear hb
        go_wp2_with (first
          | (go_at_call 56; go_must (refine (rwide_calls _ _).mono ?_); rw [HB.out]; rintro e w1 ⟨rfl, rfl⟩))
        go_ret
        refine ⟨?_, rfl⟩
        rw [idx_at inB xs i hlt (by rw [HX.out, HB.out]) HF.out]
        rfl
      · have HB := Lib.hid hb
        clear hb
        go_wp2_with (first
          | (go_at_call 56; go_must (refine (rwide_calls _ _).mono ?_); rw [HB.out]; rintro e w1 ⟨rfl, rfl⟩))
        go_roundg (xs.length - i)
        case measure => have := HQ.out; omega
        case rel =>
          refine ⟨rfl, i + 1, by go_num, by omega, HS.out HB.out, (fun j h hj => ?_), (show _ = _ from by omega)⟩
          rcases Nat.lt_or_ge j i with h1 | h1
          · exact HF.out j h h1
          · obtain rfl : j = i := by omega
            rw [HX.out, HB.out]
    · obtain rfl : i = xs.length := by omega
      go_wp2
      go_ret
      refine ⟨?_, rfl⟩
      rw [idx_all inB xs (all_end inB xs HT.out)]
      rfl

theorem rcontains_wide (xs : List Int) (m : Nat) (hm : m = xs.length) (a : Option Addr) (c : Nat) (w : World) (hx : Hid (Rd w .i64 a xs)) :
    Calls Try.prog 55 #[.slice a m c, .func (.func 56) #[] #[]] w fun e w' => e = .returned (.bool (!xs.all inB)) ∧ w = w' := by
  subst hm
  go_enter Try.func55, Try.ntmps55
  cases hb : xs.all inB
  · have HB := Lib.hid hb
    clear hb
    have h0 := idx_no inB xs HB.out
    generalize hr : idxOf inB xs = r at h0
    have HR := Lib.hid hr
    clear hr
    go_wp2_with (first
      | (go_at_call 67; go_must (with_reducible refine (rindex_wide xs _ rfl a c _ hx).mono ?_); rw [HR.out]; rintro e w1 ⟨rfl, rfl⟩))
    go_ret
    exact ⟨rfl, rfl⟩
  · have HB := Lib.hid hb
    clear hb
    go_wp2_with (first
      | (go_at_call 67; go_must (with_reducible refine (rindex_wide xs _ rfl a c _ hx).mono ?_); rw [idx_all inB xs HB.out]; rintro e w1 ⟨rfl, rfl⟩))
    go_ret
    exact ⟨rfl, rfl⟩


theorem mbits_calls (m : Nat) (w : World) (hm : m ≤ 1) :
    Calls Try.prog 41 #[.int .i64 m] w fun e w' => e = .returned (.int .i64 ((4 + m : Nat) : Int)) ∧ w = w' := by
  rcases (show m = 0 ∨ m = 1 by omega) with rfl | rfl
  all_goals
    go_enter Try.func41, Try.ntmps41
    go_wp2
    go_ret
    exact ⟨rfl, rfl⟩
/-- The parameter that is none. -/
def escS (m : Nat) : Nat := 2 ^ (4 + m) - 1
theorem escape_calls (m : Nat) (w : World) (hm : m ≤ 1) :
    Calls Try.prog 42 #[.int .i64 m] w fun e w' => e = .returned (.int .i64 (escS m : Int)) ∧ w = w' := by
  rcases (show m = 0 ∨ m = 1 by omega) with rfl | rfl
  all_goals
    go_enter Try.func42, Try.ntmps42
    go_wp2_with (first
      | (go_at_call 41; go_must (first | (refine (mbits_calls 0 _ (by omega)).mono ?_; rintro e w1 ⟨rfl, rfl⟩) | (refine (mbits_calls 1 _ (by omega)).mono ?_; rintro e w1 ⟨rfl, rfl⟩))))
    go_ret
    exact ⟨rfl, rfl⟩

/-- Is there such a block? -/
def rightB (n order : Int) : Bool := decide (1 ≤ n ∧ n ≤ 512 ∧ 0 ≤ order ∧ order ≤ 8 ∧ order ≤ n)
theorem rright_calls (n order : Int) (w : World) (h0 : -9223372036854775808 ≤ n ∧ n ≤ 9223372036854775807) (h1 : -9223372036854775808 ≤ order ∧ order ≤ 9223372036854775807) :
    Calls Try.prog 46 #[.int .i64 n, .int .i64 order] w fun e w' => e = .returned (.bool (rightB n order)) ∧ w = w' := by
  by_cases a1 : 1 ≤ n
  · by_cases a2 : n ≤ 512
    · by_cases a3 : 0 ≤ order
      · by_cases a4 : order ≤ 8 ∧ order ≤ n
        · have hmin : order ≤ (if n < 8 then n else 8) := by split <;> omega
          have e : rightB n order = true := decide_eq_true ⟨a1, a2, a3, a4.1, a4.2⟩
          rw [e]
          go_enter Try.func46, Try.ntmps46
          go_wp2
          all_goals
            go_ret
            first | exact ⟨rfl, rfl⟩ | exact ⟨by simp; omega, rfl⟩
        · have e : rightB n order = false := decide_eq_false (by omega)
          rw [e]
          go_enter Try.func46, Try.ntmps46
          go_wp2
          all_goals
            go_ret
            first | exact ⟨rfl, rfl⟩ | exact ⟨by simp; omega, rfl⟩
      · have e : rightB n order = false := decide_eq_false (by omega)
        rw [e]
        go_enter Try.func46, Try.ntmps46
        go_wp2
        go_ret
        exact ⟨rfl, rfl⟩
    · have e : rightB n order = false := decide_eq_false (by omega)
      rw [e]
      go_enter Try.func46, Try.ntmps46
      go_wp2
      go_ret
      exact ⟨rfl, rfl⟩
  · have e : rightB n order = false := decide_eq_false (by omega)
    rw [e]
    go_enter Try.func46, Try.ntmps46
    go_wp2
    go_ret
    exact ⟨rfl, rfl⟩

/-- check's error. -/
def rchkE (L : List Int) (order : Int) : Int := if rightB (L.length + order) order then (if L.all inB then 0 else 12) else 1
theorem rcheck_calls (L : List Int) (order : Int) (n : Nat) (hn : n = L.length) (a : Option Addr) (c : Nat) (w : World) (h1 : -9223372036854775808 ≤ order ∧ order ≤ 9223372036854775807) (hl : L.length ≤ 1000000) (hx : Hid (Rd w .i64 a L)) :
    Calls Try.prog 28 #[.slice a n c, .int .i64 order] w fun e w' => e = .returned (.int .i64 (rchkE L order)) ∧ w = w' := by
  subst hn
  have hsm := hx.out.small
  by_cases a1 : order < 0 ∨ 8 < order
  · have e : rchkE L order = 1 := by
      unfold rchkE
      rw [if_neg]
      unfold rightB
      rw [decide_eq_false (by omega)]
      simp
    rw [e]
    have a1' : order < 0 ∨ (0 ≤ order ∧ 8 < order) := by omega
    clear a1 e
    rcases a1' with h | ⟨h0, h⟩
    all_goals
      go_enter Try.func28, Try.ntmps28
      go_wp2
      go_ret
      exact ⟨rfl, rfl⟩
  · cases hb : rightB (L.length + order) order
    · have e : rchkE L order = 1 := by unfold rchkE; rw [hb]; rfl
      rw [e]
      have HB := Lib.hid hb
      clear e hb
      go_enter Try.func28, Try.ntmps28
      go_wp2_with (first
        | (go_at_call 46; go_must (refine (rright_calls _ _ _ (by omega) (by omega)).mono ?_; rw [HB.out]; rintro e w1 ⟨rfl, rfl⟩)))
      go_ret
      exact ⟨rfl, rfl⟩
    · have HB := Lib.hid hb
      cases hi : L.all inB
      · have e : rchkE L order = 12 := by unfold rchkE; rw [hb, hi]; rfl
        rw [e]
        have HI := Lib.hid hi
        clear e hb hi
        go_enter Try.func28, Try.ntmps28
        go_wp2_with (first
          | (go_at_call 46; go_must (refine (rright_calls _ _ _ (by omega) (by omega)).mono ?_; rw [HB.out]; rintro e w1 ⟨rfl, rfl⟩))
          | (go_at_call 55; go_must (with_reducible refine (rcontains_wide L _ rfl a c _ hx).mono ?_; rw [HI.out]; rintro e w1 ⟨rfl, rfl⟩)))
        go_ret
        exact ⟨rfl, rfl⟩
      · have e : rchkE L order = 0 := by unfold rchkE; rw [hb, hi]; rfl
        rw [e]
        have HI := Lib.hid hi
        clear e hb hi
        go_enter Try.func28, Try.ntmps28
        go_wp2_with (first
          | (go_at_call 46; go_must (refine (rright_calls _ _ _ (by omega) (by omega)).mono ?_; rw [HB.out]; rintro e w1 ⟨rfl, rfl⟩))
          | (go_at_call 55; go_must (with_reducible refine (rcontains_wide L _ rfl a c _ hx).mono ?_; rw [HI.out]; rintro e w1 ⟨rfl, rfl⟩)))
        go_ret
        exact ⟨rfl, rfl⟩
/-- Has a block so many parts? -/
def fitsB (n order p : Nat) : Bool := decide (n % 2 ^ p = 0 ∧ order ≤ n / 2 ^ p)
theorem fits_calls (n order p : Nat) (w : World) (hp : p ≤ 15) (hn : n ≤ 1000000) (ho : order ≤ 1000000) :
    Calls Try.prog 47 #[.int .i64 n, .int .i64 order, .int .i64 p] w fun e w' => e = .returned (.bool (fitsB n order p)) ∧ w = w' := by
  have hP : 2 ^ p ≤ 2 ^ 15 := Nat.pow_le_pow_right (by omega) hp
  have hP0 : 0 < 2 ^ p := Nat.pow_pos (by omega)
  have hand := and_mask p (by omega) (n : Int)
  obtain ⟨P, hPe⟩ : ∃ P : Nat, 2 ^ p = P := ⟨_, rfl⟩
  have hPi : (2 : Int) ^ p = (P : Int) := by rw [← hPe]; simp
  rw [hPi] at hand
  rw [hPe] at hP hP0
  obtain ⟨R, hR⟩ : ∃ R : Nat, n % P = R := ⟨_, rfl⟩
  obtain ⟨Q, hQ⟩ : ∃ Q : Nat, n / P = Q := ⟨_, rfl⟩
  have hand2 : bits .and .i64 (n : Int) ((P : Int) - 1) = (R : Int) := by rw [hand, ← hR]; omega
  have hdiv : (n : Int) / (P : Int) = (Q : Int) := by rw [← hQ]; simp
  have hpi : (0 : Int) ≤ (p : Int) := by omega
  have hfe : fitsB n order p = decide (R = 0 ∧ order ≤ Q) := by unfold fitsB; rw [hPe, hR, hQ]
  have hQn : Q ≤ 1000000 := by rw [← hQ]; exact Nat.le_trans (Nat.div_le_self _ _) hn
  have hPs : P ≤ 32768 := hP
  have HPI := Lib.hid hPi
  rw [hfe]
  clear hfe hPe hand hP hR hQ hP0
  by_cases h1 : R = 0
  · by_cases h2 : order ≤ Q
    · rw [decide_eq_true ⟨h1, h2⟩]
      subst h1
      have h2i : (order : Int) ≤ (Q : Int) := by omega
      go_enter Try.func47, Try.ntmps47
      go_wp2
      go_ret
      exact ⟨rfl, rfl⟩
    · rw [decide_eq_false (fun h => h2 h.2)]
      subst h1
      have h2i : ¬ ((order : Int) ≤ (Q : Int)) := by omega
      go_enter Try.func47, Try.ntmps47
      go_wp2
      go_ret
      exact ⟨rfl, rfl⟩
  · rw [decide_eq_false (fun h => h1 h.1)]
    have h1b : ((R : Int) == 0) = false := beq_eq_false_iff_ne.2 (by omega)
    go_enter Try.func47, Try.ntmps47
    go_wp2
    go_ret
    exact ⟨rfl, rfl⟩
end Go.Proofs.Ytepbngdoeolepaa
