/-
  Layer 7 (predict), the small functions: in, all, wide, floor; ContainsFunc of a test.
-/
import Derived.Test.YtpnomiepbbbnbaaPred1
set_option linter.unusedVariables false
set_option linter.unusedSimpArgs false
namespace Go.Proofs.Ytpnomiepbbbnbaa
open Go.RowKit

/-- Within the bounds of samples. -/
def inB (x : Int) : Bool := decide (-2147483648 < x ∧ x < 2147483648)
theorem inB_iff (x : Int) : inB x = true ↔ -2147483648 < x ∧ x < 2147483648 := by simp [inB]
theorem inB_not (x : Int) : inB x = false ↔ ¬ (-2147483648 < x ∧ x < 2147483648) := by simp [inB]
/-- Within the bounds of coefficients. -/
def cfB (x : Int) : Bool := decide (-2048 ≤ x ∧ x ≤ 2047)
theorem cfB_iff (x : Int) : cfB x = true ↔ -2048 ≤ x ∧ x ≤ 2047 := by simp [cfB]

theorem in_calls (x : Int) (w : World) :
    Calls Try.prog 35 #[.int .i64 x] w fun e w' => e = .returned (.bool (inB x)) ∧ w = w' := by
  by_cases h1 : -2147483648 < x
  · by_cases h2 : x < 2147483648
    · go_enter Try.func35, Try.ntmps35
      go_wp2
      go_ret
      simp [inB, h1, h2]
    · go_enter Try.func35, Try.ntmps35
      go_wp2
      go_ret
      simp [inB, h1, h2]
  · go_enter Try.func35, Try.ntmps35
    go_wp2
    go_ret
    refine ⟨?_, rfl⟩
    rw [(inB_not x).2 (by omega)]
    rfl

theorem wide_calls (x : Int) (w : World) :
    Calls Try.prog 30 #[.int .i64 x] w fun e w' => e = .returned (.bool (!inB x)) ∧ w = w' := by
  by_cases h1 : x ≤ -2147483648
  · go_enter Try.func30, Try.ntmps30
    go_wp2
    go_ret
    have : ¬ (-2147483648 < x) := by omega
    refine ⟨?_, rfl⟩
    rw [(inB_not x).2 (by omega)]
    rfl
  · by_cases h2 : 2147483648 ≤ x
    · go_enter Try.func30, Try.ntmps30
      go_wp2
      go_ret
      have : ¬ (x < 2147483648) := by omega
      simp [inB, this]
    · go_enter Try.func30, Try.ntmps30
      go_wp2
      go_ret
      have e1 : -2147483648 < x := by omega
      have e2 : x < 2147483648 := by omega
      simp [inB, e1, e2]

theorem odd_calls (x : Int) (w : World) :
    Calls Try.prog 34 #[.int .i64 x] w fun e w' => e = .returned (.bool (!cfB x)) ∧ w = w' := by
  by_cases h1 : x < -2048
  · go_enter Try.func34, Try.ntmps34
    go_wp2
    go_ret
    have : ¬ (-2048 ≤ x) := by omega
    simp [cfB, this]
  · by_cases h2 : 2047 < x
    · go_enter Try.func34, Try.ntmps34
      go_wp2
      go_ret
      have : ¬ (x ≤ 2047) := by omega
      simp [cfB, this]
    · go_enter Try.func34, Try.ntmps34
      go_wp2
      go_ret
      have e1 : -2048 ≤ x := by omega
      have e2 : x ≤ 2047 := by omega
      simp [cfB, e1, e2]

theorem all_step (p : Int → Bool) (xs : List Int) (i : Nat) (h : i < xs.length) (x : Int) (hx : xs[i] = x) (hp : (xs.drop i).all p = xs.all p) : p x = true → (xs.drop (i + 1)).all p = xs.all p := by
  intro h1
  rw [← hp, List.drop_eq_getElem_cons h, List.all_cons, hx, h1, Bool.true_and]
theorem all_no (p : Int → Bool) (xs : List Int) (i : Nat) (h : i < xs.length) (x : Int) (hx : xs[i] = x) (hp : (xs.drop i).all p = xs.all p) : p x = false → xs.all p = false := by
  intro h1
  rw [← hp, List.drop_eq_getElem_cons h, List.all_cons, hx, h1, Bool.false_and]
theorem all_end (p : Int → Bool) (xs : List Int) (hp : (xs.drop xs.length).all p = xs.all p) : xs.all p = true := by
  rw [← hp]; simp

set_option maxHeartbeats 1000000 in
theorem all_calls (xs : List Int) (m : Nat) (hm : m = xs.length) (a : Option Addr) (c : Nat) (w : World) (hx : Hid (Rd w .i64 a xs)) :
    Calls Try.prog 32 #[.slice a m c] w fun e w' => e = .returned (.bool (xs.all inB)) ∧ w = w' := by
  subst hm
  have hxl := hx.out.small
  go_enter Try.func32, Try.ntmps32
  go_wp2_with fail
  go_loopg [3] (xs.length + 1) (fun q v3 w2 => w2 = w ∧ ∃ (i : Nat), v3 = .int .i64 i ∧ i ≤ xs.length ∧ Hid ((xs.drop i).all inB = xs.all inB) ∧ Hid (i + q = xs.length + 1))
  case atStart => exact ⟨rfl, 0, rfl, by omega, (show _ = _ from by simp), (show _ = _ from by omega)⟩
  case round =>
    obtain ⟨rfl, i, rfl, hi, HT, HQ⟩ := hrel
    by_cases hlt : i < xs.length
    · obtain ⟨b1, o1, rfl, hc1⟩ := hx.out.cellAt i hlt
      obtain ⟨x, hx1⟩ : ∃ x, xs[i] = x := ⟨_, rfl⟩
      rw [hx1] at hc1
      have HS := Lib.hid (all_step inB xs i hlt x hx1 HT.out)
      have HN := Lib.hid (all_no inB xs i hlt x hx1 HT.out)
      clear hx1
      cases hb : inB x
      · have HB := Lib.hid hb
        clear hb
        go_wp2_with (first
          | (go_at_call 35; go_must (refine (in_calls _ _).mono ?_); rw [HB.out]; rintro e w1 ⟨rfl, rfl⟩))
        go_ret
        refine ⟨?_, rfl⟩
        rw [HN.out HB.out]
        rfl
      · have HB := Lib.hid hb
        clear hb
        go_wp2_with (first
          | (go_at_call 35; go_must (refine (in_calls _ _).mono ?_); rw [HB.out]; rintro e w1 ⟨rfl, rfl⟩))
        go_roundg (xs.length - i)
        case measure => have := HQ.out; omega
        case rel => exact ⟨rfl, i + 1, by go_num, by omega, HS.out HB.out, (show _ = _ from by omega)⟩
    · obtain rfl : i = xs.length := by omega
      go_wp2
      go_ret
      refine ⟨?_, rfl⟩
      rw [all_end inB xs HT.out]
      rfl


/-- Where the first is that fails the test; or -1. -/
def idxOf (p : Int → Bool) (xs : List Int) : Int := if xs.all p then -1 else (xs.findIdx (fun x => !p x) : Nat)
theorem idx_all (p : Int → Bool) (xs : List Int) (h : xs.all p = true) : idxOf p xs = -1 := by unfold idxOf; rw [h]; rfl
theorem idx_no (p : Int → Bool) (xs : List Int) (h : xs.all p = false) : 0 ≤ idxOf p xs := by unfold idxOf; rw [h]; simp
theorem idx_at (p : Int → Bool) (xs : List Int) (i : Nat) (h : i < xs.length) (hp : p xs[i] = false) (hf : ∀ j (h : j < xs.length), j < i → p xs[j] = true) : idxOf p xs = i := by
  have e : xs.findIdx (fun x => !p x) = i := by
    rw [List.findIdx_eq h]
    refine ⟨by rw [hp]; rfl, fun j hj => by rw [hf j (by omega) hj]; rfl⟩
  have e2 : xs.all p = false := by
    rw [List.all_eq_false]
    exact ⟨xs[i], List.getElem_mem h, by rw [hp]; simp⟩
  unfold idxOf
  rw [e2, e]; rfl

set_option maxHeartbeats 1000000 in
theorem index_wide (xs : List Int) (m : Nat) (hm : m = xs.length) (a : Option Addr) (c : Nat) (w : World) (hx : Hid (Rd w .i64 a xs)) :
    Calls Try.prog 38 #[.slice a m c, .func (.func 30) #[] #[]] w fun e w' => e = .returned (.int .i64 (idxOf inB xs)) ∧ w = w' := by
  subst hm
  have hxl := hx.out.small
  go_enter Try.func38, Try.ntmps38
  go_wp2_with fail
  go_loopg [5, 8] (xs.length + 1) (fun q v5 v8 w2 => w2 = w ∧ ∃ (i : Nat), v8 = .int .i64 i ∧ i ≤ xs.length ∧ Hid ((xs.drop i).all inB = xs.all inB) ∧ Hid (∀ j (h : j < xs.length), j < i → inB xs[j] = true) ∧ Hid (i + q = xs.length + 1))
  case atStart => exact ⟨rfl, 0, rfl, by omega, (show _ = _ from by simp), (fun j h h0 => by omega), (show _ = _ from by omega)⟩
  case round =>
    obtain ⟨rfl, i, rfl, hi, HT, HF, HQ⟩ := hrel
    by_cases hlt : i < xs.length
    · obtain ⟨b1, o1, rfl, hc1⟩ := hx.out.cellAt i hlt
      obtain ⟨x, hx1⟩ : ∃ x, xs[i] = x := ⟨_, rfl⟩
      rw [hx1] at hc1
      have HS := Lib.hid (all_step inB xs i hlt x hx1 HT.out)
      have HN := Lib.hid (all_no inB xs i hlt x hx1 HT.out)
      have HX := Lib.hid hx1
      clear hx1
      cases hb : inB x
      · have HB := Lib.hid hb
        clear hb
        go_wp2_with (first
          | (go_at_call 30; go_must (refine (wide_calls _ _).mono ?_); rw [HB.out]; rintro e w1 ⟨rfl, rfl⟩))
        go_ret
        refine ⟨?_, rfl⟩
        rw [idx_at inB xs i hlt (by rw [HX.out, HB.out]) HF.out]
        rfl
      · have HB := Lib.hid hb
        clear hb
        go_wp2_with (first
          | (go_at_call 30; go_must (refine (wide_calls _ _).mono ?_); rw [HB.out]; rintro e w1 ⟨rfl, rfl⟩))
        go_roundg (xs.length - i)
        case measure => have := HQ.out; omega
        case rel =>
          refine ⟨rfl, i + 1, by go_num, by omega, HS.out HB.out, (fun j h hj => ?_), (show _ = _ from by omega)⟩
          rcases Nat.lt_or_ge j i with h1 | h1
          · exact HF.out j h h1
          · obtain rfl : j = i := by omega
            rw [HX.out, HB.out]
    · obtain rfl : i = xs.length := by omega
      go_wp2
      go_ret
      refine ⟨?_, rfl⟩
      rw [idx_all inB xs (all_end inB xs HT.out)]
      rfl

theorem contains_wide (xs : List Int) (m : Nat) (hm : m = xs.length) (a : Option Addr) (c : Nat) (w : World) (hx : Hid (Rd w .i64 a xs)) :
    Calls Try.prog 29 #[.slice a m c, .func (.func 30) #[] #[]] w fun e w' => e = .returned (.bool (!xs.all inB)) ∧ w = w' := by
  subst hm
  go_enter Try.func29, Try.ntmps29
  cases hb : xs.all inB
  · have HB := Lib.hid hb
    clear hb
    have h0 := idx_no inB xs HB.out
    generalize hr : idxOf inB xs = r at h0
    have HR := Lib.hid hr
    clear hr
    go_wp2_with (first
      | (go_at_call 38; go_must (with_reducible refine (index_wide xs _ rfl a c _ hx).mono ?_); rw [HR.out]; rintro e w1 ⟨rfl, rfl⟩))
    go_ret
    exact ⟨rfl, rfl⟩
  · have HB := Lib.hid hb
    clear hb
    go_wp2_with (first
      | (go_at_call 38; go_must (with_reducible refine (index_wide xs _ rfl a c _ hx).mono ?_); rw [idx_all inB xs HB.out]; rintro e w1 ⟨rfl, rfl⟩))
    go_ret
    exact ⟨rfl, rfl⟩

set_option maxHeartbeats 1000000 in
theorem index_odd (xs : List Int) (m : Nat) (hm : m = xs.length) (a : Option Addr) (c : Nat) (w : World) (hx : Hid (Rd w .i64 a xs)) :
    Calls Try.prog 38 #[.slice a m c, .func (.func 34) #[] #[]] w fun e w' => e = .returned (.int .i64 (idxOf cfB xs)) ∧ w = w' := by
  subst hm
  have hxl := hx.out.small
  go_enter Try.func38, Try.ntmps38
  go_wp2_with fail
  go_loopg [5, 8] (xs.length + 1) (fun q v5 v8 w2 => w2 = w ∧ ∃ (i : Nat), v8 = .int .i64 i ∧ i ≤ xs.length ∧ Hid ((xs.drop i).all cfB = xs.all cfB) ∧ Hid (∀ j (h : j < xs.length), j < i → cfB xs[j] = true) ∧ Hid (i + q = xs.length + 1))
  case atStart => exact ⟨rfl, 0, rfl, by omega, (show _ = _ from by simp), (fun j h h0 => by omega), (show _ = _ from by omega)⟩
  case round =>
    obtain ⟨rfl, i, rfl, hi, HT, HF, HQ⟩ := hrel
    by_cases hlt : i < xs.length
    · obtain ⟨b1, o1, rfl, hc1⟩ := hx.out.cellAt i hlt
      obtain ⟨x, hx1⟩ : ∃ x, xs[i] = x := ⟨_, rfl⟩
      rw [hx1] at hc1
      have HS := Lib.hid (all_step cfB xs i hlt x hx1 HT.out)
      have HN := Lib.hid (all_no cfB xs i hlt x hx1 HT.out)
      have HX := Lib.hid hx1
      clear hx1
      cases hb : cfB x
      · have HB := Lib.hid hb
        clear hb
        go_wp2_with (first
          | (go_at_call 34; go_must (refine (odd_calls _ _).mono ?_); rw [HB.out]; rintro e w1 ⟨rfl, rfl⟩))
        go_ret
        refine ⟨?_, rfl⟩
        rw [idx_at cfB xs i hlt (by rw [HX.out, HB.out]) HF.out]
        rfl
      · have HB := Lib.hid hb
        clear hb
        go_wp2_with (first
          | (go_at_call 34; go_must (refine (odd_calls _ _).mono ?_); rw [HB.out]; rintro e w1 ⟨rfl, rfl⟩))
        go_roundg (xs.length - i)
        case measure => have := HQ.out; omega
        case rel =>
          refine ⟨rfl, i + 1, by go_num, by omega, HS.out HB.out, (fun j h hj => ?_), (show _ = _ from by omega)⟩
          rcases Nat.lt_or_ge j i with h1 | h1
          · exact HF.out j h h1
          · obtain rfl : j = i := by omega
            rw [HX.out, HB.out]
    · obtain rfl : i = xs.length := by omega
      go_wp2
      go_ret
      refine ⟨?_, rfl⟩
      rw [idx_all cfB xs (all_end cfB xs HT.out)]
      rfl

theorem contains_odd (xs : List Int) (m : Nat) (hm : m = xs.length) (a : Option Addr) (c : Nat) (w : World) (hx : Hid (Rd w .i64 a xs)) :
    Calls Try.prog 29 #[.slice a m c, .func (.func 34) #[] #[]] w fun e w' => e = .returned (.bool (!xs.all cfB)) ∧ w = w' := by
  subst hm
  go_enter Try.func29, Try.ntmps29
  cases hb : xs.all cfB
  · have HB := Lib.hid hb
    clear hb
    have h0 := idx_no cfB xs HB.out
    generalize hr : idxOf cfB xs = r at h0
    have HR := Lib.hid hr
    clear hr
    go_wp2_with (first
      | (go_at_call 38; go_must (with_reducible refine (index_odd xs _ rfl a c _ hx).mono ?_); rw [HR.out]; rintro e w1 ⟨rfl, rfl⟩))
    go_ret
    exact ⟨rfl, rfl⟩
  · have HB := Lib.hid hb
    clear hb
    go_wp2_with (first
      | (go_at_call 38; go_must (with_reducible refine (index_odd xs _ rfl a c _ hx).mono ?_); rw [idx_all cfB xs HB.out]; rintro e w1 ⟨rfl, rfl⟩))
    go_ret
    exact ⟨rfl, rfl⟩
end Go.Proofs.Ytpnomiepbbbnbaa
