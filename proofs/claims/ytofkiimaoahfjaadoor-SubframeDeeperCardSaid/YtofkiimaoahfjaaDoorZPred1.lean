/-
  Layer 7 (predict), the small functions: Same, in, all, floor, wide, ContainsFunc.
  Layer 7 (predict), the small functions: in, all, wide, floor; ContainsFunc of a test.
  Layer 7 (predict): is it a model (Check and Right)?
  Layer 7 (predict): what is predicted.
  Layer 7 (predict): the program's predict.
-/
import Derived.Test.YtofkiimaoahfjaaDoorZBoth
import Derived.Test.YtofkiimaoahfjaaDoorProg
import Derived.WalkSpells
import Derived.WalkLawsBesides
import Derived.BigQuiet
set_option maxRecDepth 100000
set_option linter.unusedVariables false
set_option linter.unusedSimpArgs false
namespace Go.Proofs.YtofkiimaoahfjaaDoor
open Go.RowKit

theorem same_step (xs ys : List Int) (h : xs.length = ys.length) (i : Nat) (hi : i < xs.length) (hp : xs.take i = ys.take i) (he : xs[i] = ys[i]'(h ▸ hi)) : xs.take (i + 1) = ys.take (i + 1) := by
  rw [List.take_succ_eq_append_getElem hi, List.take_succ_eq_append_getElem (h ▸ hi), hp, he]

end Go.Proofs.YtofkiimaoahfjaaDoor

set_option maxRecDepth 100000
set_option linter.unusedVariables false
set_option linter.unusedSimpArgs false
namespace Go.Proofs.YtofkiimaoahfjaaDoor
open Go.RowKit

/-- Within the bounds of coefficients. -/
def cfB (x : Int) : Bool := decide (-2048 ≤ x ∧ x ≤ 2047)
theorem cfB_iff (x : Int) : cfB x = true ↔ -2048 ≤ x ∧ x ≤ 2047 := by simp [cfB]

theorem in_calls (x : Int) (w : World) :
    Calls Tryd.prog 104 #[.int .i64 x] w fun e w' => e = .returned (.bool (inB x)) ∧ w = w' := by
  by_cases h1 : -2147483648 < x
  · by_cases h2 : x < 2147483648
    · go_enter Tryd.func104, Tryd.ntmps104
      go_wp2
      go_ret
      simp [inB, h1, h2]
    · go_enter Tryd.func104, Tryd.ntmps104
      go_wp2
      go_ret
      simp [inB, h1, h2]
  · go_enter Tryd.func104, Tryd.ntmps104
    go_wp2
    go_ret
    refine ⟨?_, rfl⟩
    rw [(inB_not x).2 (by omega)]
    rfl

theorem wide_calls (x : Int) (w : World) :
    Calls Tryd.prog 88 #[.int .i64 x] w fun e w' => e = .returned (.bool (!inB x)) ∧ w = w' := by
  by_cases h1 : x ≤ -2147483648
  · go_enter Tryd.func88, Tryd.ntmps88
    go_wp2
    go_ret
    have : ¬ (-2147483648 < x) := by omega
    refine ⟨?_, rfl⟩
    rw [(inB_not x).2 (by omega)]
    rfl
  · by_cases h2 : 2147483648 ≤ x
    · go_enter Tryd.func88, Tryd.ntmps88
      go_wp2
      go_ret
      have : ¬ (x < 2147483648) := by omega
      simp [inB, this]
    · go_enter Tryd.func88, Tryd.ntmps88
      go_wp2
      go_ret
      have e1 : -2147483648 < x := by omega
      have e2 : x < 2147483648 := by omega
      simp [inB, e1, e2]

theorem odd_calls (x : Int) (w : World) :
    Calls Tryd.prog 124 #[.int .i64 x] w fun e w' => e = .returned (.bool (!cfB x)) ∧ w = w' := by
  by_cases h1 : x < -2048
  · go_enter Tryd.func124, Tryd.ntmps124
    go_wp2
    go_ret
    have : ¬ (-2048 ≤ x) := by omega
    simp [cfB, this]
  · by_cases h2 : 2047 < x
    · go_enter Tryd.func124, Tryd.ntmps124
      go_wp2
      go_ret
      have : ¬ (x ≤ 2047) := by omega
      simp [cfB, this]
    · go_enter Tryd.func124, Tryd.ntmps124
      go_wp2
      go_ret
      have e1 : -2048 ≤ x := by omega
      have e2 : x ≤ 2047 := by omega
      simp [cfB, e1, e2]

set_option maxHeartbeats 1000000 in
theorem all_calls (xs : List Int) (m : Nat) (hm : m = xs.length) (a : Option Addr) (c : Nat) (w : World) (hx : Hid (Rd w .i64 a xs)) :
    Calls Tryd.prog 69 #[.slice a m c] w fun e w' => e = .returned (.bool (xs.all inB)) ∧ w = w' := by
  subst hm
  have hxl := hx.out.small
  go_enter Tryd.func69, Tryd.ntmps69
  go_wp2_with fail
  go_loopg [3] (xs.length + 1) (fun q v3 w2 => w2 = w ∧ ∃ (i : Nat), v3 = .int .i64 i ∧ i ≤ xs.length ∧ Hid ((xs.drop i).all inB = xs.all inB) ∧ Hid (i + q = xs.length + 1))
  case atStart => exact ⟨rfl, 0, rfl, by omega, (show _ = _ from by simp), (show _ = _ from by omega)⟩
  case round =>
    obtain ⟨rfl, i, rfl, hi, HT, HQ⟩ := hrel
    by_cases hlt : i < xs.length
    · obtain ⟨b1, o1, rfl, hc1⟩ := hx.out.cellAt i hlt
      obtain ⟨x, hx1⟩ : ∃ x, xs[i] = x := ⟨_, rfl⟩
      rw [hx1] at hc1
      have HS := Lib.hid (all_step inB xs i hlt x hx1 HT.out)
      have HN := Lib.hid (all_no inB xs i hlt x hx1 HT.out)
      clear hx1
      cases hb : inB x
      · have HB := Lib.hid hb
        clear hb
        go_wp2_with (first
          | (go_at_call 104; go_must (refine (in_calls _ _).mono ?_); rw [HB.out]; rintro e w1 ⟨rfl, rfl⟩))
        go_ret
        refine ⟨?_, rfl⟩
        rw [HN.out HB.out]
        rfl
      · have HB := Lib.hid hb
        clear hb
        go_wp2_with (first
          | (go_at_call 104; go_must (refine (in_calls _ _).mono ?_); rw [HB.out]; rintro e w1 ⟨rfl, rfl⟩))
        go_roundg (xs.length - i)
        case measure => have := HQ.out; omega
        case rel => exact ⟨rfl, i + 1, by go_num, by omega, HS.out HB.out, (show _ = _ from by omega)⟩
    · obtain rfl : i = xs.length := by omega
      go_wp2
      go_ret
      refine ⟨?_, rfl⟩
      rw [all_end inB xs HT.out]
      rfl


set_option maxHeartbeats 1000000 in
theorem index_wide (xs : List Int) (m : Nat) (hm : m = xs.length) (a : Option Addr) (c : Nat) (w : World) (hx : Hid (Rd w .i64 a xs)) :
    Calls Tryd.prog 84 #[.slice a m c, .func (.func 88) #[] #[]] w fun e w' => e = .returned (.int .i64 (idxOf inB xs)) ∧ w = w' := by
  subst hm
  have hxl := hx.out.small
  go_enter Tryd.func84, Tryd.ntmps84
  go_wp2_with fail
  go_loopg [5, 8] (xs.length + 1) (fun q v5 v8 w2 => w2 = w ∧ ∃ (i : Nat), v8 = .int .i64 i ∧ i ≤ xs.length ∧ Hid ((xs.drop i).all inB = xs.all inB) ∧ Hid (∀ j (h : j < xs.length), j < i → inB xs[j] = true) ∧ Hid (i + q = xs.length + 1))
  case atStart => exact ⟨rfl, 0, rfl, by omega, (show _ = _ from by simp), (fun j h h0 => by omega), (show _ = _ from by omega)⟩
  case round =>
    obtain ⟨rfl, i, rfl, hi, HT, HF, HQ⟩ := hrel
    by_cases hlt : i < xs.length
    · obtain ⟨b1, o1, rfl, hc1⟩ := hx.out.cellAt i hlt
      obtain ⟨x, hx1⟩ : ∃ x, xs[i] = x := ⟨_, rfl⟩
      rw [hx1] at hc1
      have HS := Lib.hid (all_step inB xs i hlt x hx1 HT.out)
      have HN := Lib.hid (all_no inB xs i hlt x hx1 HT.out)
      have HX := Lib.hid hx1
      clear hx1
      cases hb : inB x
      · have HB := Lib.hid hb
        clear hb
        go_wp2_with (first
          | (go_at_call 88; go_must (refine (wide_calls _ _).mono ?_); rw [HB.out]; rintro e w1 ⟨rfl, rfl⟩))
        go_ret
        refine ⟨?_, rfl⟩
        rw [idx_at inB xs i hlt (by rw [HX.out, HB.out]) HF.out]
        rfl
      · have HB := Lib.hid hb
        clear hb
        go_wp2_with (first
          | (go_at_call 88; go_must (refine (wide_calls _ _).mono ?_); rw [HB.out]; rintro e w1 ⟨rfl, rfl⟩))
        go_roundg (xs.length - i)
        case measure => have := HQ.out; omega
        case rel =>
          refine ⟨rfl, i + 1, by go_num, by omega, HS.out HB.out, (fun j h hj => ?_), (show _ = _ from by omega)⟩
          rcases Nat.lt_or_ge j i with h1 | h1
          · exact HF.out j h h1
          · obtain rfl : j = i := by omega
            rw [HX.out, HB.out]
    · obtain rfl : i = xs.length := by omega
      go_wp2
      go_ret
      refine ⟨?_, rfl⟩
      rw [idx_all inB xs (all_end inB xs HT.out)]
      rfl

theorem contains_wide (xs : List Int) (m : Nat) (hm : m = xs.length) (a : Option Addr) (c : Nat) (w : World) (hx : Hid (Rd w .i64 a xs)) :
    Calls Tryd.prog 50 #[.slice a m c, .func (.func 88) #[] #[]] w fun e w' => e = .returned (.bool (!xs.all inB)) ∧ w = w' := by
  subst hm
  go_enter Tryd.func50, Tryd.ntmps50
  cases hb : xs.all inB
  · have HB := Lib.hid hb
    clear hb
    have h0 := idx_no inB xs HB.out
    generalize hr : idxOf inB xs = r at h0
    have HR := Lib.hid hr
    clear hr
    go_wp2_with (first
      | (go_at_call 84; go_must (with_reducible refine (index_wide xs _ rfl a c _ hx).mono ?_); rw [HR.out]; rintro e w1 ⟨rfl, rfl⟩))
    go_ret
    exact ⟨rfl, rfl⟩
  · have HB := Lib.hid hb
    clear hb
    go_wp2_with (first
      | (go_at_call 84; go_must (with_reducible refine (index_wide xs _ rfl a c _ hx).mono ?_); rw [idx_all inB xs HB.out]; rintro e w1 ⟨rfl, rfl⟩))
    go_ret
    exact ⟨rfl, rfl⟩

set_option maxHeartbeats 1000000 in
theorem index_odd (xs : List Int) (m : Nat) (hm : m = xs.length) (a : Option Addr) (c : Nat) (w : World) (hx : Hid (Rd w .i64 a xs)) :
    Calls Tryd.prog 84 #[.slice a m c, .func (.func 124) #[] #[]] w fun e w' => e = .returned (.int .i64 (idxOf cfB xs)) ∧ w = w' := by
  subst hm
  have hxl := hx.out.small
  go_enter Tryd.func84, Tryd.ntmps84
  go_wp2_with fail
  go_loopg [5, 8] (xs.length + 1) (fun q v5 v8 w2 => w2 = w ∧ ∃ (i : Nat), v8 = .int .i64 i ∧ i ≤ xs.length ∧ Hid ((xs.drop i).all cfB = xs.all cfB) ∧ Hid (∀ j (h : j < xs.length), j < i → cfB xs[j] = true) ∧ Hid (i + q = xs.length + 1))
  case atStart => exact ⟨rfl, 0, rfl, by omega, (show _ = _ from by simp), (fun j h h0 => by omega), (show _ = _ from by omega)⟩
  case round =>
    obtain ⟨rfl, i, rfl, hi, HT, HF, HQ⟩ := hrel
    by_cases hlt : i < xs.length
    · obtain ⟨b1, o1, rfl, hc1⟩ := hx.out.cellAt i hlt
      obtain ⟨x, hx1⟩ : ∃ x, xs[i] = x := ⟨_, rfl⟩
      rw [hx1] at hc1
      have HS := Lib.hid (all_step cfB xs i hlt x hx1 HT.out)
      have HN := Lib.hid (all_no cfB xs i hlt x hx1 HT.out)
      have HX := Lib.hid hx1
      clear hx1
      cases hb : cfB x
      · have HB := Lib.hid hb
        clear hb
        go_wp2_with (first
          | (go_at_call 124; go_must (refine (odd_calls _ _).mono ?_); rw [HB.out]; rintro e w1 ⟨rfl, rfl⟩))
        go_ret
        refine ⟨?_, rfl⟩
        rw [idx_at cfB xs i hlt (by rw [HX.out, HB.out]) HF.out]
        rfl
      · have HB := Lib.hid hb
        clear hb
        go_wp2_with (first
          | (go_at_call 124; go_must (refine (odd_calls _ _).mono ?_); rw [HB.out]; rintro e w1 ⟨rfl, rfl⟩))
        go_roundg (xs.length - i)
        case measure => have := HQ.out; omega
        case rel =>
          refine ⟨rfl, i + 1, by go_num, by omega, HS.out HB.out, (fun j h hj => ?_), (show _ = _ from by omega)⟩
          rcases Nat.lt_or_ge j i with h1 | h1
          · exact HF.out j h h1
          · obtain rfl : j = i := by omega
            rw [HX.out, HB.out]
    · obtain rfl : i = xs.length := by omega
      go_wp2
      go_ret
      refine ⟨?_, rfl⟩
      rw [idx_all cfB xs (all_end cfB xs HT.out)]
      rfl

theorem contains_odd (xs : List Int) (m : Nat) (hm : m = xs.length) (a : Option Addr) (c : Nat) (w : World) (hx : Hid (Rd w .i64 a xs)) :
    Calls Tryd.prog 50 #[.slice a m c, .func (.func 124) #[] #[]] w fun e w' => e = .returned (.bool (!xs.all cfB)) ∧ w = w' := by
  subst hm
  go_enter Tryd.func50, Tryd.ntmps50
  cases hb : xs.all cfB
  · have HB := Lib.hid hb
    clear hb
    have h0 := idx_no cfB xs HB.out
    generalize hr : idxOf cfB xs = r at h0
    have HR := Lib.hid hr
    clear hr
    go_wp2_with (first
      | (go_at_call 84; go_must (with_reducible refine (index_odd xs _ rfl a c _ hx).mono ?_); rw [HR.out]; rintro e w1 ⟨rfl, rfl⟩))
    go_ret
    exact ⟨rfl, rfl⟩
  · have HB := Lib.hid hb
    clear hb
    go_wp2_with (first
      | (go_at_call 84; go_must (with_reducible refine (index_odd xs _ rfl a c _ hx).mono ?_); rw [idx_all cfB xs HB.out]; rintro e w1 ⟨rfl, rfl⟩))
    go_ret
    exact ⟨rfl, rfl⟩
end Go.Proofs.YtofkiimaoahfjaaDoor

set_option maxRecDepth 100000
set_option linter.unusedVariables false
set_option linter.unusedSimpArgs false
namespace Go.Proofs.YtofkiimaoahfjaaDoor
open Go.RowKit

/-- Is it a model? -/
def rightB (cs : List Int) (sh : Int) : Bool := decide (cs.length ≤ 8) && decide (0 ≤ sh) && decide (sh ≤ 15) && cs.all cfB
theorem rightB_of (cs : List Int) (sh : Int) (h1 : cs.length ≤ 8) (h2 : 0 ≤ sh) (h3 : sh ≤ 15) : rightB cs sh = cs.all cfB := by simp [rightB, h1, h2, h3]
theorem rightB_not (cs : List Int) (sh : Int) (h : 8 < cs.length ∨ sh < 0 ∨ 15 < sh) : rightB cs sh = false := by
  rcases h with h | h | h
  · have : ¬ cs.length ≤ 8 := by omega
    simp [rightB, this]
  · have : ¬ 0 ≤ sh := by omega
    simp [rightB, this]
  · have : ¬ sh ≤ 15 := by omega
    simp [rightB, this]
theorem rightB_iff (cs : List Int) (sh : Int) : rightB cs sh = true ↔ cs.length ≤ 8 ∧ 0 ≤ sh ∧ sh ≤ 15 ∧ cs.all cfB = true := by
  simp [rightB, and_assoc]

/-- What Check answers. -/
def checkE (cs : List Int) (sh : Int) : Int := if rightB cs sh then 0 else 2

set_option maxHeartbeats 1000000 in
theorem check_calls (cs : List Int) (sh : Int) (m : Nat) (hm : m = cs.length) (a : Option Addr) (c : Nat) (w : World) (hx : Hid (Rd w .i64 a cs)) :
    Calls Tryd.prog 110 #[.agg #[.slice a m c, .int .i64 sh]] w fun e w' => e = .returned (.int .i64 (checkE cs sh)) ∧ Keeps [] w w' := by
  subst hm
  have hl := hx.out.small
  have HA : ∀ o, Hid (Rd (w.alloc o) .i64 a cs) := fun o => hx.out.new ((Keeps.refl _ _).alloc o)
  by_cases h1 : cs.length ≤ 8
  · by_cases h2 : 0 ≤ sh
    · by_cases h3 : sh ≤ 15
      · have HR := Lib.hid (rightB_of cs sh h1 h2 h3)
        cases hb : cs.all cfB
        all_goals
          have HB := Lib.hid hb
          clear hb
          go_enter Tryd.func110, Tryd.ntmps110
          go_wp2_with (first
            | (go_at_call 50; go_must (with_reducible refine (contains_odd cs _ rfl a c _ (HA _)).mono ?_); rw [HB.out]; rintro e w1 ⟨rfl, rfl⟩))
          go_ret
          refine ⟨?_, (Keeps.refl _ _).alloc _⟩
          unfold checkE
          rw [HR.out, HB.out]
          rfl
      · have HR := Lib.hid (rightB_not cs sh (by omega))
        go_enter Tryd.func110, Tryd.ntmps110
        go_wp2
        go_ret
        refine ⟨?_, (Keeps.refl _ _).alloc _⟩
        unfold checkE
        rw [HR.out]
        rfl
    · have HR := Lib.hid (rightB_not cs sh (by omega))
      go_enter Tryd.func110, Tryd.ntmps110
      go_wp2
      go_ret
      refine ⟨?_, (Keeps.refl _ _).alloc _⟩
      unfold checkE
      rw [HR.out]
      rfl
  · have HR := Lib.hid (rightB_not cs sh (by omega))
    go_enter Tryd.func110, Tryd.ntmps110
    go_wp2
    go_ret
    refine ⟨?_, (Keeps.refl _ _).alloc _⟩
    unfold checkE
    rw [HR.out]
    rfl

theorem cfB_step (cs : List Int) (i : Nat) (h : i < cs.length) (x : Int) (hx : cs[i] = x) (hp : (cs.drop i).all cfB = cs.all cfB) : (¬ (x < -2048 ∨ 2047 < x) → (cs.drop (i + 1)).all cfB = cs.all cfB) ∧ ((x < -2048 ∨ 2047 < x) → cs.all cfB = false) := by
  refine ⟨fun h1 => all_step cfB cs i h x hx hp ((cfB_iff x).2 (by omega)), fun h1 => all_no cfB cs i h x hx hp ?_⟩
  cases hb : cfB x
  · rfl
  · have := (cfB_iff x).1 hb
    omega

set_option maxHeartbeats 1000000 in
theorem right_calls (cs : List Int) (sh : Int) (m : Nat) (hm : m = cs.length) (a : Option Addr) (c : Nat) (w : World) (hx : Hid (Rd w .i64 a cs)) :
    Calls Tryd.prog 97 #[.agg #[.slice a m c, .int .i64 sh]] w fun e w' => e = .returned (.bool (rightB cs sh)) ∧ Keeps [] w w' := by
  subst hm
  have hl := hx.out.small
  have HA : ∀ o, Hid (Rd (w.alloc o) .i64 a cs) := fun o => hx.out.new ((Keeps.refl _ _).alloc o)
  by_cases h1 : cs.length ≤ 8 ∧ 0 ≤ sh ∧ sh ≤ 15
  · obtain ⟨h1, h2, h3⟩ := h1
    have HR := Lib.hid (rightB_of cs sh h1 h2 h3)
    go_enter Tryd.func97, Tryd.ntmps97
    go_wp2_with fail
    go_loopg [3] (cs.length + 1) (fun q v3 w2 => w2 = w.alloc (.cells #[.slice a cs.length c, .int .i64 sh] 71) ∧ ∃ (i : Nat), v3 = .int .i64 i ∧ i ≤ cs.length ∧ Hid ((cs.drop i).all cfB = cs.all cfB) ∧ Hid (i + q = cs.length + 1))
    case atStart => exact ⟨rfl, 0, rfl, by omega, (show _ = _ from by simp), (show _ = _ from by omega)⟩
    case round =>
      obtain ⟨rfl, i, rfl, hi, HT, HQ⟩ := hrel
      by_cases hlt : i < cs.length
      · obtain ⟨b1, o1, rfl, hc1⟩ := (HA (.cells #[.slice a cs.length c, .int .i64 sh] 71)).out.cellAt i hlt
        obtain ⟨x, hx1⟩ : ∃ x, cs[i] = x := ⟨_, rfl⟩
        rw [hx1] at hc1
        have HS := Lib.hid (cfB_step cs i hlt x hx1 HT.out)
        clear hx1
        by_cases hb : x < -2048
        · go_wp2_with fail
          go_ret
          refine ⟨?_, (Keeps.refl _ _).alloc _⟩
          rw [HR.out, HS.out.2 (by omega)]
          rfl
        · by_cases hb2 : 2047 < x
          · go_wp2_with fail
            go_ret
            refine ⟨?_, (Keeps.refl _ _).alloc _⟩
            rw [HR.out, HS.out.2 (by omega)]
            rfl
          · go_wp2_with fail
            go_roundg (cs.length - i)
            case measure => have := HQ.out; omega
            case rel => exact ⟨rfl, i + 1, by go_num, by omega, HS.out.1 (by omega), (show _ = _ from by omega)⟩
      · obtain rfl : i = cs.length := by omega
        go_wp2
        go_ret
        refine ⟨?_, (Keeps.refl _ _).alloc _⟩
        rw [HR.out, all_end cfB cs HT.out]
        rfl
  · have HR := Lib.hid (rightB_not cs sh (by omega))
    have h1' : 8 < cs.length ∨ (cs.length ≤ 8 ∧ (sh < 0 ∨ (0 ≤ sh ∧ 15 < sh))) := by omega
    rcases h1' with h | ⟨h, h2 | ⟨h2, h3⟩⟩
    all_goals
      go_enter Tryd.func97, Tryd.ntmps97
      go_wp2
      go_ret
      refine ⟨?_, (Keeps.refl _ _).alloc _⟩
      rw [HR.out]
      rfl
end Go.Proofs.YtofkiimaoahfjaaDoor

set_option maxRecDepth 100000
set_option linter.unusedVariables false
set_option linter.unusedSimpArgs false
namespace Go.Proofs.YtofkiimaoahfjaaDoor
open Go.RowKit

/-- The sum of products. -/
def dotp : List Int → List Int → Int
  | c :: cs, x :: xs => c * x + dotp cs xs
  | _, _ => 0

theorem dotp_snoc (cs : List Int) : ∀ (r : List Int) (j : Nat) (h1 : j < cs.length) (h2 : j < r.length), dotp (cs.take (j + 1)) r = dotp (cs.take j) r + cs[j] * r[j] := by
  induction cs with
  | nil => intro r j h1; simp at h1
  | cons c cs ih =>
    intro r j h1 h2
    cases r with
    | nil => simp at h2
    | cons x r =>
      cases j with
      | zero => simp [dotp]
      | succ j =>
        simp only [List.take_succ_cons, dotp, List.getElem_cons_succ]
        rw [ih r j (by simpa using h1) (by simpa using h2)]
        omega

theorem mul_bound (c x : Int) (hc0 : -2048 ≤ c) (hc1 : c ≤ 2047) (hx0 : -2147483648 < x) (hx1 : x < 2147483648) : -4398046511104 ≤ c * x ∧ c * x ≤ 4398046511104 := by
  have h1 : (c * x).natAbs ≤ 2048 * 2147483648 := by
    rw [Int.natAbs_mul]
    exact Nat.mul_le_mul (by omega) (by omega)
  omega

theorem dotp_bound (cs : List Int) : ∀ (r : List Int), (∀ c ∈ cs, -2048 ≤ c ∧ c ≤ 2047) → (∀ x ∈ r, -2147483648 < x ∧ x < 2147483648) → -(4398046511104 * (cs.length : Int)) ≤ dotp cs r ∧ dotp cs r ≤ 4398046511104 * (cs.length : Int) := by
  induction cs with
  | nil => intro r _ _; simp [dotp]
  | cons c cs ih =>
    intro r hc hr
    cases r with
    | nil => simp [dotp]; omega
    | cons x r =>
      have h1 := ih r (fun y hy => hc y (List.mem_cons_of_mem _ hy)) (fun y hy => hr y (List.mem_cons_of_mem _ hy))
      have h2 := hc c (by simp)
      have h3 := hr x (by simp)
      have h4 := mul_bound c x h2.1 h2.2 h3.1 h3.2
      simp only [dotp, List.length_cons]
      omega

/-- What the model predicts of the sample behind some. -/
def predI (cs : List Int) (sh : Int) (xs : List Int) : Int := dotp cs xs.reverse / 2 ^ sh.toNat

theorem floor_law (n d : Int) (hd : 0 < d) : n / d = if n.tmod d < 0 then n.tdiv d - 1 else n.tdiv d := by
  have h1 := Int.mul_tdiv_add_tmod n d
  have h2 := Int.mul_ediv_add_emod n d
  have h3 := Int.emod_nonneg n (by omega : d ≠ 0)
  have h4 := Int.emod_lt_of_pos n hd
  by_cases hn : n < 0
  · have h5 : n.tmod d ≤ 0 := by
      have := Int.tmod_nonneg d (show 0 ≤ -n by omega)
      rw [Int.neg_tmod] at this
      omega
    have h6 : -d < n.tmod d := by
      have := Int.tmod_lt_of_pos (-n) hd
      rw [Int.neg_tmod] at this
      omega
    split
    · have : d * (n / d) < d * (n.tdiv d) := by omega
      have e1 := Int.lt_of_mul_lt_mul_left this (by omega)
      have : d * (n.tdiv d - 1 - 1) < d * (n / d) := by rw [Int.mul_sub, Int.mul_sub]; omega
      have e2 := Int.lt_of_mul_lt_mul_left this (by omega)
      omega
    · have h7 : n.tmod d = 0 := by omega
      have : d * (n / d) < d * (n.tdiv d + 1) := by rw [Int.mul_add]; omega
      have e1 := Int.lt_of_mul_lt_mul_left this (by omega)
      have : d * (n.tdiv d - 1) < d * (n / d) := by rw [Int.mul_sub]; omega
      have e2 := Int.lt_of_mul_lt_mul_left this (by omega)
      omega
  · have hn : 0 ≤ n := by omega
    have : ¬ n.tmod d < 0 := by
      have := Int.tmod_nonneg d hn
      omega
    rw [if_neg this, Int.tdiv_eq_ediv_of_nonneg hn]

theorem tdiv_small (n d : Int) : -(n.natAbs : Int) ≤ n.tdiv d ∧ n.tdiv d ≤ n.natAbs := by
  have h : (n.tdiv d).natAbs ≤ n.natAbs := by
    rw [Int.natAbs_tdiv]
    exact Nat.div_le_self _ _
  omega

set_option maxHeartbeats 1000000 in
theorem floor_calls (n k : Int) (w : World) (hn0 : -35184372088832 ≤ n) (hn1 : n ≤ 35184372088832) (hk0 : 0 ≤ k) (hk1 : k ≤ 15) :
    Calls Tryd.prog 115 #[.int .i64 n, .int .i64 k] w fun e w' => e = .returned (.int .i64 (n / 2 ^ k.toNat)) ∧ w = w' := by
  obtain ⟨j, rfl⟩ : ∃ j : Nat, k = j := ⟨k.toNat, by omega⟩
  have HF := Lib.hid (floor_law n (2 ^ j) (Int.pow_pos (by omega)))
  have hd0 : (1 : Int) ≤ 2 ^ j := Int.pow_pos (by omega)
  have hd1 : (2 : Int) ^ j ≤ 32768 := by
    have : (2 : Nat) ^ j ≤ 2 ^ 15 := Nat.pow_le_pow_right (by omega) (by omega)
    have h : ((2 ^ j : Nat) : Int) ≤ ((2 ^ 15 : Nat) : Int) := by exact_mod_cast this
    simpa using h
  have hd : wrap64 (2 ^ j) = 2 ^ j := by unfold wrap64; omega
  simp only [Int.toNat_natCast]
  obtain ⟨d, hde⟩ : ∃ d : Int, 2 ^ j = d := ⟨_, rfl⟩
  rw [hde] at HF hd0 hd1 ⊢
  have hd' : wrap64 (2 ^ j) = d := by rw [hd, hde]
  have hq0 : (d == 0) = false := beq_eq_false_iff_ne.2 (by omega)
  clear hd hde
  go_enter Tryd.func115, Tryd.ntmps115
  have hb := tdiv_small n d
  obtain ⟨q0, q1⟩ : -35184372088832 ≤ n.tdiv d ∧ n.tdiv d ≤ 35184372088832 := by omega
  clear hb
  by_cases hneg : n.tmod d < 0
  · have HN := Lib.hid hneg
    go_wp2
    go_ret
    refine ⟨?_, rfl⟩
    rw [HF.out, if_pos HN.out]
    rfl
  · have HN := Lib.hid hneg
    go_wp2
    go_ret
    refine ⟨?_, rfl⟩
    rw [HF.out, if_neg (Int.not_lt.2 HN.out)]
    rfl

/-- Of the reversed list. -/
theorem rev_get (xs : List Int) (j : Nat) (h : j < xs.length) : xs.reverse[j]'(by simpa using h) = xs[xs.length - 1 - j] := by
  rw [List.getElem_reverse]

/-- What a coefficient and a sample are. -/
structure Fit (cs xs : List Int) : Prop where
  few : cs.length ≤ 8
  enough : cs.length ≤ xs.length
  c : ∀ x ∈ cs, -2048 ≤ x ∧ x ≤ 2047
  x : ∀ x ∈ xs, -2147483648 < x ∧ x < 2147483648

theorem Fit.step {cs xs : List Int} (h : Fit cs xs) (j : Nat) (hj : j < cs.length) (c x : Int) (hc : cs[j] = c) (hx : xs[xs.length - 1 - j]'(by have := h.enough; omega) = x) :
    dotp (cs.take (j + 1)) xs.reverse = dotp (cs.take j) xs.reverse + c * x ∧ -4398046511104 ≤ c * x ∧ c * x ≤ 4398046511104 ∧
    -35184372088832 ≤ dotp (cs.take j) xs.reverse ∧ dotp (cs.take j) xs.reverse ≤ 35184372088832 := by
  have he := h.enough
  have hf := h.few
  have h1 := dotp_snoc cs xs.reverse j hj (by simp; omega)
  rw [rev_get xs j (by omega), hc, hx] at h1
  have h2 := h.c c (hc ▸ List.getElem_mem hj)
  have h3 := h.x x (hx ▸ List.getElem_mem _)
  have h4 := mul_bound c x h2.1 h2.2 h3.1 h3.2
  have h5 := dotp_bound (cs.take j) xs.reverse (fun y hy => h.c y (List.mem_of_mem_take hy)) (fun y hy => h.x y (by simpa using hy))
  have h6 : (cs.take j).length = j := by simp; omega
  rw [h6] at h5
  refine ⟨h1, h4.1, h4.2, by omega, by omega⟩
theorem Fit.total {cs xs : List Int} (h : Fit cs xs) : -35184372088832 ≤ dotp cs xs.reverse ∧ dotp cs xs.reverse ≤ 35184372088832 := by
  have h5 := dotp_bound cs xs.reverse h.c (fun y hy => h.x y (by simpa using hy))
  have := h.few
  omega

/-- A model in its box. -/
structure Box (w : World) (g : Nat) (u v : Value) : Prop where
  c0 : w.cell? ⟨g, 0, none⟩ = some u
  c1 : w.cell? ⟨g, 1, none⟩ = some v
theorem Box.made (w : World) (u v : Value) (T : TypeId) : Box (w.alloc (.cells #[u, v] T)) w.heap.size u v := by
  constructor
  · unfold World.cell?; rw [heap_alloc_new]; rfl
  · unfold World.cell?; rw [heap_alloc_new]; rfl
theorem Box.new {w w' : World} {g : Nat} {u v : Value} (h : Box w g u v) (hk : Keeps [] w w') : Box w' g u v := ⟨hk.cell h.c0 (by simp), hk.cell h.c1 (by simp)⟩

set_option maxHeartbeats 2000000 in
theorem refPredict_calls (cs xs : List Int) (sh : Int) (i m n : Nat) (hm : m = cs.length) (a b : Option Addr) (c d : Nat) (w : World) (hs0 : 0 ≤ sh) (hs1 : sh ≤ 15) (hi : i ≤ xs.length) (hn : n = xs.length)
    (hc : Hid (Rd w .i64 a cs)) (hx : Hid (Rd w .i64 b xs)) (hF : Hid (Fit cs (xs.take i))) :
    Calls Tryd.prog 98 #[.agg #[.slice a m c, .int .i64 sh], .slice b n d, .int .i64 i] w fun e w' => e = .returned (.int .i64 (predI cs sh (xs.take i))) ∧ Keeps [] w w' := by
  subst hm hn
  have hxl := hx.out.small
  have hce := hF.out.enough
  have hcf := hF.out.few
  have hil : (xs.take i).length = i := by simp; omega
  rw [hil] at hce
  have HIL := Lib.hid hil
  clear hil
  have hb0 := Box.made w (.slice a cs.length c) (.int .i64 sh) 71
  have HK0 : Hid (Keeps [] w (w.alloc (.cells #[.slice a cs.length c, .int .i64 sh] 71))) := (Keeps.refl _ _).alloc _
  have HC : Hid (Rd (w.alloc (.cells #[.slice a cs.length c, .int .i64 sh] 71)) .i64 a cs) := hc.out.new HK0.out
  have HX : Hid (Rd (w.alloc (.cells #[.slice a cs.length c, .int .i64 sh] 71)) .i64 b xs) := hx.out.new HK0.out
  have HB := Lib.hid hb0
  clear hb0
  go_enter Tryd.func98, Tryd.ntmps98
  go_wp2_with fail
  generalize w.heap.size = g at *
  generalize w.alloc (.cells #[.slice a cs.length c, .int .i64 sh] 71) = w1 at *
  have HI : Hid (i ≤ xs.length) := hi
  go_loopg [7, 8] (cs.length + 1) (fun q v7 v8 w2 => ∃ (j : Nat) (sum : Int), v8 = .int .i64 j ∧ v7 = .int .i64 sum ∧ j ≤ cs.length ∧ Hid (sum = dotp (cs.take j) (xs.take i).reverse) ∧ Hid (j + q = cs.length + 1) ∧ Hid (Keeps [] w1 w2))
  case atStart => exact ⟨0, 0, rfl, rfl, by omega, (show _ = _ from by simp [dotp]), (show _ = _ from by omega), Keeps.refl _ _⟩
  case round =>
    obtain ⟨j, sum, rfl, rfl, hj, HS, HQ, HK⟩ := hrel
    obtain ⟨hb0, hb1⟩ := HB.out.new HK.out
    by_cases hlt : j < cs.length
    · obtain ⟨b1, o1, ha1, hc1⟩ := (HC.out.new HK.out).cellAt j hlt
      obtain ⟨b2, o2, ha2, hc2⟩ := (HX.out.new HK.out).cellAt (i - 1 - j) (by omega)
      subst ha1 ha2
      obtain ⟨y, hy1⟩ : ∃ y, cs[j] = y := ⟨_, rfl⟩
      obtain ⟨x, hx1⟩ : ∃ x, xs[i - 1 - j]'(by omega) = x := ⟨_, rfl⟩
      rw [hy1] at hc1
      rw [hx1] at hc2
      obtain ⟨hst, p0, p1, s0, s1⟩ := hF.out.step j hlt y x hy1 (by
        rw [← hx1, List.getElem_take]
        congr 1
        rw [HIL.out])
      rw [← HS.out] at hst s0 s1
      have HST := Lib.hid hst
      clear hst hx1 hy1
      go_wp2_with fail
      go_quiet (fail)
      go_wp2
      go_roundg (cs.length - j)
      case measure => have := HQ.out; omega
      case rel => exact ⟨j + 1, sum + y * x, by go_num, rfl, by omega, HST.out.symm, (show _ = _ from by omega), HK.out.drewN _⟩
    · obtain rfl : j = cs.length := by omega
      obtain ⟨t0, t1⟩ := hF.out.total
      have HS2 : Hid (predI cs sh (xs.take i) = sum / 2 ^ sh.toNat) := by
        show _ = _
        rw [HS.out, List.take_of_length_le (Nat.le_refl _)]
        rfl
      rw [show dotp cs (xs.take i).reverse = sum by rw [HS.out, List.take_of_length_le (Nat.le_refl _)]] at t0 t1
      go_wp2_with (first
        | (go_at_call 115; go_must (refine (floor_calls sum sh _ t0 t1 hs0 hs1).mono ?_); rintro e w3 ⟨rfl, rfl⟩))
      go_ret
      refine ⟨?_, HK0.out.new HK.out⟩
      rw [HS2.out]
      rfl
end Go.Proofs.YtofkiimaoahfjaaDoor

set_option maxRecDepth 100000
set_option linter.unusedVariables false
set_option linter.unusedSimpArgs false
namespace Go.Proofs.YtofkiimaoahfjaaDoor
open Go.RowKit

set_option maxHeartbeats 2000000 in
theorem predict_calls (cs xs : List Int) (sh : Int) (m n : Nat) (hm : m = cs.length) (a b : Option Addr) (c d : Nat) (w : World) (hs0 : 0 ≤ sh) (hs1 : sh ≤ 15) (hn : n = xs.length)
    (hc : Hid (Rd w .i64 a cs)) (hx : Hid (Rd w .i64 b xs)) (hF : Hid (Fit cs xs)) :
    Calls Tryd.prog 111 #[.agg #[.slice a m c, .int .i64 sh], .slice b n d] w fun e w' => e = .returned (.int .i64 (predI cs sh xs)) ∧ Keeps [] w w' := by
  subst hm hn
  have hxl := hx.out.small
  have hce := hF.out.enough
  have hcf := hF.out.few
  have hb0 := Box.made w (.slice a cs.length c) (.int .i64 sh) 59
  have HK0 : Hid (Keeps [] w (w.alloc (.cells #[.slice a cs.length c, .int .i64 sh] 59))) := (Keeps.refl _ _).alloc _
  have HC : Hid (Rd (w.alloc (.cells #[.slice a cs.length c, .int .i64 sh] 59)) .i64 a cs) := hc.out.new HK0.out
  have HX : Hid (Rd (w.alloc (.cells #[.slice a cs.length c, .int .i64 sh] 59)) .i64 b xs) := hx.out.new HK0.out
  have HB := Lib.hid hb0
  clear hb0
  go_enter Tryd.func111, Tryd.ntmps111
  go_wp2_with fail
  generalize w.heap.size = g at *
  generalize w.alloc (.cells #[.slice a cs.length c, .int .i64 sh] 59) = w1 at *
  go_loopg [5, 6, 7, 11] (cs.length + 1) (fun q v5 v6 v7 v11 w2 => w2 = w1 ∧ ∃ (j : Nat) (sum : Int), v11 = .int .i64 j ∧ v5 = .int .i64 sum ∧ j ≤ cs.length ∧ Hid (sum = dotp (cs.take j) xs.reverse) ∧ Hid (j + q = cs.length + 1))
  case atStart => exact ⟨rfl, 0, 0, rfl, rfl, by omega, (show _ = _ from by simp [dotp]), (show _ = _ from by omega)⟩
  case round =>
    obtain ⟨rfl, j, sum, rfl, rfl, hj, HS, HQ⟩ := hrel
    obtain ⟨hb0, hb1⟩ := HB.out
    by_cases hlt : j < cs.length
    · obtain ⟨b1, o1, ha1, hc1⟩ := HC.out.cellAt j hlt
      obtain ⟨b2, o2, ha2, hc2⟩ := HX.out.cellAt (xs.length - 1 - j) (by omega)
      subst ha1 ha2
      obtain ⟨y, hy1⟩ : ∃ y, cs[j] = y := ⟨_, rfl⟩
      obtain ⟨x, hx1⟩ : ∃ x, xs[xs.length - 1 - j]'(by omega) = x := ⟨_, rfl⟩
      rw [hy1] at hc1
      rw [hx1] at hc2
      obtain ⟨hst, p0, p1, s0, s1⟩ := hF.out.step j hlt y x hy1 hx1
      rw [← HS.out] at hst s0 s1
      have HST := Lib.hid hst
      clear hst hx1 hy1
      go_wp2_with fail
      go_roundg (cs.length - j)
      case measure => have := HQ.out; omega
      case rel => exact ⟨rfl, j + 1, sum + y * x, by go_num, rfl, by omega, HST.out.symm, (show _ = _ from by omega)⟩
    · obtain rfl : j = cs.length := by omega
      obtain ⟨t0, t1⟩ := hF.out.total
      have HS2 : Hid (predI cs sh xs = sum / 2 ^ sh.toNat) := by
        show _ = _
        rw [HS.out, List.take_of_length_le (Nat.le_refl _)]
        rfl
      rw [show dotp cs xs.reverse = sum by rw [HS.out, List.take_of_length_le (Nat.le_refl _)]] at t0 t1
      go_wp2_with fail
      go_ret
      refine ⟨?_, HK0.out⟩
      rw [HS2.out]
      rfl
end Go.Proofs.YtofkiimaoahfjaaDoor
