/-
  Layer 7 (predict): is it a model (Check and Right)?
-/
import Derived.Test.YtpnomiepbbbnbaaPred2
set_option linter.unusedVariables false
set_option linter.unusedSimpArgs false
namespace Go.Proofs.Ytpnomiepbbbnbaa
open Go.RowKit

/-- Is it a model? -/
def rightB (cs : List Int) (sh : Int) : Bool := decide (cs.length ≤ 8) && decide (0 ≤ sh) && decide (sh ≤ 15) && cs.all cfB
theorem rightB_of (cs : List Int) (sh : Int) (h1 : cs.length ≤ 8) (h2 : 0 ≤ sh) (h3 : sh ≤ 15) : rightB cs sh = cs.all cfB := by simp [rightB, h1, h2, h3]
theorem rightB_not (cs : List Int) (sh : Int) (h : 8 < cs.length ∨ sh < 0 ∨ 15 < sh) : rightB cs sh = false := by
  rcases h with h | h | h
  · have : ¬ cs.length ≤ 8 := by omega
    simp [rightB, this]
  · have : ¬ 0 ≤ sh := by omega
    simp [rightB, this]
  · have : ¬ sh ≤ 15 := by omega
    simp [rightB, this]
theorem rightB_iff (cs : List Int) (sh : Int) : rightB cs sh = true ↔ cs.length ≤ 8 ∧ 0 ≤ sh ∧ sh ≤ 15 ∧ cs.all cfB = true := by
  simp [rightB, and_assoc]

/-- What Check answers. -/
def checkE (cs : List Int) (sh : Int) : Int := if rightB cs sh then 0 else 2

set_option maxHeartbeats 1000000 in
theorem check_calls (cs : List Int) (sh : Int) (m : Nat) (hm : m = cs.length) (a : Option Addr) (c : Nat) (w : World) (hx : Hid (Rd w .i64 a cs)) :
    Calls Try.prog 21 #[.agg #[.slice a m c, .int .i64 sh]] w fun e w' => e = .returned (.int .i64 (checkE cs sh)) ∧ Keeps [] w w' := by
  subst hm
  have hl := hx.out.small
  have HA : ∀ o, Hid (Rd (w.alloc o) .i64 a cs) := fun o => hx.out.new ((Keeps.refl _ _).alloc o)
  by_cases h1 : cs.length ≤ 8
  · by_cases h2 : 0 ≤ sh
    · by_cases h3 : sh ≤ 15
      · have HR := Lib.hid (rightB_of cs sh h1 h2 h3)
        cases hb : cs.all cfB
        all_goals
          have HB := Lib.hid hb
          clear hb
          go_enter Try.func21, Try.ntmps21
          go_wp2_with (first
            | (go_at_call 29; go_must (with_reducible refine (contains_odd cs _ rfl a c _ (HA _)).mono ?_); rw [HB.out]; rintro e w1 ⟨rfl, rfl⟩))
          go_ret
          refine ⟨?_, (Keeps.refl _ _).alloc _⟩
          unfold checkE
          rw [HR.out, HB.out]
          rfl
      · have HR := Lib.hid (rightB_not cs sh (by omega))
        go_enter Try.func21, Try.ntmps21
        go_wp2
        go_ret
        refine ⟨?_, (Keeps.refl _ _).alloc _⟩
        unfold checkE
        rw [HR.out]
        rfl
    · have HR := Lib.hid (rightB_not cs sh (by omega))
      go_enter Try.func21, Try.ntmps21
      go_wp2
      go_ret
      refine ⟨?_, (Keeps.refl _ _).alloc _⟩
      unfold checkE
      rw [HR.out]
      rfl
  · have HR := Lib.hid (rightB_not cs sh (by omega))
    go_enter Try.func21, Try.ntmps21
    go_wp2
    go_ret
    refine ⟨?_, (Keeps.refl _ _).alloc _⟩
    unfold checkE
    rw [HR.out]
    rfl

theorem cfB_step (cs : List Int) (i : Nat) (h : i < cs.length) (x : Int) (hx : cs[i] = x) (hp : (cs.drop i).all cfB = cs.all cfB) : (¬ (x < -2048 ∨ 2047 < x) → (cs.drop (i + 1)).all cfB = cs.all cfB) ∧ ((x < -2048 ∨ 2047 < x) → cs.all cfB = false) := by
  refine ⟨fun h1 => all_step cfB cs i h x hx hp ((cfB_iff x).2 (by omega)), fun h1 => all_no cfB cs i h x hx hp ?_⟩
  cases hb : cfB x
  · rfl
  · have := (cfB_iff x).1 hb
    omega

set_option maxHeartbeats 1000000 in
theorem right_calls (cs : List Int) (sh : Int) (m : Nat) (hm : m = cs.length) (a : Option Addr) (c : Nat) (w : World) (hx : Hid (Rd w .i64 a cs)) :
    Calls Try.prog 22 #[.agg #[.slice a m c, .int .i64 sh]] w fun e w' => e = .returned (.bool (rightB cs sh)) ∧ Keeps [] w w' := by
  subst hm
  have hl := hx.out.small
  have HA : ∀ o, Hid (Rd (w.alloc o) .i64 a cs) := fun o => hx.out.new ((Keeps.refl _ _).alloc o)
  by_cases h1 : cs.length ≤ 8 ∧ 0 ≤ sh ∧ sh ≤ 15
  · obtain ⟨h1, h2, h3⟩ := h1
    have HR := Lib.hid (rightB_of cs sh h1 h2 h3)
    go_enter Try.func22, Try.ntmps22
    go_wp2_with fail
    go_loopg [3] (cs.length + 1) (fun q v3 w2 => w2 = w.alloc (.cells #[.slice a cs.length c, .int .i64 sh] 34) ∧ ∃ (i : Nat), v3 = .int .i64 i ∧ i ≤ cs.length ∧ Hid ((cs.drop i).all cfB = cs.all cfB) ∧ Hid (i + q = cs.length + 1))
    case atStart => exact ⟨rfl, 0, rfl, by omega, (show _ = _ from by simp), (show _ = _ from by omega)⟩
    case round =>
      obtain ⟨rfl, i, rfl, hi, HT, HQ⟩ := hrel
      by_cases hlt : i < cs.length
      · obtain ⟨b1, o1, rfl, hc1⟩ := (HA (.cells #[.slice a cs.length c, .int .i64 sh] 34)).out.cellAt i hlt
        obtain ⟨x, hx1⟩ : ∃ x, cs[i] = x := ⟨_, rfl⟩
        rw [hx1] at hc1
        have HS := Lib.hid (cfB_step cs i hlt x hx1 HT.out)
        clear hx1
        by_cases hb : x < -2048
        · go_wp2_with fail
          go_ret
          refine ⟨?_, (Keeps.refl _ _).alloc _⟩
          rw [HR.out, HS.out.2 (by omega)]
          rfl
        · by_cases hb2 : 2047 < x
          · go_wp2_with fail
            go_ret
            refine ⟨?_, (Keeps.refl _ _).alloc _⟩
            rw [HR.out, HS.out.2 (by omega)]
            rfl
          · go_wp2_with fail
            go_roundg (cs.length - i)
            case measure => have := HQ.out; omega
            case rel => exact ⟨rfl, i + 1, by go_num, by omega, HS.out.1 (by omega), (show _ = _ from by omega)⟩
      · obtain rfl : i = cs.length := by omega
        go_wp2
        go_ret
        refine ⟨?_, (Keeps.refl _ _).alloc _⟩
        rw [HR.out, all_end cfB cs HT.out]
        rfl
  · have HR := Lib.hid (rightB_not cs sh (by omega))
    have h1' : 8 < cs.length ∨ (cs.length ≤ 8 ∧ (sh < 0 ∨ (0 ≤ sh ∧ 15 < sh))) := by omega
    rcases h1' with h | ⟨h, h2 | ⟨h2, h3⟩⟩
    all_goals
      go_enter Try.func22, Try.ntmps22
      go_wp2
      go_ret
      refine ⟨?_, (Keeps.refl _ _).alloc _⟩
      rw [HR.out]
      rfl
end Go.Proofs.Ytpnomiepbbbnbaa
