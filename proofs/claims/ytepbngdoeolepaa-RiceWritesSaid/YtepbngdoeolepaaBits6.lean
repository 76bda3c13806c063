/-
  Package bits (layer 3): a Reader: unary numbers, whole bytes.
-/
import Derived.Test.YtepbngdoeolepaaBits5
set_option linter.unusedVariables false
set_option linter.unusedSimpArgs false
namespace Go.Proofs.Ytepbngdoeolepaa
open Go.RowKit Go.Proofs.Ytepbngdoeolepaa.Pure

/-- How many noughts there are ahead of the first one. -/
def cnt : List Bool → Option Nat
  | [] => none
  | true :: _ => some 0
  | false :: r => (cnt r).map (· + 1)
def unRE (R : List Bool) : Int := match cnt R with | none => 10 | some _ => 0
def unRN (R : List Bool) : Int := match cnt R with | none => 0 | some n => n
def unRT (R : List Bool) : Nat := match cnt R with | none => 0 | some n => n + 1
theorem unR_none {R : List Bool} (h : cnt R = none) : unRE R = 10 ∧ unRN R = 0 ∧ unRT R = 0 := by unfold unRE unRN unRT; rw [h]; exact ⟨rfl, rfl, rfl⟩
theorem unR_some {R : List Bool} {n : Nat} (h : cnt R = some n) : unRE R = 0 ∧ unRN R = n ∧ unRT R = n + 1 := by unfold unRE unRN unRT; rw [h]; exact ⟨rfl, rfl, rfl⟩
theorem cnt_step (R : List Bool) (i : Nat) (h : i < R.length) (b : Bool) (hb : R[i] = b) (hT : cnt R = (cnt (R.drop i)).map (· + i)) :
    (b = true → cnt R = some i) ∧ (b = false → cnt R = (cnt (R.drop (i + 1))).map (· + (i + 1))) := by
  rw [List.drop_eq_getElem_cons h, hb] at hT
  refine ⟨fun h => ?_, fun h => ?_⟩
  · rw [hT, h]; simp [cnt]
  · rw [hT, h]
    simp only [cnt, Option.map_map]
    congr 1
    funext n
    simp only [Function.comp]
    omega
theorem cnt_end (R : List Bool) (hT : cnt R = (cnt (R.drop R.length)).map (· + R.length)) : cnt R = none := by
  rw [hT, List.drop_length]; rfl

set_option maxHeartbeats 4000000 in
theorem rUnary_calls (q : Nat) (sv : Value) (bs : List Int) (t : Nat) (w : World) (hR : Hid (IsR w q sv bs t)) :
    Calls Try.prog 69 #[.pointer (some ⟨q, 0, none⟩)] w fun e w' => e = .returned (.tuple #[.int .i64 (unRN (restB bs t)), .int .i64 (unRE (restB bs t))]) ∧ IsR w' q sv bs (t + unRT (restB bs t)) ∧ Keeps [q] w w' := by
  have hc0 := hR.out.duo.c0
  have hc1 := hR.out.duo.c1
  have hf1 := hR.out.duo.frozen 1
  have hsm := hR.out.small
  have hat := hR.out.at_le
  obtain ⟨a0, c0, rfl, -⟩ := hR.out.row.rd
  have HRL := Lib.hid (restB_length bs t)
  go_enter Try.func69, Try.ntmps69
  go_wp2_with fail
  go_loopg [4, 5] (8 * bs.length - t + 1) (fun q' v4 v5 w2 => w2 = w ∧ ∃ (i : Nat), v4 = .int .i64 ((t : Int) + (i : Int)) ∧ t + i ≤ 8 * bs.length ∧ Hid (cnt (restB bs t) = (cnt ((restB bs t).drop i)).map (· + i)) ∧ Hid (i + q' = 8 * bs.length - t + 1))
  case atStart => exact ⟨rfl, 0, by simp, by omega, (show _ = _ from by simp), (show _ = _ from by omega)⟩
  case round =>
    obtain ⟨rfl, i, rfl, hi, HT, HQ⟩ := hrel
    by_cases hlt : t + i < 8 * bs.length
    · have hil : i < (restB bs t).length := by rw [HRL.out]; omega
      obtain ⟨b, hb⟩ : ∃ b, (restB bs t)[i] = b := ⟨_, rfl⟩
      have hub : (unpack bs)[t + i]'(by rw [unpack_length]; omega) = b := by rw [← hb, restB_get _ _ _ _ (by rw [unpack_length]; omega)]
      have hst := cnt_step (restB bs t) i hil b hb HT.out
      have HUB := Lib.hid hub
      have hcast : (t : Int) + (i : Int) = ((t + i : Nat) : Int) := by omega
      have HCAST := Lib.hid hcast
      have hcmp : (t : Int) + (i : Int) < 8 * (bs.length : Int) := by omega
      cases b
      · have HNX := Lib.hid (hst.2 rfl)
        clear hst hub hb hil hcast
        go_wp2_with (first
          | (go_at_call 54; go_must (with_reducible refine (rbit_at q _ bs t (t + i) _ HCAST.out _ hR (by omega)).mono ?_); rw [HUB.out]; rintro e w3 ⟨rfl, rfl⟩))
        go_roundg (gk - 1)
        case measure => have := HQ.out; omega
        case rel => exact ⟨rfl, i + 1, by rw [show ((i + 1 : Nat) : Int) = (i : Int) + 1 by omega, ← Int.add_assoc], by omega, HNX.out, (show _ = _ from by have := HQ.out; omega)⟩
      · have HNX := Lib.hid (hst.1 rfl)
        clear hst hub hb hil hcast
        have hsub : (t : Int) + (i : Int) - (t : Int) = (i : Int) := by omega
        obtain ⟨e1, e2, e3⟩ := unR_some HNX.out
        have HES : Hid (unRE (restB bs t) = 0 ∧ unRN (restB bs t) = i ∧ unRT (restB bs t) = i + 1) := ⟨e1, e2, e3⟩
        clear e1 e2 e3
        go_wp2_with (first
          | (go_at_call 54; go_must (with_reducible refine (rbit_at q _ bs t (t + i) _ HCAST.out _ hR (by omega)).mono ?_); rw [HUB.out]; rintro e w3 ⟨rfl, rfl⟩))
        go_ret2
        rw [HES.out.1, HES.out.2.1, HES.out.2.2]
        refine ⟨by first | rfl | (congr 4; omega), ?_, (Keeps.refl _ _).setCell (a := ⟨q, 1, none⟩) (.inl (by simp)) _⟩
        have := hR.out.move (t + (i + 1)) (by omega)
        have e : ((t + (i + 1) : Nat) : Int) = (t : Int) + (i : Int) + 1 := by omega
        rw [e] at this
        exact this
    · have hil : i = (restB bs t).length := by rw [HRL.out]; omega
      have hn := cnt_end (restB bs t) (by rw [← hil]; exact HT.out)
      obtain ⟨e1, e2, e3⟩ := unR_none hn
      have HES : Hid (unRE (restB bs t) = 10 ∧ unRN (restB bs t) = 0 ∧ unRT (restB bs t) = 0) := ⟨e1, e2, e3⟩
      clear e1 e2 e3
      have hcmp : ¬ ((t : Int) + (i : Int) < 8 * (bs.length : Int)) := by omega
      clear hn hil
      go_wp2_with fail
      go_ret2
      rw [HES.out.1, HES.out.2.1, HES.out.2.2]
      exact ⟨rfl, hR.out, Keeps.refl _ _⟩

theorem and_clear (X : Nat) (h : X < 2 ^ 64) : X &&& (2 ^ 64 - 8) = 8 * (X / 8) := by
  apply Nat.eq_of_testBit_eq
  intro i
  have e1 : (2 ^ 64 - 8 : Nat) = (2 ^ 61 - 1) <<< 3 := by decide
  have e2 : 8 * (X / 8) = (X >>> 3) <<< 3 := by rw [Nat.shiftRight_eq_div_pow, Nat.shiftLeft_eq]; omega
  rw [e1, e2, Nat.testBit_and, Nat.testBit_shiftLeft, Nat.testBit_shiftLeft, Nat.testBit_two_pow_sub_one, Nat.testBit_shiftRight]
  by_cases h3 : i < 3
  · have : ¬ (i ≥ 3) := by omega
    simp [this]
  · have h4 : i ≥ 3 := by omega
    have h5 : 3 + (i - 3) = i := by omega
    simp only [h4, decide_true, Bool.true_and, h5]
    by_cases h6 : i - 3 < 61
    · simp [h6]
    · have : X.testBit i = false := Nat.testBit_lt_two_pow (Nat.lt_of_lt_of_le h (Nat.pow_le_pow_right (by omega) (by omega)))
      simp [this]

theorem andNot7 (x : Int) (h0 : 0 ≤ x) (h1 : x < 4611686018427387904) : bits .andNot .i64 x 7 = x / 8 * 8 := by
  show IntKind.i64.wrap ((BitVec.ofInt 64 x &&& ~~~ BitVec.ofInt 64 7).toNat : Int) = _
  have e : (~~~ BitVec.ofInt 64 7).toNat = 2 ^ 64 - 8 := by decide
  rw [BitVec.toNat_and, toNat_ofInt64, e, and_clear _ (by omega)]
  rw [IntWalk.i64_in _ (by omega)]
  omega

/-- Align's error of a Reader, and how many bits are read. -/
def alE (t : Nat) (R : List Bool) : Int := if (R.take (padN t)).all (fun b => !b) then 0 else 2
def alT (t : Nat) (R : List Bool) : Nat := if (R.take (padN t)).all (fun b => !b) then padN t else 0

end Go.Proofs.Ytepbngdoeolepaa
