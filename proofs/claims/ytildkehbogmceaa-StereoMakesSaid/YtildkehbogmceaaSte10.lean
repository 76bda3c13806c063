/-
  Layer 8 (stereo), the document's side: Mode, half, in, Pair.Check, Pair.Join.
-/
import Derived.Test.YtildkehbogmceaaSte6
import Derived.StillTailTactics
set_option linter.unusedVariables false
set_option linter.unusedSimpArgs false
namespace Go.Proofs.Ytildkehbogmceaa
open Go.RowKit

/-- A block of two cells. -/
structure Duo8 (w : World) (g : Nat) (T : TypeId) (u v : Value) : Prop where
  hp : w.heap[g]? = some (.cells #[u, v] T (0, 0))
namespace Duo8
variable {w w' : World} {g : Nat} {T : TypeId} {u v : Value}
theorem keeps {F : List Nat} (h : Duo8 w g T u v) (hk : Keeps F w w') (hg : g ∉ F) : Duo8 w' g T u v := ⟨(hk.block g (Array.getElem?_eq_some_iff.1 h.hp).1 hg).trans h.hp⟩
theorem c0 (h : Duo8 w g T u v) : w.cell? ⟨g, 0, none⟩ = some u := by unfold World.cell?; rw [h.hp]; rfl
theorem c1 (h : Duo8 w g T u v) : w.cell? ⟨g, 1, none⟩ = some v := by unfold World.cell?; rw [h.hp]; rfl
theorem frozen (h : Duo8 w g T u v) (j : Nat) : w.frozen? ⟨g, j, none⟩ = false := frozen_of_row w g j #[u, v] T h.hp
theorem lt (h : Duo8 w g T u v) : g < w.heap.size := (Array.getElem?_eq_some_iff.1 h.hp).1
theorem made (w : World) (T : TypeId) (u v : Value) : Duo8 (w.alloc (.cells #[u, v] T)) w.heap.size T u v := ⟨by show (w.heap.push _)[w.heap.size]? = _; simp⟩
theorem set0 (h : Duo8 w g T u v) (u' : Value) : Duo8 (w.setCell ⟨g, 0, none⟩ u') g T u' v := ⟨by simp [World.setCell, Array.getElem?_modify, h.hp]⟩
theorem set1 (h : Duo8 w g T u v) (v' : Value) : Duo8 (w.setCell ⟨g, 1, none⟩ v') g T u v' := ⟨by simp [World.setCell, Array.getElem?_modify, h.hp]⟩
end Duo8

theorem dmode_calls (m : Int) (w : World) :
    Calls Try.prog 19 #[.int .i64 m] w fun e w' => e = .returned (.bool (modeB m)) ∧ w' = w := by
  have hm : modeB m = ((m == 0) || (m == 8) || (m == 9) || (m == 10)) := by
    unfold modeB
    by_cases h0 : m = 0
    · simp [h0]
    · by_cases h8 : m = 8
      · simp [h8]
      · by_cases h9 : m = 9
        · simp [h9]
        · by_cases h10 : m = 10
          · simp [h10]
          · rw [decide_eq_false (by omega), beq_eq_false_iff_ne.2 h0, beq_eq_false_iff_ne.2 h8, beq_eq_false_iff_ne.2 h9, beq_eq_false_iff_ne.2 h10]; rfl
  by_cases h0 : m = 0
  · subst h0
    go_enter Try.func19, Try.ntmps19
    go_wp2
    go_ret
    exact ⟨rfl, rfl⟩
  · have b0 : (m == 0) = false := beq_eq_false_iff_ne.2 h0
    by_cases h8 : m = 8
    · subst h8
      go_enter Try.func19, Try.ntmps19
      go_wp2
      go_ret
      exact ⟨rfl, rfl⟩
    · have b8 : (m == 8) = false := beq_eq_false_iff_ne.2 h8
      by_cases h9 : m = 9
      · subst h9
        go_enter Try.func19, Try.ntmps19
        go_wp2
        go_ret
        exact ⟨rfl, rfl⟩
      · have b9 : (m == 9) = false := beq_eq_false_iff_ne.2 h9
        obtain ⟨t, ht⟩ : ∃ t, (m == 10) = t := ⟨_, rfl⟩
        have e : modeB m = t := by rw [hm, b0, b8, b9, ht]; rfl
        rw [e]
        clear e hm h0 h8 h9
        go_enter Try.func19, Try.ntmps19
        go_wp2
        go_ret
        exact ⟨rfl, rfl⟩
/-- Half of an even number. -/
theorem dhalf_calls (h : Int) (w : World) (hr : -1000000000 ≤ h ∧ h ≤ 1000000000) :
    Calls Try.prog 20 #[.int .i64 (2 * h)] w fun e w' => e = .returned (.int .i64 h) ∧ w' = w := by
  obtain ⟨n, hn⟩ : ∃ n, 2 * h = n := ⟨_, rfl⟩
  have t1 : n.tmod 2 = 0 := by rw [← hn]; exact Int.mul_tmod_right 2 h
  have t2 : n.tdiv 2 = h := by rw [← hn]; exact Int.mul_tdiv_cancel_left h (by decide)
  have hnr : -2000000000 ≤ n ∧ n ≤ 2000000000 := by omega
  rw [hn]
  clear hn
  go_enter Try.func20, Try.ntmps20
  go_wp2
  go_ret
  exact ⟨rfl, rfl⟩
def in24 (x : Int) : Bool := decide (-16777216 ≤ x ∧ x ≤ 16777216)
theorem din_calls (x : Int) (w : World) :
    Calls Try.prog 29 #[.int .i64 x] w fun e w' => e = .returned (.bool (in24 x)) ∧ w' = w := by
  by_cases h1 : -16777216 ≤ x
  · by_cases h2 : x ≤ 16777216
    · have e : in24 x = true := decide_eq_true ⟨h1, h2⟩
      rw [e]
      clear e
      go_enter Try.func29, Try.ntmps29
      go_wp2
      go_ret
      exact ⟨rfl, rfl⟩
    · have e : in24 x = false := decide_eq_false (by omega)
      rw [e]
      clear e
      go_enter Try.func29, Try.ntmps29
      go_wp2
      go_ret
      exact ⟨rfl, rfl⟩
  · have e : in24 x = false := decide_eq_false (by omega)
    rw [e]
    clear e
    go_enter Try.func29, Try.ntmps29
    go_wp2
    go_ret
    exact ⟨rfl, rfl⟩

set_option maxHeartbeats 4000000 in
theorem pcheck_calls (L R : List Int) (n : Nat) (h1 : L.length = n) (h2 : R.length = n) (hn : n ≤ 8192) (a b : Option Addr) (c d : Nat) (w : World) (hx : Hid (Rd w .i64 a L)) (hy : Hid (Rd w .i64 b R)) :
    Calls Try.prog 21 #[.agg #[.slice a n c, .slice b n d]] w fun e w' => e = .returned (.int .i64 (if (L.zip R).all inC then 0 else 12)) ∧ Keeps [] w w' := by
  have HL1 := Lib.hid h1
  have HL2 := Lib.hid h2
  have hzl : (L.zip R).length = n := by rw [List.length_zip]; omega
  have HZL := Lib.hid hzl
  obtain ⟨J, hJ⟩ : ∃ J : Int, (if (L.zip R).all inC then 0 else 12) = J := ⟨_, rfl⟩
  have HJ : Hid (∀ b, (L.zip R).all inC = b → J = (if b then 0 else 12)) := by
    intro b hb
    rw [← hJ, hb]
  rw [hJ]
  clear hJ h1 h2 hzl
  go_enter Try.func21, Try.ntmps21
  go_upto_region 1 with fail
  have HD : Hid (Duo8 (w.alloc (.cells #[.slice a n c, .slice b n d] 46)) w.heap.size 46 (.slice a n c) (.slice b n d)) := Duo8.made _ _ _ _
  have HKA : Hid (Keeps [] w (w.alloc (.cells #[.slice a n c, .slice b n d] 46))) := (Keeps.refl _ _).alloc _
  generalize w.alloc (.cells #[.slice a n c, .slice b n d] 46) = wA at *
  generalize w.heap.size = g at *
  have hc0 := HD.out.c0
  go_wp2_with fail
  clear hc0
  go_loopg [3] (n + 1) (fun q v3 wr => ∃ (i : Nat), v3 = .int .i64 i ∧ i ≤ n ∧ Hid (((L.zip R).take i).all inC = true) ∧ Hid (i + q = n + 1) ∧ Hid (wr = wA))
  case atStart => exact ⟨0, rfl, by omega, (show _ = _ from by simp), (show _ = _ from by omega), (show _ = _ from rfl)⟩
  case round =>
    obtain ⟨i, rfl, hi, HA, HQ, HW⟩ := hrel
    obtain ⟨q1, rfl⟩ : ∃ g : Nat, g = gk := ⟨_, rfl⟩
    obtain rfl := HW.out
    obtain ⟨wa, rfl⟩ : ∃ x : World, x = wr := ⟨_, rfl⟩
    have hc0 := HD.out.c0
    have hc1 := HD.out.c1
    by_cases hlt : i < n
    · have i1 : i < L.length := by rw [HL1.out]; exact hlt
      have i2 : i < R.length := by rw [HL2.out]; exact hlt
      have i3 : i < (L.zip R).length := by rw [HZL.out]; exact hlt
      obtain ⟨b1, o1, hb1, hcx⟩ := (hx.out.new HKA.out).at_ i i1
      obtain ⟨b2, o2, hb2, hcy⟩ := (hy.out.new HKA.out).at_ i i2
      obtain ⟨x, hxe⟩ : ∃ x, L[i] = x := ⟨_, rfl⟩
      obtain ⟨y, hye⟩ : ∃ y, R[i] = y := ⟨_, rfl⟩
      have hz : (L.zip R)[i] = (x, y) := by rw [List.getElem_zip, hxe, hye]
      rw [hxe] at hcx
      rw [hye] at hcy
      have htk : (L.zip R).take (i + 1) = (L.zip R).take i ++ [(x, y)] := by rw [List.take_succ_eq_append_getElem i3, hz]
      have hmem : (x, y) ∈ L.zip R := by rw [← hz]; exact List.getElem_mem _
      have HBAD : Hid (inC (x, y) = false → J = 12) := by
        intro h
        have : (L.zip R).all inC = false := by
          rw [List.all_eq_false]
          exact ⟨(x, y), hmem, by simp [h]⟩
        exact HJ.out false this
      have HALL : Hid (inC (x, y) = true → ((L.zip R).take (i + 1)).all inC = true) := by
        intro h
        rw [htk, List.all_append, HA.out]
        simp [h]
      have HIX := Lib.hid (fun W => din_calls x W)
      have HIY := Lib.hid (fun W => din_calls y W)
      have hin : inC (x, y) = (in24 x && in24 y) := by unfold inC InC in24; simp
      subst hb1 hb2
      clear hxe hye hz htk hmem i1 i2 i3
      cases e1 : in24 x with
      | false =>
        rw [e1] at hin HIX
        have hj := HBAD.out (by rw [hin]; rfl)
        subst hj
        clear hin e1
        go_wp2_with (first
          | (go_at_call 29; go_must (with_reducible refine (HIX.out _).mono ?_); rintro e w3 ⟨rfl, rfl⟩))
        go_ret
        exact ⟨rfl, HKA.out⟩
      | true =>
        cases e2 : in24 y with
        | false =>
          rw [e1, e2] at hin
          rw [e1] at HIX
          rw [e2] at HIY
          have hj := HBAD.out (by rw [hin]; rfl)
          subst hj
          clear hin e1 e2
          go_wp2_with (first
            | (go_at_call 29; go_must (first | (with_reducible refine (HIX.out _).mono ?_; rintro e w3 ⟨rfl, rfl⟩) | (with_reducible refine (HIY.out _).mono ?_; rintro e w3 ⟨rfl, rfl⟩))))
          go_ret
          exact ⟨rfl, HKA.out⟩
        | true =>
          rw [e1, e2] at hin
          rw [e1] at HIX
          rw [e2] at HIY
          have HAN := Lib.hid (HALL.out (by rw [hin]; rfl))
          clear hin e1 e2
          go_wp2_with (first
            | (go_at_call 29; go_must (first | (with_reducible refine (HIX.out _).mono ?_; rintro e w3 ⟨rfl, rfl⟩) | (with_reducible refine (HIY.out _).mono ?_; rintro e w3 ⟨rfl, rfl⟩))))
          go_roundg (n - i)
          case measure => have := HQ.out; omega
          case rel => exact ⟨i + 1, by go_num, by omega, HAN.out, (show _ = _ from by have := HQ.out; omega), (show _ = _ from rfl)⟩
    · obtain rfl : i = n := by omega
      have h5 := HA.out
      rw [List.take_of_length_le (by rw [HZL.out]; exact Nat.le_refl _)] at h5
      have hj := HJ.out true h5
      simp only [if_true] at hj
      subst hj
      clear h5
      go_wp2_with fail
      go_ret
      exact ⟨rfl, HKA.out⟩
end Go.Proofs.Ytildkehbogmceaa
