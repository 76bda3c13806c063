/-
  Layer 3 (bits): a Writer and a Reader that a run has made itself; known.
-/
import Derived.Test.YtepbngdoeolepaaBits6
set_option linter.unusedVariables false
set_option linter.unusedSimpArgs false
namespace Go.Proofs.Ytepbngdoeolepaa
open Go.RowKit Go.Proofs.Ytepbngdoeolepaa.Pure

/-- Since w0 old memory stands as it did; the Writer at p, made since, holds l. -/
def WS (w0 w : World) (p : Nat) (l : List Bool) : Prop := Keeps [] w0 w ∧ ∃ sv, IsW w p sv l ∧ w0.heap.size ≤ p ∧ (∀ b, b ∈ fp sv → w0.heap.size ≤ b)
theorem WS.keeps {w0 w : World} {p : Nat} {l : List Bool} (h : WS w0 w p l) : Keeps [] w0 w := h.1
theorem WS.wrote {w0 w w' : World} {p : Nat} {l' : List Bool} {sv : Value} (hk : Keeps [] w0 w) (hp : w0.heap.size ≤ p) (hs : ∀ b, b ∈ fp sv → w0.heap.size ≤ b) (h : Wrote w w' p sv l') : WS w0 w' p l' := by
  obtain ⟨sv', h1, h2, h3⟩ := h
  refine ⟨hk.then_ h2 (fun b hb hlt => ?_), sv', h1, hp, fun b hb => ?_⟩
  · rcases List.mem_cons.1 hb with rfl | hb
    · omega
    · have := hs b hb; omega
  · rcases h3 b hb with h | h
    · exact hs b h
    · exact Nat.le_trans hk.size h
theorem WS.new {w0 w w' : World} {p : Nat} {l : List Bool} (h : WS w0 w p l) (hk : Keeps [] w w') : WS w0 w' p l := by
  obtain ⟨h1, sv, h2, h3, h4⟩ := h
  exact ⟨h1.new hk, sv, h2.new hk, h3, h4⟩
/-- A Reader's step, or another's, that turns blocks which were made since w1 alone. -/
theorem WS.later {w0 w w' : World} {p : Nat} {l : List Bool} (h : WS w0 w p l) {q : Nat} (hk : Keeps [q] w w') (hq : w.heap.size ≤ q ∨ (w0.heap.size ≤ q ∧ q ≠ p ∧ ∀ sv, IsW w p sv l → ∀ b, b ∈ fp sv → b ≠ q)) : WS w0 w' p l := by
  obtain ⟨h1, sv, h2, h3, h4⟩ := h
  have hpl := h2.duo.lt
  have hsl := h2.row.lt
  refine ⟨h1.then_ hk (fun b hb hlt => ?_), sv, h2.keeps hk ?_ ?_, h3, h4⟩
  · rw [List.mem_singleton] at hb
    have := h1.size
    rcases hq with h | h <;> omega
  · rw [List.mem_singleton]
    rcases hq with h | h <;> omega
  · intro b hb hm
    rw [List.mem_singleton] at hm
    rcases hq with h | ⟨h, h', h''⟩
    · have := hsl b hb; omega
    · exact h'' sv h2 b hb hm

section
variable {w0 w : World} {p : Nat} {l : List Bool}
theorem wsPut (n k : Int) (hW : Hid (WS w0 w p l)) (hn : Hid (-9223372036854775808 ≤ n ∧ n ≤ 9223372036854775807)) (hs : l.length ≤ 800000000000) :
    Calls Try.prog 14 #[.pointer (some ⟨p, 0, none⟩), .int .i64 n, .int .i64 k] w fun e w' => e = .returned (.int .i64 (putE n k)) ∧ WS w0 w' p (l ++ putB n k) := by
  obtain ⟨h1, sv, h2, h3, h4⟩ := hW.out
  exact (wPut_calls p sv l n k w h2 hn hs).mono fun e w' ⟨he, hw⟩ => ⟨he, WS.wrote h1 h3 h4 hw⟩
theorem wsPutSigned (n k : Int) (hW : Hid (WS w0 w p l)) (hn : Hid (-9223372036854775808 ≤ n ∧ n ≤ 9223372036854775807)) (hs : l.length ≤ 800000000000) :
    Calls Try.prog 43 #[.pointer (some ⟨p, 0, none⟩), .int .i64 n, .int .i64 k] w fun e w' => e = .returned (.int .i64 (psE n k)) ∧ WS w0 w' p (l ++ psB n k) := by
  obtain ⟨h1, sv, h2, h3, h4⟩ := hW.out
  exact (wPutSigned_calls p sv l n k w h2 hn hs).mono fun e w' ⟨he, hw⟩ => ⟨he, WS.wrote h1 h3 h4 hw⟩
theorem wsUnary (n : Int) (hW : Hid (WS w0 w p l)) (hs : l.length ≤ 800000000000) :
    Calls Try.prog 45 #[.pointer (some ⟨p, 0, none⟩), .int .i64 n] w fun e w' => e = .returned (.int .i64 (unE n)) ∧ WS w0 w' p (l ++ unB n) := by
  obtain ⟨h1, sv, h2, h3, h4⟩ := hW.out
  exact (wUnary_calls p sv l n w h2 hs).mono fun e w' ⟨he, hw⟩ => ⟨he, WS.wrote h1 h3 h4 hw⟩
theorem wsLen (hW : Hid (WS w0 w p l)) :
    Calls Try.prog 21 #[.pointer (some ⟨p, 0, none⟩)] w fun e w' => e = .returned (.int .i64 l.length) ∧ w = w' := by
  obtain ⟨h1, sv, h2, h3, h4⟩ := hW.out
  exact wLen_calls p sv l w h2
theorem wsBytes (hW : Hid (WS w0 w p l)) :
    Calls Try.prog 19 #[.pointer (some ⟨p, 0, none⟩)] w fun e w' => ∃ v, e = .returned v ∧ Row w' .u8 5 v (pack l) ∧ (∀ b, b ∈ fp v → w.heap.size ≤ b) ∧ Keeps [] w w' := by
  obtain ⟨h1, sv, h2, h3, h4⟩ := hW.out
  exact wBytes_calls p sv l w h2
theorem wsNew (w0 w : World) (hk : Hid (Keeps [] w0 w)) :
    Calls Try.prog 13 #[] w fun e w' => ∃ p, e = .returned (.pointer (some ⟨p, 0, none⟩)) ∧ WS w0 w' p [] ∧ Keeps [] w w' ∧ w.heap.size ≤ p := by
  refine (newWriter_calls w).mono ?_
  rintro e w' ⟨rfl, h1, h2⟩
  exact ⟨_, rfl, ⟨hk.out.new h2, _, h1, hk.out.size, fun b hb => by cases hb⟩, h2, Nat.le_refl _⟩
end

/-- Since w0 old memory stands as it did; the Reader at q, made since, is at bit t of bytes. -/
def RS (w0 w : World) (q : Nat) (bs : List Int) (t : Nat) : Prop := Keeps [] w0 w ∧ ∃ sv, IsR w q sv bs t ∧ w0.heap.size ≤ q
theorem RS.new {w0 w w' : World} {q : Nat} {bs : List Int} {t : Nat} (h : RS w0 w q bs t) (hk : Keeps [] w w') : RS w0 w' q bs t := by
  obtain ⟨h1, sv, h2, h3⟩ := h
  exact ⟨h1.new hk, sv, h2.new hk, h3⟩
theorem RS.read {w0 w w' : World} {q : Nat} {bs : List Int} {t' : Nat} {sv : Value} (hk : Keeps [] w0 w) (hq : w0.heap.size ≤ q) (h : IsR w' q sv bs t') (hk' : Keeps [q] w w') : RS w0 w' q bs t' :=
  ⟨hk.then_ hk' (fun b hb hlt => by rw [List.mem_singleton] at hb; omega), sv, h, hq⟩
section
variable {w0 w : World} {q : Nat} {bs : List Int} {t : Nat}
theorem RS.keeps (h : RS w0 w q bs t) : Keeps [] w0 w := h.1
theorem RS.bounds (h : RS w0 w q bs t) : t ≤ 8 * bs.length ∧ bs.length ≤ 1000000000000 := by
  obtain ⟨h1, sv, h2, h3⟩ := h
  exact ⟨h2.at_le, h2.small⟩
theorem rsGet (k : Int) (hR : Hid (RS w0 w q bs t)) :
    Calls Try.prog 27 #[.pointer (some ⟨q, 0, none⟩), .int .i64 k] w fun e w' => e = .returned (.tuple #[.int .i64 (gtN k (restB bs t)), .int .i64 (gtE k (restB bs t))]) ∧ RS w0 w' q bs (t + gtT k (restB bs t)) ∧ Keeps [q] w w' := by
  obtain ⟨h1, sv, h2, h3⟩ := hR.out
  exact (rGet_calls q sv bs t k w h2).mono fun e w' ⟨he, hr, hk⟩ => ⟨he, RS.read h1 h3 hr hk, hk⟩
theorem rsGetSigned (k : Int) (hR : Hid (RS w0 w q bs t)) :
    Calls Try.prog 64 #[.pointer (some ⟨q, 0, none⟩), .int .i64 k] w fun e w' => e = .returned (.tuple #[.int .i64 (gsN k (restB bs t)), .int .i64 (gtE k (restB bs t))]) ∧ RS w0 w' q bs (t + gtT k (restB bs t)) ∧ Keeps [q] w w' := by
  obtain ⟨h1, sv, h2, h3⟩ := hR.out
  exact (rGetSigned_calls q sv bs t k w h2).mono fun e w' ⟨he, hr, hk⟩ => ⟨he, RS.read h1 h3 hr hk, hk⟩
theorem rsUnary (hR : Hid (RS w0 w q bs t)) :
    Calls Try.prog 69 #[.pointer (some ⟨q, 0, none⟩)] w fun e w' => e = .returned (.tuple #[.int .i64 (unRN (restB bs t)), .int .i64 (unRE (restB bs t))]) ∧ RS w0 w' q bs (t + unRT (restB bs t)) ∧ Keeps [q] w w' := by
  obtain ⟨h1, sv, h2, h3⟩ := hR.out
  exact (rUnary_calls q sv bs t w h2).mono fun e w' ⟨he, hr, hk⟩ => ⟨he, RS.read h1 h3 hr hk, hk⟩
theorem rsLeft (hR : Hid (RS w0 w q bs t)) :
    Calls Try.prog 53 #[.pointer (some ⟨q, 0, none⟩)] w fun e w' => e = .returned (.int .i64 ((8 * bs.length - t : Nat) : Int)) ∧ RS w0 w' q bs t ∧ Keeps [] w w' := by
  obtain ⟨h1, sv, h2, h3⟩ := hR.out
  exact (rLeft_calls q sv bs t w h2).mono fun e w' ⟨he, hk⟩ => ⟨he, hR.out.new hk, hk⟩
theorem rsAt (hR : Hid (RS w0 w q bs t)) :
    Calls Try.prog 26 #[.pointer (some ⟨q, 0, none⟩)] w fun e w' => e = .returned (.int .i64 t) ∧ w = w' := by
  obtain ⟨h1, sv, h2, h3⟩ := hR.out
  exact rAt_calls q sv bs t w h2
theorem rsNew (w0 w : World) (bs : List Int) (n : Nat) (hn : n = bs.length) (a : Option Addr) (c : Nat) (hk : Hid (Keeps [] w0 w)) (hnc : a = none → c = 0) (hl : bs.length ≤ 1000000000000) (hr : ∀ x ∈ bs, 0 ≤ x ∧ x ≤ 255) (hx : Hid (Rd w .u8 a bs)) :
    Calls Try.prog 22 #[.slice a n c] w fun e w' => ∃ q, e = .returned (.pointer (some ⟨q, 0, none⟩)) ∧ RS w0 w' q bs 0 ∧ Keeps [] w w' ∧ w.heap.size ≤ q := by
  refine (newReader_calls bs n hn a c w hnc hl hr hx).mono ?_
  rintro e w' ⟨q, sv, rfl, h1, h2, h3, h4⟩
  exact ⟨q, rfl, ⟨hk.out.new h4, sv, h1, Nat.le_trans hk.out.size h3⟩, h4, h3⟩
end

theorem hid5 : Hid (-9223372036854775808 ≤ (5 : Int) ∧ (5 : Int) ≤ 9223372036854775807) := (show _ ∧ _ from by omega)
theorem hidm1 : Hid (-9223372036854775808 ≤ (-1 : Int) ∧ (-1 : Int) ≤ 9223372036854775807) := (show _ ∧ _ from by omega)
/-- The bits that known's Writer holds. -/
def knW : List Bool := [true, false, true, true, true, false, false, true]
theorem knPut : putE 5 3 = 0 ∧ putB 5 3 = [true, false, true] := by decide
theorem knPs : psE (-1) 2 = 0 ∧ psB (-1) 2 = [true, true] := by decide +kernel
theorem knUn : unE 2 = 0 ∧ unB 2 = [false, false, true] := by decide
theorem knPack : pack knW = [185] := by rw [pack8 (by rfl)]; rfl
theorem knR1 : gtE 3 (restB [185] 0) = 0 ∧ gtN 3 (restB [185] 0) = 5 ∧ gtT 3 (restB [185] 0) = 3 := by decide
theorem knR2 : gtE 2 (restB [185] 3) = 0 ∧ gsN 2 (restB [185] 3) = -1 ∧ gtT 2 (restB [185] 3) = 2 := by decide
theorem knR3 : unRE (restB [185] 5) = 0 ∧ unRN (restB [185] 5) = 2 ∧ unRT (restB [185] 5) = 3 := by decide

theorem pow_le33 (k : Nat) (hk : k ≤ 33) : (2 : Int) ^ k ≤ 8589934592 ∧ (0 : Int) < 2 ^ k := by
  have h : (2 : Nat) ^ k ≤ 2 ^ 33 := Nat.pow_le_pow_right (by omega) hk
  have h2 : ((2 ^ k : Nat) : Int) ≤ ((2 ^ 33 : Nat) : Int) := by exact_mod_cast h
  rw [Int.natCast_pow] at h2
  exact ⟨by simpa using h2, Int.pow_pos (by omega)⟩

set_option maxHeartbeats 1000000 in
theorem refSigned_calls (n : Int) (k : Nat) (w : World) (hk : k ≤ 33) :
    Calls Try.prog 11 #[.int .i64 n, .int .i64 k] w fun e w' => e = .returned (.bool (sgnB n k)) ∧ w = w' := by
  cases k with
  | zero =>
    have e : sgnB n ((0 : Nat) : Int) = (n == 0) := by unfold sgnB; rw [if_pos (by simp)]; rfl
    rw [e]
    clear e
    go_enter Try.func11, Try.ntmps11
    go_wp2
    go_ret
    exact ⟨rfl, rfl⟩
  | succ j =>
    have e : sgnB n ((j + 1 : Nat) : Int) = (decide (-(2 ^ j) ≤ n) && decide (n < 2 ^ j)) := by
      unfold sgnB
      rw [if_neg (by omega)]
      simp
    rw [e]
    clear e
    obtain ⟨p0, p1⟩ := pow_le33 j (by omega)
    have hw : wrap64 (2 ^ j) = 2 ^ j := by unfold wrap64; omega
    have hne : ((j : Int) + 1 == 0) = false := beq_eq_false_iff_ne.2 (by omega)
    have hnw : wrap64 (-2 ^ j) = -2 ^ j := by unfold wrap64; omega
    by_cases h1 : -2 ^ j ≤ n
    · by_cases h2 : n < 2 ^ j
      · rw [decide_eq_true h1, decide_eq_true h2]
        go_enter Try.func11, Try.ntmps11
        go_wp2
        go_ret
        exact ⟨rfl, rfl⟩
      · rw [decide_eq_true h1, decide_eq_false h2]
        go_enter Try.func11, Try.ntmps11
        go_wp2
        go_ret
        exact ⟨rfl, rfl⟩
    · rw [decide_eq_false h1]
      go_enter Try.func11, Try.ntmps11
      go_wp2
      go_ret
      exact ⟨rfl, rfl⟩
end Go.Proofs.Ytepbngdoeolepaa
