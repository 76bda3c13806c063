/-
  Package bits (layer 3): a Writer: unary numbers, whole bytes.
-/
import Derived.Test.YtepbngdoeolepaaBits2
set_option linter.unusedVariables false
set_option linter.unusedSimpArgs false
namespace Go.Proofs.Ytepbngdoeolepaa
open Go.RowKit Go.Proofs.Ytepbngdoeolepaa.Pure

/-- Unary's error, and what it puts. -/
def unE (n : Int) : Int := if n < 0 ∨ 65536 < n then 1 else 0
def unB (n : Int) : List Bool := if unE n = 0 then List.replicate n.toNat false ++ [true] else []

set_option maxHeartbeats 2000000 in
theorem wUnary_calls (p : Nat) (sv : Value) (l : List Bool) (n : Int) (w : World) (hW : Hid (IsW w p sv l)) (hs : l.length ≤ 800000000000) :
    Calls Try.prog 45 #[.pointer (some ⟨p, 0, none⟩), .int .i64 n] w fun e w' => e = .returned (.int .i64 (unE n)) ∧ Wrote w w' p sv (l ++ unB n) := by
  by_cases hn : n < 0 ∨ 65536 < n
  · have e1 : unE n = 1 := by unfold unE; rw [if_pos hn]
    have e2 : unB n = [] := by unfold unB; rw [e1]; rfl
    rw [e1, e2, List.append_nil]
    have hn' : n < 0 ∨ (0 ≤ n ∧ 65536 < n) := by omega
    clear hn e1 e2
    rcases hn' with h | ⟨h0, h⟩
    all_goals
      go_enter Try.func45, Try.ntmps45
      go_wp2
      go_ret
      exact ⟨rfl, Wrote.refl hW.out⟩
  · obtain ⟨k, rfl⟩ : ∃ k : Nat, n = k := ⟨n.toNat, by omega⟩
    have e1 : unE k = 0 := by unfold unE; rw [if_neg hn]
    have e2 : unB k = List.replicate k false ++ [true] := by unfold unB; rw [if_pos e1]; rfl
    rw [e1, e2]
    have hk : k ≤ 65536 := by omega
    clear hn e1 e2
    go_enter Try.func45, Try.ntmps45
    go_wp2_with fail
    go_loopg [16] (k + 1) (fun q v16 w2 => ∃ (i : Nat), v16 = .int .i64 i ∧ i ≤ k ∧ Hid (Wrote w w2 p sv (l ++ List.replicate i false)) ∧ Hid (i + q = k + 1))
    case atStart => exact ⟨0, rfl, by omega, (by show Wrote _ _ _ _ _; simp only [List.replicate_zero, List.append_nil]; exact Wrote.refl hW.out), (show _ = _ from by omega)⟩
    case round =>
      obtain ⟨i, rfl, hi, HWR, HQ⟩ := hrel
      obtain ⟨sv1, h1, h2, h3⟩ := HWR.out
      have HW1 := Lib.hid h1
      have HK1 := Lib.hid h2
      have HF1 := Lib.hid h3
      clear h1 h2 h3 HWR
      have hl : Hid ((l ++ List.replicate i false).length ≤ 900000000000) := by show _ ≤ _; rw [List.length_append, List.length_replicate]; omega
      by_cases hlt : i < k
      · go_wp2_with (first
          | (go_at_call 58; go_must (with_reducible refine (bit_calls p sv1 _ 0 false rfl _ HW1 hl.out).mono ?_); rintro e' w3 ⟨rfl, hw3⟩))
        go_roundg (gk - 1)
        case measure => have := HQ.out; omega
        case rel =>
          refine ⟨i + 1, by go_num, by omega, ?_, (show _ = _ from by have := HQ.out; omega)⟩
          show Wrote _ _ _ _ _
          rw [List.replicate_succ', ← List.append_assoc]
          exact Wrote.then_ HK1.out HF1.out hw3
      · obtain rfl : i = k := by omega
        go_wp2_with (first
          | (go_at_call 58; go_must (with_reducible refine (bit_calls p sv1 _ 1 true rfl _ HW1 hl.out).mono ?_); rintro e' w3 ⟨rfl, hw3⟩))
        go_ret
        refine ⟨rfl, ?_⟩
        rw [← List.append_assoc]
        exact Wrote.then_ HK1.out HF1.out hw3

/-- How many noughts are lacking to a whole byte. -/
def padN (n : Nat) : Nat := (8 - n % 8) % 8

theorem wLen_calls (p : Nat) (sv : Value) (l : List Bool) (w : World) (hW : Hid (IsW w p sv l)) :
    Calls Try.prog 21 #[.pointer (some ⟨p, 0, none⟩)] w fun e w' => e = .returned (.int .i64 l.length) ∧ w = w' := by
  have hc1 := hW.out.duo.c1
  go_enter Try.func21, Try.ntmps21
  go_wp2
  go_ret
  exact ⟨rfl, rfl⟩

set_option maxHeartbeats 1000000 in
theorem bclone_calls (xs : List Int) (m : Nat) (hm : m = xs.length) (a : Option Addr) (c : Nat) (w : World) (hn : a = none → c = 0) (hl : xs.length ≤ 140737488351232) (hx : Hid (Rd w .u8 a xs)) :
    Calls Try.prog 49 #[.slice a m c] w fun e w' => ∃ v, e = .returned v ∧ Row w' .u8 5 v xs ∧ (∀ b, b ∈ fp v → w.heap.size ≤ b) ∧ Keeps [] w w' := by
  subst hm
  cases a with
  | none =>
    have h0 : xs = [] := by
      rcases Nat.eq_zero_or_pos xs.length with h0 | h0
      · exact List.eq_nil_of_length_eq_zero h0
      · obtain ⟨b, o', e', _⟩ := hx.out.form h0
        cases e'
    have hc := hn rfl
    subst h0 hc
    show Calls Try.prog 49 #[.slice none 0 0] w _
    have he : ∀ w : World, (binOp .eql 40 (.slice none 0 0) (.slice none 0 0)).run Try.prog w = .ok (.bool true) w := fun _ => rfl
    go_enter Try.func49, Try.ntmps49
    go_wp2
    go_ret
    exact ⟨_, rfl, Row.nil _ _ _, (fun b hb => by cases hb), Keeps.refl _ _⟩
  | some ad =>
    have HNN : (some ad = none → c = 0) := hn
    have HSP := Lib.hid hx.out.spot
    have he : ∀ w : World, (binOp .eql 40 (.slice (some ad) xs.length c) (.slice none 0 0)).run Try.prog w = .ok (.bool false) w := fun _ => rfl
    go_enter Try.func49, Try.ntmps49
    go_wp2_with (first
      | (at_builtin; refine wp_appR (W := w.alloc (.cells #[] 5)) ?hg (.tmp 5) (.tmp 6) 40 5 .u8 1 ?ho Try.underlying40 b_info_u8 (by decide) (.slice (some ⟨w.heap.size, 0, none⟩) 0 0) [] xs ?hs (some ad) c ?hx (Row.litNil w .u8 5) (hx.out.new ((Keeps.refl _ _).alloc _)) HNN HSP.out (by simp; omega) ?_; (case ho => rfl); (case hg => rfl); (case hs => rfl); (case hx => rfl); intro v3 w3 hr3 hk3 hf3))
    rw [List.nil_append] at hr3
    go_ret
    refine ⟨_, rfl, hr3, ?_, ((Keeps.refl _ _).alloc _).then_ hk3 (fun b hb hlt => by rw [fp_some, List.mem_singleton] at hb; omega)⟩
    intro b hb
    rcases hf3 b hb with h | h
    · rw [fp_some, List.mem_singleton] at h; omega
    · rw [World.size_alloc] at h; omega

theorem Row.noneCapB {w : World} {k : IntKind} {e : TypeId} {a : Option Addr} {n c : Nat} {xs : List Int} (h : Row w k e (.slice a n c) xs) : a = none → c = 0 := by
  intro h0
  subst h0
  rcases h.2 with ⟨h1, _⟩ | ⟨_, _, _, h1, _⟩ <;> cases h1
  rfl

theorem wBytes_calls (p : Nat) (sv : Value) (l : List Bool) (w : World) (hW : Hid (IsW w p sv l)) :
    Calls Try.prog 19 #[.pointer (some ⟨p, 0, none⟩)] w fun e w' => ∃ v, e = .returned v ∧ Row w' .u8 5 v (pack l) ∧ (∀ b, b ∈ fp v → w.heap.size ≤ b) ∧ Keeps [] w w' := by
  have hc0 := hW.out.duo.c0
  have hsm := hW.out.small
  obtain ⟨a, c, rfl, hrd⟩ := hW.out.row.rd
  have HRD := Lib.hid hrd
  have HNC := Lib.hid hW.out.row.noneCapB
  have HPL : Hid ((pack l).length ≤ 140737488351232) := by show _ ≤ _; rw [pack_length]; omega
  clear hrd hsm
  go_enter Try.func19, Try.ntmps19
  go_wp2_with (first
    | (go_at_call 49; go_must (with_reducible refine (bclone_calls (pack l) _ rfl a c _ HNC.out HPL.out HRD).mono ?_); rintro e w1 ⟨v1, rfl, hr1, hf1, hk1⟩))
  go_ret
  exact ⟨_, rfl, hr1, hf1, hk1⟩

theorem newWriter_calls (w : World) :
    Calls Try.prog 13 #[] w fun e w' => e = .returned (.pointer (some ⟨w.heap.size, 0, none⟩)) ∧ IsW w' w.heap.size (.slice none 0 0) [] ∧ Keeps [] w w' := by
  go_enter Try.func13, Try.ntmps13
  go_wp2
  go_ret
  refine ⟨rfl, ⟨⟨?_⟩, ?_, (fun b hb => by cases hb), by simp⟩, (Keeps.refl _ _).alloc _⟩
  · exact heap_alloc_new _ _
  · show Row _ _ _ _ _
    rw [pack_nil]
    exact Row.nil _ _ _

theorem nilPut_calls (n k : Int) (w : World) :
    Calls Try.prog 14 #[.pointer none, .int .i64 n, .int .i64 k] w fun e w' => e = .returned (.int .i64 1) ∧ w = w' := by
  go_enter Try.func14, Try.ntmps14
  go_wp2
  go_ret
  exact ⟨rfl, rfl⟩
theorem nilLen_calls (w : World) :
    Calls Try.prog 21 #[.pointer none] w fun e w' => e = .returned (.int .i64 0) ∧ w = w' := by
  go_enter Try.func21, Try.ntmps21
  go_wp2
  go_ret
  exact ⟨rfl, rfl⟩
theorem nilBytes_calls (w : World) :
    Calls Try.prog 19 #[.pointer none] w fun e w' => e = .returned (.slice none 0 0) ∧ w = w' := by
  go_enter Try.func19, Try.ntmps19
  go_wp2
  go_ret
  exact ⟨rfl, rfl⟩
end Go.Proofs.Ytepbngdoeolepaa
