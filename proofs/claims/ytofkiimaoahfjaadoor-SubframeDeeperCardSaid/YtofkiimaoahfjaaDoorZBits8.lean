/-
  Layer 3: what the laws with scripts of calls want besides: none, nobody, the cells of a script.
  Layer 3 (bits): two Writers, two Readers that a run has made itself.
-/
import Derived.Test.YtofkiimaoahfjaaDoorZRef3a
import Derived.Test.YtofkiimaoahfjaaDoorZOps
import Derived.Laws.Concat
import Derived.Test.YtofkiimaoahfjaaDoorZBits4
set_option maxRecDepth 100000
set_option linter.unusedVariables false
set_option linter.unusedSimpArgs false
namespace Go.Proofs.YtofkiimaoahfjaaDoor
open Go.RowKit Go.Proofs.YtofkiimaoahfjaaDoor.Pure

/-- Digits behind digits. -/
theorem run_dstr_add (P : Program) (a b : List Bool) (h : a.length + b.length ≤ 9223372036854775807) (W : World) : (Op.stringOp .add (dstr a) (dstr b)).run P W = .ok (.string (dstr (a ++ b))) W := by
  rw [run_string_add_sum W _ _ (by rw [dstr_size, dstr_size]; exact h), dstr_append]

/-- The script's i-th call, as the world has it. -/
structure OpAt (w : World) (b o i : Nat) (kd n k : Int) : Prop where
  c0 : w.cell? ⟨b, o + i * 3, none⟩ = some (.int .i64 kd)
  c1 : w.cell? ⟨b, o + i * 3 + 1, none⟩ = some (.int .i64 n)
  c2 : w.cell? ⟨b, o + i * 3 + 2, none⟩ = some (.int .i64 k)
  rd : -9223372036854775808 ≤ kd ∧ kd ≤ 9223372036854775807
  rn : -9223372036854775808 ≤ n ∧ n ≤ 9223372036854775807
  rk : -9223372036854775808 ≤ k ∧ k ≤ 9223372036854775807
theorem OpAt.new {w w' : World} {b o i : Nat} {kd n k : Int} (h : OpAt w b o i kd n k) (hk : Keeps [] w w') : OpAt w' b o i kd n k :=
  ⟨hk.cell h.c0 (by simp), hk.cell h.c1 (by simp), hk.cell h.c2 (by simp), h.rd, h.rn, h.rk⟩
theorem InOps.at {w : World} {a : Option Addr} {len cap : Nat} {z : List (Int × Int × Int)} (h : InOps w a len cap z) :
    len ≤ cap ∧ ∀ i, i < len → ∃ b o kd n k, a = some ⟨b, o, none⟩ ∧ OpAt w b o i kd n k := by
  rcases h with ⟨rfl, rfl, rfl, rfl⟩ | ⟨x, rfl, hlc, hmx, hzl, hat⟩
  · exact ⟨Nat.le_refl _, fun i hi => by omega⟩
  · refine ⟨hlc, fun i hi => ?_⟩
    have hz : i < z.length := by omega
    obtain ⟨h0, h1, h2, r0, r1, r2⟩ := hat i z[i] (List.getElem?_eq_getElem hz)
    have hs : x.spot = none := by
      obtain ⟨g0, _⟩ := hat 0 (z[0]'(by omega)) (List.getElem?_eq_getElem _)
      rw [show x.add (0 * 3) = x from by simp [Addr.add]] at g0
      unfold World.cell? at g0
      split at g0
      · split at g0
        · cases g0
        · rename_i h1; simpa using h1
      · cases g0
    obtain ⟨b, o, s⟩ := x
    obtain rfl : s = none := hs
    have e : ∀ m : Nat, (⟨b, o, none⟩ : Addr).add m = ⟨b, o + m, none⟩ := by
      intro m
      unfold Addr.add
      split
      · rename_i h0; subst h0; rfl
      · rfl
    rw [e] at h0 h1 h2
    rw [← Nat.add_assoc] at h1 h2
    exact ⟨b, o, _, _, _, rfl, h0, h1, h2, wf_i64 r0, wf_i64 r1, wf_i64 r2⟩
end Go.Proofs.YtofkiimaoahfjaaDoor

set_option maxRecDepth 100000
set_option linter.unusedVariables false
set_option linter.unusedSimpArgs false
namespace Go.Proofs.YtofkiimaoahfjaaDoor
open Go.RowKit Go.Proofs.YtofkiimaoahfjaaDoor.Pure

/-- Since w0 old memory stands as it did; two Writers, made since, hold l and m. -/
def WS2 (w0 w : World) (p : Nat) (l : List Bool) (q : Nat) (m : List Bool) : Prop := Keeps [] w0 w ∧ ∃ sv sv', IsW w p sv l ∧ IsW w q sv' m ∧ w0.heap.size ≤ p ∧ (∀ b, b ∈ fp sv → w0.heap.size ≤ b) ∧ w0.heap.size ≤ q ∧ (∀ b, b ∈ fp sv' → w0.heap.size ≤ b) ∧ p ≠ q ∧ (∀ b, b ∈ fp sv → b ≠ q ∧ b ∉ fp sv') ∧ (∀ b, b ∈ fp sv' → b ≠ p)
section
variable {w0 w w' : World} {p q : Nat} {l m : List Bool}
theorem WS2.keeps (h : WS2 w0 w p l q m) : Keeps [] w0 w := h.1
theorem WS2.symm (h : WS2 w0 w p l q m) : WS2 w0 w q m p l := by
  obtain ⟨h1, sv, sv', a, b, c, d, e, f, g, i, j⟩ := h
  exact ⟨h1, sv', sv, b, a, e, f, c, d, g.symm, fun x hx => ⟨j x hx, fun hy => (i x hy).2 hx⟩, fun x hx => (i x hx).1⟩
theorem WS2.left (h : WS2 w0 w p l q m) : WS w0 w p l := by
  obtain ⟨h1, sv, sv', a, b, c, d, e, f, g, i, j⟩ := h
  exact ⟨h1, sv, a, c, d⟩
theorem WS2.right (h : WS2 w0 w p l q m) : WS w0 w q m := h.symm.left
theorem WS2.new (h : WS2 w0 w p l q m) (hk : Keeps [] w w') : WS2 w0 w' p l q m := by
  obtain ⟨h1, sv, sv', a, b, c, d, e, f, g, i, j⟩ := h
  exact ⟨h1.new hk, sv, sv', a.new hk, b.new hk, c, d, e, f, g, i, j⟩
theorem ws2_new (w0 w : World) (hW : Hid (WS w0 w p l)) :
    Calls Tryd.prog 11 #[] w fun e w' => ∃ q, e = .returned (.pointer (some ⟨q, 0, none⟩)) ∧ WS2 w0 w' p l q [] ∧ Keeps [] w w' := by
  refine (newWriter_calls w).mono ?_
  rintro e w' ⟨rfl, h1, h2⟩
  obtain ⟨k1, sv, a, c, d⟩ := hW.out
  have hp := a.duo.lt
  have hs := a.row.lt
  exact ⟨_, rfl, ⟨k1.new h2, sv, _, a.new h2, h1, c, d, k1.size, fun b hb => (by cases hb), by omega, fun b hb => ⟨by have := hs b hb; omega, fun hh => (by cases hh)⟩, fun b hb => (by cases hb)⟩, h2⟩
theorem WS2.wrote {w0 w w' : World} {p q : Nat} {l m l' : List Bool} {sv sv' : Value} (h1 : Keeps [] w0 w) (a : IsW w p sv l) (b : IsW w q sv' m) (c : w0.heap.size ≤ p) (d : ∀ b, b ∈ fp sv → w0.heap.size ≤ b) (e : w0.heap.size ≤ q) (f : ∀ b, b ∈ fp sv' → w0.heap.size ≤ b) (g : p ≠ q) (i : ∀ b, b ∈ fp sv → b ≠ q ∧ b ∉ fp sv') (j : ∀ b, b ∈ fp sv' → b ≠ p) (h : Wrote w w' p sv l') : WS2 w0 w' p l' q m := by
  obtain ⟨k1, su, a', c', d'⟩ := WS.wrote h1 c d h
  obtain ⟨sw, x1, x2, x3⟩ := h
  have hq := b.duo.lt
  have hsq := b.row.lt
  have hk := b.keeps x2 (fun hm => by
    rcases List.mem_cons.1 hm with h | h
    · exact g h.symm
    · exact (i q h).1 rfl) (fun y hy hm => by
    rcases List.mem_cons.1 hm with h | h
    · exact j y hy h
    · exact (i y h).2 hy)
  refine ⟨k1, sw, sv', x1, hk, c, fun y hy => ?_, e, f, g, fun y hy => ?_, fun y hy hp => ?_⟩
  · rcases x3 y hy with h | h
    · exact d y h
    · exact Nat.le_trans h1.size h
  · rcases x3 y hy with h | h
    · exact i y h
    · exact ⟨by omega, fun hh => by have := hsq y hh; omega⟩
  · exact j y hy hp
theorem ws2Put (n k : Int) (hW : Hid (WS2 w0 w p l q m)) (hn : Hid (-9223372036854775808 ≤ n ∧ n ≤ 9223372036854775807)) (hs : l.length ≤ 800000000000) :
    Calls Tryd.prog 12 #[.pointer (some ⟨p, 0, none⟩), .int .i64 n, .int .i64 k] w fun e w' => e = .returned (.int .i64 (putE n k)) ∧ WS2 w0 w' p (l ++ putB n k) q m := by
  obtain ⟨h1, sv, sv', a, b, c, d, e, f, g, i, j⟩ := hW.out
  exact (wPut_calls p sv l n k w a hn hs).mono fun e' w' ⟨he, hw⟩ => ⟨he, WS2.wrote h1 a b c d e f g i j hw⟩
theorem ws2PutSigned (n k : Int) (hW : Hid (WS2 w0 w p l q m)) (hn : Hid (-9223372036854775808 ≤ n ∧ n ≤ 9223372036854775807)) (hs : l.length ≤ 800000000000) :
    Calls Tryd.prog 58 #[.pointer (some ⟨p, 0, none⟩), .int .i64 n, .int .i64 k] w fun e w' => e = .returned (.int .i64 (psE n k)) ∧ WS2 w0 w' p (l ++ psB n k) q m := by
  obtain ⟨h1, sv, sv', a, b, c, d, e, f, g, i, j⟩ := hW.out
  exact (wPutSigned_calls p sv l n k w a hn hs).mono fun e' w' ⟨he, hw⟩ => ⟨he, WS2.wrote h1 a b c d e f g i j hw⟩
end

/-- Two Readers, made since w0. -/
def RS2 (w0 w : World) (q : Nat) (bs : List Int) (t : Nat) (q2 : Nat) (bs2 : List Int) (t2 : Nat) : Prop := Keeps [] w0 w ∧ ∃ sv sv', IsR w q sv bs t ∧ IsR w q2 sv' bs2 t2 ∧ w0.heap.size ≤ q ∧ w0.heap.size ≤ q2 ∧ q ≠ q2 ∧ (∀ b, b ∈ fp sv → b ≠ q2) ∧ (∀ b, b ∈ fp sv' → b ≠ q)
section
variable {w0 w w' : World} {q q2 : Nat} {bs bs2 : List Int} {t t2 : Nat}
theorem RS2.keeps (h : RS2 w0 w q bs t q2 bs2 t2) : Keeps [] w0 w := h.1
theorem RS2.symm (h : RS2 w0 w q bs t q2 bs2 t2) : RS2 w0 w q2 bs2 t2 q bs t := by
  obtain ⟨h1, sv, sv', a, b, c, d, e, f, g⟩ := h
  exact ⟨h1, sv', sv, b, a, d, c, e.symm, g, f⟩
theorem RS2.left (h : RS2 w0 w q bs t q2 bs2 t2) : RS w0 w q bs t := by
  obtain ⟨h1, sv, sv', a, b, c, d, e, f, g⟩ := h
  exact ⟨h1, sv, a, c⟩
theorem RS2.right (h : RS2 w0 w q bs t q2 bs2 t2) : RS w0 w q2 bs2 t2 := h.symm.left
theorem RS2.new (h : RS2 w0 w q bs t q2 bs2 t2) (hk : Keeps [] w w') : RS2 w0 w' q bs t q2 bs2 t2 := by
  obtain ⟨h1, sv, sv', a, b, c, d, e, f, g⟩ := h
  exact ⟨h1.new hk, sv, sv', a.new hk, b.new hk, c, d, e, f, g⟩
theorem rs2_new (w0 w : World) (bs2 : List Int) (n : Nat) (hn : n = bs2.length) (a : Option Addr) (c : Nat) (hR : Hid (RS w0 w q bs t)) (hnc : a = none → c = 0) (hl : bs2.length ≤ 1000000000000) (hr : ∀ x ∈ bs2, 0 ≤ x ∧ x ≤ 255) (hx : Hid (Rd w .u8 a bs2)) :
    Calls Tryd.prog 20 #[.slice a n c] w fun e w' => ∃ q2, e = .returned (.pointer (some ⟨q2, 0, none⟩)) ∧ RS2 w0 w' q bs t q2 bs2 0 ∧ Keeps [] w w' := by
  refine (newReader_calls bs2 n hn a c w hnc hl hr hx).mono ?_
  rintro e w' ⟨q2, sv', rfl, h1, h2, h3, h4⟩
  obtain ⟨k1, sv, x, y⟩ := hR.out
  have hq := x.duo.lt
  have hs := x.row.lt
  have := k1.size
  exact ⟨q2, rfl, ⟨k1.new h4, sv, sv', x.new h4, h1, y, by omega, by omega, fun b hb => by have := hs b hb; omega, fun b hb => by have := h2 b hb; omega⟩, h4⟩
theorem RS2.read {t' : Nat} {sv sv' : Value} (h1 : Keeps [] w0 w) (b : IsR w q2 sv' bs2 t2) (c : w0.heap.size ≤ q) (d : w0.heap.size ≤ q2) (e : q ≠ q2) (f : ∀ b, b ∈ fp sv → b ≠ q2) (g : ∀ b, b ∈ fp sv' → b ≠ q) (x : IsR w' q sv bs t') (hk : Keeps [q] w w') : RS2 w0 w' q bs t' q2 bs2 t2 := by
  obtain ⟨k1, -⟩ := RS.read h1 c x hk
  exact ⟨k1, sv, sv', x, b.keeps hk (by rw [List.mem_singleton]; exact e.symm) (fun y hy hm => g y hy (List.mem_singleton.1 hm)), c, d, e, f, g⟩
theorem rs2Get (k : Int) (hR : Hid (RS2 w0 w q bs t q2 bs2 t2)) :
    Calls Tryd.prog 105 #[.pointer (some ⟨q, 0, none⟩), .int .i64 k] w fun e w' => e = .returned (.tuple #[.int .i64 (gtN k (restB bs t)), .int .i64 (gtE k (restB bs t))]) ∧ RS2 w0 w' q bs (t + gtT k (restB bs t)) q2 bs2 t2 := by
  obtain ⟨h1, sv, sv', a, b, c, d, e, f, g⟩ := hR.out
  exact (rGet_calls q sv bs t k w a).mono fun e' w' ⟨he, hr, hk⟩ => ⟨he, RS2.read h1 b c d e f g hr hk⟩
theorem rs2GetSigned (k : Int) (hR : Hid (RS2 w0 w q bs t q2 bs2 t2)) :
    Calls Tryd.prog 108 #[.pointer (some ⟨q2, 0, none⟩), .int .i64 k] w fun e w' => e = .returned (.tuple #[.int .i64 (gsN k (restB bs2 t2)), .int .i64 (gtE k (restB bs2 t2))]) ∧ RS2 w0 w' q bs t q2 bs2 (t2 + gtT k (restB bs2 t2)) := by
  obtain ⟨h1, sv, sv', a, b, c, d, e, f, g⟩ := hR.out.symm
  exact (rGetSigned_calls q2 sv bs2 t2 k w a).mono fun e' w' ⟨he, hr, hk⟩ => ⟨he, (RS2.read h1 b c d e f g hr hk).symm⟩
theorem rs2At (hR : Hid (RS w0 w q bs t)) :
    Calls Tryd.prog 25 #[.pointer (some ⟨q, 0, none⟩)] w fun e w' => e = .returned (.int .i64 t) ∧ w = w' := rsAt hR
theorem rs2Left (hR : Hid (RS w0 w q bs t)) (w' : World) :
    Calls Tryd.prog 118 #[.pointer (some ⟨q, 0, none⟩)] w fun e w' => e = .returned (.int .i64 ((8 * bs.length - t : Nat) : Int)) ∧ RS w0 w' q bs t ∧ Keeps [] w w' := rsLeft hR
end
end Go.Proofs.YtofkiimaoahfjaaDoor
