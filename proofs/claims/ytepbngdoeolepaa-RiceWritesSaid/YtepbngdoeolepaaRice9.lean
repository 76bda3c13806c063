/-
  A Writer that is written to while other blocks stand as they stood.
-/
import Derived.Test.YtepbngdoeolepaaRice8
set_option linter.unusedVariables false
set_option linter.unusedSimpArgs false
namespace Go.Proofs.Ytepbngdoeolepaa
open Go.RowKit Go.Proofs.Ytepbngdoeolepaa.Pure

/-- Blocks that stand as they stood. -/
def Same (bs : List Nat) (w w' : World) : Prop := ∀ b, b ∈ bs → w'.heap[b]? = w.heap[b]?
theorem Same.refl (bs : List Nat) (w : World) : Same bs w w := fun _ _ => rfl
theorem Same.trans {bs : List Nat} {w w1 w2 : World} (h : Same bs w w1) (k : Same bs w1 w2) : Same bs w w2 := fun b hb => (k b hb).trans (h b hb)
theorem Same.mono {bs cs : List Nat} {w w' : World} (h : Same bs w w') (hc : ∀ b, b ∈ cs → b ∈ bs) : Same cs w w' := fun b hb => h b (hc b hb)
theorem Same.cell {bs : List Nat} {w w' : World} (h : Same bs w w') {a : Addr} {v : Value} (hc : w.cell? a = some v) (ha : a.block ∈ bs) : w'.cell? a = some v :=
  (World.cell?_of_block (w := w) (h a.block ha)).trans hc
theorem Tri3.same {w w' : World} {g : Nat} {T : TypeId} {a b c : Int} {bs : List Nat} (h : Tri3 w g T a b c) (hs : Same bs w w') (hg : g ∈ bs) : Tri3 w' g T a b c := ⟨(hs g hg).trans h.hp⟩
theorem Quad.same {w w' : World} {g : Nat} {T : TypeId} {a b c d : Value} {bs : List Nat} (h : Quad w g T a b c d) (hs : Same bs w w') (hg : g ∈ bs) : Quad w' g T a b c d := ⟨(hs g hg).trans h.hp⟩
theorem RowT.same {w w' : World} {e : TypeId} {v : Value} {zs : List T3} {bs : List Nat} (h : RowT w e v zs) (hs : Same bs w w') (hd : ∀ b, b ∈ fp v → b ∈ bs) : RowT w' e v zs := by
  refine ⟨h.1, ?_⟩
  rcases h.2 with hn | ⟨g, cap, cur, rfl, hb, hg, rest⟩
  · exact .inl hn
  · exact .inr ⟨g, cap, cur, rfl, hb, (hs g (hd g (by simp [fp, Value.ownBlock]))).trans hg, rest⟩
theorem RowV.same {w w' : World} {e : TypeId} {v : Value} {xs : List Value} {bs : List Nat} (h : RowV w e v xs) (hs : Same bs w w') (hd : ∀ b, b ∈ fp v → b ∈ bs) : RowV w' e v xs := by
  refine ⟨h.1, ?_⟩
  rcases h.2 with hn | ⟨g, cap, cur, rfl, hb, hg, rest⟩
  · exact .inl hn
  · exact .inr ⟨g, cap, cur, rfl, hb, (hs g (hd g (by simp [fp, Value.ownBlock]))).trans hg, rest⟩
theorem Rd.same {w w' : World} {k : IntKind} {a : Option Addr} {xs : List Int} {bs : List Nat} (h : Rd w k a xs) (hs : Same bs w w') (hd : ∀ ad, a = some ad → 0 < xs.length → ad.block ∈ bs) : Rd w' k a xs :=
  ⟨h.small, fun i hi => by
    obtain ⟨b, o, rfl, hc⟩ := h.at_ i hi
    exact ⟨b, o, rfl, hs.cell hc (hd ⟨b, o, none⟩ rfl (by omega))⟩⟩

/-- The Writer at p, that held its bytes in sv at w0, holds l now; of the old memory only its own has turned; the blocks bs are none of its. -/
def WO (w0 w : World) (p : Nat) (sv : Value) (l : List Bool) (bs : List Nat) : Prop :=
  ∃ sv', IsW w p sv' l ∧ Keeps (p :: fp sv) w0 w ∧ (∀ b, b ∈ fp sv' → b ∈ fp sv ∨ w0.heap.size ≤ b) ∧ (∀ b, b ∈ bs → b < w.heap.size ∧ b ∉ p :: fp sv')
section
variable {w0 w w' : World} {p : Nat} {sv : Value} {l : List Bool} {bs : List Nat}
theorem WO.start (h : IsW w p sv l) (hb : ∀ b, b ∈ bs → b < w.heap.size ∧ b ∉ p :: fp sv) : WO w w p sv l bs := ⟨sv, h, Keeps.refl _ _, fun b hb => .inl hb, hb⟩
theorem WO.new (h : WO w0 w p sv l bs) (hk : Keeps [] w w') : WO w0 w' p sv l bs := by
  obtain ⟨sv', h1, h2, h3, h4⟩ := h
  exact ⟨sv', h1.new hk, h2.new hk, h3, fun b hb => ⟨Nat.lt_of_lt_of_le (h4 b hb).1 hk.size, (h4 b hb).2⟩⟩
theorem WO.grow (h : WO w0 w p sv l bs) (hk : Keeps [] w w') (cs : List Nat) (hc : ∀ b, b ∈ cs → w.heap.size ≤ b ∧ b < w'.heap.size) : WO w0 w' p sv l (cs ++ bs) := by
  obtain ⟨sv', h1, h2, h3, h4⟩ := h
  refine ⟨sv', h1.new hk, h2.new hk, h3, fun b hb => ?_⟩
  rcases List.mem_append.1 hb with hb | hb
  · refine ⟨(hc b hb).2, fun hm => ?_⟩
    have h5 := (hc b hb).1
    rcases List.mem_cons.1 hm with rfl | hm
    · have := h1.duo.lt; omega
    · have := h1.row.lt b hm; omega
  · exact ⟨Nat.lt_of_lt_of_le (h4 b hb).1 hk.size, (h4 b hb).2⟩
theorem WO.less (h : WO w0 w p sv l bs) {cs : List Nat} (hc : ∀ b, b ∈ cs → b ∈ bs) : WO w0 w p sv l cs := by
  obtain ⟨sv', h1, h2, h3, h4⟩ := h
  exact ⟨sv', h1, h2, h3, fun b hb => h4 b (hc b hb)⟩
theorem WO.same (h : WO w0 w p sv l bs) (hk : Keeps [] w w') : Same bs w w' := by
  obtain ⟨sv', h1, h2, h3, h4⟩ := h
  exact fun b hb => hk.block b (h4 b hb).1 (by simp)
theorem WO.wrote (h : WO w0 w p sv l bs) : Wrote w0 w p sv l := by
  obtain ⟨sv', h1, h2, h3, _⟩ := h
  exact ⟨sv', h1, h2, h3⟩
theorem WO.step {sv' : Value} {l' : List Bool} (h2 : Keeps (p :: fp sv) w0 w) (h3 : ∀ b, b ∈ fp sv' → b ∈ fp sv ∨ w0.heap.size ≤ b) (h4 : ∀ b, b ∈ bs → b < w.heap.size ∧ b ∉ p :: fp sv') (hw : Wrote w w' p sv' l') : WO w0 w' p sv l' bs ∧ Same bs w w' := by
  obtain ⟨sv2, k1, k2, k3⟩ := hw
  refine ⟨⟨sv2, k1, h2.then_ k2 (fun b hb hlt => ?_), fun b hb => ?_, fun b hb => ⟨Nat.lt_of_lt_of_le (h4 b hb).1 k2.size, fun hm => ?_⟩⟩, fun b hb => k2.block b (h4 b hb).1 (h4 b hb).2⟩
  · rcases List.mem_cons.1 hb with rfl | hb
    · exact List.mem_cons_self
    · rcases h3 b hb with h | h
      · exact List.mem_cons_of_mem _ h
      · omega
  · rcases k3 b hb with h | h
    · exact h3 b h
    · exact .inr (Nat.le_trans h2.size h)
  · rcases List.mem_cons.1 hm with rfl | hm
    · exact (h4 b hb).2 List.mem_cons_self
    · rcases k3 b hm with h | h
      · exact (h4 b hb).2 (List.mem_cons_of_mem _ h)
      · have := (h4 b hb).1; omega
theorem woPut (n k : Int) (h : Hid (WO w0 w p sv l bs)) (hn : Hid (-9223372036854775808 ≤ n ∧ n ≤ 9223372036854775807)) (hs : l.length ≤ 800000000000) :
    Calls Try.prog 14 #[.pointer (some ⟨p, 0, none⟩), .int .i64 n, .int .i64 k] w fun e w' => e = .returned (.int .i64 (putE n k)) ∧ WO w0 w' p sv (l ++ putB n k) bs ∧ Same bs w w' := by
  obtain ⟨sv', h1, h2, h3, h4⟩ := h.out
  exact (wPut_calls p sv' l n k w h1 hn hs).mono fun e w' ⟨he, hw⟩ => ⟨he, WO.step h2 h3 h4 hw⟩
theorem woPutSigned (n k : Int) (h : Hid (WO w0 w p sv l bs)) (hn : Hid (-9223372036854775808 ≤ n ∧ n ≤ 9223372036854775807)) (hs : l.length ≤ 800000000000) :
    Calls Try.prog 43 #[.pointer (some ⟨p, 0, none⟩), .int .i64 n, .int .i64 k] w fun e w' => e = .returned (.int .i64 (psE n k)) ∧ WO w0 w' p sv (l ++ psB n k) bs ∧ Same bs w w' := by
  obtain ⟨sv', h1, h2, h3, h4⟩ := h.out
  exact (wPutSigned_calls p sv' l n k w h1 hn hs).mono fun e w' ⟨he, hw⟩ => ⟨he, WO.step h2 h3 h4 hw⟩
theorem woUnary (n : Int) (h : Hid (WO w0 w p sv l bs)) (hs : l.length ≤ 800000000000) :
    Calls Try.prog 45 #[.pointer (some ⟨p, 0, none⟩), .int .i64 n] w fun e w' => e = .returned (.int .i64 (unE n)) ∧ WO w0 w' p sv (l ++ unB n) bs ∧ Same bs w w' := by
  obtain ⟨sv', h1, h2, h3, h4⟩ := h.out
  exact (wUnary_calls p sv' l n w h1 hs).mono fun e w' ⟨he, hw⟩ => ⟨he, WO.step h2 h3 h4 hw⟩
end
end Go.Proofs.Ytepbngdoeolepaa
