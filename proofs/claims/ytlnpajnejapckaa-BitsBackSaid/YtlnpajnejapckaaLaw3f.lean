/-
  The statement BitsBack of layer 3: the walk.
-/
import Derived.Test.YtlnpajnejapckaaBack
set_option linter.unusedVariables false
set_option linter.unusedSimpArgs false
namespace Go.Proofs.Ytlnpajnejapckaa
open Go.RowKit Go.Proofs.Ytlnpajnejapckaa.Pure

theorem info_Op : (Try.prog.info? 41).map (fun i => (i.zero, i.size, i.bytes)) = some (some (.agg #[.int .i64 0, .int .i64 0, .int .i64 0]), 3, 24) := by kernel_rfl

/-- A call's three numbers as cells. -/
def tri (o : Op3) : List Value := [.int .i64 o.1, .int .i64 o.2.1, .int .i64 o.2.2]
def Row3 (w : World) (v : Value) (zs : List Op3) : Prop := w.ownsRow 0 41 3 v zs.length (zs.flatMap tri)
theorem tri_length (zs : List Op3) : (zs.flatMap tri).length = zs.length * 3 := by
  induction zs with
  | nil => rfl
  | cons z zs ih => rw [List.flatMap_cons, List.length_append, ih, List.length_cons]; simp [tri]; omega
theorem tri_get (zs : List Op3) : ∀ i (h : i < zs.length), (zs.flatMap tri)[i * 3]? = some (.int .i64 zs[i].1) ∧ (zs.flatMap tri)[i * 3 + 1]? = some (.int .i64 zs[i].2.1) ∧ (zs.flatMap tri)[i * 3 + 2]? = some (.int .i64 zs[i].2.2) := by
  induction zs with
  | nil => intro i h; simp at h
  | cons z zs ih =>
    intro i h
    cases i with
    | zero => exact ⟨rfl, rfl, rfl⟩
    | succ i =>
      obtain ⟨h0, h1, h2⟩ := ih i (by simpa using h)
      have e : (z :: zs).flatMap tri = [.int .i64 z.1, .int .i64 z.2.1, .int .i64 z.2.2] ++ zs.flatMap tri := rfl
      rw [e]
      refine ⟨?_, ?_, ?_⟩
      · rw [List.getElem?_append_right (by simp; omega), show (i + 1) * 3 - _ = i * 3 by simp; omega]; exact h0
      · rw [List.getElem?_append_right (by simp; omega), show (i + 1) * 3 + 1 - _ = i * 3 + 1 by simp; omega]; exact h1
      · rw [List.getElem?_append_right (by simp; omega), show (i + 1) * 3 + 2 - _ = i * 3 + 2 by simp; omega]; exact h2
namespace Row3
variable {w w' : World} {v : Value} {zs : List Op3}
theorem keeps (h : Row3 w v zs) {F : List Nat} (hk : Keeps F w w') (hd : ∀ b, b ∈ fp v → b ∉ F) : Row3 w' v zs := by
  refine ⟨h.1, ?_⟩
  rcases h.2 with hn | ⟨g, cap, cur, rfl, hb, hg, rest⟩
  · exact .inl hn
  · refine .inr ⟨g, cap, cur, rfl, hb, ?_, rest⟩
    rw [hk.block g (Array.getElem?_eq_some_iff.1 hg).1 (hd g (by simp [fp, Value.ownBlock]))]
    exact hg
theorem lt (h : Row3 w v zs) : ∀ b, b ∈ fp v → b < w.heap.size := fun b hb => (World.ownsRow.lt h b (mem_fp.1 hb)).2
theorem slice (h : Row3 w v zs) : ∃ a cap, v = .slice a zs.length cap := by
  rcases h.2 with ⟨rfl, h0⟩ | ⟨g, cap, cur, rfl, _⟩
  · exact ⟨none, 0, by rw [h0]⟩
  · exact ⟨_, cap, rfl⟩
theorem form (h : Row3 w v zs) (hn : 0 < zs.length) : ∃ g cap, v = .slice (some ⟨g, 0, none⟩) zs.length cap := by
  rcases h.2 with ⟨_, h0⟩ | ⟨g, cap, cur, rfl, _⟩
  · omega
  · exact ⟨g, cap, rfl⟩
theorem cells {g cap n : Nat} (h : Row3 w (.slice (some ⟨g, 0, none⟩) n cap) zs) (i : Nat) (hi : i < zs.length) :
    w.cell? ⟨g, i * 3, none⟩ = some (.int .i64 zs[i].1) ∧ w.cell? ⟨g, i * 3 + 1, none⟩ = some (.int .i64 zs[i].2.1) ∧ w.cell? ⟨g, i * 3 + 2, none⟩ = some (.int .i64 zs[i].2.2) := by
  obtain ⟨a', c', e⟩ := h.slice
  simp only [Value.slice.injEq] at e
  obtain ⟨-, rfl, -⟩ := e
  obtain ⟨h0, h1, h2⟩ := tri_get zs i hi
  exact ⟨by rw [World.ownsRow.cellAt h _ (by omega)]; exact h0, by rw [World.ownsRow.cellAt h _ (by omega)]; exact h1, by rw [World.ownsRow.cellAt h _ (by omega)]; exact h2⟩
end Row3

/-- A block of three numbers. -/
structure Trio (w : World) (g : Nat) (kd n k : Int) : Prop where
  hp : w.heap[g]? = some (.cells #[.int .i64 kd, .int .i64 n, .int .i64 k] 41 (0, 0))
namespace Trio
variable {w w' : World} {g : Nat} {kd n k : Int}
theorem keeps {F : List Nat} (h : Trio w g kd n k) (hk : Keeps F w w') (hg : g ∉ F) : Trio w' g kd n k := ⟨(hk.block g (Array.getElem?_eq_some_iff.1 h.hp).1 hg).trans h.hp⟩
theorem c0 (h : Trio w g kd n k) : w.cell? ⟨g, 0, none⟩ = some (.int .i64 kd) := by unfold World.cell?; rw [h.hp]; rfl
theorem c1 (h : Trio w g kd n k) : w.cell? ⟨g, 1, none⟩ = some (.int .i64 n) := by unfold World.cell?; rw [h.hp]; rfl
theorem c2 (h : Trio w g kd n k) : w.cell? ⟨g, 2, none⟩ = some (.int .i64 k) := by unfold World.cell?; rw [h.hp]; rfl
theorem frozen (h : Trio w g kd n k) (j : Nat) : w.frozen? ⟨g, j, none⟩ = false := frozen_of_row w g j _ 41 h.hp
theorem set1 (h : Trio w g kd n k) (n' : Int) : Trio (w.setCell ⟨g, 1, none⟩ (.int .i64 n')) g kd n' k := ⟨b_blk_set h.hp 1 _⟩
theorem lt (h : Trio w g kd n k) : g < w.heap.size := (Array.getElem?_eq_some_iff.1 h.hp).1
end Trio

/-- The Writer at p with the bits l, and the calls done: both made since w0, apart from each other. -/
structure WB (w0 w : World) (p : Nat) (sv v : Value) (l : List Bool) (ds : List Op3) : Prop where
  keeps : Keeps [] w0 w
  isw : IsW w p sv l
  hp : w0.heap.size ≤ p
  hs : ∀ b, b ∈ fp sv → w0.heap.size ≤ b
  row : Row3 w v ds
  hv : ∀ b, b ∈ fp v → w0.heap.size ≤ b
  far : ∀ b, b ∈ fp v → b ≠ p ∧ b ∉ fp sv
theorem WB.new {w0 w w' : World} {p : Nat} {sv v : Value} {l : List Bool} {ds : List Op3} (h : WB w0 w p sv v l ds) (hk : Keeps [] w w') : WB w0 w' p sv v l ds :=
  ⟨h.keeps.new hk, h.isw.new hk, h.hp, h.hs, h.row.keeps hk (fun _ _ => by simp), h.hv, h.far⟩
theorem WB.wrote {w0 w w' : World} {p : Nat} {sv v : Value} {l l' : List Bool} {ds : List Op3} (h : WB w0 w p sv v l ds) (hw : Wrote w w' p sv l') : ∃ sv', WB w0 w' p sv' v l' ds ∧ Keeps (p :: fp sv) w w' := by
  obtain ⟨sv', h1, h2, h3⟩ := hw
  refine ⟨sv', ⟨h.keeps.then_ h2 (fun b hb hlt => ?_), h1, h.hp, fun b hb => ?_, h.row.keeps h2 (fun b hb hm => ?_), h.hv, fun b hb => ⟨(h.far b hb).1, fun hm => ?_⟩⟩, h2⟩
  · rcases List.mem_cons.1 hb with rfl | hb
    · have := h.hp; omega
    · have := h.hs b hb; omega
  · rcases h3 b hb with h4 | h4
    · exact h.hs b h4
    · exact Nat.le_trans h.keeps.size h4
  · rcases List.mem_cons.1 hm with rfl | hm
    · exact (h.far b hb).1 rfl
    · exact (h.far b hb).2 hm
  · rcases h3 b hm with h4 | h4
    · exact (h.far b hb).2 h4
    · have := h.row.lt b hb; omega
/-- A block made after the Writer and the calls is none of theirs. -/
theorem WB.apart {w0 w : World} {p : Nat} {sv v : Value} {l : List Bool} {ds : List Op3} (h : WB w0 w p sv v l ds) {g : Nat} (hg : w.heap.size ≤ g) : g ∉ p :: fp sv := by
  intro hm
  rcases List.mem_cons.1 hm with rfl | hm
  · have := h.isw.duo.lt; omega
  · have := h.isw.row.lt g hm; omega

/-- append(v, o), o a struct of three numbers. -/
theorem wp_app3 {P : Program} {ops : Array Oper} {rest : List Oper} {o : Oper} {a : Act} {Q : Exit → Act → World → Prop} {W : World} (hgd : o.guard = none) (s x : Operand) (t : TypeId)
    (ho : o.op = .call { callee := .builtin .append, args := #[s, x], argTypes := #[t, t] })
    (ht : P.underlying t = some (.slice 41)) (hinfo : (P.info? 41).map (fun i => (i.zero, i.size, i.bytes)) = some (some (.agg #[.int .i64 0, .int .i64 0, .int .i64 0]), 3, 24))
    (v : Value) (zs : List Op3) (y : Op3) (hs : a.eval s = v) (hx : a.eval x = .slice (some ⟨W.heap.size, 0, none⟩) 1 1) (HR : Row3 W v zs) (hl : zs.length ≤ 1000000)
    (h : ∀ v1 w1, Row3 w1 v1 (zs ++ [y]) → Keeps (fp v) W w1 → (∀ b, b ∈ fp v1 → b ∈ fp v ∨ W.heap.size ≤ b) → wpList P ops Q rest (a.put o.dst v1) w1) :
    wpList P ops Q (o :: rest) a (W.alloc (.cells #[.int .i64 y.1, .int .i64 y.2.1, .int .i64 y.2.2] 41)) := by
  obtain ⟨i0, hi, hzz⟩ := Option.map_eq_some_iff.1 hinfo
  simp only [Prod.mk.injEq] at hzz
  obtain ⟨hz0, hz1, hz2⟩ := hzz
  have hk : Keeps [] W (W.alloc (.cells #[.int .i64 y.1, .int .i64 y.2.1, .int .i64 y.2.2] 41)) := (Keeps.refl _ _).alloc _
  have hT : Trio (W.alloc (.cells #[.int .i64 y.1, .int .i64 y.2.1, .int .i64 y.2.2] 41)) W.heap.size y.1 y.2.1 y.2.2 := ⟨heap_alloc_new _ _⟩
  refine wpList_append_own_at _ hgd s x t ho 0 41 i0 _ 3 24 ht hi hz0 hz1 hz2 rfl (by omega) v zs.length (zs.flatMap tri) hs (HR.keeps hk (fun _ _ => by simp)) ⟨W.heap.size, 0, none⟩ 1 1 (tri y) hx rfl
    (fun j u hj => ?_) (fun u hu => ?_) (by simp only [maxLen]; omega) (by omega) (Nat.zero_le _) ?_
  · match j, hj with
    | 0, hj => cases hj; exact hT.c0
    | 1, hj => cases hj; exact hT.c1
    | 2, hj => cases hj; exact hT.c2
  · simp only [tri, List.mem_cons, List.not_mem_nil, or_false] at hu
    rcases hu with rfl | rfl | rfl <;> rfl
  · intro v1 w1 hown hg _ hat
    refine h v1 w1 ?_ (((Keeps.refl _ _).alloc _).grown hg (fun k hk => .inl (mem_fp.2 hk))) (fun b hb => ?_)
    · unfold Row3
      rw [List.length_append, List.flatMap_append]
      simpa using hown
    · rcases fp_grown hat b hb with h4 | h4
      · exact .inl h4
      · rw [World.size_alloc] at h4; exact .inr (by omega)
theorem WB.appended {w0 w w' : World} {p : Nat} {sv v v1 : Value} {l : List Bool} {ds ds1 : List Op3} (h : WB w0 w p sv v l ds) (hr : Row3 w' v1 ds1) (hk : Keeps (fp v) w w') (hf : ∀ b, b ∈ fp v1 → b ∈ fp v ∨ w.heap.size ≤ b) : WB w0 w' p sv v1 l ds1 := by
  refine ⟨h.keeps.then_ hk (fun b hb hlt => ?_), h.isw.keeps hk (fun hm => (h.far p hm).1 rfl) (fun b hb hm => (h.far b hm).2 hb), h.hp, h.hs, hr, fun b hb => ?_, fun b hb => ?_⟩
  · have := h.hv b hb; omega
  · rcases hf b hb with h4 | h4
    · exact h.hv b h4
    · exact Nat.le_trans h.keeps.size h4
  · rcases hf b hb with h4 | h4
    · exact h.far b h4
    · refine ⟨?_, fun hm => ?_⟩
      · have := h.isw.duo.lt; omega
      · have := h.isw.row.lt b hm; omega
end Go.Proofs.Ytlnpajnejapckaa
