/-
  What comes in, opened: a slice of structs of three numbers.
-/
import Derived.Test.YtofkiimaoahfjaaDoorZIn
import Derived.Deep.Slices
import Derived.Deep.Fields
import Derived.Deep.Strs
import Derived.ChangeSame
set_option maxRecDepth 100000
set_option linter.unusedVariables false
set_option linter.unusedSimpArgs false
namespace Go.Proofs.YtofkiimaoahfjaaDoor
open Go.ChangeShapes Go.WideShapes Go.ChangeAt Go.RowKit Go.Joins Go.Deep

/-- A slice of cap structs of three int64, from a on. -/
def InOps (w : World) (a : Option Addr) (len cap : Nat) (z : List (Int × Int × Int)) : Prop :=
  (a = none ∧ len = 0 ∧ cap = 0 ∧ z = []) ∨ ∃ x, a = some x ∧ len ≤ cap ∧ cap ≤ maxLen ∧ z.length = cap ∧
    ∀ (i : Nat) (o : Int × Int × Int), z[i]? = some o → w.cell? (x.add (i * 3)) = some (.int .i64 o.1) ∧ w.cell? (x.add (i * 3 + 1)) = some (.int .i64 o.2.1) ∧ w.cell? (x.add (i * 3 + 2)) = some (.int .i64 o.2.2) ∧
      (Lit.int .i64 o.1).wf = true ∧ (Lit.int .i64 o.2.1).wf = true ∧ (Lit.int .i64 o.2.2).wf = true

section
variable {H : Type} {enc : TypeId × Value → H} {P : Program} {W : World}
theorem in_ops {r : Reach} {b0 : Nat} {t e : TypeId} {f0 f1 f2 : Field} {v : Value} {d : DataW H} {p : List MemPlace} (ht : P.underlying t = some (.slice e)) (he : P.underlying e = some (.struct #[f0, f1, f2]))
    (hone : oneCellFields P #[f0, f1, f2] = true) (hC : P.cellsOf e = 3) (h0 : P.underlying f0.type = some (.int .i64)) (h1 : P.underlying f1.type = some (.int .i64)) (h2 : P.underlying f2.type = some (.int .i64))
    (hv : Value.okWide P W r b0 t v) (h : DataW.Trod enc P W 0 (fun _ => true) true t v d p) (hl : Light P t d) :
    ∃ a len cap zs, v = .slice a len cap ∧ InOps W a len cap zs ∧ cap * P.bytesOf e ≤ reachBytes := by
  obtain ⟨a, len, cap, rfl⟩ := okWide_slice ht hv
  obtain ⟨fuel, hf⟩ := h
  rcases open_slice ht (cs := [.slice a len cap]) (by simpa [Value.cells] using hf) with ⟨hcs, hx⟩ | ⟨x, l, c, m, n, D, Pl, hcs, hb, hlc, hmx, hm, hx, hi⟩
  · simp only [List.cons.injEq, and_true] at hcs
    cases hcs
    exact ⟨none, 0, 0, [], rfl, .inl ⟨rfl, rfl, rfl, rfl⟩, by simp⟩
  · simp only [List.cons.injEq, and_true] at hcs
    cases hcs
    simp only [if_true] at hm
    subst hm
    have key : ∀ i : Nat, ∃ o : Int × Int × Int, i < m → W.cell? (x.add (i * 3)) = some (.int .i64 o.1) ∧ W.cell? (x.add (i * 3 + 1)) = some (.int .i64 o.2.1) ∧ W.cell? (x.add (i * 3 + 2)) = some (.int .i64 o.2.2) ∧
        (Lit.int .i64 o.1).wf = true ∧ (Lit.int .i64 o.2.1).wf = true ∧ (Lit.int .i64 o.2.2).wf = true := by
      intro i
      by_cases hic : i < m
      · obtain ⟨cs', hc, htr⟩ := hi i hic
        rw [hC] at hc
        obtain ⟨y0, y1, y2, n', -, hln, g0, g1, g2⟩ := trod_struct3 he htr
        rw [hC] at hln
        obtain ⟨_, _, hat⟩ := World.cells?_some hc
        obtain ⟨o0, k0⟩ := hone_of hone 0 f0 rfl
        obtain ⟨o1, k1⟩ := hone_of hone 1 f1 rfl
        obtain ⟨o2, k2⟩ := hone_of hone 2 f2 rfl
        match cs', hln with
        | [c0, c1, c2], _ =>
          rw [o0, k0] at g0
          rw [o1, k1] at g1
          rw [o2, k2] at g2
          obtain ⟨n0, e0, -, w0⟩ := DataW.trod_int h0 g0
          obtain ⟨n1, e1, -, w1⟩ := DataW.trod_int h1 g1
          obtain ⟨n2, e2, -, w2⟩ := DataW.trod_int h2 g2
          simp only [List.drop, List.take, List.cons.injEq, and_true] at e0 e1 e2
          subst e0 e1 e2
          have q0 := hat 0 (by omega)
          have q1 := hat 1 (by omega)
          have q2 := hat 2 (by omega)
          refine ⟨(n0, n1, n2), fun _ => ⟨?_, ?_, ?_, w0, w1, w2⟩⟩
          · show W.cell? (x.add (i * 3 + 0)) = _
            rw [← Go.Deep.add_add]
            exact q0
          · rw [← Go.Deep.add_add]
            exact q1
          · rw [← Go.Deep.add_add]
            exact q2
      · exact ⟨(0, 0, 0), fun hh => (hic hh).elim⟩
    let g : Nat → Int × Int × Int := fun i => Classical.choose (key i)
    have hg : ∀ i, i < m → _ := fun i hic => Classical.choose_spec (key i) hic
    refine ⟨some x, len, m, (List.range m).map g, rfl, .inr ⟨x, rfl, hlc, hmx, by simp, ?_⟩, ?_⟩
    · intro i o ho
      rw [List.getElem?_map] at ho
      by_cases hic : i < m
      · rw [List.getElem?_range hic] at ho
        simp only [Option.map_some, Option.some.injEq] at ho
        subst ho
        exact hg i hic
      · rw [List.getElem?_eq_none (by simpa using hic)] at ho
        cases ho
    · simp only [Prod.mk.injEq] at hx
      obtain ⟨hx1, hx2⟩ := hx
      subst hx1
      have := hl ((len + (m - len)) * P.bytesOf e) (by simp [DataW.weights, ht])
      rw [show len + (m - len) = m by omega] at this
      exact this
end
end Go.Proofs.YtofkiimaoahfjaaDoor
