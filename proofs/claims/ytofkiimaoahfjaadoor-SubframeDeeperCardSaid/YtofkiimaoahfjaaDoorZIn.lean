/-
  What comes in, opened: slices of whole numbers, structs of a slice and a number, slices of structs of three numbers; and how large they may be.
-/
import Derived.Test.YtofkiimaoahfjaaDoorZMem
import Derived.WalkKit
import Derived.ProofKit
import Derived.OpenShut
import Derived.ShutString
import Derived.ChangeOld
import Derived.Below
import Derived.SizedLaws
import Derived.Lib.SmallJoins
set_option maxRecDepth 100000
set_option linter.unusedVariables false
set_option linter.unusedSimpArgs false
namespace Go.Proofs.YtofkiimaoahfjaaDoor
open Go.ChangeShapes Go.WideShapes Go.ChangeAt Go.RowKit Go.Joins Go.WideElems Go.Deep

section
variable {H : Type} {enc : TypeId × Value → H} {P : Program} {W : World}

/-- The weights of the reading stay within the form's reach. -/
def Light (P : Program) (t : TypeId) (d : DataW H) : Prop := ∀ n ∈ d.weights P t, n ≤ reachBytes

theorem light_of {ts : List TypeId} {ds : List (DataW H)} (h : (DataW.weightsEach P ts ds).all (· ≤ reachBytes) = true) {j : Nat} {t : TypeId} {d : DataW H} (ht : ts[j]? = some t) (hd : ds[j]? = some d) : Light P t d := by
  intro n hn
  have := List.all_eq_true.1 h n (DataW.weights_mem_each ht hd n hn)
  simpa using this

theorem in_cells {t e : TypeId} {k : IntKind} {fuel : Nat} {v : Value} {y : DataW H × List MemPlace} (ht : P.underlying t = some (.slice e)) (he : P.underlying e = some (.int k)) (hc : P.cellsOf e = 1)
    (hf : DataW.trod enc P W 0 (fun _ => true) true fuel t [v] = some y) (hl : Light P t y.1) :
    ∃ a len cap zs, v = .slice a len cap ∧ InRow k W a len cap zs ∧ cap * P.bytesOf e ≤ reachBytes := by
  rcases open_ints ht he hc hf with ⟨hcs, _⟩ | ⟨x, l, c, zs, hcs, _, hlc, hm, hz, hy, hcell, hwz⟩
  · simp only [List.cons.injEq, and_true] at hcs
    subst hcs
    exact ⟨none, 0, 0, [], rfl, .inl ⟨rfl, rfl, rfl, rfl⟩, by simp⟩
  · simp only [List.cons.injEq, and_true] at hcs
    subst hcs
    have hz' : zs.length = c := by simpa using hz
    refine ⟨some x, l, c, zs, rfl, .inr ⟨x, rfl, hlc, hm, hz', hcell, hwz⟩, ?_⟩
    subst hy
    have := hl (((lits (H := H) k (zs.take l)).length + (lits (H := H) k (zs.drop l)).length) * P.bytesOf e) (by simp [DataW.weights, ht])
    have e1 : (lits (H := H) k (zs.take l)).length + (lits (H := H) k (zs.drop l)).length = c := by
      simp [lits]; omega
    rw [e1] at this
    exact this

/-- A slice of whole numbers. -/
theorem in_slice {r : Reach} {b0 : Nat} {t e : TypeId} {k : IntKind} {v : Value} {d : DataW H} {p : List MemPlace} (ht : P.underlying t = some (.slice e)) (he : P.underlying e = some (.int k)) (hc : P.cellsOf e = 1)
    (hv : Value.okWide P W r b0 t v) (h : DataW.Trod enc P W 0 (fun _ => true) true t v d p) (hl : Light P t d) :
    ∃ a len cap zs, v = .slice a len cap ∧ InRow k W a len cap zs ∧ cap * P.bytesOf e ≤ reachBytes := by
  obtain ⟨a, len, cap, rfl⟩ := okWide_slice ht hv
  obtain ⟨fuel, hf⟩ := h
  exact in_cells ht he hc (v := .slice a len cap) (y := (d, p)) (by simpa [Value.cells] using hf) hl

/-- A struct of a slice of whole numbers and a number. -/
theorem in_model {r : Reach} {b0 : Nat} {t ts e : TypeId} {k : IntKind} {f0 f1 : Field} {v : Value} {d : DataW H} {p : List MemPlace} (hs : P.underlying t = some (.struct #[f0, f1])) (hone : oneCellFields P #[f0, f1] = true) (hC : P.cellsOf t = 2)
    (h0 : f0.type = ts) (ht : P.underlying ts = some (.slice e)) (he : P.underlying e = some (.int k)) (hc : P.cellsOf e = 1) {ti : TypeId} {ki : IntKind} (h1 : f1.type = ti) (hi : P.underlying ti = some (.int ki))
    (hv : Value.okWide P W r b0 t v) (h : DataW.Trod enc P W 0 (fun _ => true) true t v d p) (hl : Light P t d) :
    ∃ a len cap zs n, v = .agg #[.slice a len cap, .int ki n] ∧ InRow k W a len cap zs ∧ cap * P.bytesOf e ≤ reachBytes ∧ (Lit.int ki n).wf = true := by
  obtain ⟨v0, v1, y0, y1, n, rfl, rfl, rfl, g0, g1⟩ := open_agg2 hs hone hC hv h
  subst h0 h1
  obtain ⟨a, len, cap, zs, rfl, hr, hb⟩ := in_cells ht he hc g0 (fun m hm => hl m (by simp [DataW.weights, hs, DataW.weightsEach, hm]))
  obtain ⟨m, hm, _, hw⟩ := DataW.trod_int hi g1
  simp only [List.cons.injEq, and_true] at hm
  subst hm
  exact ⟨a, len, cap, zs, m, rfl, hr, hb, hw⟩

theorem reach_le : reachBytes = 140737488351232 := by decide
end

end Go.Proofs.YtofkiimaoahfjaaDoor
