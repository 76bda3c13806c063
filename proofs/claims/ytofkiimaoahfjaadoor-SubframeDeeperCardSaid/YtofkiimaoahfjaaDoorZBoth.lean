/-
  What layers 6 and 7 both need: a cell of a list, the bounds of samples, all of a list, result rows.
-/
import Derived.Test.YtofkiimaoahfjaaDoorZMem
import Derived.Test.YtofkiimaoahfjaaDoorProg
import Derived.BigQuiet
import Derived.Lib.Hide
set_option maxRecDepth 100000
set_option linter.unusedVariables false
set_option linter.unusedSimpArgs false
namespace Go.Proofs.YtofkiimaoahfjaaDoor
open Go.RowKit

theorem Rd.cellAt {w : World} {k : IntKind} {a : Option Addr} {xs : List Int} (h : Rd w k a xs) (i : Nat) (hi : i < xs.length) : ∃ b o, a = some ⟨b, o, none⟩ ∧ w.cell? ⟨b, o + i, none⟩ = some (.int k xs[i]) := h.at_ i hi
/-- Within the bounds of samples. -/
def inB (x : Int) : Bool := decide (-2147483648 < x ∧ x < 2147483648)
theorem inB_iff (x : Int) : inB x = true ↔ -2147483648 < x ∧ x < 2147483648 := by simp [inB]
theorem inB_not (x : Int) : inB x = false ↔ ¬ (-2147483648 < x ∧ x < 2147483648) := by simp [inB]
theorem all_step (p : Int → Bool) (xs : List Int) (i : Nat) (h : i < xs.length) (x : Int) (hx : xs[i] = x) (hp : (xs.drop i).all p = xs.all p) : p x = true → (xs.drop (i + 1)).all p = xs.all p := by
  intro h1
  rw [← hp, List.drop_eq_getElem_cons h, List.all_cons, hx, h1, Bool.true_and]
theorem all_no (p : Int → Bool) (xs : List Int) (i : Nat) (h : i < xs.length) (x : Int) (hx : xs[i] = x) (hp : (xs.drop i).all p = xs.all p) : p x = false → xs.all p = false := by
  intro h1
  rw [← hp, List.drop_eq_getElem_cons h, List.all_cons, hx, h1, Bool.false_and]
theorem all_end (p : Int → Bool) (xs : List Int) (hp : (xs.drop xs.length).all p = xs.all p) : xs.all p = true := by
  rw [← hp]; simp
/-- Where the first is that fails the test; or -1. -/
def idxOf (p : Int → Bool) (xs : List Int) : Int := if xs.all p then -1 else (xs.findIdx (fun x => !p x) : Nat)
theorem idx_all (p : Int → Bool) (xs : List Int) (h : xs.all p = true) : idxOf p xs = -1 := by unfold idxOf; rw [h]; rfl
theorem idx_no (p : Int → Bool) (xs : List Int) (h : xs.all p = false) : 0 ≤ idxOf p xs := by unfold idxOf; rw [h]; simp
theorem idx_at (p : Int → Bool) (xs : List Int) (i : Nat) (h : i < xs.length) (hp : p xs[i] = false) (hf : ∀ j (h : j < xs.length), j < i → p xs[j] = true) : idxOf p xs = i := by
  have e : xs.findIdx (fun x => !p x) = i := by
    rw [List.findIdx_eq h]
    refine ⟨by rw [hp]; rfl, fun j hj => by rw [hf j (by omega) hj]; rfl⟩
  have e2 : xs.all p = false := by
    rw [List.all_eq_false]
    exact ⟨xs[i], List.getElem_mem h, by rw [hp]; simp⟩
  unfold idxOf
  rw [e2, e]; rfl
theorem info_i64 : (Tryd.prog.info? 3).map (fun i => (i.zero, i.size, i.bytes)) = some (some (.int .i64 0), 1, 8) := by kernel_rfl
theorem results_cell2 {P : Program} {fn : Func} {p u : Tmp} {ty : TypeId} (h : fn.results = #[.cell p ty, .tmp u]) (tmps : Array Value) (w : World) (g : Nat) (t : TypeId) (cs : Array Value) (fr : Nat × Nat) (d : TypeDesc)
    (hp : tmps.getD p undef = .pointer (some ⟨g, 0, none⟩)) (hg : w.heap[g]? = some (.cells cs t fr))
    (hu : P.underlying ty = some d) (hd : (match d with | .struct _ | .array _ _ => true | _ => false) = true) (hi : (P.info? ty).map (·.size) = some cs.size) :
    (results fn tmps).run P w = .ok (.tuple #[.agg cs, tmps.getD u undef]) w := by
  rw [results_cell_tmp h, hp]
  simp [asAddr, run_loadVar_row w g t ty cs fr d hg hu hd hi, Result.andThen]
theorem results_cell1 {P : Program} {fn : Func} {p : Tmp} {ty : TypeId} (h : fn.results = #[.cell p ty]) (tmps : Array Value) (w : World) (g : Nat) (t : TypeId) (cs : Array Value) (fr : Nat × Nat) (d : TypeDesc)
    (hp : tmps.getD p undef = .pointer (some ⟨g, 0, none⟩)) (hg : w.heap[g]? = some (.cells cs t fr))
    (hu : P.underlying ty = some d) (hd : (match d with | .struct _ | .array _ _ => true | _ => false) = true) (hi : (P.info? ty).map (·.size) = some cs.size) :
    (results fn tmps).run P w = .ok (.agg cs) w := by
  have : (results fn tmps).run P w = ((asAddr (tmps.getD p undef)).run P w).andThen fun a w₁ => (loadVar ty a).run P w₁ := by
    simp only [results, h]
    simp [Sem.run_bind, Result.andThen]
  rw [this, hp]
  simp [asAddr, run_loadVar_row w g t ty cs fr d hg hu hd hi, Result.andThen]
end Go.Proofs.YtofkiimaoahfjaaDoor
