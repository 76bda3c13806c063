/-
  Layer 6 (rice): best, what it computes.
-/
import Derived.Test.YtepbngdoeolepaaRice1
import Derived.Test.YtepbngdoeolepaaBits7
set_option linter.unusedVariables false
set_option linter.unusedSimpArgs false
namespace Go.Proofs.Ytepbngdoeolepaa
open Go.RowKit

theorem info_i64 : (Try.prog.info? 3).map (fun i => (i.zero, i.size, i.bytes)) = some (some (.int .i64 0), 1, 8) := by kernel_rfl

/-! ### What best computes -/
def sumK (k : Nat) (F : List Int) : Int := (F.map (fun f => f / 2 ^ k)).sum
def farB (k : Nat) (F : List Int) : Bool := F.any (fun f => decide (65536 < f / 2 ^ k))
def szK (k : Nat) (F : List Int) : Int := ((k : Int) + 1) * F.length + sumK k F
abbrev BS := (Int × Int × Int) × Bool
def stepK (F : List Int) (st : BS) (k : Nat) : BS := if farB k F = false ∧ (st.2 = false ∨ szK k F < st.1.2.2) then (((k : Int), 0, szK k F), true) else st
def loopK (F : List Int) (n : Nat) : BS := (List.range n).foldl (stepK F) ((0, 0, 0), false)
theorem loopK_zero (F : List Int) : loopK F 0 = ((0, 0, 0), false) := rfl
theorem loopK_succ (F : List Int) (n : Nat) : loopK F (n + 1) = stepK F (loopK F n) n := by simp [loopK, List.range_succ, List.foldl_append]
def wdS (w n : Int) : Int := if n = 0 then w else max w (bitsS n)
def widthS (L : List Int) : Int := L.foldl wdS 0
theorem widthS_snoc (L : List Int) (n : Int) : widthS (L ++ [n]) = wdS (widthS L) n := by simp [widthS, List.foldl_append]
def bestS (L : List Int) (m : Nat) : BS :=
  if widthS L ≤ 31 ∧ ((loopK (L.map foldS) (escS m)).2 = false ∨ 5 + widthS L * L.length < (loopK (L.map foldS) (escS m)).1.2.2) then (((escS m : Int), widthS L, 5 + widthS L * L.length), true) else loopK (L.map foldS) (escS m)

theorem sumK_snoc (k : Nat) (F : List Int) (x : Int) : sumK k (F ++ [x]) = sumK k F + x / 2 ^ k := by simp [sumK]
theorem farB_snoc (k : Nat) (F : List Int) (x : Int) : farB k (F ++ [x]) = (farB k F || decide (65536 < x / 2 ^ k)) := by simp [farB]
theorem div_pow_range (f : Int) (k : Nat) (h0 : 0 ≤ f) (h1 : f ≤ 4294967296) : 0 ≤ f / 2 ^ k ∧ f / 2 ^ k ≤ 4294967296 := by
  have hp : (0 : Int) < 2 ^ k := Int.pow_pos (by omega)
  refine ⟨Int.ediv_nonneg h0 (by omega), ?_⟩
  have : f / 2 ^ k ≤ f := Int.ediv_le_self _ h0
  omega
theorem sumK_range (k : Nat) (F : List Int) (h : ∀ f ∈ F, 0 ≤ f ∧ f ≤ 4294967296) : 0 ≤ sumK k F ∧ sumK k F ≤ 4294967296 * F.length := by
  induction F with
  | nil => simp [sumK]
  | cons x F ih =>
    obtain ⟨a, b⟩ := ih (fun f hf => h f (List.mem_cons_of_mem _ hf))
    obtain ⟨c, d⟩ := h x (List.mem_cons_self)
    obtain ⟨e, g⟩ := div_pow_range x k c d
    have hs : sumK k (x :: F) = x / 2 ^ k + sumK k F := by simp [sumK]
    rw [hs, List.length_cons]
    omega
theorem szK_range (k : Nat) (F : List Int) (hk : k ≤ 40) (hl : F.length ≤ 1000) (h : ∀ f ∈ F, 0 ≤ f ∧ f ≤ 4294967296) : 0 ≤ szK k F ∧ szK k F ≤ 10000000000000 := by
  obtain ⟨a, b⟩ := sumK_range k F h
  have h1 : ((k : Int) + 1) * F.length = ((k + 1) * F.length : Nat) := by simp
  have h2 : (k + 1) * F.length ≤ 41 * 1000 := Nat.mul_le_mul (by omega) hl
  unfold szK
  omega
theorem foldS_range (n : Int) (h : -2147483648 < n ∧ n < 2147483648) : 0 ≤ foldS n ∧ foldS n ≤ 4294967296 := by unfold foldS; split <;> omega
theorem folds_range (L : List Int) (h : ∀ n ∈ L, -2147483648 < n ∧ n < 2147483648) : ∀ f ∈ L.map foldS, 0 ≤ f ∧ f ≤ 4294967296 := by
  intro f hf
  obtain ⟨n, hn, rfl⟩ := List.mem_map.1 hf
  exact foldS_range n (h n hn)
theorem bitsS_range (n : Int) : 1 ≤ bitsS n ∧ bitsS n ≤ 65 := by
  have := bitLen_le (magS n).toNat
  unfold bitsS
  omega
theorem wdS_range (w n : Int) (h : 0 ≤ w ∧ w ≤ 65) : 0 ≤ wdS w n ∧ wdS w n ≤ 65 := by
  have := bitsS_range n
  unfold wdS
  split <;> omega
theorem widthS_range (L : List Int) : 0 ≤ widthS L ∧ widthS L ≤ 65 := by
  have : ∀ (L : List Int) (w : Int), 0 ≤ w ∧ w ≤ 65 → 0 ≤ L.foldl wdS w ∧ L.foldl wdS w ≤ 65 := by
    intro L
    induction L with
    | nil => intro w h; exact h
    | cons x L ih => intro w h; exact ih _ (wdS_range w x h)
  exact this L 0 (by omega)
theorem loopK_range (F : List Int) (n : Nat) (hn : n ≤ 40) (hl : F.length ≤ 1000) (h : ∀ f ∈ F, 0 ≤ f ∧ f ≤ 4294967296) : 0 ≤ (loopK F n).1.2.2 ∧ (loopK F n).1.2.2 ≤ 10000000000000 := by
  induction n with
  | zero => simp [loopK]
  | succ n ih =>
    rw [loopK_succ]
    unfold stepK
    split
    · exact szK_range n F (by omega) hl h
    · exact ih (by omega)

theorem results_cell2 {P : Program} {fn : Func} {p u : Tmp} {ty : TypeId} (h : fn.results = #[.cell p ty, .tmp u]) (tmps : Array Value) (w : World) (g : Nat) (t : TypeId) (cs : Array Value) (fr : Nat × Nat) (d : TypeDesc)
    (hp : tmps.getD p undef = .pointer (some ⟨g, 0, none⟩)) (hg : w.heap[g]? = some (.cells cs t fr))
    (hu : P.underlying ty = some d) (hd : (match d with | .struct _ | .array _ _ => true | _ => false) = true) (hi : (P.info? ty).map (·.size) = some cs.size) :
    (results fn tmps).run P w = .ok (.tuple #[.agg cs, tmps.getD u undef]) w := by
  rw [results_cell_tmp h, hp]
  simp [asAddr, run_loadVar_row w g t ty cs fr d hg hu hd hi, Result.andThen]

/-- A block of three numbers. -/
structure Tri3 (w : World) (g : Nat) (T : TypeId) (a b c : Int) : Prop where
  hp : w.heap[g]? = some (.cells #[.int .i64 a, .int .i64 b, .int .i64 c] T (0, 0))
namespace Tri3
variable {w w' : World} {g : Nat} {T : TypeId} {a b c : Int}
theorem keeps {F : List Nat} (h : Tri3 w g T a b c) (hk : Keeps F w w') (hg : g ∉ F) : Tri3 w' g T a b c := ⟨(hk.block g (Array.getElem?_eq_some_iff.1 h.hp).1 hg).trans h.hp⟩
theorem c0 (h : Tri3 w g T a b c) : w.cell? ⟨g, 0, none⟩ = some (.int .i64 a) := by unfold World.cell?; rw [h.hp]; rfl
theorem c1 (h : Tri3 w g T a b c) : w.cell? ⟨g, 1, none⟩ = some (.int .i64 b) := by unfold World.cell?; rw [h.hp]; rfl
theorem c2 (h : Tri3 w g T a b c) : w.cell? ⟨g, 2, none⟩ = some (.int .i64 c) := by unfold World.cell?; rw [h.hp]; rfl
theorem frozen (h : Tri3 w g T a b c) (j : Nat) : w.frozen? ⟨g, j, none⟩ = false := frozen_of_row w g j _ T h.hp
theorem lt (h : Tri3 w g T a b c) : g < w.heap.size := (Array.getElem?_eq_some_iff.1 h.hp).1
theorem set (h : Tri3 w g T a b c) (a' b' c' : Int) : Tri3 (((w.setCell ⟨g, 0, none⟩ (.int .i64 a')).setCell ⟨g, 1, none⟩ (.int .i64 b')).setCell ⟨g, 2, none⟩ (.int .i64 c')) g T a' b' c' :=
  ⟨b_blk_set (b_blk_set (b_blk_set h.hp 0 _) 1 _) 2 _⟩
end Tri3
end Go.Proofs.Ytepbngdoeolepaa
