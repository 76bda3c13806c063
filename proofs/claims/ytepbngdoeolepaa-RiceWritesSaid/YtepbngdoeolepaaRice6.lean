/-
  Layer 6 (rice): what choose computes; rows of structs of three numbers; a plan's block.
-/
import Derived.Test.YtepbngdoeolepaaRice5
set_option linter.unusedVariables false
set_option linter.unusedSimpArgs false
namespace Go.Proofs.Ytepbngdoeolepaa
open Go.RowKit

abbrev T3 := Int × Int × Int
/-! ### What choose computes -/
def candGo (m : Nat) : List (List Int) → List T3 → Int → List T3 × Int × Bool
  | [], acc, s => (acc, s, true)
  | c :: cs, acc, s => if (bestS c m).2 = true then candGo m cs (acc ++ [(bestS c m).1]) (s + ((4 + m : Nat) + (bestS c m).1.2.2)) else (acc, s, false)
abbrev PS := Int × Int × List T3 × Int
def stepM (L : List Int) (order p : Nat) (st : PS) (m : Nat) : PS :=
  if (candGo m (partsS L order p) [] 6).2.2 = true ∧ (st.2.2.2 < 0 ∨ (candGo m (partsS L order p) [] 6).2.1 < st.2.2.2) then ((m : Int), (p : Int), (candGo m (partsS L order p) [] 6).1, (candGo m (partsS L order p) [] 6).2.1) else st
def loopM (L : List Int) (order p : Nat) (st : PS) (n : Nat) : PS := (List.range n).foldl (stepM L order p) st
def stepP (L : List Int) (order : Nat) (st : PS) (p : Nat) : PS := if fitsB (L.length + order) order p = true then loopM L order p st 2 else st
def loopP (L : List Int) (order n : Nat) : PS := (List.range n).foldl (stepP L order) (0, 0, [], -1)
def chooseS (L : List Int) (order : Nat) : PS := loopP L order 5
theorem loopM_zero (L : List Int) (order p : Nat) (st : PS) : loopM L order p st 0 = st := rfl
theorem loopM_succ (L : List Int) (order p : Nat) (st : PS) (n : Nat) : loopM L order p st (n + 1) = stepM L order p (loopM L order p st n) n := by simp [loopM, List.range_succ, List.foldl_append]
theorem loopP_zero (L : List Int) (order : Nat) : loopP L order 0 = (0, 0, [], -1) := rfl
theorem loopP_succ (L : List Int) (order n : Nat) : loopP L order (n + 1) = stepP L order (loopP L order n) n := by simp [loopP, List.range_succ, List.foldl_append]

theorem chunks_mem (size : Nat) : ∀ n R, ∀ ps ∈ chunks size n R, ∀ x ∈ ps, x ∈ R := by
  intro n
  induction n with
  | zero => intro R ps h; cases h
  | succ n ih =>
    intro R ps h x hx
    rcases List.mem_cons.1 h with rfl | h
    · exact List.mem_of_mem_take hx
    · exact List.mem_of_mem_drop (ih _ ps h x hx)
theorem chunks_len (size : Nat) : ∀ n R, ∀ ps ∈ chunks size n R, ps.length ≤ R.length := by
  intro n
  induction n with
  | zero => intro R ps h; cases h
  | succ n ih =>
    intro R ps h
    rcases List.mem_cons.1 h with rfl | h
    · simp; omega
    · have := ih _ ps h
      simp at this
      omega
theorem partsS_mem (L : List Int) (order p : Nat) : ∀ ps ∈ partsS L order p, (∀ x ∈ ps, x ∈ L) ∧ ps.length ≤ L.length := by
  intro ps h
  unfold partsS at h
  rcases List.mem_cons.1 h with rfl | h
  · exact ⟨fun x hx => List.mem_of_mem_take hx, by simp; omega⟩
  · refine ⟨fun x hx => List.mem_of_mem_drop (chunks_mem _ _ _ ps h x hx), ?_⟩
    have := chunks_len _ _ _ ps h
    simp at this
    omega

theorem bestS_range (c : List Int) (m : Nat) (hm : m ≤ 1) (hl : c.length ≤ 600) (hin : ∀ n ∈ c, -2147483648 < n ∧ n < 2147483648) : 0 ≤ (bestS c m).1.2.2 ∧ (bestS c m).1.2.2 ≤ 10000000000000 := by
  have hE31 : escS m ≤ 31 := by rcases (show m = 0 ∨ m = 1 by omega) with rfl | rfl <;> decide
  have h1 := loopK_range (c.map foldS) (escS m) (by omega) (by rw [List.length_map]; omega) (folds_range c hin)
  have h2 := widthS_range c
  unfold bestS
  split
  · have a : 0 ≤ widthS c * (c.length : Int) := Int.mul_nonneg h2.1 (by omega)
    have b : widthS c * (c.length : Int) ≤ 65 * 600 := Int.mul_le_mul h2.2 (by omega) (by omega) (by omega)
    constructor
    · show 0 ≤ 5 + widthS c * (c.length : Int)
      omega
    · show 5 + widthS c * (c.length : Int) ≤ 10000000000000
      omega
  · exact h1

/-! ### Rows of structs of three numbers -/
def tri3 (o : T3) : List Value := [.int .i64 o.1, .int .i64 o.2.1, .int .i64 o.2.2]
def RowT (w : World) (e : TypeId) (v : Value) (zs : List T3) : Prop := w.ownsRow 0 e 3 v zs.length (zs.flatMap tri3)
theorem tri3_length (zs : List T3) : (zs.flatMap tri3).length = zs.length * 3 := by
  induction zs with
  | nil => rfl
  | cons z zs ih => rw [List.flatMap_cons, List.length_append, ih, List.length_cons]; simp [tri3]; omega
theorem tri3_get (zs : List T3) : ∀ i (h : i < zs.length), (zs.flatMap tri3)[i * 3]? = some (.int .i64 zs[i].1) ∧ (zs.flatMap tri3)[i * 3 + 1]? = some (.int .i64 zs[i].2.1) ∧ (zs.flatMap tri3)[i * 3 + 2]? = some (.int .i64 zs[i].2.2) := by
  induction zs with
  | nil => intro i h; simp at h
  | cons z zs ih =>
    intro i h
    cases i with
    | zero => exact ⟨rfl, rfl, rfl⟩
    | succ i =>
      obtain ⟨h0, h1, h2⟩ := ih i (by simpa using h)
      have e : (z :: zs).flatMap tri3 = [.int .i64 z.1, .int .i64 z.2.1, .int .i64 z.2.2] ++ zs.flatMap tri3 := rfl
      rw [e]
      refine ⟨?_, ?_, ?_⟩
      · rw [List.getElem?_append_right (by simp; omega), show (i + 1) * 3 - _ = i * 3 by simp; omega]; exact h0
      · rw [List.getElem?_append_right (by simp; omega), show (i + 1) * 3 + 1 - _ = i * 3 + 1 by simp; omega]; exact h1
      · rw [List.getElem?_append_right (by simp; omega), show (i + 1) * 3 + 2 - _ = i * 3 + 2 by simp; omega]; exact h2
namespace RowT
variable {w w' : World} {e : TypeId} {v : Value} {zs : List T3}
theorem nil (w : World) (e : TypeId) : RowT w e (.slice none 0 0) [] := World.ownsRow_nil w 0 e 3
theorem keeps (h : RowT w e v zs) {F : List Nat} (hk : Keeps F w w') (hd : ∀ b, b ∈ fp v → b ∉ F) : RowT w' e v zs := by
  refine ⟨h.1, ?_⟩
  rcases h.2 with hn | ⟨g, cap, cur, rfl, hb, hg, rest⟩
  · exact .inl hn
  · refine .inr ⟨g, cap, cur, rfl, hb, ?_, rest⟩
    rw [hk.block g (Array.getElem?_eq_some_iff.1 hg).1 (hd g (by simp [fp, Value.ownBlock]))]
    exact hg
theorem new (h : RowT w e v zs) (hk : Keeps [] w w') : RowT w' e v zs := h.keeps hk (fun _ _ => by simp)
theorem lt (h : RowT w e v zs) : ∀ b, b ∈ fp v → b < w.heap.size := fun b hb => (World.ownsRow.lt h b (mem_fp.1 hb)).2
theorem slice (h : RowT w e v zs) : ∃ a cap, v = .slice a zs.length cap := by
  rcases h.2 with ⟨rfl, h0⟩ | ⟨g, cap, cur, rfl, _⟩
  · exact ⟨none, 0, by rw [h0]⟩
  · exact ⟨_, cap, rfl⟩
theorem form (h : RowT w e v zs) (hn : 0 < zs.length) : ∃ g cap, v = .slice (some ⟨g, 0, none⟩) zs.length cap := by
  rcases h.2 with ⟨_, h0⟩ | ⟨g, cap, cur, rfl, _⟩
  · omega
  · exact ⟨g, cap, rfl⟩
theorem cells {g cap n : Nat} (h : RowT w e (.slice (some ⟨g, 0, none⟩) n cap) zs) (i : Nat) (hi : i < zs.length) :
    w.cell? ⟨g, i * 3, none⟩ = some (.int .i64 zs[i].1) ∧ w.cell? ⟨g, i * 3 + 1, none⟩ = some (.int .i64 zs[i].2.1) ∧ w.cell? ⟨g, i * 3 + 2, none⟩ = some (.int .i64 zs[i].2.2) := by
  obtain ⟨a', c', e⟩ := h.slice
  simp only [Value.slice.injEq] at e
  obtain ⟨-, rfl, -⟩ := e
  obtain ⟨h0, h1, h2⟩ := tri3_get zs i hi
  exact ⟨by rw [World.ownsRow.cellAt h _ (by omega)]; exact h0, by rw [World.ownsRow.cellAt h _ (by omega)]; exact h1, by rw [World.ownsRow.cellAt h _ (by omega)]; exact h2⟩
end RowT

/-- append(v, o), o a struct of three numbers. -/
theorem wp_appT {P : Program} {ops : Array Oper} {rest : List Oper} {o : Oper} {a : Act} {Q : Exit → Act → World → Prop} {W : World} (hgd : o.guard = none) (s x : Operand) (t e : TypeId)
    (ho : o.op = .call { callee := .builtin .append, args := #[s, x], argTypes := #[t, t] })
    (ht : P.underlying t = some (.slice e)) (hinfo : (P.info? e).map (fun i => (i.zero, i.size, i.bytes)) = some (some (.agg #[.int .i64 0, .int .i64 0, .int .i64 0]), 3, 24))
    (v : Value) (zs : List T3) (y : T3) (hs : a.eval s = v) (hx : a.eval x = .slice (some ⟨W.heap.size, 0, none⟩) 1 1) (HR : RowT W e v zs) (hl : zs.length ≤ 1000000)
    (h : ∀ v1 w1, RowT w1 e v1 (zs ++ [y]) → Keeps (fp v) W w1 → (∀ b, b ∈ fp v1 → b ∈ fp v ∨ W.heap.size ≤ b) → wpList P ops Q rest (a.put o.dst v1) w1) :
    wpList P ops Q (o :: rest) a (W.alloc (.cells #[.int .i64 y.1, .int .i64 y.2.1, .int .i64 y.2.2] e)) := by
  obtain ⟨i0, hi, hzz⟩ := Option.map_eq_some_iff.1 hinfo
  simp only [Prod.mk.injEq] at hzz
  obtain ⟨hz0, hz1, hz2⟩ := hzz
  have hk : Keeps [] W (W.alloc (.cells #[.int .i64 y.1, .int .i64 y.2.1, .int .i64 y.2.2] e)) := (Keeps.refl _ _).alloc _
  have hT : Tri3 (W.alloc (.cells #[.int .i64 y.1, .int .i64 y.2.1, .int .i64 y.2.2] e)) W.heap.size e y.1 y.2.1 y.2.2 := ⟨heap_alloc_new _ _⟩
  refine wpList_append_own_at _ hgd s x t ho 0 e i0 _ 3 24 ht hi hz0 hz1 hz2 rfl (by omega) v zs.length (zs.flatMap tri3) hs (HR.keeps hk (fun _ _ => by simp)) ⟨W.heap.size, 0, none⟩ 1 1 (tri3 y) hx rfl
    (fun j u hj => ?_) (fun u hu => ?_) (by simp only [maxLen]; omega) (by omega) (Nat.zero_le _) ?_
  · match j, hj with
    | 0, hj => cases hj; exact hT.c0
    | 1, hj => cases hj; exact hT.c1
    | 2, hj => cases hj; exact hT.c2
  · simp only [tri3, List.mem_cons, List.not_mem_nil, or_false] at hu
    rcases hu with rfl | rfl | rfl <;> rfl
  · intro v1 w1 hown hg _ hat
    refine h v1 w1 ?_ (((Keeps.refl _ _).alloc _).grown hg (fun k hk => .inl (mem_fp.2 hk))) (fun b hb => ?_)
    · unfold RowT
      rw [List.length_append, List.flatMap_append]
      simpa using hown
    · rcases fp_grown hat b hb with h4 | h4
      · exact .inl h4
      · rw [World.size_alloc] at h4; exact .inr (by omega)

theorem results_cell1 {P : Program} {fn : Func} {p : Tmp} {ty : TypeId} (h : fn.results = #[.cell p ty]) (tmps : Array Value) (w : World) (g : Nat) (t : TypeId) (cs : Array Value) (fr : Nat × Nat) (d : TypeDesc)
    (hp : tmps.getD p undef = .pointer (some ⟨g, 0, none⟩)) (hg : w.heap[g]? = some (.cells cs t fr))
    (hu : P.underlying ty = some d) (hd : (match d with | .struct _ | .array _ _ => true | _ => false) = true) (hi : (P.info? ty).map (·.size) = some cs.size) :
    (results fn tmps).run P w = .ok (.agg cs) w := by
  have : (results fn tmps).run P w = ((asAddr (tmps.getD p undef)).run P w).andThen fun a w₁ => (loadVar ty a).run P w₁ := by
    simp only [results, h]
    simp [Sem.run_bind, Result.andThen]
  rw [this, hp]
  simp [asAddr, run_loadVar_row w g t ty cs fr d hg hu hd hi, Result.andThen]

/-- A block of four cells. -/
structure Quad (w : World) (g : Nat) (T : TypeId) (a b c d : Value) : Prop where
  hp : w.heap[g]? = some (.cells #[a, b, c, d] T (0, 0))
namespace Quad
variable {w w' : World} {g : Nat} {T : TypeId} {a b c d : Value}
theorem keeps {F : List Nat} (h : Quad w g T a b c d) (hk : Keeps F w w') (hg : g ∉ F) : Quad w' g T a b c d := ⟨(hk.block g (Array.getElem?_eq_some_iff.1 h.hp).1 hg).trans h.hp⟩
theorem c0 (h : Quad w g T a b c d) : w.cell? ⟨g, 0, none⟩ = some a := by unfold World.cell?; rw [h.hp]; rfl
theorem c1 (h : Quad w g T a b c d) : w.cell? ⟨g, 1, none⟩ = some b := by unfold World.cell?; rw [h.hp]; rfl
theorem c2 (h : Quad w g T a b c d) : w.cell? ⟨g, 2, none⟩ = some c := by unfold World.cell?; rw [h.hp]; rfl
theorem c3 (h : Quad w g T a b c d) : w.cell? ⟨g, 3, none⟩ = some d := by unfold World.cell?; rw [h.hp]; rfl
theorem frozen (h : Quad w g T a b c d) (j : Nat) : w.frozen? ⟨g, j, none⟩ = false := frozen_of_row w g j _ T h.hp
theorem lt (h : Quad w g T a b c d) : g < w.heap.size := (Array.getElem?_eq_some_iff.1 h.hp).1
theorem set2 (h : Quad w g T a b c d) (c' : Value) : Quad (w.setCell ⟨g, 2, none⟩ c') g T a b c' d := ⟨b_blk_set h.hp 2 _⟩
theorem set3 (h : Quad w g T a b c d) (d' : Value) : Quad (w.setCell ⟨g, 3, none⟩ d') g T a b c d' := ⟨b_blk_set h.hp 3 _⟩
theorem set (h : Quad w g T a b c d) (a' b' c' d' : Value) : Quad ((((w.setCell ⟨g, 0, none⟩ a').setCell ⟨g, 1, none⟩ b').setCell ⟨g, 2, none⟩ c').setCell ⟨g, 3, none⟩ d') g T a' b' c' d' :=
  ⟨b_blk_set (b_blk_set (b_blk_set (b_blk_set h.hp 0 _) 1 _) 2 _) 3 _⟩
end Quad
end Go.Proofs.Ytepbngdoeolepaa
