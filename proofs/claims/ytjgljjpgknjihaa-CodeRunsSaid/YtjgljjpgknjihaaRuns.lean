/-
  Layer 5: what CodeRuns wants: rows of booleans, three rows apart, the ends of numbers' bytes.
-/
import Derived.Test.YtjgljjpgknjihaaLaw5c
set_option linter.unusedVariables false
set_option linter.unusedSimpArgs false
namespace Go.Proofs.Ytjgljjpgknjihaa
open Go.RowKit Go.Proofs.Ytjgljjpgknjihaa.Pure

theorem info_bool : (Try.prog.info? 4).map (fun i => (i.zero, i.size, i.bytes)) = some (some (.bool false), 1, 1) := by kernel_rfl
theorem info_int : (Try.prog.info? 3).map (fun i => (i.zero, i.size, i.bytes)) = some (some (.int .i64 0), 1, 8) := by kernel_rfl

/-- v is nil or a row of its own, which holds the booleans bs. -/
def RowB (w : World) (v : Value) (bs : List Bool) : Prop := w.ownsRow 0 4 1 v bs.length (bs.map Value.bool)
namespace RowB
variable {w w' : World} {v : Value} {bs : List Bool}
theorem keeps (h : RowB w v bs) {F : List Nat} (hk : Keeps F w w') (hd : ∀ b, b ∈ fp v → b ∉ F) : RowB w' v bs := by
  refine ⟨h.1, ?_⟩
  rcases h.2 with hn | ⟨g, cap, cur, rfl, hb, hg, rest⟩
  · exact .inl hn
  · refine .inr ⟨g, cap, cur, rfl, hb, ?_, rest⟩
    rw [hk.block g (Array.getElem?_eq_some_iff.1 hg).1 (hd g (by simp [fp, Value.ownBlock]))]
    exact hg
theorem lt (h : RowB w v bs) : ∀ b, b ∈ fp v → b < w.heap.size := fun b hb => (World.ownsRow.lt h b (mem_fp.1 hb)).2
theorem slice (h : RowB w v bs) : ∃ a cap, v = .slice a bs.length cap := by
  rcases h.2 with ⟨rfl, h0⟩ | ⟨g, cap, cur, rfl, _⟩
  · exact ⟨none, 0, by rw [h0]⟩
  · exact ⟨_, cap, rfl⟩
theorem form (h : RowB w v bs) (hn : 0 < bs.length) : ∃ g cap, v = .slice (some ⟨g, 0, none⟩) bs.length cap := by
  rcases h.2 with ⟨_, h0⟩ | ⟨g, cap, cur, rfl, _⟩
  · omega
  · exact ⟨g, cap, rfl⟩
theorem cell {g n cap : Nat} (h : RowB w (.slice (some ⟨g, 0, none⟩) n cap) bs) (j : Nat) (hj : j < bs.length) : w.cell? ⟨g, j, none⟩ = some (.bool bs[j]) := by
  obtain ⟨a', c', e⟩ := h.slice
  simp only [Value.slice.injEq] at e
  obtain ⟨-, rfl, -⟩ := e
  rw [World.ownsRow.cellAt h j (by omega)]
  simp [hj]
theorem lit1 (w : World) (b : Bool) : RowB (w.alloc (.cells #[.bool b] 4)) (.slice (some ⟨w.heap.size, 0, none⟩) 1 1) [b] :=
  World.ownsRow_lit (base := 0) (e := 4) (size := 1) w #[.bool b] 1 (Nat.zero_le _) (by simp [maxLen]) rfl
end RowB

/-- append(v, b), b a boolean. -/
theorem wp_appB {P : Program} {ops : Array Oper} {rest : List Oper} {o : Oper} {a : Act} {Q : Exit → Act → World → Prop} {W : World} (hgd : o.guard = none) (s x : Operand) (t : TypeId)
    (ho : o.op = .call { callee := .builtin .append, args := #[s, x], argTypes := #[t, t] })
    (ht : P.underlying t = some (.slice 4)) (hinfo : (P.info? 4).map (fun i => (i.zero, i.size, i.bytes)) = some (some (.bool false), 1, 1))
    (v : Value) (bs : List Bool) (y : Bool) (hs : a.eval s = v) (hx : a.eval x = .slice (some ⟨W.heap.size, 0, none⟩) 1 1) (HR : RowB W v bs) (hl : bs.length ≤ 1000000)
    (h : ∀ v1 w1, RowB w1 v1 (bs ++ [y]) → Keeps (fp v) W w1 → (∀ b, b ∈ fp v1 → b ∈ fp v ∨ W.heap.size ≤ b) → wpList P ops Q rest (a.put o.dst v1) w1) :
    wpList P ops Q (o :: rest) a (W.alloc (.cells #[.bool y] 4)) := by
  obtain ⟨i0, hi, hzz⟩ := Option.map_eq_some_iff.1 hinfo
  simp only [Prod.mk.injEq] at hzz
  obtain ⟨hz0, hz1, hz2⟩ := hzz
  have hk : Keeps [] W (W.alloc (.cells #[.bool y] 4)) := (Keeps.refl _ _).alloc _
  have HY := RowB.lit1 W y
  refine wpList_append_own_at _ hgd s x t ho 0 4 i0 _ 1 1 ht hi hz0 hz1 hz2 rfl (by omega) v bs.length (bs.map Value.bool) hs (HR.keeps hk (fun _ _ => by simp)) ⟨W.heap.size, 0, none⟩ 1 1 [.bool y] hx rfl
    (fun j u hj => ?_) (fun u hu => ?_) (by simp only [maxLen]; omega) (by omega) (Nat.zero_le _) ?_
  · match j, hj with
    | 0, hj => cases hj; exact HY.cell 0 (by simp)
  · rw [List.mem_singleton] at hu; subst hu; rfl
  · intro v1 w1 hown hg _ hat
    refine h v1 w1 ?_ (((Keeps.refl _ _).alloc _).grown hg (fun k hk => .inl (mem_fp.2 hk))) (fun b hb => ?_)
    · unfold RowB
      rw [List.length_append, List.map_append]
      simpa using hown
    · rcases fp_grown hat b hb with h4 | h4
      · exact .inl h4
      · rw [World.size_alloc] at h4; exact .inr (by omega)

/-- Three rows, made since w0, apart from one another. -/
structure Tri (w0 w : World) (va vw ve : Value) (A W : List Int) (E : List Bool) : Prop where
  keeps : Keeps [] w0 w
  ra : Row w .u8 5 va A
  rw_ : Row w .i64 3 vw W
  re : RowB w ve E
  ha : ∀ b, b ∈ fp va → w0.heap.size ≤ b
  hw : ∀ b, b ∈ fp vw → w0.heap.size ≤ b
  he : ∀ b, b ∈ fp ve → w0.heap.size ≤ b
  aw : ∀ b, b ∈ fp va → b ∉ fp vw
  ae : ∀ b, b ∈ fp va → b ∉ fp ve
  we : ∀ b, b ∈ fp vw → b ∉ fp ve
namespace Tri
variable {w0 w w' : World} {va vw ve : Value} {A W : List Int} {E : List Bool}
theorem new (h : Tri w0 w va vw ve A W E) (hk : Keeps [] w w') : Tri w0 w' va vw ve A W E :=
  ⟨h.keeps.new hk, h.ra.keeps hk (fun _ _ => by simp), h.rw_.keeps hk (fun _ _ => by simp), h.re.keeps hk (fun _ _ => by simp), h.ha, h.hw, h.he, h.aw, h.ae, h.we⟩
theorem appA (h : Tri w0 w va vw ve A W E) {v1 : Value} {A1 : List Int} (hr : Row w' .u8 5 v1 A1) (hk : Keeps (fp va) w w') (hf : ∀ b, b ∈ fp v1 → b ∈ fp va ∨ w.heap.size ≤ b) : Tri w0 w' v1 vw ve A1 W E := by
  refine ⟨h.keeps.then_ hk (fun b hb hlt => by have := h.ha b hb; omega), hr, h.rw_.keeps hk (fun b hb hm => h.aw b hm hb), h.re.keeps hk (fun b hb hm => h.ae b hm hb), fun b hb => ?_, h.hw, h.he, fun b hb hm => ?_, fun b hb hm => ?_, h.we⟩
  · rcases hf b hb with h4 | h4
    · exact h.ha b h4
    · exact Nat.le_trans h.keeps.size h4
  · rcases hf b hb with h4 | h4
    · exact h.aw b h4 hm
    · have := h.rw_.lt b hm; omega
  · rcases hf b hb with h4 | h4
    · exact h.ae b h4 hm
    · have := h.re.lt b hm; omega
theorem appW (h : Tri w0 w va vw ve A W E) {v1 : Value} {W1 : List Int} (hr : Row w' .i64 3 v1 W1) (hk : Keeps (fp vw) w w') (hf : ∀ b, b ∈ fp v1 → b ∈ fp vw ∨ w.heap.size ≤ b) : Tri w0 w' va v1 ve A W1 E := by
  refine ⟨h.keeps.then_ hk (fun b hb hlt => by have := h.hw b hb; omega), h.ra.keeps hk (fun b hb hm => h.aw b hb hm), hr, h.re.keeps hk (fun b hb hm => h.we b hm hb), h.ha, fun b hb => ?_, h.he, fun b hb hm => ?_, h.ae, fun b hb hm => ?_⟩
  · rcases hf b hb with h4 | h4
    · exact h.hw b h4
    · exact Nat.le_trans h.keeps.size h4
  · rcases hf b hm with h4 | h4
    · exact h.aw b hb h4
    · have := h.ra.lt b hb; omega
  · rcases hf b hb with h4 | h4
    · exact h.we b h4 hm
    · have := h.re.lt b hm; omega
theorem appE (h : Tri w0 w va vw ve A W E) {v1 : Value} {E1 : List Bool} (hr : RowB w' v1 E1) (hk : Keeps (fp ve) w w') (hf : ∀ b, b ∈ fp v1 → b ∈ fp ve ∨ w.heap.size ≤ b) : Tri w0 w' va vw v1 A W E1 := by
  refine ⟨h.keeps.then_ hk (fun b hb hlt => by have := h.he b hb; omega), h.ra.keeps hk (fun b hb hm => h.ae b hb hm), h.rw_.keeps hk (fun b hb hm => h.we b hb hm), hr, h.ha, h.hw, fun b hb => ?_, h.aw, fun b hb hm => ?_, fun b hb hm => ?_⟩
  · rcases hf b hb with h4 | h4
    · exact h.he b h4
    · exact Nat.le_trans h.keeps.size h4
  · rcases hf b hm with h4 | h4
    · exact h.ae b hb h4
    · have := h.ra.lt b hb; omega
  · rcases hf b hm with h4 | h4
    · exact h.we b hb h4
    · have := h.rw_.lt b hb; omega
end Tri

/-! ### Plain facts -/
def mwI (x : Int) : Int := wrap64 ((IntKind.u64.wrap x).tmod 68719476736)
theorem mwI_range (x : Int) : 0 ≤ mwI x ∧ mwI x ≤ 68719476735 := by
  have e : IntKind.u64.wrap x = x % 18446744073709551616 := IntKind.wrap_u64 x
  have h2 : 0 ≤ IntKind.u64.wrap x := by rw [e]; omega
  unfold mwI
  rw [Int.tmod_eq_emod_of_nonneg h2]
  have h3 := Int.emod_nonneg (IntKind.u64.wrap x) (show (68719476736 : Int) ≠ 0 by omega)
  have h4 := Int.emod_lt_of_pos (IntKind.u64.wrap x) (show (0 : Int) < 68719476736 by omega)
  unfold wrap64
  omega
theorem putS_len7 (n : Int) : 0 < (putS n).length ∧ (putS n).length ≤ 7 := by
  rw [putS_length]
  have := sizeB_le n
  have h2 : ¬ n < 128 → 2 ≤ sizeB n := fun h => by unfold sizeB; repeat (first | omega | split)
  split <;> omega
/-- The bytes of numbers, one behind the other. -/
def runs (ws : List Int) : List Int := ws.flatMap putS
def blk (n : Int) : List Bool := List.replicate ((putS n).length - 1) false ++ [true]
theorem blk_length (n : Int) : (blk n).length = (putS n).length := by have := putS_len7 n; simp [blk]; omega
theorem blk_get (n : Int) (j : Nat) (h : j < (blk n).length) : (blk n)[j] = decide (j + 1 = (putS n).length) := by
  have h1 := putS_len7 n
  have h2 := blk_length n
  simp only [blk, List.getElem_append]
  split
  · rename_i h3
    rw [List.length_replicate] at h3
    rw [List.getElem_replicate]
    exact (decide_eq_false (by omega)).symm
  · rename_i h3
    rw [List.length_replicate] at h3
    have : j + 1 = (putS n).length := by omega
    rw [decide_eq_true this]
    simp
/-- Where numbers end. -/
def ends (ws : List Int) : List Bool := true :: ws.flatMap blk
theorem runs_app (a b : List Int) : runs (a ++ b) = runs a ++ runs b := by simp [runs]
theorem ends_app (a b : List Int) : ends (a ++ b) = ends a ++ b.flatMap blk := by simp [ends]
theorem runs_snoc (ws : List Int) (n : Int) : runs (ws ++ [n]) = runs ws ++ putS n := by simp [runs]
theorem ends_snoc (ws : List Int) (n : Int) : ends (ws ++ [n]) = ends ws ++ blk n := by simp [ends]
theorem ends_length (ws : List Int) : (ends ws).length = (runs ws).length + 1 := by
  induction ws with
  | nil => rfl
  | cons x ws ih =>
    have e1 : ends (x :: ws) = true :: (blk x ++ ws.flatMap blk) := rfl
    have e2 : runs (x :: ws) = putS x ++ runs ws := rfl
    have e3 : (ends ws).length = (ws.flatMap blk).length + 1 := rfl
    rw [e1, e2]
    have := blk_length x
    simp only [List.length_cons, List.length_append]
    omega
theorem runs_le (ws : List Int) : (runs ws).length ≤ 7 * ws.length := by
  induction ws with
  | nil => simp [runs]
  | cons x ws ih =>
    have e2 : runs (x :: ws) = putS x ++ runs ws := rfl
    have := putS_len7 x
    rw [e2, List.length_append, List.length_cons]
    omega
theorem runs_prefix (ws : List Int) (i : Nat) : ∃ S, runs ws = runs (ws.take i) ++ S ∧ ∃ T, ends ws = ends (ws.take i) ++ T := by
  refine ⟨runs (ws.drop i), ?_, (ws.drop i).flatMap blk, ?_⟩
  · rw [← runs_app, List.take_append_drop]
  · rw [← ends_app, List.take_append_drop]
theorem runs_take_le (ws : List Int) (i : Nat) : (runs (ws.take i)).length ≤ (runs ws).length := by
  obtain ⟨S, h, _⟩ := runs_prefix ws i
  rw [h, List.length_append]; omega
theorem ends_true (ws : List Int) (i : Nat) (h : (runs (ws.take i)).length < (ends ws).length) : (ends ws)[(runs (ws.take i)).length] = true := by
  obtain ⟨S, hS, T, hT⟩ := runs_prefix ws i
  have hl := ends_length (ws.take i)
  have e : (ends ws)[(runs (ws.take i)).length]? = some true := by
    rw [hT, List.getElem?_append_left (by omega)]
    generalize ws.take i = us at *
    rcases List.eq_nil_or_concat us with rfl | ⟨us', x, rfl⟩
    · rfl
    · rw [List.concat_eq_append, ends_snoc, runs_snoc, List.length_append]
      have h1 := ends_length us'
      have h2 := putS_len7 x
      rw [List.getElem?_append_right (by omega)]
      have h3 : (runs us').length + (putS x).length - (ends us').length = (putS x).length - 1 := by omega
      rw [h3, List.getElem?_eq_getElem (by rw [blk_length]; omega), blk_get]
      rw [decide_eq_true (by omega)]
  exact (List.getElem?_eq_some_iff.1 e).2
theorem ends_false (ws : List Int) (i c : Nat) (hi : i < ws.length) (h1 : (runs (ws.take i)).length < c) (h2 : c < (runs (ws.take i)).length + (putS ws[i]).length) (h : c < (ends ws).length) : (ends ws)[c] = false := by
  obtain ⟨S, hS, T, hT⟩ := runs_prefix ws (i + 1)
  have hl := ends_length (ws.take i)
  have e : (ends ws)[c]? = some false := by
    rw [hT, List.take_succ_eq_append_getElem hi, ends_snoc]
    rw [List.getElem?_append_left (by rw [List.length_append, blk_length]; omega), List.getElem?_append_right (by omega)]
    rw [List.getElem?_eq_getElem (by rw [blk_length]; omega), blk_get]
    rw [decide_eq_false (by omega)]
  exact (List.getElem?_eq_some_iff.1 e).2
/-- What is ahead at the i-th number. -/
theorem runs_at (ws : List Int) (i c : Nat) (hi : i < ws.length) (hc : (runs (ws.take i)).length ≤ c) :
    ((runs ws).take c).drop (runs (ws.take i)).length = (putS ws[i] ++ runs (ws.drop (i + 1))).take (c - (runs (ws.take i)).length) ∧ (runs (ws.take (i + 1))).length = (runs (ws.take i)).length + (putS ws[i]).length := by
  have e1 : ws.take (i + 1) = ws.take i ++ [ws[i]] := List.take_succ_eq_append_getElem hi
  refine ⟨?_, by rw [e1, runs_snoc, List.length_append]⟩
  have e : runs ws = runs (ws.take i) ++ (putS ws[i] ++ runs (ws.drop (i + 1))) := by
    rw [← List.append_assoc, ← runs_snoc, ← e1, ← runs_app, List.take_append_drop]
  rw [List.drop_take]
  congr 1
  conv => lhs; rw [e, List.drop_left]
theorem runs_range (ws : List Int) (hw : ∀ x ∈ ws, 0 ≤ x ∧ x ≤ 68719476735) : ∀ x ∈ runs ws, 0 ≤ x ∧ x ≤ 255 := by
  intro x hx
  obtain ⟨n, hn, hxn⟩ := List.mem_flatMap.1 hx
  obtain ⟨a, b⟩ := hw n hn
  exact putS_range n a b x hxn
end Go.Proofs.Ytjgljjpgknjihaa
