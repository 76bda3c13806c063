/-
  append into spare room: what stands in the room behind it.
-/
import Derived.Test.YtofkiimaoahfjaaDoorZApp
import Derived.ArgAppend
set_option maxRecDepth 100000
set_option linter.unusedVariables false
set_option linter.unusedSimpArgs false
namespace Go.Proofs.YtofkiimaoahfjaaDoor
open Go.RowKit

theorem Keeps.setCells {F : List Nat} {w : World} {g : Nat} (hg : g ∈ F ∨ w.heap.size ≤ g) : ∀ (vs : List Value) (o : Nat) (w1 : World), Keeps F w w1 → Keeps F w (w1.setCells g o vs)
  | [], _, _, h => h
  | v :: r, o, w1, h => by
    rw [World.setCells]
    exact Keeps.setCells hg r (o + 1) _ (h.setCell (a := ⟨g, o, none⟩) hg v)

section
variable {P : Program} {ops : Array Oper} {o : Oper} {a : Act} {K : Act → World → Prop} {Q : Exit → Act → World → Prop} {E : Prop}

/-- append(make([]T, 0, cap), ys...): the room behind holds noughts. -/
theorem oper_appG {W : World} (s x : Operand) (t e : TypeId) (k : IntKind) (bytes : Nat)
    (ho : o.op = .call { callee := .builtin .append, args := #[s, x], argTypes := #[t, t] })
    (ht : P.underlying t = some (.slice e)) (hinfo : (P.info? e).map (fun i => (i.zero, i.size, i.bytes)) = some (some (.int k 0), 1, bytes))
    (g cap : Nat) (ys : List Int) (hs : a.eval s = .slice (some ⟨g, 0, none⟩) 0 cap) (A : Option Addr) (c : Nat) (hx : a.eval x = .slice A ys.length c)
    (H0 : Row W k e (.slice (some ⟨g, 0, none⟩) cap cap) (List.replicate cap 0)) (H1 : Row W k e (.slice (some ⟨g, 0, none⟩) 0 cap) [])
    (HY : Rd W k A ys) (hA : A = none → c = 0) (hl : ys.length ≤ cap)
    (h : ∀ w1, Rd w1 k (some ⟨g, 0, none⟩) (ys ++ List.replicate (cap - ys.length) 0) → Keeps [g] W w1 → K (a.put o.dst (.slice (some ⟨g, 0, none⟩) ys.length cap)) w1) :
    Oper.wp P o a W K Q := by
  obtain ⟨i0, hi, hzz⟩ := Option.map_eq_some_iff.1 hinfo
  simp only [Prod.mk.injEq] at hzz
  obtain ⟨hz0, hz1, hz2⟩ := hzz
  have hcap : cap ≤ 9223372036854775807 := by have := H0.len_le; simpa using this
  have hlen : (ys ++ List.replicate (cap - ys.length) (0 : Int)).length = cap := by simp; omega
  have hcell : ∀ j, j < cap → W.cell? ⟨g, j, none⟩ = some (.int k 0) := fun j hj => by
    have := H0.cell j (by simpa using hj)
    rw [List.getElem_replicate] at this
    exact this
  cases A with
  | none =>
    have h0 : ys.length = 0 := by
      rcases Nat.eq_zero_or_pos ys.length with h0 | h0
      · exact h0
      · obtain ⟨b, o', e', _⟩ := HY.form h0
        cases e'
    have hys : ys = [] := List.eq_nil_of_length_eq_zero h0
    subst hys
    have hc := hA rfl
    subst hc
    have hr := run_append_owned_none (P := P) W 0 t o.type e i0 1 ht hi (.slice (some ⟨g, 0, none⟩) 0 cap) 0 (nums k []) H1
    unfold Oper.wp execOp
    simp only [ho, resolve, invoke, builtin, Sem.run_bind, Sem.run_pure, Result.andThen_ok, List.map_toArray, List.map_cons, List.map_nil, hs, hx, List.length_nil, hr]
    refine h W ⟨by rw [hlen]; exact hcap, fun i hi => ⟨g, 0, rfl, ?_⟩⟩ (Keeps.refl _ _)
    rw [Nat.zero_add, hcell i (by rw [hlen] at hi; exact hi)]
    simp
  | some ad =>
    have hr := run_append_room_cells (P := P) W t o.type e i0 ht hi g 0 0 cap ad ys.length c (nums k ys) (by rw [nums_length, hz1, Nat.mul_one])
      (fun j u hj => by
        have hjl : j < ys.length := by
          rw [← nums_length k ys]
          exact (List.getElem?_eq_some_iff.1 hj).1
        obtain ⟨b, off, e', hc⟩ := HY.at_ j hjl
        cases e'
        rw [nums_get k ys j hjl] at hj
        cases hj
        unfold Addr.add
        split
        · rename_i h0; subst h0; exact hc
        · exact hc)
      (fun u hu => by
        obtain ⟨z, _, rfl⟩ := List.mem_map.1 hu
        rfl) (by omega)
      (fun j hj => by rw [nums_length] at hj; rw [Nat.zero_mul, Nat.zero_add, hcell j (by omega)]; rfl)
      (fun j hj => by rw [Nat.zero_mul, Nat.zero_add]; exact H0.frozen j)
    rw [Nat.zero_mul, Nat.zero_add, Nat.zero_add] at hr
    unfold Oper.wp execOp
    simp only [ho, resolve, invoke, builtin, Sem.run_bind, Sem.run_pure, Result.andThen_ok, List.map_toArray, List.map_cons, List.map_nil, hs, hx, hr]
    refine h _ ⟨by rw [hlen]; exact hcap, fun i hi => ⟨g, 0, rfl, ?_⟩⟩ (Keeps.setCells (.inl (by simp)) _ _ _ (Keeps.refl _ _))
    rw [hlen] at hi
    rw [Nat.zero_add]
    by_cases hiy : i < ys.length
    · have := World.cell?_setCells_in g (nums k ys) 0 W (fun j hj => by rw [nums_length] at hj; rw [Nat.zero_add, hcell j (by omega)]; rfl) i (by rw [nums_length]; exact hiy)
      rw [Nat.zero_add] at this
      rw [this, List.getElem_append_left hiy]
      simp [nums]
    · rw [World.cell?_setCells_out g (nums k ys) 0 W ⟨g, i, none⟩ (fun _ _ => .inr (by rw [nums_length]; simp; omega)), hcell i hi, List.getElem_append_right (by omega), List.getElem_replicate]

/-- The same at a step of a region that draws its order. -/
theorem step_appG (W : World) (hgd : o.guard = none) (s x : Operand) (t e : TypeId) (k : IntKind) (bytes : Nat)
    (ho : o.op = .call { callee := .builtin .append, args := #[s, x], argTypes := #[t, t] })
    (ht : P.underlying t = some (.slice e)) (hinfo : (P.info? e).map (fun i => (i.zero, i.size, i.bytes)) = some (some (.int k 0), 1, bytes))
    (g cap : Nat) (ys : List Int) (hs : a.eval s = .slice (some ⟨g, 0, none⟩) 0 cap) (A : Option Addr) (c : Nat) (hx : a.eval x = .slice A ys.length c)
    (H0 : Row W k e (.slice (some ⟨g, 0, none⟩) cap cap) (List.replicate cap 0)) (H1 : Row W k e (.slice (some ⟨g, 0, none⟩) 0 cap) [])
    (HY : Rd W k A ys) (hA : A = none → c = 0) (hl : ys.length ≤ cap)
    (h : ∀ w1, Rd w1 k (some ⟨g, 0, none⟩) (ys ++ List.replicate (cap - ys.length) 0) → Keeps [g] W w1 → K (a.put o.dst (.slice (some ⟨g, 0, none⟩) ys.length cap)) w1) :
    if Region.wanted o (yielded ops a.tmps) = true then Oper.wp P o a W K Q else E := by
  have hw : Region.wanted o (yielded ops a.tmps) = true := by simp [Region.wanted, hgd]
  rw [if_pos hw]
  exact oper_appG s x t e k bytes ho ht hinfo g cap ys hs A c hx H0 H1 HY hA hl h
/-- The same in a walk. -/
theorem wp_appG {rest : List Oper} {W : World} (hgd : o.guard = none) (s x : Operand) (t e : TypeId) (k : IntKind) (bytes : Nat)
    (ho : o.op = .call { callee := .builtin .append, args := #[s, x], argTypes := #[t, t] })
    (ht : P.underlying t = some (.slice e)) (hinfo : (P.info? e).map (fun i => (i.zero, i.size, i.bytes)) = some (some (.int k 0), 1, bytes))
    (g cap : Nat) (ys : List Int) (hs : a.eval s = .slice (some ⟨g, 0, none⟩) 0 cap) (A : Option Addr) (c : Nat) (hx : a.eval x = .slice A ys.length c)
    (H0 : Row W k e (.slice (some ⟨g, 0, none⟩) cap cap) (List.replicate cap 0)) (H1 : Row W k e (.slice (some ⟨g, 0, none⟩) 0 cap) [])
    (HY : Rd W k A ys) (hA : A = none → c = 0) (hl : ys.length ≤ cap)
    (h : ∀ w1, Rd w1 k (some ⟨g, 0, none⟩) (ys ++ List.replicate (cap - ys.length) 0) → Keeps [g] W w1 → wpList P ops Q rest (a.put o.dst (.slice (some ⟨g, 0, none⟩) ys.length cap)) w1) :
    wpList P ops Q (o :: rest) a W := by
  refine wpList_plain hgd fun K hK => ?_
  exact oper_appG s x t e k bytes ho ht hinfo g cap ys hs A c hx H0 H1 HY hA hl (fun w1 h1 h2 => hK _ _ (h w1 h1 h2))
end
end Go.Proofs.YtofkiimaoahfjaaDoor
