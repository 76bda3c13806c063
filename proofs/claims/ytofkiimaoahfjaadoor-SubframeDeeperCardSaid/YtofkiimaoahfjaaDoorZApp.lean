/-
  append at a step of a region that draws its order; slices that are made with room.
-/
import Derived.Test.YtofkiimaoahfjaaDoorZMem
import Derived.Deep.RegionHeld3
set_option maxRecDepth 100000
set_option linter.unusedVariables false
set_option linter.unusedSimpArgs false
namespace Go.Proofs.YtofkiimaoahfjaaDoor
open Go.RowKit

section
variable {P : Program} {ops : Array Oper} {o : Oper} {a : Act} {K : Act → World → Prop} {Q : Exit → Act → World → Prop} {E : Prop}

/-- append(v, xs...) at an operation: what is appended is nil or not. -/
theorem oper_appR {W : World} (s x : Operand) (t e : TypeId) (k : IntKind) (bytes : Nat)
    (ho : o.op = .call { callee := .builtin .append, args := #[s, x], argTypes := #[t, t] })
    (ht : P.underlying t = some (.slice e)) (hinfo : (P.info? e).map (fun i => (i.zero, i.size, i.bytes)) = some (some (.int k 0), 1, bytes)) (hb0 : 0 < bytes)
    (v : Value) (xs ys : List Int) (hs : a.eval s = v) (A : Option Addr) (c : Nat) (hx : a.eval x = .slice A ys.length c) (HR : Row W k e v xs)
    (HY : Rd W k A ys) (hA : A = none → c = 0) (hA2 : ∀ ad, A = some ad → ad.spot = none ∨ ys.length = 0) (hl : (xs.length + ys.length) * bytes ≤ 140737488355328)
    (h : ∀ v1 w1, Row w1 k e v1 (xs ++ ys) → Keeps (fp v) W w1 → (∀ b, b ∈ fp v1 → b ∈ fp v ∨ W.heap.size ≤ b) → K (a.put o.dst v1) w1) :
    Oper.wp P o a W K Q := by
  obtain ⟨i0, hi, hzz⟩ := Option.map_eq_some_iff.1 hinfo
  simp only [Prod.mk.injEq] at hzz
  obtain ⟨hz0, hz1, hz2⟩ := hzz
  have hlen : xs.length + ys.length ≤ 140737488355328 := Nat.le_trans (Nat.le_mul_of_pos_right _ hb0) hl
  cases A with
  | none =>
    have h0 : ys.length = 0 := by
      rcases Nat.eq_zero_or_pos ys.length with h0 | h0
      · exact h0
      · obtain ⟨b, o', e', _⟩ := HY.form h0
        cases e'
    have hys : ys = [] := List.eq_nil_of_length_eq_zero h0
    subst hys
    have hc := hA rfl
    subst hc
    have hr := run_append_owned_none (P := P) W 0 t o.type e i0 1 ht hi v xs.length (nums k xs) HR
    unfold Oper.wp execOp
    simp only [ho, resolve, invoke, builtin, Sem.run_bind, Sem.run_pure, Result.andThen_ok, List.map_toArray, List.map_cons, List.map_nil, hs, hx, List.length_nil, hr]
    exact h v W (by rw [List.append_nil]; exact HR) (Keeps.refl _ _) (fun b hb => .inl hb)
  | some ad =>
    obtain ⟨v', w', hr, hown, hg, _, hat⟩ := run_append_own_at (P := P) W 0 t o.type e i0 (.int k 0) 1 bytes ht hi hz0 hz1 hz2 rfl (by omega) v xs.length (nums k xs) HR ad ys.length c (nums k ys) (by rw [nums_length, Nat.mul_one])
      (fun j u hj => by
        have hjl : j < ys.length := by
          rw [← nums_length k ys]
          exact (List.getElem?_eq_some_iff.1 hj).1
        obtain ⟨b, off, e', hc⟩ := HY.at_ j hjl
        cases e'
        rw [nums_get k ys j hjl] at hj
        cases hj
        unfold Addr.add
        split
        · rename_i h0; subst h0; exact hc
        · exact hc)
      (fun u hu => by
        obtain ⟨z, _, rfl⟩ := List.mem_map.1 hu
        rfl) (by simp only [maxLen]; omega) hl (Nat.zero_le _)
    unfold Oper.wp execOp
    simp only [ho, resolve, invoke, builtin, Sem.run_bind, Sem.run_pure, Result.andThen_ok, List.map_toArray, List.map_cons, List.map_nil, hs, hx, hr]
    refine h v' w' ?_ ((Keeps.refl _ _).grown hg (fun k hk => .inl (mem_fp.2 hk))) (fp_grown hat)
    unfold Row
    rw [List.length_append, nums_append]
    exact hown

/-- append(v, xs...) at a step of a region that draws its order. -/
theorem step_appR (W : World) (hgd : o.guard = none) (s x : Operand) (t e : TypeId) (k : IntKind) (bytes : Nat)
    (ho : o.op = .call { callee := .builtin .append, args := #[s, x], argTypes := #[t, t] })
    (ht : P.underlying t = some (.slice e)) (hinfo : (P.info? e).map (fun i => (i.zero, i.size, i.bytes)) = some (some (.int k 0), 1, bytes)) (hb0 : 0 < bytes)
    (v : Value) (xs ys : List Int) (hs : a.eval s = v) (A : Option Addr) (c : Nat) (hx : a.eval x = .slice A ys.length c) (HR : Row W k e v xs)
    (HY : Rd W k A ys) (hA : A = none → c = 0) (hA2 : ∀ ad, A = some ad → ad.spot = none ∨ ys.length = 0) (hl : (xs.length + ys.length) * bytes ≤ 140737488355328)
    (h : ∀ v1 w1, Row w1 k e v1 (xs ++ ys) → Keeps (fp v) W w1 → (∀ b, b ∈ fp v1 → b ∈ fp v ∨ W.heap.size ≤ b) → K (a.put o.dst v1) w1) :
    if Region.wanted o (yielded ops a.tmps) = true then Oper.wp P o a W K Q else E := by
  have hw : Region.wanted o (yielded ops a.tmps) = true := by simp [Region.wanted, hgd]
  rw [if_pos hw]
  exact oper_appR s x t e k bytes ho ht hinfo hb0 v xs ys hs A c hx HR HY hA hA2 hl h


/-- make([]T, l, m), in whatever world. -/
theorem run_mk (P : Program) (t e : TypeId) (k : IntKind) (bytes : Nat) 
    (ht : P.underlying t = some (.slice e)) (hinfo : (P.info? e).map (fun i => (i.zero, i.size, i.bytes)) = some (some (.int k 0), 1, bytes))
    (kl kc : IntKind) (l m : Nat) (b c : Int) (hb' : b = l) (hc : c = m) (hlm : l ≤ m) (hb : bytes * m ≤ 281474976710656) (hm : m ≤ 281474976710656) (W : World) :
    Sem.run P (Instr.makeSlice t (.int kl b) (.int kc c)) W = .ok (.slice (some ⟨W.heap.size, 0, none⟩) l m) (W.alloc (.cells (madeCells #[.int k 0] m) e)) := by
  subst hc hb'
  obtain ⟨i0, hi, hzz⟩ := Option.map_eq_some_iff.1 hinfo
  simp only [Prod.mk.injEq] at hzz
  obtain ⟨hz0, hz1, hz2⟩ := hzz
  have hr := run_make (P := P) W t e i0 (.int k 0) ht hi hz0 kl kc l m (by omega) (by omega) (by
    rw [hz2]
    have h : ((bytes * m : Nat) : Int) ≤ 281474976710656 := by omega
    rwa [Int.natCast_mul] at h) (by omega)
  simp only [Int.toNat_natCast, hz1, Nat.mul_one] at hr
  exact hr

end

/-- A row that has just been laid. -/
theorem Rd.litAt (w : World) (k : IntKind) (e : TypeId) (cs : Array Value) (xs : List Int) (g : Nat) (hg : g = w.heap.size) (hc : cs.toList = nums k xs) (hm : xs.length ≤ 9223372036854775807) :
    Rd (w.alloc (.cells cs e)) k (some ⟨g, 0, none⟩) xs := by
  subst hg
  obtain ⟨a', c', e', h⟩ := (Row.lit w k e cs xs hc hm).rd
  cases e'
  exact h
theorem Rd.lit0 (w : World) (k : IntKind) (e : TypeId) (cs : Array Value) (xs : List Int) (hc : cs.toList = nums k xs) (hm : xs.length ≤ 9223372036854775807) :
    Rd (w.alloc (.cells cs e)) k (some ⟨w.heap.size, 0, none⟩) xs := Rd.litAt w k e cs xs _ rfl hc hm
theorem Rd.lit1 (w : World) (o : Obj) (k : IntKind) (e : TypeId) (cs : Array Value) (xs : List Int) (hc : cs.toList = nums k xs) (hm : xs.length ≤ 9223372036854775807) :
    Rd ((w.alloc o).alloc (.cells cs e)) k (some ⟨w.heap.size + 1, 0, none⟩) xs := Rd.litAt _ k e cs xs _ (by simp) hc hm
theorem Row.rdAt {w : World} {k : IntKind} {e : TypeId} {a : Option Addr} {n c : Nat} {xs : List Int} (h : Row w k e (.slice a n c) xs) : Rd w k a xs := by
  obtain ⟨a', c', e', h'⟩ := h.rd
  cases e'
  exact h'

/-- make([]T, 0, m) -/
theorem Row.madeRoom (w : World) (k : IntKind) (e : TypeId) (m : Nat) (hm : m ≤ 9223372036854775807) :
    Row (w.alloc (.cells (madeCells #[.int k 0] m) e)) k e (.slice (some ⟨w.heap.size, 0, none⟩) 0 m) [] :=
  World.ownsRow_made w _ m (Nat.zero_le _) (by simp only [maxLen]; exact hm) (by rw [size_madeCells, Nat.mul_one])

end Go.Proofs.YtofkiimaoahfjaaDoor
