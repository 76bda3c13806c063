/-
  What becomes of the world, over any program: which blocks may have turned ('Keeps'), rows of numbers that a call owns ('Row'), rows that it reads ('Rd').
-/
import Derived.Below
import Derived.OwnWalk
import Derived.Deep.OwnRows
import Derived.Deep.AppendLies
import Derived.Deep.Draws
import Derived.Laws.BytesArg
import Derived.Laws.MakeOwn
import Derived.WalkKit
import Derived.Handy
import Derived.Deep.LoopGhost
import Derived.Maps.AppendAt
import Derived.Lib.Hide
import Derived.Deep.DeepCutAuto
import Derived.Deep.CutBlock
import Derived.Deep.QuietTactic
import Derived.BigQuiet
import Derived.StillTailTactics
import Derived.Outline
import Derived.Deep.RegionWith
import Derived.RowKit
import Derived.Test.YtofkiimaoahfjaaDoorZPure
set_option maxRecDepth 100000
set_option linter.unusedVariables false
set_option linter.unusedSimpArgs false
namespace Go.Proofs.YtofkiimaoahfjaaDoor
open Go.RowKit

/-- Of the blocks that were there only those of F may have turned. -/
structure Keeps (F : List Nat) (w w' : World) : Prop where
  os : w'.os = w.os
  tape : w'.tape = w.tape
  output : w'.output = w.output
  size : w.heap.size ≤ w'.heap.size
  block : ∀ k, k < w.heap.size → k ∉ F → w'.heap[k]? = w.heap[k]?

namespace Keeps
variable {F G : List Nat} {w w' w1 w2 : World}
theorem refl (F : List Nat) (w : World) : Keeps F w w := ⟨rfl, rfl, rfl, Nat.le_refl _, fun _ _ _ => rfl⟩
theorem trans (h : Keeps F w w1) (k : Keeps F w1 w2) : Keeps F w w2 :=
  ⟨k.os.trans h.os, k.tape.trans h.tape, k.output.trans h.output, Nat.le_trans h.size k.size,
    fun i hi hF => (k.block i (Nat.lt_of_lt_of_le hi h.size) hF).trans (h.block i hi hF)⟩
theorem mono (h : Keeps F w w') (hF : ∀ k, k ∈ F → k < w.heap.size → k ∈ G) : Keeps G w w' :=
  ⟨h.os, h.tape, h.output, h.size, fun i hi hG => h.block i hi (fun e => hG (hF i e hi))⟩
theorem alloc (h : Keeps F w w1) (o : Obj) : Keeps F w (w1.alloc o) :=
  h.trans ⟨rfl, rfl, rfl, by simp, fun k hk _ => Below.heap_alloc _ _ _ hk⟩
theorem drew (h : Keeps F w w1) : Keeps F w w1.drew := ⟨h.os, h.tape, h.output, h.size, h.block⟩
theorem drewN (h : Keeps F w w1) (n : Nat) : Keeps F w (w1.drewN n) := ⟨h.os, h.tape, h.output, h.size, h.block⟩
theorem setCell (h : Keeps F w w1) {a : Addr} (ha : a.block ∈ F ∨ w.heap.size ≤ a.block) (u : Value) : Keeps F w (w1.setCell a u) := by
  refine ⟨h.os, h.tape, h.output, by simpa [World.setCell] using h.size, fun k hk hF => ?_⟩
  rw [Below.heap_setCell _ _ _ _ (by rintro rfl; rcases ha with ha | ha; exact hF ha; omega)]
  exact h.block k hk hF
theorem grown (h : Keeps F w w1) {row : Option Nat} (hg : w1.grownBy w2 row) (hr : ∀ k, row = some k → k ∈ F ∨ w.heap.size ≤ k) : Keeps F w w2 := by
  refine ⟨hg.os.trans h.os, hg.tape.trans h.tape, hg.output.trans h.output, Nat.le_trans h.size hg.size, fun k hk hF => ?_⟩
  rw [hg.block k (Nat.lt_of_lt_of_le hk h.size) (fun e => by rcases hr k e.symm with h' | h'; exact hF h'; omega)]
  exact h.block k hk hF
theorem then_ (h : Keeps F w w1) (k : Keeps G w1 w2) (hG : ∀ b, b ∈ G → b < w.heap.size → b ∈ F) : Keeps F w w2 :=
  ⟨k.os.trans h.os, k.tape.trans h.tape, k.output.trans h.output, Nat.le_trans h.size k.size,
    fun i hi hF => (k.block i (Nat.lt_of_lt_of_le hi h.size) (fun e => hF (hG i e hi))).trans (h.block i hi hF)⟩
theorem new (h : Keeps F w w1) (k : Keeps [] w1 w2) : Keeps F w w2 := h.then_ k (fun _ h => by cases h)
theorem below (h : Keeps [] w w') : Below w.heap.size w w' := ⟨h.os, h.tape, h.output, h.size, fun k hk => h.block k hk (by simp)⟩
theorem of_below (h : Below w.heap.size w w') : Keeps [] w w' := ⟨h.os, h.tape, h.output, h.size, fun k hk _ => h.block k hk⟩
theorem cell (h : Keeps F w w') {a : Addr} {v : Value} (hc : w.cell? a = some v) (ha : a.block ∉ F) : w'.cell? a = some v :=
  (World.cell?_of_block (w := w) (h.block a.block (World.block_lt_of_cell? w a hc) ha)).trans hc
end Keeps

/-- The blocks that a slice leads to: one, or none. -/
def fp (v : Value) : List Nat := v.ownBlock.toList
theorem mem_fp {v : Value} {b : Nat} : b ∈ fp v ↔ v.ownBlock = some b := by simp [fp]
theorem fp_nil : fp (.slice none 0 0) = [] := rfl
theorem fp_some (g off n c : Nat) (s : Option Nat) : fp (.slice (some ⟨g, off, s⟩) n c) = [g] := rfl

/-- The number's values. -/
def nums (k : IntKind) (xs : List Int) : List Value := xs.map fun x => .int k x
theorem nums_length (k : IntKind) (xs : List Int) : (nums k xs).length = xs.length := by simp [nums]
theorem nums_append (k : IntKind) (xs ys : List Int) : nums k (xs ++ ys) = nums k xs ++ nums k ys := by simp [nums]
theorem nums_set (k : IntKind) (xs : List Int) (j : Nat) (x : Int) : (nums k xs).set j (.int k x) = nums k (xs.set j x) := by simp [nums]
theorem nums_get (k : IntKind) (xs : List Int) (j : Nat) (h : j < xs.length) : (nums k xs)[j]? = some (.int k xs[j]) := by simp [nums, h]

/-- v is nil or a row of its own, which holds the numbers xs. -/
def Row (w : World) (k : IntKind) (e : TypeId) (v : Value) (xs : List Int) : Prop := w.ownsRow 0 e 1 v xs.length (nums k xs)

namespace Row
variable {w w' : World} {k : IntKind} {e : TypeId} {v : Value} {xs : List Int}
theorem keeps (h : Row w k e v xs) {F : List Nat} (hk : Keeps F w w') (hd : ∀ b, b ∈ fp v → b ∉ F) : Row w' k e v xs := by
  refine ⟨h.1, ?_⟩
  rcases h.2 with hn | ⟨g, cap, cur, rfl, hb, hg, rest⟩
  · exact .inl hn
  · refine .inr ⟨g, cap, cur, rfl, hb, ?_, rest⟩
    rw [hk.block g (Array.getElem?_eq_some_iff.1 hg).1 (hd g (by simp [fp, Value.ownBlock]))]
    exact hg
theorem lt (h : Row w k e v xs) : ∀ b, b ∈ fp v → b < w.heap.size := fun b hb => (World.ownsRow.lt h b (mem_fp.1 hb)).2
theorem nil (w : World) (k : IntKind) (e : TypeId) : Row w k e (.slice none 0 0) [] := World.ownsRow_nil w 0 e 1
/-- A row that holds something has a block. -/
theorem form (h : Row w k e v xs) (hn : 0 < xs.length) : ∃ g cap, v = .slice (some ⟨g, 0, none⟩) xs.length cap := by
  rcases h.2 with ⟨_, h0⟩ | ⟨g, cap, cur, rfl, _⟩
  · omega
  · exact ⟨g, cap, rfl⟩
theorem slice (h : Row w k e v xs) : ∃ a cap, v = .slice a xs.length cap := by
  rcases h.2 with ⟨rfl, h0⟩ | ⟨g, cap, cur, rfl, _⟩
  · exact ⟨none, 0, by rw [h0]⟩
  · exact ⟨_, cap, rfl⟩
theorem len_le (h : Row w k e v xs) : xs.length ≤ 9223372036854775807 := by
  rcases h.2 with ⟨_, h0⟩ | ⟨g, cap, cur, rfl, _, _, h1, h2, _⟩
  · omega
  · simp only [maxLen] at h2; omega
theorem len {a : Option Addr} {n cap : Nat} (h : Row w k e (.slice a n cap) xs) : n = xs.length := by
  obtain ⟨a', c', e⟩ := h.slice
  simp only [Value.slice.injEq] at e
  exact e.2.1
theorem cell {g n cap : Nat} (h : Row w k e (.slice (some ⟨g, 0, none⟩) n cap) xs) (j : Nat) (hj : j < xs.length) : w.cell? ⟨g, j, none⟩ = some (.int k xs[j]) := by
  obtain rfl := h.len
  rw [World.ownsRow.cellAt h j (by omega), nums_get k xs j hj]
theorem frozen {g cap n : Nat} (h : Row w k e (.slice (some ⟨g, 0, none⟩) n cap) xs) (j : Nat) : w.frozen? ⟨g, j, none⟩ = false := by
  rcases h.2 with ⟨h', _⟩ | ⟨g', cap', cur, h', _, hg, _⟩
  · simp at h'
  · simp only [Value.slice.injEq, Option.some.injEq, Addr.mk.injEq, and_true] at h'
    obtain ⟨rfl, -, -⟩ := h'
    exact frozen_of_row w g j cur e hg
theorem set {g n cap : Nat} (h : Row w k e (.slice (some ⟨g, 0, none⟩) n cap) xs) (j : Nat) (x : Int) :
    Row (w.setCell ⟨g, j, none⟩ (.int k x)) k e (.slice (some ⟨g, 0, none⟩) n cap) (xs.set j x) := by
  obtain rfl := h.len
  have := (World.ownsRow.stored h j (.int k x)).1
  rw [nums_set] at this
  unfold Row
  rw [List.length_set]
  exact this
theorem made (w : World) (k : IntKind) (e : TypeId) (m : Nat) (hm : m ≤ 9223372036854775807) :
    Row (w.alloc (.cells (madeCells #[.int k 0] m) e)) k e (.slice (some ⟨w.heap.size, 0, none⟩) m m) (List.replicate m 0) := by
  have := World.ownsRow_lit (base := 0) (e := e) (size := 1) w (madeCells #[.int k 0] m) m (Nat.zero_le _) (by simp only [maxLen]; omega) (by rw [size_madeCells, Nat.mul_one])
  rw [toList_madeCells_one] at this
  unfold Row
  rw [List.length_replicate]
  simpa [nums] using this
theorem lit (w : World) (k : IntKind) (e : TypeId) (cs : Array Value) (xs : List Int) (hc : cs.toList = nums k xs) (hm : xs.length ≤ 9223372036854775807) :
    Row (w.alloc (.cells cs e)) k e (.slice (some ⟨w.heap.size, 0, none⟩) xs.length xs.length) xs := by
  have := World.ownsRow_lit (base := 0) (e := e) (size := 1) w cs xs.length (Nat.zero_le _) (by simp only [maxLen]; omega) (by rw [← Array.length_toList, hc, nums_length, Nat.mul_one])
  rw [hc] at this
  exact this
end Row

/-- The slice at 'a' reads as xs. -/
structure Rd (w : World) (k : IntKind) (a : Option Addr) (xs : List Int) : Prop where
  small : xs.length ≤ 9223372036854775807
  at_ : ∀ i (h : i < xs.length), ∃ b o, a = some ⟨b, o, none⟩ ∧ w.cell? ⟨b, o + i, none⟩ = some (.int k xs[i])

namespace Rd
variable {w w' : World} {k : IntKind} {a : Option Addr} {xs : List Int}
theorem nil (w : World) (k : IntKind) (a : Option Addr) : Rd w k a [] := ⟨by simp, fun i h => by simp at h⟩
theorem keeps (h : Rd w k a xs) {F : List Nat} (hk : Keeps F w w') (hd : ∀ ad, a = some ad → ad.block ∉ F) : Rd w' k a xs :=
  ⟨h.small, fun i hi => by
    obtain ⟨b, o, rfl, hc⟩ := h.at_ i hi
    exact ⟨b, o, rfl, hk.cell hc (hd ⟨b, o, none⟩ rfl)⟩⟩
theorem new (h : Rd w k a xs) (hk : Keeps [] w w') : Rd w' k a xs := h.keeps hk (fun _ _ => by simp)
/-- A slice that holds something has an address. -/
theorem form (h : Rd w k a xs) (hn : 0 < xs.length) : ∃ b o, a = some ⟨b, o, none⟩ ∧ ∀ i (h : i < xs.length), w.cell? ⟨b, o + i, none⟩ = some (.int k xs[i]) := by
  obtain ⟨b, o, rfl, _⟩ := h.at_ 0 hn
  refine ⟨b, o, rfl, fun i hi => ?_⟩
  obtain ⟨b', o', e, hc⟩ := h.at_ i hi
  cases e
  exact hc
theorem tail (h : Rd w k a xs) {b o : Nat} (ha : a = some ⟨b, o, none⟩) (j : Nat) : Rd w k (some ⟨b, o + j, none⟩) (xs.drop j) :=
  ⟨by have := h.small; simp; omega, fun i hi => by
    have hi' : j + i < xs.length := by simp at hi; omega
    obtain ⟨b', o', e, hc⟩ := h.at_ (j + i) hi'
    rw [ha] at e; cases e
    exact ⟨b, o + j, rfl, by rw [List.getElem_drop]; rw [Nat.add_assoc]; exact hc⟩⟩
theorem take (h : Rd w k a xs) (j : Nat) : Rd w k a (xs.take j) :=
  ⟨by have := h.small; simp; omega, fun i hi => by
    have hi' : i < xs.length := by simp at hi; omega
    obtain ⟨b', o', e, hc⟩ := h.at_ i hi'
    exact ⟨b', o', e, by rw [List.getElem_take]; exact hc⟩⟩
theorem lt (h : Rd w k a xs) (hn : 0 < xs.length) : ∀ ad, a = some ad → ad.block < w.heap.size := by
  intro ad e
  obtain ⟨b, o, rfl, hc⟩ := h.form hn
  cases e
  exact World.block_lt_of_cell? w _ (hc 0 hn)
end Rd

theorem Row.rd {w : World} {k : IntKind} {e : TypeId} {v : Value} {xs : List Int} (h : Row w k e v xs) : ∃ a cap, v = .slice a xs.length cap ∧ Rd w k a xs := by
  rcases Nat.eq_zero_or_pos xs.length with h0 | h0
  · obtain ⟨a, cap, rfl⟩ := h.slice
    exact ⟨a, cap, rfl, ⟨by omega, fun i hi => by omega⟩⟩
  · obtain ⟨g, cap, rfl⟩ := h.form h0
    exact ⟨_, cap, rfl, ⟨h.len_le, fun i hi => ⟨g, 0, rfl, by rw [Nat.zero_add]; exact h.cell i hi⟩⟩⟩

/-- string(b) -/
theorem Rd.text {P : Program} {w : World} {a : Option Addr} {xs : List Int} (h : Rd w .u8 a xs) (src e dst : TypeId) (hs : P.underlying src = some (.slice e)) (he : P.underlying e = some (.int .u8)) (hd : P.underlying dst = some .string) (c : Nat) :
    (convert src dst (.slice a xs.length c)).run P w = .ok (.string (strOfNums xs)) w := by
  rcases Nat.eq_zero_or_pos xs.length with h0 | h0
  · obtain rfl : xs = [] := List.eq_nil_of_length_eq_zero h0
    cases a with
    | none => exact run_convert_bytes_nil w src e hs he _ c dst hd
    | some ad =>
      have := run_convert_bytes_string (P := P) w src dst e (some ad) 0 c hs he hd
      simp only [List.length_nil]
      rw [this]
      simp [Conv.bytesToString, loadCells, loadCellsFrom, strOfNums]
      rfl
  · obtain ⟨b, o, rfl, hc⟩ := h.form h0
    refine run_convert_bytes_arg w src e hs he b o xs.length c xs rfl (fun i hi => ?_) dst hd
    rw [hc i hi]
    simp [List.getD_eq_getElem?_getD, hi]

theorem Row.text {P : Program} {w : World} {e : TypeId} {a : Option Addr} {n c : Nat} {xs : List Int} (h : Row w .u8 e (.slice a n c) xs) (hn : xs.length = n) (src e' dst : TypeId) (hs : P.underlying src = some (.slice e')) (he : P.underlying e' = some (.int .u8)) (hd : P.underlying dst = some .string) :
    (convert src dst (.slice a n c)).run P w = .ok (.string (strOfNums xs)) w := by
  subst hn
  obtain ⟨a', cap', ha, hr⟩ := h.rd
  simp only [Value.slice.injEq, true_and] at ha
  obtain ⟨rfl, rfl⟩ := ha
  exact hr.text src e' dst hs he hd c

theorem Row.textv {P : Program} {w : World} {e : TypeId} {v : Value} {xs : List Int} (h : Row w .u8 e v xs) (src e' dst : TypeId) (hs : P.underlying src = some (.slice e')) (he : P.underlying e' = some (.int .u8)) (hd : P.underlying dst = some .string) :
    (convert src dst v).run P w = .ok (.string (strOfNums xs)) w := by
  obtain ⟨a, cap, rfl, hr⟩ := h.rd
  exact hr.text src e' dst hs he hd cap

section
variable {P : Program} {ops : Array Oper} {rest : List Oper} {o : Oper} {a : Act} {Q : Exit → Act → World → Prop}

theorem fp_grown {v v1 : Value} {W : World} (hat : v1.ownBlock = v.ownBlock ∨ v1.ownBlock = some W.heap.size) : ∀ b, b ∈ fp v1 → b ∈ fp v ∨ W.heap.size ≤ b := by
  intro b hb
  rw [mem_fp] at hb ⊢
  rcases hat with h | h
  · exact .inl (by rw [← h]; exact hb)
  · rw [h] at hb; cases hb; exact .inr (Nat.le_refl _)

/-- append(v, xs...): what is appended is read at 'ad'. -/
theorem wp_appN {W : World} (hgd : o.guard = none) (s x : Operand) (t e : TypeId) (k : IntKind) (bytes : Nat)
    (ho : o.op = .call { callee := .builtin .append, args := #[s, x], argTypes := #[t, t] })
    (ht : P.underlying t = some (.slice e)) (hinfo : (P.info? e).map (fun i => (i.zero, i.size, i.bytes)) = some (some (.int k 0), 1, bytes)) (hb0 : 0 < bytes)
    (v : Value) (xs ys : List Int) (hs : a.eval s = v) (ad : Addr) (had : ad.spot = none) (c : Nat) (hx : a.eval x = .slice (some ad) ys.length c) (HR : Row W k e v xs)
    (HY : Rd W k (some ad) ys) (hl : (xs.length + ys.length) * bytes ≤ 140737488355328)
    (h : ∀ v1 w1, Row w1 k e v1 (xs ++ ys) → Keeps (fp v) W w1 → (∀ b, b ∈ fp v1 → b ∈ fp v ∨ W.heap.size ≤ b) → wpList P ops Q rest (a.put o.dst v1) w1) :
    wpList P ops Q (o :: rest) a W := by
  obtain ⟨i0, hi, hzz⟩ := Option.map_eq_some_iff.1 hinfo
  simp only [Prod.mk.injEq] at hzz
  obtain ⟨hz0, hz1, hz2⟩ := hzz
  have hlen : xs.length + ys.length ≤ 140737488355328 := Nat.le_trans (Nat.le_mul_of_pos_right _ hb0) hl
  refine wpList_append_own_at W hgd s x t ho 0 e i0 (.int k 0) 1 bytes ht hi hz0 hz1 hz2 rfl (by omega) v xs.length (nums k xs) hs HR ad ys.length c (nums k ys) hx (by rw [nums_length, Nat.mul_one])
    (fun j u hj => ?_) (fun u hu => ?_) (by simp only [maxLen]; omega) hl (Nat.zero_le _) ?_
  · have hjl : j < ys.length := by
      rw [← nums_length k ys]
      exact (List.getElem?_eq_some_iff.1 hj).1
    obtain ⟨b, off, e', hc⟩ := HY.at_ j hjl
    cases e'
    rw [nums_get k ys j hjl] at hj
    cases hj
    unfold Addr.add
    split
    · rename_i h0; subst h0; exact hc
    · exact hc
  · obtain ⟨z, _, rfl⟩ := List.mem_map.1 hu
    rfl
  · intro v1 w1 hown hg _ hat
    refine h v1 w1 ?_ ((Keeps.refl _ _).grown hg (fun k hk => .inl (mem_fp.2 hk))) (fp_grown hat)
    unfold Row
    rw [List.length_append, nums_append]
    exact hown

/-- append(v, xs...), what is appended nil or not. -/
theorem wp_appR {W : World} (hgd : o.guard = none) (s x : Operand) (t e : TypeId) (k : IntKind) (bytes : Nat)
    (ho : o.op = .call { callee := .builtin .append, args := #[s, x], argTypes := #[t, t] })
    (ht : P.underlying t = some (.slice e)) (hinfo : (P.info? e).map (fun i => (i.zero, i.size, i.bytes)) = some (some (.int k 0), 1, bytes)) (hb0 : 0 < bytes)
    (v : Value) (xs ys : List Int) (hs : a.eval s = v) (A : Option Addr) (c : Nat) (hx : a.eval x = .slice A ys.length c) (HR : Row W k e v xs)
    (HY : Rd W k A ys) (hA : A = none → c = 0) (hA2 : ∀ ad, A = some ad → ad.spot = none ∨ ys.length = 0) (hl : (xs.length + ys.length) * bytes ≤ 140737488355328)
    (h : ∀ v1 w1, Row w1 k e v1 (xs ++ ys) → Keeps (fp v) W w1 → (∀ b, b ∈ fp v1 → b ∈ fp v ∨ W.heap.size ≤ b) → wpList P ops Q rest (a.put o.dst v1) w1) :
    wpList P ops Q (o :: rest) a W := by
  cases A with
  | none =>
    have h0 : ys.length = 0 := by
      rcases Nat.eq_zero_or_pos ys.length with h0 | h0
      · exact h0
      · obtain ⟨b, o', e', _⟩ := HY.form h0
        cases e'
    have hys : ys = [] := List.eq_nil_of_length_eq_zero h0
    subst hys
    have hc := hA rfl
    subst hc
    obtain ⟨i0, hi, hzz⟩ := Option.map_eq_some_iff.1 hinfo
    simp only [Prod.mk.injEq] at hzz
    obtain ⟨hz0, hz1, hz2⟩ := hzz
    refine wpList_plain hgd fun K hK => ?_
    have hr := run_append_owned_none (P := P) W 0 t o.type e i0 1 ht hi v xs.length (nums k xs) HR
    unfold Oper.wp execOp
    simp only [ho, resolve, invoke, builtin, Sem.run_bind, Sem.run_pure, Result.andThen_ok, List.map_toArray, List.map_cons, List.map_nil, hs, hx, List.length_nil, hr]
    exact hK _ _ (h v W (by rw [List.append_nil]; exact HR) (Keeps.refl _ _) (fun b hb => .inl hb))
  | some ad =>
    by_cases h0 : ad.spot = none
    · exact wp_appN hgd s x t e k bytes ho ht hinfo hb0 v xs ys hs ad h0 c hx HR HY hl h
    · have h1 : ys.length = 0 := (hA2 ad rfl).resolve_left h0
      have hys : ys = [] := List.eq_nil_of_length_eq_zero h1
      subst hys
      obtain ⟨i0, hi, hzz⟩ := Option.map_eq_some_iff.1 hinfo
      simp only [Prod.mk.injEq] at hzz
      obtain ⟨hz0, hz1, hz2⟩ := hzz
      refine wpList_append_own_at W hgd s x t ho 0 e i0 (.int k 0) 1 bytes ht hi hz0 hz1 hz2 rfl (by omega) v xs.length (nums k xs) hs HR ad 0 c [] hx rfl
        (fun j u hj => by simp at hj) (fun u hu => by cases hu) (by simp only [maxLen]; have := Nat.le_trans (Nat.le_mul_of_pos_right _ hb0) hl; omega) (by simpa using hl) (Nat.zero_le _) ?_
      intro v1 w1 hown hg _ hat
      refine h v1 w1 ?_ ((Keeps.refl _ _).grown hg (fun k hk => .inl (mem_fp.2 hk))) (fp_grown hat)
      unfold Row
      rw [List.append_nil]
      rw [List.append_nil] at hown
      exact hown

/-- append(v, y) -/
theorem wp_app1 {W : World} (hgd : o.guard = none) (s x : Operand) (t e : TypeId) (k : IntKind) (bytes : Nat)
    (ho : o.op = .call { callee := .builtin .append, args := #[s, x], argTypes := #[t, t] })
    (ht : P.underlying t = some (.slice e)) (hinfo : (P.info? e).map (fun i => (i.zero, i.size, i.bytes)) = some (some (.int k 0), 1, bytes)) (hb0 : 0 < bytes)
    (v : Value) (xs : List Int) (y : Int) (hs : a.eval s = v) (hx : a.eval x = .slice (some ⟨W.heap.size, 0, none⟩) 1 1) (HR : Row W k e v xs)
    (hl : (xs.length + 1) * bytes ≤ 140737488355328)
    (h : ∀ v1 w1, Row w1 k e v1 (xs ++ [y]) → Keeps (fp v) W w1 → (∀ b, b ∈ fp v1 → b ∈ fp v ∨ W.heap.size ≤ b) → wpList P ops Q rest (a.put o.dst v1) w1) :
    wpList P ops Q (o :: rest) a (W.alloc (.cells #[.int k y] e)) := by
  have hk : Keeps [] W (W.alloc (.cells #[.int k y] e)) := (Keeps.refl _ _).alloc _
  have HY : Row (W.alloc (.cells #[.int k y] e)) k e (.slice (some ⟨W.heap.size, 0, none⟩) 1 1) [y] := Row.lit W k e #[.int k y] [y] rfl (by simp)
  obtain ⟨a', c', e', hr⟩ := HY.rd
  cases e'
  refine wp_appN hgd s x t e k bytes ho ht hinfo hb0 v xs [y] hs _ rfl 1 hx (HR.keeps hk (fun _ _ => by simp)) hr hl (fun v1 w1 h1 h2 h3 => h v1 w1 h1 ?_ ?_)
  · exact (hk.mono (fun _ hb _ => by cases hb)).trans h2
  · intro b hb
    rcases h3 b hb with h4 | h4
    · exact .inl h4
    · rw [World.size_alloc] at h4; exact .inr (by omega)
end

/-- A slice of whole numbers that came in (as the proof skeleton tells it). -/
def InRow (k : IntKind) (w : World) (a : Option Addr) (len cap : Nat) (zs : List Int) : Prop :=
  (a = none ∧ len = 0 ∧ cap = 0 ∧ zs = []) ∨
  ∃ x, a = some x ∧ len ≤ cap ∧ cap ≤ maxLen ∧ zs.length = cap ∧ (∀ i, i < zs.length → w.cell? (x.add i) = some (.int k (zs.getD i 0))) ∧ ∀ n ∈ zs, (Lit.int k n).wf = true

theorem InRow.rd {k : IntKind} {w : World} {a : Option Addr} {len cap : Nat} {zs : List Int} (h : InRow k w a len cap zs) :
    Rd w k a (zs.take len) ∧ (zs.take len).length = len ∧ (∀ n ∈ zs.take len, (Lit.int k n).wf = true) ∧ len ≤ cap := by
  rcases h with ⟨rfl, rfl, rfl, rfl⟩ | ⟨x, rfl, hlc, hcm, hz, hc, hw⟩
  · exact ⟨Rd.nil _ _ _, rfl, by simp, Nat.le_refl _⟩
  · refine ⟨⟨by simp only [maxLen] at hcm; simp; omega, fun i hi => ?_⟩, by simp; omega, fun n hn => hw n (List.mem_of_mem_take hn), hlc⟩
    have hi' : i < zs.length := by simp at hi; omega
    have hs : x.spot = none := by
      have h0 := hc 0 (by omega)
      rw [show x.add 0 = x from by simp [Addr.add]] at h0
      unfold World.cell? at h0
      split at h0
      · split at h0
        · cases h0
        · rename_i h1; simpa using h1
      · cases h0
    have h1 := hc i hi'
    obtain ⟨b, o, s⟩ := x
    obtain rfl : s = none := hs
    refine ⟨b, o, rfl, ?_⟩
    rw [List.getElem_take]
    have e : zs.getD i 0 = zs[i] := by simp [List.getD_eq_getElem?_getD, hi']
    rw [e] at h1
    unfold Addr.add at h1
    split at h1
    · rename_i h0; subst h0; exact h1
    · exact h1

theorem wf_u8 {x : Int} (h : (Lit.int .u8 x).wf = true) : 0 ≤ x ∧ x ≤ 255 := by
  simp [Lit.wf, IntKind.min, IntKind.max, IntKind.bits, IntKind.signed] at h
  omega
theorem wf_i64 {a : Int} (h : (Lit.int .i64 a).wf = true) : -9223372036854775808 ≤ a ∧ a ≤ 9223372036854775807 := by
  simp [Lit.wf, IntKind.min, IntKind.max, IntKind.bits, IntKind.signed] at h
  omega

theorem Row.drewN {w : World} {k : IntKind} {e : TypeId} {v : Value} {xs : List Int} (h : Row w k e v xs) (n : Nat) : Row (w.drewN n) k e v xs :=
  h.keeps ((Keeps.refl [] w).drewN n) (fun _ _ => by simp)
theorem Rd.drewN {w : World} {k : IntKind} {a : Option Addr} {xs : List Int} (h : Rd w k a xs) (n : Nat) : Rd (w.drewN n) k a xs :=
  h.new ((Keeps.refl [] w).drewN n)
/-- string(v), in whatever world that some draws have left. -/
theorem Row.textN {P : Program} {w : World} {e : TypeId} {v : Value} {xs : List Int} (h : Row w .u8 e v xs) (src e' dst : TypeId) (hs : P.underlying src = some (.slice e')) (he : P.underlying e' = some (.int .u8)) (hd : P.underlying dst = some .string) :
    ∀ n, (convert src dst v).run P (w.drewN n) = .ok (.string (strOfNums xs)) (w.drewN n) := fun n => (h.drewN n).textv src e' dst hs he hd
theorem Rd.textN {P : Program} {w : World} {a : Option Addr} {xs : List Int} (h : Rd w .u8 a xs) (src e dst : TypeId) (hs : P.underlying src = some (.slice e)) (he : P.underlying e = some (.int .u8)) (hd : P.underlying dst = some .string) (m c : Nat) (hm : m = xs.length) :
    ∀ n, (convert src dst (.slice a m c)).run P (w.drewN n) = .ok (.string (strOfNums xs)) (w.drewN n) := fun n => by subst hm; exact (h.drewN n).text src e dst hs he hd c

/-- What InRow tells of the address. -/
theorem InRow.nil_cap {k : IntKind} {w : World} {a : Option Addr} {len cap : Nat} {zs : List Int} (h : InRow k w a len cap zs) : a = none → cap = 0 := by
  rcases h with ⟨rfl, rfl, rfl, rfl⟩ | ⟨x, rfl, _⟩
  · intro _; rfl
  · intro h; cases h
theorem Rd.spot {w : World} {k : IntKind} {a : Option Addr} {xs : List Int} (h : Rd w k a xs) : ∀ ad, a = some ad → ad.spot = none ∨ xs.length = 0 := by
  intro ad e
  rcases Nat.eq_zero_or_pos xs.length with h0 | h0
  · exact .inr h0
  · obtain ⟨b, o, rfl, _⟩ := h.form h0
    cases e
    exact .inl rfl
theorem Row.litNil (w : World) (k : IntKind) (e : TypeId) : Row (w.alloc (.cells #[] e)) k e (.slice (some ⟨w.heap.size, 0, none⟩) 0 0) [] := Row.lit w k e #[] [] rfl (by simp)

theorem strOfNums_inj {a b : List Int} (ha : ∀ x ∈ a, 0 ≤ x ∧ x ≤ 255) (hb : ∀ x ∈ b, 0 ≤ x ∧ x ≤ 255) (h : strOfNums a = strOfNums b) : a = b := by
  have h1 : a.map (fun n => UInt8.ofNat n.toNat) = b.map (fun n => UInt8.ofNat n.toNat) := by
    have := congrArg (fun s : ByteArray => s.data.toList) h
    simpa [strOfNums] using this
  have h2 : ∀ (a b : List Int), (∀ x ∈ a, 0 ≤ x ∧ x ≤ 255) → (∀ x ∈ b, 0 ≤ x ∧ x ≤ 255) → a.map (fun n => UInt8.ofNat n.toNat) = b.map (fun n => UInt8.ofNat n.toNat) → a = b := by
    intro a
    induction a with
    | nil => intro b _ _ h; cases b <;> simp_all
    | cons x a ih =>
      intro b ha hb h
      cases b with
      | nil => simp at h
      | cons y b =>
        simp only [List.map_cons, List.cons.injEq] at h
        have hx := ha x (by simp)
        have hy := hb y (by simp)
        have e : x.toNat = y.toNat := by
          have := congrArg UInt8.toNat h.1
          simp at this
          omega
        rw [ih b (fun z hz => ha z (List.mem_cons_of_mem _ hz)) (fun z hz => hb z (List.mem_cons_of_mem _ hz)) h.2]
        congr 1
        omega
  exact h2 a b ha hb h1

theorem Row.cap_le {w : World} {k : IntKind} {e : TypeId} {a : Option Addr} {n c : Nat} {xs : List Int} (h : Row w k e (.slice a n c) xs) : n ≤ c := by
  rcases h.2 with ⟨h1, h0⟩ | ⟨g, cap, cur, h1, _, _, h2, _⟩
  · cases h1; omega
  · cases h1; exact h2

theorem toList_inj {a b : ByteArray} (h : a.toList = b.toList) : a = b := by
  rw [ByteArray.toList_eq, ByteArray.toList_eq] at h
  exact ByteArray.ext (Array.toList_inj.1 h)
theorem text_ne {a b : ByteArray} (h : a ≠ b) : (a.toList == b.toList) = false := beq_eq_false_iff_ne.2 (fun e => h (toList_inj e))

end Go.Proofs.YtofkiimaoahfjaaDoor
