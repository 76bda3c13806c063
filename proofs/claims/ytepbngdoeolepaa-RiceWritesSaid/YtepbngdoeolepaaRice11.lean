/-
  Layer 6 (rice): what Write wants: the parts' numbers, the blocks that stand while bits are put.
-/
import Derived.Test.YtepbngdoeolepaaRice10
set_option linter.unusedVariables false
set_option linter.unusedSimpArgs false
namespace Go.Proofs.Ytepbngdoeolepaa
open Go.RowKit Go.Proofs.Ytepbngdoeolepaa.Pure

theorem candGo_parts (m : Nat) : ∀ (ps : List (List Int)) (acc : List T3) (s : Int), (candGo m ps acc s).2.2 = true → (candGo m ps acc s).1 = acc ++ ps.map (fun c => (bestS c m).1) := by
  intro ps
  induction ps with
  | nil => intro acc s h; simp [candGo]
  | cons c ps ih =>
    intro acc s h
    unfold candGo at h ⊢
    split at h
    · rename_i hb
      rw [if_pos hb, ih _ _ h]
      simp
    · cases h
theorem loopK_k (F : List Int) (n : Nat) : 0 ≤ (loopK F n).1.1 ∧ (loopK F n).1.1 ≤ n ∧ (loopK F n).1.2.1 = 0 := by
  induction n with
  | zero => simp [loopK]
  | succ n ih =>
    rw [loopK_succ]
    unfold stepK
    split
    · refine ⟨?_, ?_, rfl⟩
      · show (0 : Int) ≤ (n : Int); omega
      · show (n : Int) ≤ ((n + 1 : Nat) : Int); omega
    · obtain ⟨a, b, c⟩ := ih
      exact ⟨a, by omega, c⟩
theorem escS_le (m : Nat) (hm : m ≤ 1) : escS m ≤ 31 := by rcases (show m = 0 ∨ m = 1 by omega) with rfl | rfl <;> decide
theorem bestS_k (c : List Int) (m : Nat) (hm : m ≤ 1) : 0 ≤ (bestS c m).1.1 ∧ (bestS c m).1.1 ≤ 31 ∧ 0 ≤ (bestS c m).1.2.1 ∧ (bestS c m).1.2.1 ≤ 65 := by
  have hE := escS_le m hm
  obtain ⟨a, b, d⟩ := loopK_k (c.map foldS) (escS m)
  have hw := widthS_range c
  unfold bestS
  split
  · refine ⟨?_, ?_, hw.1, hw.2⟩
    · show (0 : Int) ≤ (escS m : Int); omega
    · show ((escS m : Nat) : Int) ≤ 31; omega
  · exact ⟨a, by omega, by omega, by omega⟩
theorem putB_le (n k : Int) : (putB n k).length ≤ 32 := by
  unfold putB
  split
  · rename_i h
    rw [bitsN_length]
    unfold putE at h
    split at h
    · cases h
    · omega
  · simp
theorem psB_le (n k : Int) : (psB n k).length ≤ 32 := by
  unfold psB
  split
  · rename_i h
    rw [bitsN_length]
    unfold psE at h
    split at h
    · cases h
    · omega
  · simp
theorem unB_le (n : Int) : (unB n).length ≤ 65537 := by
  unfold unB
  split
  · rename_i h
    unfold unE at h
    split at h
    · cases h
    · simp; omega
  · simp
theorem numB_le (k wd : Int) (esc : Bool) (n : Int) : (numB k wd esc n).length ≤ 65600 := by
  unfold numB
  split
  · have := psB_le n wd; omega
  · have h1 := unB_le (foldS n / 2 ^ k.toNat)
    have h2 := putB_le (foldS n % 2 ^ k.toNat) k
    rw [List.length_append]
    omega
theorem numsB_le (k wd : Int) (esc : Bool) (c : List Int) : (c.flatMap (numB k wd esc)).length ≤ 65600 * c.length := by
  induction c with
  | nil => simp
  | cons n c ih =>
    have := numB_le k wd esc n
    rw [List.flatMap_cons, List.length_append, List.length_cons]
    omega
theorem partB_le (m : Nat) (y : T3) (c : List Int) (hc : c.length ≤ 600) : (partB m y c).length ≤ 40000000 := by
  have h1 := putB_le y.1 ((4 + m : Nat) : Int)
  have h2 := putB_le y.2.1 5
  have h3 := numsB_le y.1 y.2.1 (decide (y.1 = (escS m : Int))) c
  have h4 : (if y.1 = (escS m : Int) then putB y.2.1 5 else []).length ≤ 32 := by split; exact h2; simp
  unfold partB
  rw [List.length_append, List.length_append]
  omega
theorem partsB_snoc (m : Nat) : ∀ (ys : List T3) (cs : List (List Int)) (j : Nat) (h1 : j < ys.length) (h2 : j < cs.length), partsB m (ys.take (j + 1)) (cs.take (j + 1)) = partsB m (ys.take j) (cs.take j) ++ partB m ys[j] cs[j] := by
  intro ys
  induction ys with
  | nil => intro cs j h1; simp at h1
  | cons y ys ih =>
    intro cs j h1 h2
    cases cs with
    | nil => simp at h2
    | cons c cs =>
      cases j with
      | zero => simp [partsB]
      | succ j =>
        have := ih cs j (by simpa using h1) (by simpa using h2)
        simp only [List.take_succ_cons, partsB, List.getElem_cons_succ]
        rw [this, List.append_assoc]

/-- A Writer at pw, and what Write has laid beside it: the plan's block, its parts, the cut's row, the numbers. -/
structure WB6 (w0 wr : World) (pw : Nat) (sv : Value) (l : List Bool) (bs : List Nat) (g8 : Nat) (m p : Int) (v : Value) (ps : List T3) (s : Int) (v39 : Value) (vs : List Value) (a : Option Addr) (L : List Int) : Prop where
  wo : WO w0 wr pw sv l bs
  quad : Quad wr g8 59 (.int .i64 m) (.int .i64 p) v (.int .i64 s)
  rowT : RowT wr 74 v ps
  rowV : RowV wr 22 v39 vs
  rd : Rd wr .i64 a L
  mem8 : g8 ∈ bs
  memT : ∀ b, b ∈ fp v → b ∈ bs
  memV : ∀ b, b ∈ fp v39 → b ∈ bs
  memL : ∀ ad, a = some ad → 0 < L.length → ad.block ∈ bs
section
variable {w0 wr w' : World} {pw : Nat} {sv : Value} {l l2 : List Bool} {bs : List Nat} {g8 : Nat} {m p : Int} {v : Value} {ps : List T3} {s : Int} {v39 : Value} {vs : List Value} {a : Option Addr} {L : List Int}
theorem WB6.put (h : WB6 w0 wr pw sv l bs g8 m p v ps s v39 vs a L) (h2 : WO w0 w' pw sv l2 bs) (hs : Same bs wr w') : WB6 w0 w' pw sv l2 bs g8 m p v ps s v39 vs a L :=
  ⟨h2, h.quad.same hs h.mem8, h.rowT.same hs h.memT, h.rowV.same hs h.memV, h.rd.same hs h.memL, h.mem8, h.memT, h.memV, h.memL⟩
theorem WB6.new (h : WB6 w0 wr pw sv l bs g8 m p v ps s v39 vs a L) (hk : Keeps [] wr w') : WB6 w0 w' pw sv l bs g8 m p v ps s v39 vs a L := h.put (h.wo.new hk) (h.wo.same hk)
theorem WB6.grow (h : WB6 w0 wr pw sv l bs g8 m p v ps s v39 vs a L) (hk : Keeps [] wr w') (cs : List Nat) (hc : ∀ b, b ∈ cs → wr.heap.size ≤ b ∧ b < w'.heap.size) : WB6 w0 w' pw sv l (cs ++ bs) g8 m p v ps s v39 vs a L := by
  have h1 := h.new hk
  exact ⟨h.wo.grow hk cs hc, h1.quad, h1.rowT, h1.rowV, h1.rd, List.mem_append_right _ h.mem8, fun b hb => List.mem_append_right _ (h.memT b hb), fun b hb => List.mem_append_right _ (h.memV b hb), fun ad e hl => List.mem_append_right _ (h.memL ad e hl)⟩
theorem WB6.less {cs : List Nat} (h : WB6 w0 wr pw sv l (cs ++ bs) g8 m p v ps s v39 vs a L) (h8 : g8 ∈ bs) (hT : ∀ b, b ∈ fp v → b ∈ bs) (hV : ∀ b, b ∈ fp v39 → b ∈ bs) (hL : ∀ ad, a = some ad → 0 < L.length → ad.block ∈ bs) : WB6 w0 wr pw sv l bs g8 m p v ps s v39 vs a L :=
  ⟨h.wo.less (fun b hb => List.mem_append_right _ hb), h.quad, h.rowT, h.rowV, h.rd, h8, hT, hV, hL⟩
end
end Go.Proofs.Ytepbngdoeolepaa
