/-
  Layer 6 (rice): rows of slices; cut.
-/
import Derived.Test.YtepbngdoeolepaaRice3
set_option linter.unusedVariables false
set_option linter.unusedSimpArgs false
namespace Go.Proofs.Ytepbngdoeolepaa
open Go.RowKit

theorem info_sl : (Try.prog.info? 22).map (fun i => (i.zero, i.size, i.bytes)) = some (some (.slice none 0 0), 1, 24) := by kernel_rfl

/-- v is nil or a row of its own, which holds these values, one cell each. -/
def RowV (w : World) (e : TypeId) (v : Value) (xs : List Value) : Prop := w.ownsRow 0 e 1 v xs.length xs
namespace RowV
variable {w w' : World} {e : TypeId} {v : Value} {xs : List Value}
theorem keeps (h : RowV w e v xs) {F : List Nat} (hk : Keeps F w w') (hd : ∀ b, b ∈ fp v → b ∉ F) : RowV w' e v xs := by
  refine ⟨h.1, ?_⟩
  rcases h.2 with hn | ⟨g, cap, cur, rfl, hb, hg, rest⟩
  · exact .inl hn
  · refine .inr ⟨g, cap, cur, rfl, hb, ?_, rest⟩
    rw [hk.block g (Array.getElem?_eq_some_iff.1 hg).1 (hd g (by simp [fp, Value.ownBlock]))]
    exact hg
theorem new (h : RowV w e v xs) (hk : Keeps [] w w') : RowV w' e v xs := h.keeps hk (fun _ _ => by simp)
theorem lt (h : RowV w e v xs) : ∀ b, b ∈ fp v → b < w.heap.size := fun b hb => (World.ownsRow.lt h b (mem_fp.1 hb)).2
theorem slice (h : RowV w e v xs) : ∃ a cap, v = .slice a xs.length cap := by
  rcases h.2 with ⟨rfl, h0⟩ | ⟨g, cap, cur, rfl, _⟩
  · exact ⟨none, 0, by rw [h0]⟩
  · exact ⟨_, cap, rfl⟩
theorem form (h : RowV w e v xs) (hn : 0 < xs.length) : ∃ g cap, v = .slice (some ⟨g, 0, none⟩) xs.length cap := by
  rcases h.2 with ⟨_, h0⟩ | ⟨g, cap, cur, rfl, _⟩
  · omega
  · exact ⟨g, cap, rfl⟩
theorem cell {g n cap : Nat} (h : RowV w e (.slice (some ⟨g, 0, none⟩) n cap) xs) (j : Nat) (hj : j < xs.length) : w.cell? ⟨g, j, none⟩ = some xs[j] := by
  obtain ⟨a', c', e⟩ := h.slice
  simp only [Value.slice.injEq] at e
  obtain ⟨-, rfl, -⟩ := e
  rw [World.ownsRow.cellAt h j (by omega)]
  simp [hj]
theorem lit1 (w : World) (e : TypeId) (x : Value) : RowV (w.alloc (.cells #[x] e)) e (.slice (some ⟨w.heap.size, 0, none⟩) 1 1) [x] :=
  World.ownsRow_lit (base := 0) (e := e) (size := 1) w #[x] 1 (Nat.zero_le _) (by simp [maxLen]) rfl
theorem len_le (h : RowV w e v xs) : xs.length ≤ 9223372036854775807 := by
  rcases h.2 with ⟨_, h0⟩ | ⟨g, cap, cur, rfl, _, _, h1, h2, _⟩
  · omega
  · simp only [maxLen] at h2; omega
end RowV

/-- append(v, x), x a value of one cell. -/
theorem wp_appV {P : Program} {ops : Array Oper} {rest : List Oper} {o : Oper} {a : Act} {Q : Exit → Act → World → Prop} {W : World} (hgd : o.guard = none) (s x : Operand) (t e : TypeId) (z : Value) (bytes : Nat)
    (ho : o.op = .call { callee := .builtin .append, args := #[s, x], argTypes := #[t, t] })
    (ht : P.underlying t = some (.slice e)) (hinfo : (P.info? e).map (fun i => (i.zero, i.size, i.bytes)) = some (some z, 1, bytes)) (hz : z.cells.size = 1)
    (v : Value) (xs : List Value) (y : Value) (hy : y.oneCell' = true) (hs : a.eval s = v) (hx : a.eval x = .slice (some ⟨W.heap.size, 0, none⟩) 1 1) (HR : RowV W e v xs) (hl : (xs.length + 1) * bytes ≤ 140737488355328) (hl2 : xs.length ≤ 1000000000)
    (h : ∀ v1 w1, RowV w1 e v1 (xs ++ [y]) → Keeps (fp v) W w1 → (∀ b, b ∈ fp v1 → b ∈ fp v ∨ W.heap.size ≤ b) → wpList P ops Q rest (a.put o.dst v1) w1) :
    wpList P ops Q (o :: rest) a (W.alloc (.cells #[y] e)) := by
  obtain ⟨i0, hi, hzz⟩ := Option.map_eq_some_iff.1 hinfo
  simp only [Prod.mk.injEq] at hzz
  obtain ⟨hz0, hz1, hz2⟩ := hzz
  have hk : Keeps [] W (W.alloc (.cells #[y] e)) := (Keeps.refl _ _).alloc _
  have HY := RowV.lit1 W e y
  refine wpList_append_own_at _ hgd s x t ho 0 e i0 z 1 bytes ht hi hz0 hz1 hz2 hz (by omega) v xs.length xs hs (HR.keeps hk (fun _ _ => by simp)) ⟨W.heap.size, 0, none⟩ 1 1 [y] hx rfl
    (fun j u hj => ?_) (fun u hu => ?_) (by simp only [maxLen]; omega) hl (Nat.zero_le _) ?_
  · match j, hj with
    | 0, hj => cases hj; exact HY.cell 0 (by simp)
  · rw [List.mem_singleton] at hu; subst hu; exact hy
  · intro v1 w1 hown hg _ hat
    refine h v1 w1 ?_ (((Keeps.refl _ _).alloc _).grown hg (fun k hk => .inl (mem_fp.2 hk))) (fun b hb => ?_)
    · unfold RowV
      rw [List.length_append]
      simpa using hown
    · rcases fp_grown hat b hb with h4 | h4
      · exact .inl h4
      · rw [World.size_alloc] at h4; exact .inr (by omega)

/-- The slice reads as the list. -/
def PartOK (w : World) (v : Value) (ps : List Int) : Prop := ∃ a c, v = .slice a ps.length c ∧ Rd w .i64 a ps ∧ ps.length ≤ c
/-- Slices that read as lists. -/
def PartsOK (w : World) : List Value → List (List Int) → Prop
  | [], [] => True
  | v :: vs, p :: ps => PartOK w v p ∧ PartsOK w vs ps
  | _, _ => False
theorem PartOK.new {w w' : World} {v : Value} {p : List Int} (h : PartOK w v p) (hk : Keeps [] w w') : PartOK w' v p := by
  obtain ⟨a, c, h1, h2, h3⟩ := h
  exact ⟨a, c, h1, h2.new hk, h3⟩
theorem PartsOK.new {w w' : World} (hk : Keeps [] w w') : ∀ {vs : List Value} {ps : List (List Int)}, PartsOK w vs ps → PartsOK w' vs ps
  | [], [], h => h
  | v :: vs, p :: ps, h => ⟨h.1.new hk, PartsOK.new hk h.2⟩
  | [], _ :: _, h => h
  | _ :: _, [], h => h
theorem PartsOK.snoc {w : World} {v : Value} {p : List Int} (hp : PartOK w v p) : ∀ {vs : List Value} {ps : List (List Int)}, PartsOK w vs ps → PartsOK w (vs ++ [v]) (ps ++ [p])
  | [], [], _ => ⟨hp, trivial⟩
  | _ :: vs, _ :: ps, h => ⟨h.1, PartsOK.snoc hp h.2⟩
  | [], _ :: _, h => h.elim
  | _ :: _, [], h => h.elim
theorem PartsOK.length {w : World} : ∀ {vs : List Value} {ps : List (List Int)}, PartsOK w vs ps → vs.length = ps.length
  | [], [], _ => rfl
  | _ :: vs, _ :: ps, h => by rw [List.length_cons, List.length_cons, PartsOK.length h.2]
  | [], _ :: _, h => h.elim
  | _ :: _, [], h => h.elim
theorem PartsOK.at_ {w : World} : ∀ {vs : List Value} {ps : List (List Int)}, PartsOK w vs ps → ∀ i (h1 : i < vs.length) (h2 : i < ps.length), PartOK w vs[i] ps[i]
  | v :: vs, p :: ps, h, 0, _, _ => h.1
  | v :: vs, p :: ps, h, i + 1, h1, h2 => PartsOK.at_ h.2 i (by simpa using h1) (by simpa using h2)

/-! ### What cut computes -/
def chunks (size : Nat) : Nat → List Int → List (List Int)
  | 0, _ => []
  | n + 1, R => R.take size :: chunks size n (R.drop size)
def partsS (L : List Int) (order p : Nat) : List (List Int) :=
  L.take ((L.length + order) / 2 ^ p - order) :: chunks ((L.length + order) / 2 ^ p) (2 ^ p - 1) (L.drop ((L.length + order) / 2 ^ p - order))
theorem chunks_length (size : Nat) : ∀ n R, (chunks size n R).length = n := by
  intro n
  induction n with
  | zero => intro R; rfl
  | succ n ih => intro R; simp [chunks, ih]
theorem partsS_length (L : List Int) (order p : Nat) : (partsS L order p).length = 2 ^ p := by
  have : 0 < 2 ^ p := Nat.pow_pos (by omega)
  simp [partsS, chunks_length]
  omega
theorem fits_facts (n order p : Nat) (h : fitsB n order p = true) : ∃ size, n / 2 ^ p = size ∧ 2 ^ p * size = n ∧ order ≤ size := by
  have h := of_decide_eq_true h
  refine ⟨_, rfl, ?_, h.2⟩
  have := Nat.div_add_mod n (2 ^ p)
  omega
end Go.Proofs.Ytepbngdoeolepaa
