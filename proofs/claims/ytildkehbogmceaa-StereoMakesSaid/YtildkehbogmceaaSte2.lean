/-
  Layer 8 (stereo): IsInf, side, isMode; rows of values; rows of complex numbers.
-/
import Derived.Test.YtildkehbogmceaaSte1
import Derived.Test.YtildkehbogmceaaApp
set_option linter.unusedVariables false
set_option linter.unusedSimpArgs false
namespace Go.Proofs.Ytildkehbogmceaa
open Go.RowKit

theorem isInf_calls (n : Int) (w : World) (h : Sm n) :
    Calls Try.prog 25 #[.float .f64 (FI n), .int .i64 0] w fun e w' => e = .returned (.bool false) ∧ w' = w := by
  have HA := Lib.hid (fun W => abs_calls n W h)
  have hm := max_FI (n.natAbs : Int) (by have := h.lt; simpa using this)
  go_enter Try.func25, Try.ntmps25
  go_wp2_with (first
    | (go_at_call 26; go_must (refine (HA.out _).mono ?_); rintro e w1 ⟨rfl, rfl⟩))
  go_ret
  exact ⟨rfl, rfl⟩
theorem FI_one : FI 1 = 4607182418800017408 := by decide
theorem mul_one_FI (x : Int) (h : Sm x) : floatBits .mul .f64 (FI x) (FI 1) = some (FI x) := by
  have h2 : (x * 1).natAbs < 2 ^ 53 := by rw [Int.mul_one]; exact h.lt
  have := mul_FI x 1 h.lt (by decide) h2 (by intro _; omega) (by intro hh; omega)
  rw [Int.mul_one] at this
  exact this
/-- A complex number with whole parts. -/
abbrev cx (x y : Int) : Value := .complex .f64 (FI x) (FI y)
theorem run_side (x y : Int) (hx : -100000000 ≤ x ∧ x ≤ 100000000) (hy : -100000000 ≤ y ∧ y ≤ 100000000) (W : World) :
    (binOp .mul 37 (cx x y) (.complex .f64 4607182418800017408 4607182418800017408)).run Try.prog W = .ok (cx (x - y) (x + y)) W := by
  have h1 := mul_one_FI x (by constructor <;> omega)
  have h2 := mul_one_FI y (by constructor <;> omega)
  have hs1 : Sm x := by constructor <;> omega
  have hs2 : Sm y := by constructor <;> omega
  have hs3 : Sm (x - y) := by constructor <;> omega
  have hs4 : Sm (x + y) := by constructor <;> omega
  have h3 : floatBits .sub .f64 (FI x) (FI y) = some (FI (x - y)) := sub_FI x y hs1.lt hs2.lt hs3.lt
  have h4 : floatBits .add .f64 (FI x) (FI y) = some (FI (x + y)) := add_FI x y hs1.lt hs2.lt hs4.lt
  refine run_complex_mul W _ _ _ _ _ _ _ ?_
  unfold cMulBits
  rw [FI_one] at h1 h2
  rw [h1, h2]
  simp only [Option.bind_some, h3, h4]
theorem side_calls (x y : Int) (w : World) (hx : -100000000 ≤ x ∧ x ≤ 100000000) (hy : -100000000 ≤ y ∧ y ≤ 100000000) :
    Calls Try.prog 16 #[cx x y] w fun e w' => e = .returned (.float .f64 (FI (x - y))) ∧ w' = w := by
  have hr := fun W => run_side x y hx hy W
  go_enter Try.func16, Try.ntmps16
  go_wp2
  go_ret
  exact ⟨rfl, rfl⟩
/-- Is it a mode? -/
def modeB (m : Int) : Bool := decide (m = 0 ∨ (8 ≤ m ∧ m ≤ 10))
theorem isMode_calls (m : Int) (w : World) :
    Calls Try.prog 14 #[.int .i64 m] w fun e w' => e = .returned (.bool (modeB m)) ∧ w' = w := by
  by_cases h0 : m = 0
  · subst h0
    go_enter Try.func14, Try.ntmps14
    go_wp2
    go_ret
    exact ⟨rfl, rfl⟩
  · have hb : (m == 0) = false := beq_eq_false_iff_ne.2 h0
    by_cases h8 : 8 ≤ m
    · by_cases h10 : m ≤ 10
      · have e : modeB m = true := decide_eq_true (by omega)
        rw [e]
        clear e
        go_enter Try.func14, Try.ntmps14
        go_wp2
        go_ret
        exact ⟨rfl, rfl⟩
      · have e : modeB m = false := decide_eq_false (by omega)
        rw [e]
        clear e
        go_enter Try.func14, Try.ntmps14
        go_wp2
        go_ret
        exact ⟨rfl, rfl⟩
    · have e : modeB m = false := decide_eq_false (by omega)
      rw [e]
      clear e
      go_enter Try.func14, Try.ntmps14
      go_wp2
      go_ret
      exact ⟨rfl, rfl⟩
/-- v is nil or a row of its own, which holds these values, one cell each. -/
def RowV (w : World) (e : TypeId) (v : Value) (xs : List Value) : Prop := w.ownsRow 0 e 1 v xs.length xs
namespace RowV
variable {w w' : World} {e : TypeId} {v : Value} {xs : List Value}
theorem keeps (h : RowV w e v xs) {F : List Nat} (hk : Keeps F w w') (hd : ∀ b, b ∈ fp v → b ∉ F) : RowV w' e v xs := by
  refine ⟨h.1, ?_⟩
  rcases h.2 with hn | ⟨g, cap, cur, rfl, hb, hg, rest⟩
  · exact .inl hn
  · refine .inr ⟨g, cap, cur, rfl, hb, ?_, rest⟩
    rw [hk.block g (Array.getElem?_eq_some_iff.1 hg).1 (hd g (by simp [fp, Value.ownBlock]))]
    exact hg
theorem new (h : RowV w e v xs) (hk : Keeps [] w w') : RowV w' e v xs := h.keeps hk (fun _ _ => by simp)
theorem lt (h : RowV w e v xs) : ∀ b, b ∈ fp v → b < w.heap.size := fun b hb => (World.ownsRow.lt h b (mem_fp.1 hb)).2
theorem slice (h : RowV w e v xs) : ∃ a cap, v = .slice a xs.length cap := by
  rcases h.2 with ⟨rfl, h0⟩ | ⟨g, cap, cur, rfl, _⟩
  · exact ⟨none, 0, by rw [h0]⟩
  · exact ⟨_, cap, rfl⟩
theorem form (h : RowV w e v xs) (hn : 0 < xs.length) : ∃ g cap, v = .slice (some ⟨g, 0, none⟩) xs.length cap := by
  rcases h.2 with ⟨_, h0⟩ | ⟨g, cap, cur, rfl, _⟩
  · omega
  · exact ⟨g, cap, rfl⟩
theorem cell {g n cap : Nat} (h : RowV w e (.slice (some ⟨g, 0, none⟩) n cap) xs) (j : Nat) (hj : j < xs.length) : w.cell? ⟨g, j, none⟩ = some xs[j] := by
  obtain ⟨a', c', e⟩ := h.slice
  simp only [Value.slice.injEq] at e
  obtain ⟨-, rfl, -⟩ := e
  rw [World.ownsRow.cellAt h j (by omega)]
  simp [hj]
theorem lit1 (w : World) (e : TypeId) (x : Value) : RowV (w.alloc (.cells #[x] e)) e (.slice (some ⟨w.heap.size, 0, none⟩) 1 1) [x] :=
  World.ownsRow_lit (base := 0) (e := e) (size := 1) w #[x] 1 (Nat.zero_le _) (by simp [maxLen]) rfl
theorem len_le (h : RowV w e v xs) : xs.length ≤ 9223372036854775807 := by
  rcases h.2 with ⟨_, h0⟩ | ⟨g, cap, cur, rfl, _, _, h1, h2, _⟩
  · omega
  · simp only [maxLen] at h2; omega
end RowV

/-- append(v, x), x a value of one cell. -/
theorem wp_appV {P : Program} {ops : Array Oper} {rest : List Oper} {o : Oper} {a : Act} {Q : Exit → Act → World → Prop} {W : World} (hgd : o.guard = none) (s x : Operand) (t e : TypeId) (z : Value) (bytes : Nat)
    (ho : o.op = .call { callee := .builtin .append, args := #[s, x], argTypes := #[t, t] })
    (ht : P.underlying t = some (.slice e)) (hinfo : (P.info? e).map (fun i => (i.zero, i.size, i.bytes)) = some (some z, 1, bytes)) (hz : z.cells.size = 1)
    (v : Value) (xs : List Value) (y : Value) (hy : y.oneCell' = true) (hs : a.eval s = v) (hx : a.eval x = .slice (some ⟨W.heap.size, 0, none⟩) 1 1) (HR : RowV W e v xs) (hl : (xs.length + 1) * bytes ≤ 140737488355328) (hl2 : xs.length ≤ 1000000000)
    (h : ∀ v1 w1, RowV w1 e v1 (xs ++ [y]) → Keeps (fp v) W w1 → (∀ b, b ∈ fp v1 → b ∈ fp v ∨ W.heap.size ≤ b) → wpList P ops Q rest (a.put o.dst v1) w1) :
    wpList P ops Q (o :: rest) a (W.alloc (.cells #[y] e)) := by
  obtain ⟨i0, hi, hzz⟩ := Option.map_eq_some_iff.1 hinfo
  simp only [Prod.mk.injEq] at hzz
  obtain ⟨hz0, hz1, hz2⟩ := hzz
  have hk : Keeps [] W (W.alloc (.cells #[y] e)) := (Keeps.refl _ _).alloc _
  have HY := RowV.lit1 W e y
  refine wpList_append_own_at _ hgd s x t ho 0 e i0 z 1 bytes ht hi hz0 hz1 hz2 hz (by omega) v xs.length xs hs (HR.keeps hk (fun _ _ => by simp)) ⟨W.heap.size, 0, none⟩ 1 1 [y] hx rfl
    (fun j u hj => ?_) (fun u hu => ?_) (by simp only [maxLen]; omega) hl (Nat.zero_le _) ?_
  · match j, hj with
    | 0, hj => cases hj; exact HY.cell 0 (by simp)
  · rw [List.mem_singleton] at hu; subst hu; exact hy
  · intro v1 w1 hown hg _ hat
    refine h v1 w1 ?_ (((Keeps.refl _ _).alloc _).grown hg (fun k hk => .inl (mem_fp.2 hk))) (fun b hb => ?_)
    · unfold RowV
      rw [List.length_append]
      simpa using hown
    · rcases fp_grown hat b hb with h4 | h4
      · exact .inl h4
      · rw [World.size_alloc] at h4; exact .inr (by omega)

theorem RowV.nil (w : World) (e : TypeId) : RowV w e (.slice none 0 0) [] := World.ownsRow_nil w 0 e 1
theorem info_cx : (Try.prog.info? 37).map (fun i => (i.zero, i.size, i.bytes)) = some (some (.complex .f64 0 0), 1, 16) := by kernel_rfl
/-- Values that are read at an address. -/
structure RdV (w : World) (a : Option Addr) (vs : List Value) : Prop where
  small : vs.length ≤ 9223372036854775807
  at_ : ∀ i (h : i < vs.length), ∃ b o, a = some ⟨b, o, none⟩ ∧ w.cell? ⟨b, o + i, none⟩ = some vs[i]
theorem RdV.keeps {w w' : World} {a : Option Addr} {vs : List Value} {F : List Nat} (h : RdV w a vs) (hk : Keeps F w w') (hd : ∀ ad, a = some ad → ad.block ∉ F) : RdV w' a vs :=
  ⟨h.small, fun i hi => by
    obtain ⟨b, o, rfl, hc⟩ := h.at_ i hi
    exact ⟨b, o, rfl, hk.cell hc (hd ⟨b, o, none⟩ rfl)⟩⟩
theorem RdV.new {w w' : World} {a : Option Addr} {vs : List Value} (h : RdV w a vs) (hk : Keeps [] w w') : RdV w' a vs := h.keeps hk (fun _ _ => by simp)
theorem RdV.nil (w : World) (a : Option Addr) : RdV w a [] := ⟨by simp, fun i h => by simp at h⟩
theorem RowV.rdV {w : World} {e : TypeId} {v : Value} {vs : List Value} (h : RowV w e v vs) : ∃ a c, v = .slice a vs.length c ∧ RdV w a vs := by
  rcases Nat.eq_zero_or_pos vs.length with h0 | h0
  · obtain ⟨a, c, e1⟩ := h.slice
    have := List.eq_nil_of_length_eq_zero h0
    subst this
    exact ⟨a, c, e1, RdV.nil _ _⟩
  · obtain ⟨g, cap, e1⟩ := h.form h0
    subst e1
    exact ⟨_, _, rfl, h.len_le, fun i hi => ⟨g, 0, rfl, by rw [Nat.zero_add]; exact h.cell i hi⟩⟩
/-- Pairs of whole numbers as complex numbers. -/
def cxs (zs : List (Int × Int)) : List Value := zs.map fun z => cx z.1 z.2
theorem cxs_length (zs : List (Int × Int)) : (cxs zs).length = zs.length := by simp [cxs]
theorem cxs_get (zs : List (Int × Int)) (i : Nat) (h : i < zs.length) (h2 : i < (cxs zs).length) : (cxs zs)[i] = cx zs[i].1 zs[i].2 := by simp [cxs]
theorem cxs_snoc (zs : List (Int × Int)) (x y : Int) : cxs (zs ++ [(x, y)]) = cxs zs ++ [cx x y] := by simp [cxs]
end Go.Proofs.Ytildkehbogmceaa
