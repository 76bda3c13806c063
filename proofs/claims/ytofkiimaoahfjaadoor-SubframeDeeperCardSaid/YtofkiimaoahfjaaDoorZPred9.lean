/-
  Layer 7 (predict): the fixed models.
  Layer 7 (predict): same, cut, of.
  Layer 7 (predict): the program's Fixed.
  Layer 7 (predict): of.
  Layer 7 (predict): known.
-/
import Derived.Test.YtofkiimaoahfjaaDoorZPred6
import Derived.Laws.ResultCell
import Derived.Laws.Rows
import Derived.Test.YtofkiimaoahfjaaDoorZApp
set_option maxRecDepth 100000
set_option linter.unusedVariables false
set_option linter.unusedSimpArgs false
namespace Go.Proofs.YtofkiimaoahfjaaDoor
open Go.RowKit

/-- The fixed models' coefficients. -/
def fixL : Nat → List Int
  | 0 => []
  | 1 => [1]
  | 2 => [2, -1]
  | 3 => [3, -3, 1]
  | _ => [4, -6, 4, -1]

theorem heap_alloc_at (w : World) (o : Obj) (g : Nat) (h : g = w.heap.size) : (w.alloc o).heap[g]? = some o := by subst h; exact heap_alloc_new w o
theorem Row.ofBlock (w : World) (k : IntKind) (e : TypeId) (g : Nat) (cs : Array Value) (xs : List Int) (hg : w.heap[g]? = some (.cells cs e (0, 0))) (hc : cs.toList = nums k xs) (hm : xs.length ≤ 9223372036854775807) :
    Row w k e (.slice (some ⟨g, 0, none⟩) xs.length xs.length) xs := by
  have hs : cs.size = xs.length := by rw [← Array.length_toList, hc, nums_length]
  refine ⟨by rw [nums_length, Nat.mul_one], .inr ⟨g, xs.length, cs, rfl, Nat.zero_le _, hg, Nat.le_refl _, by simp only [maxLen]; omega, by rw [hs, Nat.mul_one], ?_⟩⟩
  rw [hc, List.take_of_length_le (by rw [nums_length, Nat.mul_one]; exact Nat.le_refl _)]

set_option maxHeartbeats 4000000 in
theorem refFixed_calls (k : Nat) (w : World) (hk : k ≤ 4) :
    Calls Tryd.prog 37 #[.int .i64 k] w fun e w' => ∃ v, e = .returned (.tuple #[.agg #[v, .int .i64 0], .int .i64 0]) ∧ Row w' .i64 3 v (fixL k) ∧ (∀ b, b ∈ fp v → w.heap.size ≤ b) ∧ Keeps [] w w' := by
  have hk' : k = 0 ∨ k = 1 ∨ k = 2 ∨ k = 3 ∨ k = 4 := by omega
  rcases hk' with rfl | rfl | rfl | rfl | rfl
  · go_enter Tryd.func37, Tryd.ntmps37
    go_wp2_with fail
    refine bodyPost_ret (results_cell2 rfl _ _ w.heap.size 71 #[.slice (some ⟨w.heap.size + 1, 0, none⟩) 0 0, .int .i64 0] (0, 0) _ rfl (by repeat (first | exact heap_alloc_at _ _ _ (by simp) | rw [Below.heap_alloc _ _ _ (by simp <;> omega)])) Tryd.underlying71 rfl (by kernel_rfl)) rfl ?_
    refine ⟨_, rfl, Row.ofBlock _ .i64 3 (w.heap.size + 1) #[] [] (by repeat (first | exact heap_alloc_at _ _ _ (by simp) | rw [Below.heap_alloc _ _ _ (by simp <;> omega)])) rfl (by simp), ?_, ?_⟩
    · intro b hb
      rw [fp_some, List.mem_singleton] at hb
      omega
    · exact (((((((Keeps.refl _ _).alloc _).alloc _).alloc _).alloc _).alloc _).alloc _).alloc _
  · go_enter Tryd.func37, Tryd.ntmps37
    go_wp2_with fail
    refine bodyPost_ret (results_cell2 rfl _ _ w.heap.size 71 #[.slice (some ⟨w.heap.size + 1 + 1, 0, none⟩) 1 1, .int .i64 0] (0, 0) _ rfl (by repeat (first | exact heap_alloc_at _ _ _ (by simp) | rw [Below.heap_alloc _ _ _ (by simp <;> omega)])) Tryd.underlying71 rfl (by kernel_rfl)) rfl ?_
    refine ⟨_, rfl, Row.ofBlock _ .i64 3 (w.heap.size + 1 + 1) #[.int .i64 1] [1] (by repeat (first | exact heap_alloc_at _ _ _ (by simp) | rw [Below.heap_alloc _ _ _ (by simp <;> omega)])) rfl (by simp), ?_, ?_⟩
    · intro b hb
      rw [fp_some, List.mem_singleton] at hb
      omega
    · exact (((((((Keeps.refl _ _).alloc _).alloc _).alloc _).alloc _).alloc _).alloc _).alloc _
  · go_enter Tryd.func37, Tryd.ntmps37
    go_wp2_with fail
    refine bodyPost_ret (results_cell2 rfl _ _ w.heap.size 71 #[.slice (some ⟨w.heap.size + 1 + 1 + 1, 0, none⟩) 2 2, .int .i64 0] (0, 0) _ rfl (by repeat (first | exact heap_alloc_at _ _ _ (by simp) | rw [Below.heap_alloc _ _ _ (by simp <;> omega)])) Tryd.underlying71 rfl (by kernel_rfl)) rfl ?_
    refine ⟨_, rfl, Row.ofBlock _ .i64 3 (w.heap.size + 1 + 1 + 1) #[.int .i64 2, .int .i64 (-1)] [2, -1] (by repeat (first | exact heap_alloc_at _ _ _ (by simp) | rw [Below.heap_alloc _ _ _ (by simp <;> omega)])) rfl (by simp), ?_, ?_⟩
    · intro b hb
      rw [fp_some, List.mem_singleton] at hb
      omega
    · exact (((((((Keeps.refl _ _).alloc _).alloc _).alloc _).alloc _).alloc _).alloc _).alloc _
  · go_enter Tryd.func37, Tryd.ntmps37
    go_wp2_with fail
    refine bodyPost_ret (results_cell2 rfl _ _ w.heap.size 71 #[.slice (some ⟨w.heap.size + 1 + 1 + 1 + 1, 0, none⟩) 3 3, .int .i64 0] (0, 0) _ rfl (by repeat (first | exact heap_alloc_at _ _ _ (by simp) | rw [Below.heap_alloc _ _ _ (by simp <;> omega)])) Tryd.underlying71 rfl (by kernel_rfl)) rfl ?_
    refine ⟨_, rfl, Row.ofBlock _ .i64 3 (w.heap.size + 1 + 1 + 1 + 1) #[.int .i64 3, .int .i64 (-3), .int .i64 1] [3, -3, 1] (by repeat (first | exact heap_alloc_at _ _ _ (by simp) | rw [Below.heap_alloc _ _ _ (by simp <;> omega)])) rfl (by simp), ?_, ?_⟩
    · intro b hb
      rw [fp_some, List.mem_singleton] at hb
      omega
    · exact (((((((Keeps.refl _ _).alloc _).alloc _).alloc _).alloc _).alloc _).alloc _).alloc _
  · go_enter Tryd.func37, Tryd.ntmps37
    go_wp2_with fail
    refine bodyPost_ret (results_cell2 rfl _ _ w.heap.size 71 #[.slice (some ⟨w.heap.size + 1 + 1 + 1 + 1 + 1, 0, none⟩) 4 4, .int .i64 0] (0, 0) _ rfl (by repeat (first | exact heap_alloc_at _ _ _ (by simp) | rw [Below.heap_alloc _ _ _ (by simp <;> omega)])) Tryd.underlying71 rfl (by kernel_rfl)) rfl ?_
    refine ⟨_, rfl, Row.ofBlock _ .i64 3 (w.heap.size + 1 + 1 + 1 + 1 + 1) #[.int .i64 4, .int .i64 (-6), .int .i64 4, .int .i64 (-1)] [4, -6, 4, -1] (by repeat (first | exact heap_alloc_at _ _ _ (by simp) | rw [Below.heap_alloc _ _ _ (by simp <;> omega)])) rfl (by simp), ?_, ?_⟩
    · intro b hb
      rw [fp_some, List.mem_singleton] at hb
      omega
    · exact (((((((Keeps.refl _ _).alloc _).alloc _).alloc _).alloc _).alloc _).alloc _).alloc _

theorem refFixed_err (k : Int) (w : World) (hk : k < 0 ∨ 4 < k) :
    Calls Tryd.prog 37 #[.int .i64 k] w fun e w' => e = .returned (.tuple #[.agg #[.slice none 0 0, .int .i64 0], .int .i64 1]) ∧ Keeps [] w w' := by
  rcases hk with h | h
  all_goals
    go_enter Tryd.func37, Tryd.ntmps37
    go_wp2_with fail
    refine bodyPost_ret (results_cell2 rfl _ _ w.heap.size 71 #[.slice none 0 0, .int .i64 0] (0, 0) _ rfl (heap_alloc_new _ _) Tryd.underlying71 rfl (by kernel_rfl)) rfl ?_
    exact ⟨rfl, (Keeps.refl _ _).alloc _⟩
end Go.Proofs.YtofkiimaoahfjaaDoor

set_option maxRecDepth 100000
set_option linter.unusedVariables false
set_option linter.unusedSimpArgs false
namespace Go.Proofs.YtofkiimaoahfjaaDoor
open Go.RowKit

end Go.Proofs.YtofkiimaoahfjaaDoor

set_option maxRecDepth 100000
set_option linter.unusedVariables false
set_option linter.unusedSimpArgs false
namespace Go.Proofs.YtofkiimaoahfjaaDoor
open Go.RowKit

/-- The differences' numbers. -/
def dcL : Nat → List Int
  | 0 => [1]
  | 1 => [1, -1]
  | 2 => [1, -2, 1]
  | 3 => [1, -3, 3, -1]
  | _ => [1, -4, 6, -4, 1]
/-- The next ones, on the way. -/
def stepL (c : List Int) : Nat → List Int
  | 0 => c ++ [0]
  | i + 1 => (stepL c i).set (i + 1) ((stepL c i).getD (i + 1) 0 - c.getD i 0)
theorem stepL_length (c : List Int) (i : Nat) : (stepL c i).length = c.length + 1 := by
  induction i with
  | zero => simp [stepL]
  | succ i ih => simp [stepL, ih]
theorem dcL_length (t : Nat) (h : t ≤ 4) : (dcL t).length = t + 1 := by
  have h' : t = 0 ∨ t = 1 ∨ t = 2 ∨ t = 3 ∨ t = 4 := by omega
  rcases h' with rfl | rfl | rfl | rfl | rfl <;> rfl
theorem dcL_next (t : Nat) (h : t ≤ 3) : stepL (dcL t) (t + 1) = dcL (t + 1) := by
  have h' : t = 0 ∨ t = 1 ∨ t = 2 ∨ t = 3 := by omega
  rcases h' with rfl | rfl | rfl | rfl <;> decide
theorem dcL_small (t i : Nat) (h : t ≤ 3) (hi : i ≤ t) : -100 ≤ (stepL (dcL t) i).getD (i + 1) 0 ∧ (stepL (dcL t) i).getD (i + 1) 0 ≤ 100 ∧ -100 ≤ (dcL t).getD i 0 ∧ (dcL t).getD i 0 ≤ 100 := by
  have h' : t = 0 ∨ t = 1 ∨ t = 2 ∨ t = 3 := by omega
  have hi' : i = 0 ∨ i = 1 ∨ i = 2 ∨ i = 3 := by omega
  rcases h' with rfl | rfl | rfl | rfl <;> rcases hi' with rfl | rfl | rfl | rfl <;> first | omega | decide
theorem fixL_of (k : Nat) (h : k ≤ 4) : ((dcL k).drop 1).map (fun x => -x) = fixL k := by
  have h' : k = 0 ∨ k = 1 ∨ k = 2 ∨ k = 3 ∨ k = 4 := by omega
  rcases h' with rfl | rfl | rfl | rfl | rfl <;> decide

theorem blk_set {w : World} {g : Nat} {t : TypeId} {cs : Array Value} (h : w.heap[g]? = some (.cells cs t (0, 0))) (i : Nat) (u : Value) : (w.setCell ⟨g, i, none⟩ u).heap[g]? = some (.cells (cs.setIfInBounds i u) t (0, 0)) := by
  simp [World.setCell, Array.getElem?_modify, h]
/-- A model that the call builds in a block of its own. -/
structure Cell2 (w : World) (g : Nat) (T : TypeId) (u v : Value) : Prop where
  hp : w.heap[g]? = some (.cells #[u, v] T (0, 0))
theorem Cell2.set {w : World} {g : Nat} {T : TypeId} {u v : Value} (h : Cell2 w g T u v) (u' : Value) : Cell2 (w.setCell ⟨g, 0, none⟩ u') g T u' v := ⟨blk_set h.hp 0 u'⟩
theorem Cell2.keeps {w w' : World} {g : Nat} {T : TypeId} {u v : Value} {F : List Nat} (h : Cell2 w g T u v) (hk : Keeps F w w') (hg : g ∉ F) : Cell2 w' g T u v :=
  ⟨(hk.block g (Array.getElem?_eq_some_iff.1 h.hp).1 hg).trans h.hp⟩
theorem Cell2.c0 {w : World} {g : Nat} {T : TypeId} {u v : Value} (h : Cell2 w g T u v) : w.cell? ⟨g, 0, none⟩ = some u := by unfold World.cell?; rw [h.hp]; rfl
theorem Cell2.c1 {w : World} {g : Nat} {T : TypeId} {u v : Value} (h : Cell2 w g T u v) : w.cell? ⟨g, 1, none⟩ = some v := by unfold World.cell?; rw [h.hp]; rfl
theorem Cell2.frozen {w : World} {g : Nat} {T : TypeId} {u v : Value} (h : Cell2 w g T u v) (j : Nat) : w.frozen? ⟨g, j, none⟩ = false := frozen_of_row w g j #[u, v] T h.hp

set_option maxHeartbeats 4000000 in
theorem fixed_calls (k : Nat) (w : World) (hk : k ≤ 4) :
    Calls Tryd.prog 55 #[.int .i64 k] w fun e w' => ∃ v, e = .returned (.tuple #[.agg #[v, .int .i64 0], .int .i64 0]) ∧ Row w' .i64 3 v (fixL k) ∧ (∀ b, b ∈ fp v → w.heap.size ≤ b) ∧ Keeps [] w w' := by
  go_enter Tryd.func55, Tryd.ntmps55
  go_wp2_with fail
  have HG0 : Hid (((w.alloc (.cells #[.slice none 0 0, .int .i64 0] 59)).alloc (.cells #[.int .i64 1] 3)).heap[w.heap.size]? = some (.cells #[.slice none 0 0, .int .i64 0] 59 (0, 0))) := by
    show _ = _
    repeat (first | exact heap_alloc_at _ _ _ (by simp) | rw [Below.heap_alloc _ _ _ (by simp <;> omega)])
  have HR0 : Hid (Row ((w.alloc (.cells #[.slice none 0 0, .int .i64 0] 59)).alloc (.cells #[.int .i64 1] 3)) .i64 3 (.slice (some ⟨w.heap.size + 1, 0, none⟩) 1 1) (dcL 0)) :=
    Row.ofBlock _ .i64 3 (w.heap.size + 1) #[.int .i64 1] [1] (heap_alloc_at _ _ _ (by simp)) rfl (by simp)
  have HK0 : Hid (Keeps [] w ((w.alloc (.cells #[.slice none 0 0, .int .i64 0] 59)).alloc (.cells #[.int .i64 1] 3))) := ((Keeps.refl _ _).alloc _).alloc _
  generalize ((w.alloc (.cells #[.slice none 0 0, .int .i64 0] 59)).alloc (.cells #[.int .i64 1] 3)) = w1 at *
  go_loopg [4, 5, 6, 7, 20] (k + 1) (fun q v4 v5 v6 v7 v20 w2 => ∃ (t : Nat), v20 = .int .i64 t ∧ t ≤ k ∧ Hid (Row w2 .i64 3 v4 (dcL t)) ∧ Hid (∀ b, b ∈ fp v4 → w.heap.size < b) ∧ Hid (w2.heap[w.heap.size]? = some (.cells #[.slice none 0 0, .int .i64 0] 59 (0, 0))) ∧ Hid (t + q = k + 1) ∧ Hid (Keeps [] w w2))
  case atStart => exact ⟨0, rfl, by omega, HR0.out, (fun b hb => by rw [fp_some, List.mem_singleton] at hb; omega), HG0.out, (show _ = _ from by omega), HK0.out⟩
  case round =>
    obtain ⟨t, rfl, ht, HR, HF, HG, HQ, HK⟩ := hrel
    by_cases hlt : t < k
    · have HCL := Lib.hid (dcL_length t (by omega))
      obtain ⟨a4, c4, hv4, hrd4⟩ := HR.out.rd
      obtain ⟨g4, o4, ha4, -⟩ := hrd4.form (by rw [HCL.out]; omega)
      subst ha4
      subst hv4
      rw [HCL.out]
      have HRD4 := Lib.hid hrd4
      clear hrd4
      obtain ⟨wo, rfl⟩ : ∃ wo : World, wo = wr := ⟨_, rfl⟩
      have HNN : (some (⟨g4, o4, none⟩ : Addr)) = none → c4 = 0 := fun h => by cases h
      go_wp2_with (first
        | (at_builtin; refine wp_appR (W := wo.alloc (.cells #[] 3)) ?hg (.tmp 22) (.tmp 23) 22 3 .i64 8 ?ho Tryd.underlying22 info_i64 (by decide) (.slice (some ⟨wo.heap.size, 0, none⟩) 0 0) [] (dcL t) ?hs (some ⟨g4, o4, none⟩) c4 ?hx (Row.litNil wo .i64 3) (HRD4.out.new ((Keeps.refl _ _).alloc _)) HNN (Rd.spot HRD4.out) (by rw [HCL.out]; simp; omega) ?_; (case ho => rfl); (case hg => rfl); (case hs => rfl); (case hx => rw [HCL.out]; rfl); intro v3 w3 hr3 hk3 hf3; rw [List.nil_append] at hr3; have HR3 := Lib.hid hr3; have HK3 := Lib.hid hk3; have HF3 := Lib.hid hf3; clear hr3 hk3 hf3)
        | (at_builtin; refine wp_app1 (W := w3) rfl (.tmp 25) (.tmp 26) 22 3 .i64 8 rfl Tryd.underlying22 info_i64 (by decide) v3 (dcL t) 0 rfl rfl HR3.out (by rw [HCL.out]; omega) ?_; intro v5 w5 hr5 hk5 hf5; have HR5 := Lib.hid hr5; have HK5 := Lib.hid hk5; have HF5 := Lib.hid hf5; clear hr5 hk5 hf5))
      have HR5' : Hid (Row w5 .i64 3 v5 (stepL (dcL t) 0)) := HR5.out
      obtain ⟨g5, c5, hv5⟩ := HR5'.out.form (by rw [stepL_length]; omega)
      have hsl : (stepL (dcL t) 0).length = t + 2 := by rw [stepL_length, HCL.out]
      rw [hsl] at hv5
      subst hv5
      have HN3 : Hid (∀ b, b ∈ fp v3 → wo.heap.size ≤ b) := by
        intro b hb
        rcases HF3.out b hb with h | h
        · rw [fp_some, List.mem_singleton] at h; omega
        · rw [World.size_alloc] at h; omega
      have HKA : Hid (Keeps [] wo w3) := ((Keeps.refl _ _).alloc _).then_ HK3.out (fun b hb hlt => by rw [fp_some, List.mem_singleton] at hb; omega)
      have HG5 : Hid (wo.heap.size ≤ g5) := by
        rcases HF5.out g5 (by rw [fp_some]; simp) with h | h
        · exact HN3.out _ h
        · exact Nat.le_trans HKA.out.size h
      have HKB : Hid (Keeps [] wo w5) := HKA.out.then_ HK5.out (fun b hb hlt => by have := HN3.out b hb; omega)
      clear HK3 HF3 HK5 HF5 HR3 HR5 hsl
      have HG4 : Hid (g4 < wo.heap.size) := HRD4.out.lt (by rw [HCL.out]; omega) _ rfl
      go_wp2_with fail
      have HT4 : Hid (t ≤ 3) := (show _ ≤ _ from by omega)
      obtain ⟨gko, rfl⟩ : ∃ x : Nat, x = gk := ⟨_, rfl⟩
      go_loopg [6, 7, 30] (t + 2) (fun q v6 v7 v30 w6 => ∃ (i : Nat), v30 = .int .i64 i ∧ i ≤ t + 1 ∧ Hid (Row w6 .i64 3 (.slice (some ⟨g5, 0, none⟩) (t + 2) c5) (stepL (dcL t) i)) ∧ Hid (i + q = t + 2) ∧ Hid (Keeps [g5] w5 w6))
      case atStart => exact ⟨0, rfl, by omega, HR5'.out, (show _ = _ from by omega), Keeps.refl _ _⟩
      case round =>
        obtain ⟨i, rfl, hi, HRI, HQI, HKI⟩ := hrel
        have HK6 : Hid (Keeps [] wo wr) := HKB.out.then_ HKI.out (fun b hb hlt => by rw [List.mem_singleton] at hb; have := HG5.out; omega)
        by_cases hlti : i < t + 1
        · have hl4 : i < (dcL t).length := by rw [HCL.out]; exact hlti
          obtain ⟨b4, o4', e4, hc4⟩ := (HRD4.out.new HK6.out).cellAt i hl4
          cases e4
          have hl5 : i + 1 < (stepL (dcL t) i).length := by rw [stepL_length, HCL.out]; omega
          have hc5 := HRI.out.cell (i + 1) hl5
          have hfz := HRI.out.frozen (i + 1)
          obtain ⟨m0, m1, m2, m3⟩ := dcL_small t i HT4.out (by omega)
          obtain ⟨x, hx⟩ : ∃ x, (dcL t)[i] = x := ⟨_, rfl⟩
          obtain ⟨y, hy⟩ : ∃ y, (stepL (dcL t) i)[i + 1] = y := ⟨_, rfl⟩
          have ex : (dcL t).getD i 0 = x := by rw [List.getD_eq_getElem?_getD, List.getElem?_eq_getElem hl4, hx]; rfl
          have ey : (stepL (dcL t) i).getD (i + 1) 0 = y := by rw [List.getD_eq_getElem?_getD, List.getElem?_eq_getElem hl5, hy]; rfl
          have HST : Hid (stepL (dcL t) (i + 1) = (stepL (dcL t) i).set (i + 1) (y - x)) := by
            show _ = _
            rw [stepL, ex, ey]
          rw [ex] at m2 m3
          rw [ey] at m0 m1
          rw [hx] at hc4
          rw [hy] at hc5
          clear ex ey hx hy hl4 hl5
          go_wp2_with fail
          go_roundg (gk - 1)
          case measure => have := HQI.out; omega
          case rel =>
            refine ⟨i + 1, by go_num, by omega, ?_, (show _ = _ from by have := HQI.out; omega), ?_⟩
            · show Row _ _ _ _ _
              rw [HST.out]
              exact HRI.out.set (i + 1) (y - x)
            · exact HKI.out.setCell (.inl (by simp)) _
        · obtain rfl : i = t + 1 := by omega
          have HNX : Hid (Row wr .i64 3 (.slice (some ⟨g5, 0, none⟩) (t + 2) c5) (dcL (t + 1))) := by
            show Row _ _ _ _ _
            rw [← dcL_next t HT4.out]
            exact HRI.out
          go_wp2_with fail
          go_roundg (gko - 1)
          case measure => have := HQ.out; omega
          case rel =>
            refine ⟨t + 1, by go_num, by omega, HNX.out, ?_, ?_, (show _ = _ from by have := HQ.out; omega), HK.out.new HK6.out⟩
            · intro b hb
              rw [fp_some, List.mem_singleton] at hb
              have h1 := HG5.out
              have h2 := (Array.getElem?_eq_some_iff.1 HG.out).1
              omega
            · show _ = _
              rw [HK6.out.block _ (Array.getElem?_eq_some_iff.1 HG.out).1 (by simp)]
              exact HG.out
    · obtain rfl : t = k := by omega
      have HCL := Lib.hid (dcL_length t hk)
      obtain ⟨a4, c4, hv4, hrd4⟩ := HR.out.rd
      obtain ⟨g4, o4, ha4, -⟩ := hrd4.form (by rw [HCL.out]; omega)
      subst ha4
      subst hv4
      have hcap := HR.out.cap_le
      rw [HCL.out] at hcap
      rw [HCL.out]
      have HRD4 := Lib.hid (hrd4.tail rfl 1)
      have HG4 : Hid (g4 < wr.heap.size) := hrd4.lt (by rw [HCL.out]; omega) _ rfl
      clear hrd4
      obtain ⟨gko, rfl⟩ : ∃ x : Nat, x = gk := ⟨_, rfl⟩
      obtain ⟨wo, rfl⟩ : ∃ wo : World, wo = wr := ⟨_, rfl⟩
      have HNE : Hid (∀ x ∈ (dcL t).drop 1, -100 ≤ x ∧ x ≤ 100) := by
        have h' : t = 0 ∨ t = 1 ∨ t = 2 ∨ t = 3 ∨ t = 4 := by omega
        show ∀ x ∈ _, _
        rcases h' with rfl | rfl | rfl | rfl | rfl <;> decide
      have HFX := Lib.hid (fixL_of t hk)
      have HDL : Hid (((dcL t).drop 1).length = t) := by show _ = _; simp [HCL.out]
      have HM := Lib.hid (heap_alloc_new wo (.cells #[.slice none 0 0, .int .i64 0] 59))
      by_cases hc41 : c4 = 1
      · obtain rfl : t = 0 := by omega
        subst hc41
        go_wp2_with fail
        have HW : Hid (w.heap.size < wo.heap.size) := (Array.getElem?_eq_some_iff.1 HG.out).1
        have HC0 : Hid (Cell2 (wo.alloc (.cells #[.slice none 0 0, .int .i64 0] 59)) wo.heap.size 59 (.slice none 0 0) (.int .i64 0)) := ⟨HM.out⟩
        have HKW : Hid (Keeps [] wo (wo.alloc (.cells #[.slice none 0 0, .int .i64 0] 59))) := (Keeps.refl _ _).alloc _
        have HGC : Hid (Cell2 wo w.heap.size 59 (.slice none 0 0) (.int .i64 0)) := ⟨HG.out⟩
        clear hcap
        generalize (dcL 0).drop 1 = L at *
        generalize wo.alloc (.cells #[.slice none 0 0, .int .i64 0] 59) = w2 at *
        go_loopg [10, 49] (0 + 1) (fun q v10 v49 w6 => ∃ (j : Nat) (v8 : Value), v49 = .int .i64 j ∧ j ≤ 0 ∧ Hid (Cell2 w6 wo.heap.size 59 v8 (.int .i64 0)) ∧ Hid (Row w6 .i64 3 v8 ((L.map (fun x => -x)).take j)) ∧ Hid (∀ b, b ∈ fp v8 → wo.heap.size < b) ∧ Hid (j + q = 0 + 1) ∧ Hid (Keeps [] wo w6))
        case atStart => exact ⟨0, _, rfl, by omega, HC0.out, Row.nil _ _ _, (fun b hb => by cases hb), (show _ = _ from by omega), HKW.out⟩
        case round =>
          obtain ⟨j, v8, rfl, hj, HC8, HR8, HF8, HQ8, HK8⟩ := hrel
          by_cases hlj : j < 0
          · exact absurd hlj (by omega)
          · obtain rfl : j = 0 := by omega
            have HGC8 : Hid (Cell2 wr w.heap.size 59 (.slice none 0 0) (.int .i64 0)) := HGC.out.keeps HK8.out (by simp)
            obtain ⟨a9, c9, hv8, -⟩ := HR8.out.rd
            have hll : ((L.map (fun x => -x)).take 0).length = 0 := by simp [HDL.out]
            rw [hll] at hv8
            subst hv8
            clear hll
            have hb0 := HC8.out.c0
            have hb1 := HC8.out.c1
            have hd0 := HGC8.out.c0
            have hd1 := HGC8.out.c1
            have hf0 := HGC8.out.frozen 0
            have hf1 := HGC8.out.frozen 1
            go_wp2_with fail
            have HE1 : Hid (((wr.setCell ⟨w.heap.size, 0, none⟩ (.slice a9 0 c9)).setCell ⟨w.heap.size, 1, none⟩ (.int .i64 0)).heap[w.heap.size]? = some (.cells #[.slice a9 0 c9, .int .i64 0] 59 (0, 0))) :=
              blk_set (blk_set HGC8.out.hp 0 (.slice a9 0 c9)) 1 (.int .i64 0)
            have HKE : Hid (Keeps [w.heap.size] wr ((wr.setCell ⟨w.heap.size, 0, none⟩ (.slice a9 0 c9)).setCell ⟨w.heap.size, 1, none⟩ (.int .i64 0))) :=
              ((Keeps.refl _ wr).setCell (.inl (by simp)) _).setCell (.inl (by simp)) _
            refine bodyPost_ret (results_cell2 rfl _ _ w.heap.size 59 #[.slice a9 0 c9, .int .i64 0] (0, 0) _ rfl HE1.out Tryd.underlying59 rfl (by kernel_rfl)) rfl ?_
            refine ⟨.slice a9 0 c9, rfl, ?_, ?_, ?_⟩
            · have := HR8.out.keeps HKE.out (fun b hb h => by rw [List.mem_singleton] at h; have h1 := HF8.out b hb; have h2 := HW.out; omega)
              rw [List.take_of_length_le (by simp [HDL.out]), HFX.out] at this
              exact this
            · intro b hb
              have h1 := HF8.out b hb
              have h2 := HW.out
              omega
            · exact (HK.out.new HK8.out).then_ HKE.out (fun b hb hlt => by rw [List.mem_singleton] at hb; omega)
      · go_wp2_with fail
        have HW : Hid (w.heap.size < wo.heap.size) := (Array.getElem?_eq_some_iff.1 HG.out).1
        have HC0 : Hid (Cell2 (wo.alloc (.cells #[.slice none 0 0, .int .i64 0] 59)) wo.heap.size 59 (.slice none 0 0) (.int .i64 0)) := ⟨HM.out⟩
        have HKW : Hid (Keeps [] wo (wo.alloc (.cells #[.slice none 0 0, .int .i64 0] 59))) := (Keeps.refl _ _).alloc _
        have HGC : Hid (Cell2 wo w.heap.size 59 (.slice none 0 0) (.int .i64 0)) := ⟨HG.out⟩
        clear hcap
        generalize (dcL t).drop 1 = L at *
        generalize wo.alloc (.cells #[.slice none 0 0, .int .i64 0] 59) = w2 at *
        go_loopg [10, 49] (t + 1) (fun q v10 v49 w6 => ∃ (j : Nat) (v8 : Value), v49 = .int .i64 j ∧ j ≤ t ∧ Hid (Cell2 w6 wo.heap.size 59 v8 (.int .i64 0)) ∧ Hid (Row w6 .i64 3 v8 ((L.map (fun x => -x)).take j)) ∧ Hid (∀ b, b ∈ fp v8 → wo.heap.size < b) ∧ Hid (j + q = t + 1) ∧ Hid (Keeps [] wo w6))
        case atStart => exact ⟨0, _, rfl, by omega, HC0.out, Row.nil _ _ _, (fun b hb => by cases hb), (show _ = _ from by omega), HKW.out⟩
        case round =>
          obtain ⟨j, v8, rfl, hj, HC8, HR8, HF8, HQ8, HK8⟩ := hrel
          by_cases hlj : j < t
          · have hlL : j < L.length := by rw [HDL.out]; exact hlj
            obtain ⟨b4, o4', e4, hc4⟩ := (HRD4.out.new HK8.out).cellAt j hlL
            cases e4
            obtain ⟨x, hx⟩ : ∃ x, L[j] = x := ⟨_, rfl⟩
            obtain ⟨x0, x1⟩ := HNE.out x (hx ▸ List.getElem_mem hlL)
            have HSN : Hid ((L.map (fun x => -x)).take (j + 1) = (L.map (fun x => -x)).take j ++ [-x]) := by
              show _ = _
              rw [List.take_succ_eq_append_getElem (by simpa using hlL)]
              simp [hx]
            have HLN : Hid ((((L.map (fun x => -x)).take j).length + 1) * 8 ≤ 140737488355328) := by
              show _ ≤ _
              simp
              omega
            have HLJ : Hid (((L.map (fun x => -x)).take j ++ [-x]).length = j + 1) := by
              show _ = _
              simp
              omega
            rw [hx] at hc4
            clear hx hlL
            have hb0 := HC8.out.c0
            obtain ⟨w6, rfl⟩ : ∃ w6 : World, w6 = wr := ⟨_, rfl⟩
            go_wp2_with (first
              | (at_builtin; go_must (refine wp_app1 (W := w6) rfl (.tmp 54) (.tmp 57) 22 3 .i64 8 rfl Tryd.underlying22 info_i64 (by decide) v8 _ (-x) rfl rfl HR8.out HLN.out ?_); intro v9 w9 hr9 hk9 hf9; obtain ⟨a9, c9, hv9, -⟩ := hr9.rd; rw [HLJ.out] at hv9; subst hv9; have HR9 := Lib.hid hr9; have HK9 := Lib.hid hk9; have HF9 := Lib.hid hf9; have HC9 := Lib.hid (HC8.out.keeps hk9 (fun h => by have := HF8.out _ h; omega)); have hb9 := HC9.out.c0; have hfz9 := HC9.out.frozen 0; clear hr9 hk9 hf9))
            have HL8 : Hid (wo.heap.size < w6.heap.size) := (Array.getElem?_eq_some_iff.1 HC8.out.hp).1
            have HFN : Hid (∀ b, b ∈ fp (.slice a9 (j + 1) c9) → wo.heap.size < b) := by
              intro b hb
              rcases HF9.out b hb with h | h
              · exact HF8.out b h
              · have := HL8.out; omega
            go_roundg (gk - 1)
            case measure => have := HQ8.out; omega
            case rel =>
              refine ⟨j + 1, .slice a9 (j + 1) c9, by go_num, by omega, HC9.out.set _, ?_, HFN.out, (show _ = _ from by have := HQ8.out; omega), ?_⟩
              · show Row _ _ _ _ _
                rw [HSN.out]
                exact HR9.out.keeps ((Keeps.refl [wo.heap.size] w9).setCell (.inl (by simp)) _) (fun b hb h => by rw [List.mem_singleton] at h; have := HFN.out b hb; omega)
              · exact (HK8.out.then_ HK9.out (fun b hb hlt => by have := HF8.out b hb; omega)).setCell (.inr (Nat.le_refl _)) _
          · obtain rfl : j = t := by omega
            have HGC8 : Hid (Cell2 wr w.heap.size 59 (.slice none 0 0) (.int .i64 0)) := HGC.out.keeps HK8.out (by simp)
            obtain ⟨a9, c9, hv8, -⟩ := HR8.out.rd
            have hll : ((L.map (fun x => -x)).take j).length = j := by simp [HDL.out]
            rw [hll] at hv8
            subst hv8
            clear hll
            have hb0 := HC8.out.c0
            have hb1 := HC8.out.c1
            have hd0 := HGC8.out.c0
            have hd1 := HGC8.out.c1
            have hf0 := HGC8.out.frozen 0
            have hf1 := HGC8.out.frozen 1
            go_wp2_with fail
            have HE1 : Hid (((wr.setCell ⟨w.heap.size, 0, none⟩ (.slice a9 j c9)).setCell ⟨w.heap.size, 1, none⟩ (.int .i64 0)).heap[w.heap.size]? = some (.cells #[.slice a9 j c9, .int .i64 0] 59 (0, 0))) :=
              blk_set (blk_set HGC8.out.hp 0 (.slice a9 j c9)) 1 (.int .i64 0)
            have HKE : Hid (Keeps [w.heap.size] wr ((wr.setCell ⟨w.heap.size, 0, none⟩ (.slice a9 j c9)).setCell ⟨w.heap.size, 1, none⟩ (.int .i64 0))) :=
              ((Keeps.refl _ wr).setCell (.inl (by simp)) _).setCell (.inl (by simp)) _
            refine bodyPost_ret (results_cell2 rfl _ _ w.heap.size 59 #[.slice a9 j c9, .int .i64 0] (0, 0) _ rfl HE1.out Tryd.underlying59 rfl (by kernel_rfl)) rfl ?_
            refine ⟨.slice a9 j c9, rfl, ?_, ?_, ?_⟩
            · have := HR8.out.keeps HKE.out (fun b hb h => by rw [List.mem_singleton] at h; have h1 := HF8.out b hb; have h2 := HW.out; omega)
              rw [List.take_of_length_le (by simp [HDL.out]), HFX.out] at this
              exact this
            · intro b hb
              have h1 := HF8.out b hb
              have h2 := HW.out
              omega
            · exact (HK.out.new HK8.out).then_ HKE.out (fun b hb hlt => by rw [List.mem_singleton] at hb; omega)

theorem fixed_err (k : Int) (w : World) (hk : k < 0 ∨ 4 < k) :
    Calls Tryd.prog 55 #[.int .i64 k] w fun e w' => e = .returned (.tuple #[.agg #[.slice none 0 0, .int .i64 0], .int .i64 1]) ∧ Keeps [] w w' := by
  rcases hk with h | h
  all_goals
    go_enter Tryd.func55, Tryd.ntmps55
    go_wp2_with fail
    refine bodyPost_ret (results_cell2 rfl _ _ w.heap.size 59 #[.slice none 0 0, .int .i64 0] (0, 0) _ rfl (heap_alloc_new _ _) Tryd.underlying59 rfl (by kernel_rfl)) rfl ?_
    exact ⟨rfl, (Keeps.refl _ _).alloc _⟩
end Go.Proofs.YtofkiimaoahfjaaDoor

set_option maxRecDepth 100000
set_option linter.unusedVariables false
set_option linter.unusedSimpArgs false
namespace Go.Proofs.YtofkiimaoahfjaaDoor
open Go.RowKit

end Go.Proofs.YtofkiimaoahfjaaDoor

set_option maxRecDepth 100000
set_option linter.unusedVariables false
set_option linter.unusedSimpArgs false
namespace Go.Proofs.YtofkiimaoahfjaaDoor
open Go.RowKit

theorem fixed_at (z : Int) (k : Nat) (hz : z = k) (hk : k ≤ 4) (w : World) :
    Calls Tryd.prog 55 #[.int .i64 z] w fun e w' => ∃ v, e = .returned (.tuple #[.agg #[v, .int .i64 0], .int .i64 0]) ∧ Row w' .i64 3 v (fixL k) ∧ (∀ b, b ∈ fp v → w.heap.size ≤ b) ∧ Keeps [] w w' := by
  subst hz; exact fixed_calls k w hk
theorem refFixed_at (z : Int) (k : Nat) (hz : z = k) (hk : k ≤ 4) (w : World) :
    Calls Tryd.prog 37 #[.int .i64 z] w fun e w' => ∃ v, e = .returned (.tuple #[.agg #[v, .int .i64 0], .int .i64 0]) ∧ Row w' .i64 3 v (fixL k) ∧ (∀ b, b ∈ fp v → w.heap.size ≤ b) ∧ Keeps [] w w' := by
  subst hz; exact refFixed_calls k w hk

theorem known_resE : resE (fixL 2) 0 [1, 2, 3, 5] = 0 := by decide
theorem known_resO : resO (fixL 2) 0 [1, 2, 3, 5] = [0, 1] := by decide

end Go.Proofs.YtofkiimaoahfjaaDoor
