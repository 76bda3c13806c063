/-
  Layer 7 (predict): the fixed models.
-/
import Derived.Test.YtpnomiepbbbnbaaPred8
import Derived.Laws.ResultCell
import Derived.Laws.Rows
set_option linter.unusedVariables false
set_option linter.unusedSimpArgs false
namespace Go.Proofs.Ytpnomiepbbbnbaa
open Go.RowKit

/-- The fixed models' coefficients. -/
def fixL : Nat → List Int
  | 0 => []
  | 1 => [1]
  | 2 => [2, -1]
  | 3 => [3, -3, 1]
  | _ => [4, -6, 4, -1]

theorem results_cell2 {P : Program} {fn : Func} {p u : Tmp} {ty : TypeId} (h : fn.results = #[.cell p ty, .tmp u]) (tmps : Array Value) (w : World) (g : Nat) (t : TypeId) (cs : Array Value) (fr : Nat × Nat) (d : TypeDesc)
    (hp : tmps.getD p undef = .pointer (some ⟨g, 0, none⟩)) (hg : w.heap[g]? = some (.cells cs t fr))
    (hu : P.underlying ty = some d) (hd : (match d with | .struct _ | .array _ _ => true | _ => false) = true) (hi : (P.info? ty).map (·.size) = some cs.size) :
    (results fn tmps).run P w = .ok (.tuple #[.agg cs, tmps.getD u undef]) w := by
  rw [results_cell_tmp h, hp]
  simp [asAddr, run_loadVar_row w g t ty cs fr d hg hu hd hi, Result.andThen]

theorem heap_alloc_at (w : World) (o : Obj) (g : Nat) (h : g = w.heap.size) : (w.alloc o).heap[g]? = some o := by subst h; exact heap_alloc_new w o
theorem Row.ofBlock (w : World) (k : IntKind) (e : TypeId) (g : Nat) (cs : Array Value) (xs : List Int) (hg : w.heap[g]? = some (.cells cs e (0, 0))) (hc : cs.toList = nums k xs) (hm : xs.length ≤ 9223372036854775807) :
    Row w k e (.slice (some ⟨g, 0, none⟩) xs.length xs.length) xs := by
  have hs : cs.size = xs.length := by rw [← Array.length_toList, hc, nums_length]
  refine ⟨by rw [nums_length, Nat.mul_one], .inr ⟨g, xs.length, cs, rfl, Nat.zero_le _, hg, Nat.le_refl _, by simp only [maxLen]; omega, by rw [hs, Nat.mul_one], ?_⟩⟩
  rw [hc, List.take_of_length_le (by rw [nums_length, Nat.mul_one]; exact Nat.le_refl _)]

set_option maxHeartbeats 4000000 in
theorem refFixed_calls (k : Nat) (w : World) (hk : k ≤ 4) :
    Calls Try.prog 20 #[.int .i64 k] w fun e w' => ∃ v, e = .returned (.tuple #[.agg #[v, .int .i64 0], .int .i64 0]) ∧ Row w' .i64 3 v (fixL k) ∧ (∀ b, b ∈ fp v → w.heap.size ≤ b) ∧ Keeps [] w w' := by
  have hk' : k = 0 ∨ k = 1 ∨ k = 2 ∨ k = 3 ∨ k = 4 := by omega
  rcases hk' with rfl | rfl | rfl | rfl | rfl
  · go_enter Try.func20, Try.ntmps20
    go_wp2_with fail
    refine bodyPost_ret (results_cell2 rfl _ _ w.heap.size 34 #[.slice (some ⟨w.heap.size + 1, 0, none⟩) 0 0, .int .i64 0] (0, 0) _ rfl (by repeat (first | exact heap_alloc_at _ _ _ (by simp) | rw [Below.heap_alloc _ _ _ (by simp <;> omega)])) Try.underlying34 rfl (by kernel_rfl)) rfl ?_
    refine ⟨_, rfl, Row.ofBlock _ .i64 3 (w.heap.size + 1) #[] [] (by repeat (first | exact heap_alloc_at _ _ _ (by simp) | rw [Below.heap_alloc _ _ _ (by simp <;> omega)])) rfl (by simp), ?_, ?_⟩
    · intro b hb
      rw [fp_some, List.mem_singleton] at hb
      omega
    · exact (((((((Keeps.refl _ _).alloc _).alloc _).alloc _).alloc _).alloc _).alloc _).alloc _
  · go_enter Try.func20, Try.ntmps20
    go_wp2_with fail
    refine bodyPost_ret (results_cell2 rfl _ _ w.heap.size 34 #[.slice (some ⟨w.heap.size + 1 + 1, 0, none⟩) 1 1, .int .i64 0] (0, 0) _ rfl (by repeat (first | exact heap_alloc_at _ _ _ (by simp) | rw [Below.heap_alloc _ _ _ (by simp <;> omega)])) Try.underlying34 rfl (by kernel_rfl)) rfl ?_
    refine ⟨_, rfl, Row.ofBlock _ .i64 3 (w.heap.size + 1 + 1) #[.int .i64 1] [1] (by repeat (first | exact heap_alloc_at _ _ _ (by simp) | rw [Below.heap_alloc _ _ _ (by simp <;> omega)])) rfl (by simp), ?_, ?_⟩
    · intro b hb
      rw [fp_some, List.mem_singleton] at hb
      omega
    · exact (((((((Keeps.refl _ _).alloc _).alloc _).alloc _).alloc _).alloc _).alloc _).alloc _
  · go_enter Try.func20, Try.ntmps20
    go_wp2_with fail
    refine bodyPost_ret (results_cell2 rfl _ _ w.heap.size 34 #[.slice (some ⟨w.heap.size + 1 + 1 + 1, 0, none⟩) 2 2, .int .i64 0] (0, 0) _ rfl (by repeat (first | exact heap_alloc_at _ _ _ (by simp) | rw [Below.heap_alloc _ _ _ (by simp <;> omega)])) Try.underlying34 rfl (by kernel_rfl)) rfl ?_
    refine ⟨_, rfl, Row.ofBlock _ .i64 3 (w.heap.size + 1 + 1 + 1) #[.int .i64 2, .int .i64 (-1)] [2, -1] (by repeat (first | exact heap_alloc_at _ _ _ (by simp) | rw [Below.heap_alloc _ _ _ (by simp <;> omega)])) rfl (by simp), ?_, ?_⟩
    · intro b hb
      rw [fp_some, List.mem_singleton] at hb
      omega
    · exact (((((((Keeps.refl _ _).alloc _).alloc _).alloc _).alloc _).alloc _).alloc _).alloc _
  · go_enter Try.func20, Try.ntmps20
    go_wp2_with fail
    refine bodyPost_ret (results_cell2 rfl _ _ w.heap.size 34 #[.slice (some ⟨w.heap.size + 1 + 1 + 1 + 1, 0, none⟩) 3 3, .int .i64 0] (0, 0) _ rfl (by repeat (first | exact heap_alloc_at _ _ _ (by simp) | rw [Below.heap_alloc _ _ _ (by simp <;> omega)])) Try.underlying34 rfl (by kernel_rfl)) rfl ?_
    refine ⟨_, rfl, Row.ofBlock _ .i64 3 (w.heap.size + 1 + 1 + 1 + 1) #[.int .i64 3, .int .i64 (-3), .int .i64 1] [3, -3, 1] (by repeat (first | exact heap_alloc_at _ _ _ (by simp) | rw [Below.heap_alloc _ _ _ (by simp <;> omega)])) rfl (by simp), ?_, ?_⟩
    · intro b hb
      rw [fp_some, List.mem_singleton] at hb
      omega
    · exact (((((((Keeps.refl _ _).alloc _).alloc _).alloc _).alloc _).alloc _).alloc _).alloc _
  · go_enter Try.func20, Try.ntmps20
    go_wp2_with fail
    refine bodyPost_ret (results_cell2 rfl _ _ w.heap.size 34 #[.slice (some ⟨w.heap.size + 1 + 1 + 1 + 1 + 1, 0, none⟩) 4 4, .int .i64 0] (0, 0) _ rfl (by repeat (first | exact heap_alloc_at _ _ _ (by simp) | rw [Below.heap_alloc _ _ _ (by simp <;> omega)])) Try.underlying34 rfl (by kernel_rfl)) rfl ?_
    refine ⟨_, rfl, Row.ofBlock _ .i64 3 (w.heap.size + 1 + 1 + 1 + 1 + 1) #[.int .i64 4, .int .i64 (-6), .int .i64 4, .int .i64 (-1)] [4, -6, 4, -1] (by repeat (first | exact heap_alloc_at _ _ _ (by simp) | rw [Below.heap_alloc _ _ _ (by simp <;> omega)])) rfl (by simp), ?_, ?_⟩
    · intro b hb
      rw [fp_some, List.mem_singleton] at hb
      omega
    · exact (((((((Keeps.refl _ _).alloc _).alloc _).alloc _).alloc _).alloc _).alloc _).alloc _

theorem refFixed_err (k : Int) (w : World) (hk : k < 0 ∨ 4 < k) :
    Calls Try.prog 20 #[.int .i64 k] w fun e w' => e = .returned (.tuple #[.agg #[.slice none 0 0, .int .i64 0], .int .i64 1]) ∧ Keeps [] w w' := by
  rcases hk with h | h
  all_goals
    go_enter Try.func20, Try.ntmps20
    go_wp2_with fail
    refine bodyPost_ret (results_cell2 rfl _ _ w.heap.size 34 #[.slice none 0 0, .int .i64 0] (0, 0) _ rfl (heap_alloc_new _ _) Try.underlying34 rfl (by kernel_rfl)) rfl ?_
    exact ⟨rfl, (Keeps.refl _ _).alloc _⟩
end Go.Proofs.Ytpnomiepbbbnbaa
