/-
  Layer 9 (subframe): bits.Mul of 1, slices.Repeat of one sample.
  Layer 9 (subframe): body, of one sample, and of all.
  Layer 9 (subframe): body, by a fixed model.
-/
import Derived.Test.YtofkiimaoahfjaaDoorZRd1
import Derived.Laws.CopyOwn
import Derived.Deep.RegionLaw
import Derived.Test.YtofkiimaoahfjaaDoorZSub10
set_option maxRecDepth 100000
set_option linter.unusedVariables false
set_option linter.unusedSimpArgs false
namespace Go.Proofs.YtofkiimaoahfjaaDoor
open Go.RowKit Go.Proofs.YtofkiimaoahfjaaDoor.Pure

theorem and_m32 (n : Nat) (h : n < 4294967296) : bits .and .u64 (n : Int) 4294967295 = n := by
  show IntKind.u64.wrap ((BitVec.ofInt 64 (n : Int) &&& BitVec.ofInt 64 4294967295).toNat : Int) = n
  have e1 : (BitVec.ofInt 64 (n : Int)).toNat = n := by rw [toNat_ofInt64]; omega
  have e2 : (BitVec.ofInt 64 4294967295).toNat = 2 ^ 32 - 1 := by decide
  rw [BitVec.toNat_and, e1, e2, Nat.and_two_pow_sub_one_eq_mod, IntKind.wrap_u64]
  omega
theorem mul64_calls (n : Nat) (w : World) (h : n ≤ 100000) :
    Calls Tryd.prog 120 #[.int .u64 1, .int .u64 n] w fun e w' => e = .returned (.tuple #[.int .u64 0, .int .u64 n]) ∧ w = w' := by
  have e1 : bits .and .u64 1 4294967295 = 1 := and_m32 1 (by omega)
  have e2 := and_m32 n (by omega)
  have e3 : bits .and .u64 0 4294967295 = 0 := and_m32 0 (by omega)
  have e4 : (n : Int) / 4294967296 = 0 := by omega
  go_enter Tryd.func120, Tryd.ntmps120
  go_wp2
  go_ret2
  exact ⟨rfl, rfl⟩
theorem smul_calls (n : Nat) (w : World) (h : n ≤ 100000) :
    Calls Tryd.prog 107 #[.int .u64 1, .int .u64 n] w fun e w' => e = .returned (.tuple #[.int .u64 0, .int .u64 n]) ∧ w = w' := by
  go_enter Tryd.func107, Tryd.ntmps107
  go_wp2_with (first
    | (go_at_call 120; go_must (with_reducible refine (mul64_calls n _ h).mono ?_); rintro e w1 ⟨rfl, rfl⟩))
  go_ret2
  exact ⟨rfl, rfl⟩
/-- A block on its way: i samples, and noughts. -/
def repC (x : Int) (n i : Nat) : List Value := List.replicate i (.int .i64 x) ++ List.replicate (n - i) (.int .i64 0)
theorem repC_length (x : Int) (n i : Nat) (h : i ≤ n) : (repC x n i).length = n := by simp [repC]; omega
theorem repC_splice (x : Int) (n i m : Nat) (h : i + m ≤ n) : splice (repC x n i) i (List.replicate m (.int .i64 x)) = repC x n (i + m) := by
  unfold splice repC
  have e1 : (List.replicate i (Value.int .i64 x) ++ List.replicate (n - i) (Value.int .i64 0)).take i = List.replicate i (.int .i64 x) := by
    rw [List.take_append_of_le_length (by simp), List.take_of_length_le (by simp)]
  have e2 : (List.replicate i (Value.int .i64 x) ++ List.replicate (n - i) (Value.int .i64 0)).drop (i + (List.replicate m (Value.int .i64 x)).length) = List.replicate (n - (i + m)) (Value.int .i64 0) := by
    rw [List.length_replicate, List.drop_append, List.drop_of_length_le (by simp), List.nil_append, List.length_replicate, List.drop_replicate]
    congr 1
    omega
  rw [e1, e2, ← List.append_assoc, List.replicate_append_replicate]
theorem repC_cell {w : World} {g n i : Nat} {x : Int} {T : TypeId} (h : w.heap[g]? = some (.cells (repC x n i).toArray T (0, 0))) (j : Nat) (hj : j < i) : w.cell? ⟨g, j, none⟩ = some (.int .i64 x) := by
  unfold World.cell?
  rw [h]
  simp [repC, hj, List.getElem?_append_left]
set_option maxHeartbeats 4000000 in
theorem srepeat_calls (x : Int) (n : Nat) (a : Option Addr) (c : Nat) (w : World) (hn : 1 ≤ n ∧ n ≤ 512) (hx : Hid (Rd w .i64 a [x])) :
    Calls Tryd.prog 76 #[.slice a 1 c, .int .i64 n] w fun e w' => ∃ v, e = .returned v ∧ Row w' .i64 3 v (List.replicate n x) ∧ (∀ b, b ∈ fp v → w.heap.size ≤ b) ∧ Keeps [] w w' := by
  obtain ⟨b, o, rfl, hc⟩ := hx.out.form (by simp)
  have hc0 : w.cell? ⟨b, o, none⟩ = some (.int .i64 x) := by simpa using hc 0 (by simp)
  have hmk := run_mk Tryd.prog 22 3 .i64 8 Tryd.underlying22 info_i64 .i64 .i64 n n (n : Int) (n : Int) rfl rfl (by omega) (by omega) (by omega)
  have h0 : (w.alloc (.cells (madeCells #[.int .i64 0] n) 3)).heap[w.heap.size]? = some (.cells (repC x n 0).toArray 3 (0, 0)) := by
    rw [heap_alloc_at _ _ _ rfl]
    have : madeCells #[.int .i64 0] n = (repC x n 0).toArray := by
      apply Array.toList_inj.1
      rw [toList_madeCells_one]
      simp [repC]
    rw [this]
  have HB0 := Lib.hid h0
  have HBL : Hid (Below w.heap.size w (w.alloc (.cells (madeCells #[.int .i64 0] n) 3))) := ((Keeps.refl [] w).alloc _).below
  have HC0 : Hid ((w.alloc (.cells (madeCells #[.int .i64 0] n) 3)).cell? ⟨b, o, none⟩ = some (.int .i64 x)) := ((Keeps.refl [] w).alloc _).cell hc0 (by simp)
  have HPS : Hid (∃ ad, some (⟨b, o, none⟩ : Addr) = some ad ∧ ∀ j v, ([Value.int .i64 x] : List Value)[j]? = some v → (w.alloc (.cells (madeCells #[.int .i64 0] n) 3)).cell? (ad.add j) = some v) := by
    refine ⟨_, rfl, fun j v hj => ?_⟩
    cases j with
    | zero => simp at hj; subst hj; exact HC0.out
    | succ j => simp at hj
  have hw1 : IntKind.u64.wrap (n : Int) = n := IntWalk.u64_in _ (by omega)
  have hn1 : (0 : Int) ≤ (n : Int) := by omega
  have hn2 : (1 : Int) ≤ (n : Int) := by omega
  clear hc h0 hc0 hx
  go_enter Tryd.func76, Tryd.ntmps76
  go_wp2_with (first
    | (go_at_call 107; go_must (with_reducible refine (smul_calls n _ (by omega)).mono ?_); rintro e w1 ⟨rfl, rfl⟩)
    | (show wpList _ _ _ (Oper.mk (some 33) _ _ _ _ _ :: _) _ _; go_loud (refine wpList_copy_splice rfl (.tmp 31) (.tmp 32) 22 22 rfl 3 Tryd.underlying22 (by kernel_rfl) (some ⟨w.heap.size, 0, none⟩) (some ⟨b, o, none⟩) n n 1 c rfl rfl w.heap.size 0 (repC x n 0) 3 HB0.out [.int .i64 x] (show 1 = min 1 n by omega) (fun _ => ⟨rfl, HPS.out⟩) (by rw [repC_length _ _ _ (by omega)]; simp; omega) (by simp [Value.oneCell']) w.heap.size w HBL.out (Nat.le_refl _) ?_); intro w5 hg5 hb5))
  have HG5 : Hid (w5.heap[w.heap.size]? = some (.cells (repC x n 1).toArray 3 (0, 0))) := by
    have h1 := repC_splice x n 0 1 (by omega)
    have h2 := hg5.out
    rw [show ([Value.int .i64 x] : List Value) = List.replicate 1 (.int .i64 x) from rfl, h1] at h2
    exact h2
  have HB5 := Lib.hid hb5
  clear hg5 hb5 HB0 HBL HC0 HPS hw1 hmk
  obtain ⟨g, hg⟩ : ∃ g, w.heap.size = g := ⟨_, rfl⟩
  have HGE := Lib.hid hg
  rw [hg] at HG5 HB5
  rw [hg]
  clear hg
  go_loopg [8] n (fun q v8 wr => ∃ (i : Nat), v8 = .int .i64 i ∧ 1 ≤ i ∧ i ≤ n ∧ Hid (wr.heap[g]? = some (.cells (repC x n i).toArray 3 (0, 0))) ∧ Hid (Below g w wr) ∧ Hid (i + q = n + 1))
  case atStart => exact ⟨1, rfl, by omega, by omega, HG5.out, HB5.out, (show _ = _ from by omega)⟩
  case round =>
    clear HG5 HB5
    obtain ⟨i, rfl, hi1, hi, HG, HB, HQ⟩ := hrel
    obtain ⟨q1, rfl⟩ : ∃ g : Nat, g = gk := ⟨_, rfl⟩
    obtain ⟨wa, rfl⟩ : ∃ y : World, y = wr := ⟨_, rfl⟩
    by_cases hlt : i < n
    · have hni : ¬ n = i := by omega
      have hii : (0 : Int) ≤ (i : Int) := by omega
      have hii2 : (i : Int) ≤ (n : Int) := by omega
      obtain ⟨m, hm⟩ : ∃ m, min i (n - i) = m := ⟨_, rfl⟩
      have HHM := Lib.hid hm
      have hm1 : i + m ≤ n := by omega
      have hm2 : 1 ≤ m := by omega
      have HG2 : Hid (wa.drew.heap[g]? = some (.cells (repC x n i).toArray 3 (0, 0))) := HG.out
      have HB2 : Hid (Below g w wa.drew) := by
        have h1 : Keeps [] w wa := Keeps.of_below (by rw [HGE.out]; exact HB.out)
        have h2 := h1.drew.below
        rw [HGE.out] at h2
        exact h2
      have HPS : Hid (∃ ad, some (⟨g, 0, none⟩ : Addr) = some ad ∧ ∀ j v, (List.replicate m (Value.int .i64 x))[j]? = some v → wa.drew.cell? (ad.add j) = some v) := by
        refine ⟨_, rfl, fun j v hj => ?_⟩
        have h1 : j < m := by
          rcases Nat.lt_or_ge j m with h | h
          · exact h
          · rw [List.getElem?_eq_none (by simpa using h)] at hj; cases hj
        rw [List.getElem?_replicate_of_lt h1] at hj
        cases hj
        have := repC_cell HG2.out j (by have := HHM.out; omega)
        by_cases h0 : j = 0
        · subst h0; simpa [Addr.add] using this
        · simpa [Addr.add, h0] using this
      clear hm
      go_upto_region 9 with fail
      refine wp_region_any (by kernel_rfl) ?_
      change wpAny _ _ _ _ _ _ _ (World.drew _)
      refine wpAny_take (i := 0) (v := ?_) rfl (by kernel_rfl) (by kernel_rfl) (by kernel_rfl) (fun _ _ _ h => h) (Or.inl ⟨by rfl, ?_⟩) ?_
      rotate_left 1
      · (intro w; go_simp; try with_reducible rfl)
      simp only [Act.put, List.setIfInBounds_toArray, List.set_cons_zero, List.set_cons_succ, List.getElem_toArray, List.getElem_cons_zero, List.getElem_cons_succ]
      refine wpAny_take (i := 1) (v := ?_) rfl (by kernel_rfl) (by kernel_rfl) (by kernel_rfl) (fun _ _ _ h => h) (Or.inl ⟨by rfl, ?_⟩) ?_
      rotate_left 1
      · (intro w; go_simp; try with_reducible rfl)
      simp only [Act.put, List.setIfInBounds_toArray, List.set_cons_zero, List.set_cons_succ, List.getElem_toArray, List.getElem_cons_zero, List.getElem_cons_succ]
      refine wpAny_take (i := 2) (v := ?_) rfl (by kernel_rfl) (by kernel_rfl) (by kernel_rfl) (fun _ _ _ h => h) (Or.inl ⟨by rfl, ?_⟩) ?_
      rotate_left 1
      · (intro w; go_simp; try with_reducible rfl)
      simp only [Act.put, List.setIfInBounds_toArray, List.set_cons_zero, List.set_cons_succ, List.getElem_toArray, List.getElem_cons_zero, List.getElem_cons_succ]
      refine wpAny_take (i := 3) (v := ?_) rfl (by kernel_rfl) (by kernel_rfl) (by kernel_rfl) (fun _ _ _ h => h) (Or.inl ⟨by rfl, ?_⟩) ?_
      rotate_left 1
      · (intro w; go_simp; try with_reducible rfl)
      simp only [Act.put, List.setIfInBounds_toArray, List.set_cons_zero, List.set_cons_succ, List.getElem_toArray, List.getElem_cons_zero, List.getElem_cons_succ]
      refine wpAny_take (i := 4) (v := ?_) rfl (by kernel_rfl) (by kernel_rfl) (by kernel_rfl) (fun _ _ _ h => h) (Or.inl ⟨by rfl, ?_⟩) ?_
      rotate_left 1
      · (intro w; go_simp; try with_reducible rfl)
      simp only [Act.put, List.setIfInBounds_toArray, List.set_cons_zero, List.set_cons_succ, List.getElem_toArray, List.getElem_cons_zero, List.getElem_cons_succ]
      refine wpAny_take (i := 5) (v := ?_) rfl (by kernel_rfl) (by kernel_rfl) (by kernel_rfl) (fun _ _ _ h => h) (Or.inl ⟨by rfl, ?_⟩) ?_
      rotate_left 1
      · (intro w; go_simp; try with_reducible rfl)
      simp only [Act.put, List.setIfInBounds_toArray, List.set_cons_zero, List.set_cons_succ, List.getElem_toArray, List.getElem_cons_zero, List.getElem_cons_succ]
      refine wpAny_take (i := 6) (v := ?_) rfl (by kernel_rfl) (by kernel_rfl) (by kernel_rfl) (fun _ _ _ h => h) (Or.inl ⟨by rfl, ?_⟩) ?_
      rotate_left 1
      · (intro w; go_simp; try with_reducible rfl)
      simp only [Act.put, List.setIfInBounds_toArray, List.set_cons_zero, List.set_cons_succ, List.getElem_toArray, List.getElem_cons_zero, List.getElem_cons_succ]
      generalize wa.drew = wd at *
      have hL1 : (List.replicate m (Value.int .i64 x)).length = Nat.min i (n - i) := by rw [List.length_replicate]; exact HHM.out.symm
      have hL2 : i + (List.replicate m (Value.int .i64 x)).length ≤ (repC x n i).length := by rw [repC_length _ _ _ (by omega), List.length_replicate]; omega
      have hL3 : ∀ v ∈ List.replicate m (Value.int .i64 x), v.oneCell' = true := by intro v hv; rw [List.eq_of_mem_replicate hv]; rfl
      refine wpAny_ready (rs := [7]) (by kernel_rfl) (by simp) (AllReady.cons rfl (fun K hK => ?_) AllReady.nil)
      refine step_copy_splice rfl (.tmp 41) (.tmp 44) 22 22 rfl 3 Tryd.underlying22 (by kernel_rfl) (some ⟨g, i, none⟩) (some ⟨g, 0, none⟩) (n - i) (n - i) i n rfl rfl g i (repC x n i) 3 HG2.out (List.replicate m (.int .i64 x)) hL1 (fun _ => ⟨rfl, HPS.out⟩) hL2 hL3 g w HB2.out (Nat.le_refl _) ?_
      intro w5 hg5 hb5
      rw [List.length_replicate]
      refine hK _ _ ?_
      clear hK K
      simp only [Act.put, List.setIfInBounds_toArray, List.set_cons_zero, List.set_cons_succ, List.getElem_toArray, List.getElem_cons_zero, List.getElem_cons_succ]
      have hgi : goInt m = .int .i64 (m : Int) := rfl
      have hwim : IntKind.i64.wrap ((i : Int) + (m : Int)) = (i : Int) + (m : Int) := IntWalk.i64_in _ (by omega)
      rw [hgi]
      refine wpAny_take (i := 8) (v := ?_) rfl (by kernel_rfl) (by kernel_rfl) (by kernel_rfl) (fun _ _ _ h => h) (Or.inl ⟨by rfl, ?_⟩) ?_
      rotate_left 1
      · (intro w; go_simp; try with_reducible rfl)
      simp only [Act.put, List.setIfInBounds_toArray, List.set_cons_zero, List.set_cons_succ, List.getElem_toArray, List.getElem_cons_zero, List.getElem_cons_succ]
      refine wpAny_take (i := 9) (v := ?_) rfl (by kernel_rfl) (by kernel_rfl) (by kernel_rfl) (fun _ _ _ h => h) (Or.inl ⟨by rfl, ?_⟩) ?_
      rotate_left 1
      · (intro w; go_simp; try with_reducible rfl)
      simp only [Act.put, List.setIfInBounds_toArray, List.set_cons_zero, List.set_cons_succ, List.getElem_toArray, List.getElem_cons_zero, List.getElem_cons_succ]
      refine wpAny_done (by kernel_rfl) ?_ _
      have HG5 : Hid (w5.heap[g]? = some (.cells (repC x n (i + m)).toArray 3 (0, 0))) := by
        have h2 := hg5.out
        rw [repC_splice x n i m hm1] at h2
        exact h2
      have HB5 := Lib.hid hb5
      clear hg5 hb5 HG2 HB2 HPS hL1 hL2 hL3 hgi
      go_wp2_with fail
      go_roundg (n + 1 - (i + m))
      case measure => have := HQ.out; omega
      case rel => exact ⟨i + m, by go_num, by omega, hm1, HG5.out, HB5.out, (show _ = _ from by omega)⟩
    · have hin : i = n := by omega
      subst hin
      go_wp2_with fail
      go_ret
      have h1 : Keeps [] w wa := Keeps.of_below (by rw [HGE.out]; exact HB.out)
      have h2 : Row wa .i64 3 (.slice (some ⟨g, 0, none⟩) i i) (List.replicate i x) := by
        have := Row.ofBlock wa .i64 3 g (repC x i i).toArray (List.replicate i x) HG.out (by simp [repC, nums]) (by simp; omega)
        simpa using this
      exact ⟨.slice (some ⟨g, 0, none⟩) i i, rfl, h2, fun b hb => by rw [fp_some, List.mem_singleton] at hb; rw [HGE.out]; omega, h1⟩
end Go.Proofs.YtofkiimaoahfjaaDoor

set_option maxRecDepth 100000
set_option linter.unusedVariables false
set_option linter.unusedSimpArgs false
namespace Go.Proofs.YtofkiimaoahfjaaDoor
open Go.RowKit Go.Proofs.YtofkiimaoahfjaaDoor.Pure

set_option maxHeartbeats 2000000 in
theorem ibody_one (g q : Nat) (sv : Value) (bs : List Int) (t : Nat) (n : Nat) (D : Int) (w : World) (hI : Hid (IsI w g q sv bs t 0)) (hn : 1 ≤ n ∧ n ≤ 512) :
    Calls Tryd.prog 44 #[.pointer (some ⟨g, 0, none⟩), .int .i64 0, .int .i64 n, .int .i64 D] w fun e w' => ∃ v, e = .returned v ∧ Row w' .i64 3 v (List.replicate n ((listI D 0 (restB bs t) 1).1.headD 0)) ∧ (∀ b, b ∈ fp v → w.heap.size ≤ b) ∧
      IsI w' g q sv bs (t + (listI D 0 (restB bs t) 1).2.2) (listI D 0 (restB bs t) 1).2.1 ∧ Keeps [g, q] w w' := by
  have HL : Hid (∀ W, IsI W g q sv bs t 0 → Calls Tryd.prog 77 #[.pointer (some ⟨g, 0, none⟩), .int .i64 1, .int .i64 D] W fun e w' => ∃ v, e = .returned v ∧ Row w' .i64 3 v (listI D 0 (restB bs t) 1).1 ∧ (∀ b, b ∈ fp v → W.heap.size ≤ b) ∧
      IsI w' g q sv bs (t + (listI D 0 (restB bs t) 1).2.2) (listI D 0 (restB bs t) 1).2.1 ∧ Keeps [g, q] W w') := fun W h => ilist_calls g q sv bs t 0 D 1 W (Lib.hid h) (by omega)
  have hlen := listI_length D 0 (restB bs t) 1
  obtain ⟨X, hX⟩ : ∃ X, listI D 0 (restB bs t) 1 = X := ⟨_, rfl⟩
  rw [hX] at HL hlen
  rw [hX]
  obtain ⟨l, E, T⟩ := X
  obtain ⟨x, rfl⟩ : ∃ x, l = [x] := List.length_eq_one_iff.1 hlen
  clear hX hlen
  go_enter Tryd.func44, Tryd.ntmps44
  go_wp2_with (first
    | (go_at_call 77; go_must (with_reducible refine (HL.out _ hI.out).mono ?_); rintro e w1 ⟨v1, rfl, hr1, hf1, hi1, hk1⟩; obtain ⟨a1, c1, rfl, hq1, -, -⟩ := hr1.rdd; have HQ1 := Lib.hid hq1; have HI1 := Lib.hid hi1; have HK1 := Lib.hid hk1; clear hr1 hf1 hq1 hi1 hk1)
    | (go_at_call 76; go_must (with_reducible refine (srepeat_calls x n a1 c1 _ hn HQ1).mono ?_); rintro e w2 ⟨v2, rfl, hr2, hf2, hk2⟩))
  go_ret
  exact ⟨_, rfl, hr2, (fun b hb => Nat.le_trans HK1.out.size (hf2 b hb)), HI1.out.new hk2, HK1.out.new hk2⟩

set_option maxHeartbeats 2000000 in
theorem ibody_all (g q : Nat) (sv : Value) (bs : List Int) (t : Nat) (n : Nat) (D : Int) (w : World) (hI : Hid (IsI w g q sv bs t 0)) (hn : n ≤ 512) :
    Calls Tryd.prog 44 #[.pointer (some ⟨g, 0, none⟩), .int .i64 1, .int .i64 n, .int .i64 D] w fun e w' => ∃ v, e = .returned v ∧ Row w' .i64 3 v (listI D 0 (restB bs t) n).1 ∧ (∀ b, b ∈ fp v → w.heap.size ≤ b) ∧
      IsI w' g q sv bs (t + (listI D 0 (restB bs t) n).2.2) (listI D 0 (restB bs t) n).2.1 ∧ Keeps [g, q] w w' := by
  have HL := Lib.hid (fun W (h : IsI W g q sv bs t 0) => ilist_calls g q sv bs t 0 D n W (Lib.hid h) (by omega))
  go_enter Tryd.func44, Tryd.ntmps44
  go_wp2_with (first
    | (go_at_call 77; go_must (with_reducible refine (HL.out _ hI.out).mono ?_); rintro e w1 ⟨v1, rfl, hr1, hf1, hi1, hk1⟩))
  go_ret
  exact ⟨_, rfl, hr1, hf1, hi1, hk1⟩
end Go.Proofs.YtofkiimaoahfjaaDoor

set_option maxRecDepth 100000
set_option linter.unusedVariables false
set_option linter.unusedSimpArgs false
namespace Go.Proofs.YtofkiimaoahfjaaDoor
open Go.RowKit Go.Proofs.YtofkiimaoahfjaaDoor.Pure

/-- What stands behind the warm samples and the model: the rest, and what is restored. -/
def tailS (n c : Int) (cs : List Int) (sh : Int) (W : List Int) (E : Int) (R : List Bool) : List Int × Int × Nat :=
  if E ≠ 0 then ([], E, 0)
  else if (blockS n c R).2.1 ≠ 0 then ([], (blockS n c R).2.1, (blockS n c R).2.2)
  else (rstO cs sh W (blockS n c R).1, rstE cs sh W (blockS n c R).1, (blockS n c R).2.2)
/-- body by a fixed model of order c. -/
def fixS (n : Int) (D : Int) (c : Nat) (R : List Bool) : List Int × Int × Nat :=
  if n < c then ([], 2, 0)
  else ((tailS n c (fixL (min c 4)) 0 (listI D 0 R c).1 (listI D 0 R c).2.1 (R.drop (listI D 0 R c).2.2)).1, (tailS n c (fixL (min c 4)) 0 (listI D 0 R c).1 (listI D 0 R c).2.1 (R.drop (listI D 0 R c).2.2)).2.1,
    (listI D 0 R c).2.2 + (tailS n c (fixL (min c 4)) 0 (listI D 0 R c).1 (listI D 0 R c).2.1 (R.drop (listI D 0 R c).2.2)).2.2)

theorem partsR_len (m : Nat) : ∀ (cs : List Nat) (R : List Bool), (partsR m cs R).1.length ≤ cs.sum := by
  intro cs
  induction cs with
  | nil => intro R; simp [partsR]
  | cons c cs ih =>
    intro R
    unfold partsR
    split
    · simp
    · split
      · simp
      · have h1 := readS_len m c R
        have h2 := ih (R.drop (readS m c R).2.2)
        simp only [List.length_append, List.sum_cons]
        omega
theorem cntsS_sum (n order p : Nat) : (cntsS n order p).sum ≤ n := by
  have hp := Nat.two_pow_pos p
  have h1 := Nat.mul_div_le n (2 ^ p)
  obtain ⟨P, hP⟩ : ∃ P, 2 ^ p = P + 1 := ⟨2 ^ p - 1, by omega⟩
  unfold cntsS
  rw [List.sum_cons, List.sum_replicate_nat, hP]
  rw [hP] at h1
  rw [Nat.add_sub_cancel]
  obtain ⟨Q, hQ⟩ : ∃ Q, n / (P + 1) = Q := ⟨_, rfl⟩
  rw [hQ] at h1 ⊢
  rw [Nat.succ_mul] at h1
  omega
theorem blockS_len (n order : Int) (R : List Bool) : (blockS n order R).1.length ≤ n.toNat := by
  unfold blockS
  split
  · simp
  · split
    · simp
    · split
      · simp
      · split
        · simp
        · split
          · simp
          · exact Nat.le_trans (partsR_len _ _ _) (cntsS_sum _ _ _)
set_option maxHeartbeats 4000000 in
theorem ibody_fix (g q : Nat) (sv : Value) (bs : List Int) (t : Nat) (n : Nat) (c : Nat) (D kd : Int) (w : World) (hI : Hid (IsI w g q sv bs t 0)) (hn : n ≤ 512) (hc : c ≤ 4) (hk : kd = 8 + (c : Int)) (hb : bs.length ≤ 1000000) :
    Calls Tryd.prog 44 #[.pointer (some ⟨g, 0, none⟩), .int .i64 kd, .int .i64 n, .int .i64 D] w fun e w' => ∃ v, e = .returned v ∧ Row w' .i64 3 v (fixS n D c (restB bs t)).1 ∧ (∀ b, b ∈ fp v → w.heap.size ≤ b) ∧
      IsI w' g q sv bs (t + (fixS n D c (restB bs t)).2.2) (fixS n D c (restB bs t)).2.1 ∧ Keeps [g, q] w w' := by
  have e0 : (kd == 0) = false := beq_eq_false_iff_ne.2 (by omega)
  have e1 : (kd == 1) = false := beq_eq_false_iff_ne.2 (by omega)
  have e2 : ¬ (31 : Int) < kd := by omega
  have e3 : kd - 8 = (c : Int) := by omega
  have k8 : 8 ≤ kd := by omega
  have k12 : kd ≤ 12 := by omega
  clear hk
  have hg : g < w.heap.size := (Array.getElem?_eq_some_iff.1 hI.out.inp.hp).1
  have hq : q < w.heap.size := hI.out.rd.duo.lt
  have hsl := hI.out.rd.row.lt
  have HG := Lib.hid hg
  have HQ := Lib.hid hq
  have HSL := Lib.hid hsl
  have HM := Lib.hid (fun W ok (h : IsI W g q sv bs t 0) => imust_calls g q sv bs t 0 ok W (Lib.hid h))
  obtain ⟨R, hR⟩ : ∃ R, restB bs t = R := ⟨_, rfl⟩
  have hdr : ∀ d, restB bs (t + d) = R.drop d := fun d => by rw [restB_add, hR]
  rw [hR]
  by_cases hnc : (n : Int) < (c : Int)
  · have HF : Hid (fixS n D c R = ([], 2, 0)) := by show _ = _; unfold fixS; rw [if_pos hnc]
    have hle : decide (c ≤ n) = false := decide_eq_false (by omega)
    have HM1 : Hid (∀ W, IsI W g q sv bs t 0 → Calls Tryd.prog 72 #[.pointer (some ⟨g, 0, none⟩), .bool false] W fun e w' => e = .returned (.tuple #[]) ∧ IsI w' g q sv bs t 2 ∧ Keeps [g, q] W w') := fun W h => HM.out W false h
    clear hg hq hsl hdr hR HM
    go_enter Tryd.func44, Tryd.ntmps44
    go_wp2_with (first
      | (go_at_call 72; go_must (with_reducible refine (HM1.out _ hI.out).mono ?_); rintro e w1 ⟨rfl, hi1, hk1⟩; have HI1 := Lib.hid hi1; have HK1 := Lib.hid hk1; have d1 := HI1.out.c1; clear hi1 hk1))
    go_ret
    rw [HF.out]
    exact ⟨.slice none 0 0, rfl, Row.nil _ _ _, (fun b h => by cases h), HI1.out, HK1.out⟩
  · have HFS : Hid (fixS n D c R = ((tailS n c (fixL (min c 4)) 0 (listI D 0 R c).1 (listI D 0 R c).2.1 (R.drop (listI D 0 R c).2.2)).1, (tailS n c (fixL (min c 4)) 0 (listI D 0 R c).1 (listI D 0 R c).2.1 (R.drop (listI D 0 R c).2.2)).2.1,
        (listI D 0 R c).2.2 + (tailS n c (fixL (min c 4)) 0 (listI D 0 R c).1 (listI D 0 R c).2.1 (R.drop (listI D 0 R c).2.2)).2.2)) := by show _ = _; unfold fixS; rw [if_neg hnc]
    have hle : decide (c ≤ n) = true := decide_eq_true (by omega)
    have HM1 : Hid (∀ W, IsI W g q sv bs t 0 → Calls Tryd.prog 72 #[.pointer (some ⟨g, 0, none⟩), .bool true] W fun e w' => e = .returned (.tuple #[]) ∧ IsI w' g q sv bs t 0 ∧ Keeps [g, q] W w') := fun W h => HM.out W true h
    have HL := Lib.hid (fun W (h : IsI W g q sv bs t 0) => ilist_calls g q sv bs t 0 D c W (Lib.hid h) (by omega))
    rw [hR] at HL
    have hmin : min (c : Int) 4 = ((c : Nat) : Int) := by omega
    have hmn : min c 4 = c := by omega
    rw [hmn] at HFS
    have HFX := Lib.hid (fun W => fixed_calls c W hc)
    have hwl := listI_length D 0 R c
    obtain ⟨X, hX⟩ : ∃ X, listI D 0 R c = X := ⟨_, rfl⟩
    rw [hX] at HL HFS hwl
    obtain ⟨ws, E, T⟩ := X
    replace HFS : Hid (fixS n D c R = ((tailS n c (fixL c) 0 ws E (R.drop T)).1, (tailS n c (fixL c) 0 ws E (R.drop T)).2.1, T + (tailS n c (fixL c) 0 ws E (R.drop T)).2.2)) := HFS.out
    replace HL : Hid (∀ W, IsI W g q sv bs t 0 → Calls Tryd.prog 77 #[.pointer (some ⟨g, 0, none⟩), .int .i64 c, .int .i64 D] W fun e w' => ∃ v, e = .returned v ∧ Row w' .i64 3 v ws ∧ (∀ b, b ∈ fp v → W.heap.size ≤ b) ∧ IsI w' g q sv bs (t + T) E ∧ Keeps [g, q] W w') := HL.out
    have hwl2 : ws.length ≤ 4 := by
      have h1 : ws.length = c := hwl
      omega
    have HTS : Hid (tailS n c (fixL c) 0 ws E (R.drop T) = if E ≠ 0 then ([], E, 0) else if (blockS n c (R.drop T)).2.1 ≠ 0 then ([], (blockS n c (R.drop T)).2.1, (blockS n c (R.drop T)).2.2) else (rstO (fixL c) 0 ws (blockS n c (R.drop T)).1, rstE (fixL c) 0 ws (blockS n c (R.drop T)).1, (blockS n c (R.drop T)).2.2)) := (show _ = _ from rfl)
    have HRR : Hid (∀ W, IsI W g q sv bs (t + T) 0 → Calls Tryd.prog 78 #[.pointer (some ⟨q, 0, none⟩), .int .i64 n, .int .i64 c] W fun e w' => ∃ v, e = .returned (.tuple #[v, .int .i64 (blockS n c (R.drop T)).2.1]) ∧ Row w' .i64 3 v (blockS n c (R.drop T)).1 ∧ IsI w' g q sv bs (t + (T + (blockS n c (R.drop T)).2.2)) 0 ∧ Keeps [q] W w' ∧ (∀ b, b ∈ fp v → W.heap.size ≤ b)) := by
      intro W h
      have := rread_calls q sv bs (t + T) n c W (Lib.hid h.rd) (by omega) (by omega) hb
      rw [hdr, Nat.add_assoc] at this
      exact this.mono (fun e w' ⟨v, h1, h2, h3, h4, h5⟩ => ⟨v, h1, h2, h.read h3 h4, h4, h5⟩)
    obtain ⟨cf, hcf⟩ : ∃ cf, fixL c = cf := ⟨_, rfl⟩
    rw [hcf] at HFX HFS HTS
    have hcfl : cf.length ≤ 4 := by rw [← hcf]; exact fixL_le c
    clear hg hq hsl hdr hR HM hX hwl hmn hcf
    by_cases hE : E = 0
    · subst hE
      go_enter Tryd.func44, Tryd.ntmps44
      go_upto_region 14 with (first
        | (go_at_call 72; go_must (with_reducible refine (HM1.out _ hI.out).mono ?_); rintro e w1 ⟨rfl, hi1, hk1⟩; have HI1 := Lib.hid hi1; have HK1 := Lib.hid hk1; have d1 := HI1.out.c1; clear hi1 hk1)
        | (go_at_call 77; go_must (with_reducible refine (HL.out _ HI1.out).mono ?_); rintro e w2 ⟨v2, rfl, hr2, hf2, hi2, hk2⟩; obtain ⟨a2, c2, rfl, -, hn2, -⟩ := hr2.rdd; have HR2 := Lib.hid hr2; have HF2 := Lib.hid hf2; have HI2 := Lib.hid hi2; have HK2 := Lib.hid hk2; have HN2 := Lib.hid hn2; clear hr2 hf2 hi2 hk2 hn2 d1)
        | (go_at_call 55; go_must (with_reducible refine (HFX.out _).mono ?_); rintro e w3 ⟨v3, rfl, hr3, hf3, hk3⟩; obtain ⟨a3, c3, rfl⟩ := hr3.slice; have HR3 := Lib.hid hr3; have HK3 := Lib.hid hk3; have HFX3 := Lib.hid hf3; clear hr3 hf3 hk3))
      have hal : Keeps [] w3 (w3.alloc (.cells #[.slice a3 cf.length c3, .int .i64 0] 59)) := (Keeps.refl _ _).alloc _
      have HI4 := Lib.hid ((HI2.out.new HK3.out).new hal)
      have HK4 : Hid (Keeps [g, q] w (w3.alloc (.cells #[.slice a3 cf.length c3, .int .i64 0] 59))) := (((HK1.out.then_ HK2.out (fun b hb _ => hb)).new HK3.out).new hal)
      have HR4 : Hid (Row (w3.alloc (.cells #[.slice a3 cf.length c3, .int .i64 0] 59)) .i64 3 (.slice a2 ws.length c2) ws) := (HR2.out.keeps HK3.out (fun _ _ => by simp)).keeps hal (fun _ _ => by simp)
      have HC4 : Hid (Row (w3.alloc (.cells #[.slice a3 cf.length c3, .int .i64 0] 59)) .i64 3 (.slice a3 cf.length c3) cf) := HR3.out.keeps hal (fun _ _ => by simp)
      have HM4 : Hid (Cell2 (w3.alloc (.cells #[.slice a3 cf.length c3, .int .i64 0] 59)) w3.heap.size 59 (.slice a3 cf.length c3) (.int .i64 0)) := ⟨heap_alloc_new _ _⟩
      have HMQ : Hid (w3.heap.size ≠ q ∧ w3.heap.size ≠ g) := by
        have h1 := ((HK1.out.then_ HK2.out (fun b hb _ => hb)).new HK3.out).size
        have h2 := HG.out
        have h3 := HQ.out
        show _ ∧ _
        omega
      have HFW : Hid (∀ b, b ∈ fp (.slice a2 ws.length c2) → b ≠ q) := fun b hb e => by
        have h1 := HF2.out b hb
        have h2 := HK1.out.size
        have h3 := HQ.out
        omega
      have HFC : Hid (∀ b, b ∈ fp (.slice a3 cf.length c3) → b ≠ q) := fun b hb e => by
        have h1 := HFX3.out b hb
        have h2 := (HK1.out.then_ HK2.out (fun b hb _ => hb)).size
        have h3 := HQ.out
        omega
      clear HI1 HI2 HK1 HK2 HK3 HR2 HR3 hal HF2 HFX3
      generalize w3.alloc (.cells #[.slice a3 cf.length c3, .int .i64 0] 59) = w4 at *
      generalize w3.heap.size = gm at *
      have d0 := HI4.out.c0
      have d1 := HI4.out.c1
      have hbl := blockS_len n c (R.drop T)
      obtain ⟨⟨L, Er, Tr⟩, hB⟩ : ∃ B, blockS n c (R.drop T) = B := ⟨_, rfl⟩
      rw [hB] at HTS HRR hbl
      have HLL : Hid (L.length ≤ 1000000) := by show _ ≤ _; have h1 : L.length ≤ (n : Int).toNat := hbl; omega
      clear hbl
      clear hB
      replace HRR : Hid (∀ W, IsI W g q sv bs (t + T) 0 → Calls Tryd.prog 78 #[.pointer (some ⟨q, 0, none⟩), .int .i64 n, .int .i64 c] W fun e w' => ∃ v, e = .returned (.tuple #[v, .int .i64 Er]) ∧ Row w' .i64 3 v L ∧ IsI w' g q sv bs (t + (T + Tr)) 0 ∧ Keeps [q] W w' ∧ (∀ b, b ∈ fp v → W.heap.size ≤ b)) := HRR.out
      replace HTS : Hid (tailS n c cf 0 ws 0 (R.drop T) = if Er ≠ 0 then ([], Er, Tr) else (rstO cf 0 ws L, rstE cf 0 ws L, Tr)) := HTS.out
      by_cases hEr : Er = 0
      · subst hEr
        have HT2 : Hid (fixS n D c R = (rstO cf 0 ws L, rstE cf 0 ws L, T + Tr)) := by show _ = _; rw [HFS.out, HTS.out, if_neg (by simp)]
        obtain ⟨RE, eRE⟩ : ∃ e, rstE cf 0 ws L = e := ⟨_, rfl⟩
        have HRE := Lib.hid eRE
        rw [eRE] at HT2
        clear HTS HFS eRE
        go_upto_region 25 with (first
          | (go_at_call 78; go_must (with_reducible refine (HRR.out _ HI4.out).mono ?_); rintro e w5 ⟨v5, rfl, hr5, hi5, hk5, hf5⟩; obtain ⟨a5, c5, rfl, -, -, -⟩ := hr5.rdd; have HR5 := Lib.hid hr5; have HI5 := Lib.hid hi5; have HK5 := Lib.hid hk5; clear hr5 hi5 hk5 hf5 d0 d1)
          )
        have hq1 : ∀ {v : Value}, (∀ b, b ∈ fp v → b ≠ q) → ∀ b, b ∈ fp v → b ∉ [q] := fun h b hb hm => h b hb (List.mem_singleton.1 hm)
        have HM5 := Lib.hid (HM4.out.keeps HK5.out (fun hm => HMQ.out.1 (List.mem_singleton.1 hm)))
        have m0 := HM5.out.c0
        have m1 := HM5.out.c1
        have HW5 := Lib.hid (HR4.out.keeps HK5.out (hq1 HFW.out))
        have HC5 := Lib.hid (HC4.out.keeps HK5.out (hq1 HFC.out))
        clear hq1
        have HKE : Hid (Keeps [g, q] w w5) := HK4.out.then_ HK5.out (fun b hb _ => by simp at hb; simp [hb])
        have hr := row_rd HR5.out
        go_upto_region 26 with (first
          | (go_at_call 79; go_must (with_reducible refine (restore_calls cf ws L 0 _ _ _ rfl a3 a2 a5 c3 c2 c5 _ rfl rfl HN2.out (by omega) HLL.out (Lib.hid (row_rd HC5.out)) (Lib.hid (row_rd HW5.out)) (Lib.hid (row_rd HR5.out))).mono ?_); rw [HRE.out]; rintro e w6 ⟨v6, rfl, hr6, hf6, hk6⟩; have HI6 := Lib.hid (HI5.out.new hk6); have HK6 := Lib.hid hk6; have HR6 := Lib.hid hr6; have HF6 := Lib.hid hf6; clear hr6 hf6 hk6))
        have d1 := HI6.out.c1
        have f1 := HI6.out.f1
        clear hr
        go_wp2_with fail
        go_ret
        rw [HT2.out]
        have hk7 : Keeps [g] w6 (w6.setCell ⟨g, 1, none⟩ (.int .i64 RE)) := (Keeps.refl _ w6).setCell (.inl (by simp)) _
        refine ⟨v6, rfl, HR6.out.keeps hk7 (fun b hb hm => ?_), fun b hb => ?_, HI6.out.setE RE, ?_⟩
        · have h1 := HF6.out b hb
          have h2 := HKE.out.size
          have h3 := HG.out
          rw [List.mem_singleton] at hm
          omega
        · exact Nat.le_trans HKE.out.size (HF6.out b hb)
        · exact (HKE.out.new HK6.out).then_ hk7 (fun b hb _ => by simp at hb; simp [hb])
      · have hEb : (Er != 0) = true := by simpa using hEr
        have HT2 : Hid (fixS n D c R = ([], Er, T + Tr)) := by show _ = _; rw [HFS.out, HTS.out, if_pos hEr]
        clear HTS HFS
        go_upto_region 22 with (first
          | (go_at_call 78; go_must (with_reducible refine (HRR.out _ HI4.out).mono ?_); rintro e w5 ⟨v5, rfl, hr5, hi5, hk5, hf5⟩; have HI5 := Lib.hid hi5; have HK5 := Lib.hid hk5; clear hr5 hi5 hk5 hf5 d0 d1))
        have d1 := HI5.out.c1
        have f1 := HI5.out.f1
        go_wp2_with fail
        go_ret
        rw [HT2.out]
        exact ⟨.slice none 0 0, rfl, Row.nil _ _ _, (fun b h => by cases h), HI5.out.setE Er, HK4.out.then_ (keeps_gq (g := g) HK5.out (.int .i64 Er)) (fun b hb _ => hb)⟩
    · have hEb : (E != 0) = true := by simpa using hE
      have HT2 : Hid (fixS n D c R = ([], E, T + 0)) := by show _ = _; rw [HFS.out, HTS.out, if_pos hE]
      clear HTS HFS HRR
      go_enter Tryd.func44, Tryd.ntmps44
      go_upto_region 14 with (first
        | (go_at_call 72; go_must (with_reducible refine (HM1.out _ hI.out).mono ?_); rintro e w1 ⟨rfl, hi1, hk1⟩; have HI1 := Lib.hid hi1; have HK1 := Lib.hid hk1; have d1 := HI1.out.c1; clear hi1 hk1)
        | (go_at_call 77; go_must (with_reducible refine (HL.out _ HI1.out).mono ?_); rintro e w2 ⟨v2, rfl, hr2, hf2, hi2, hk2⟩; have HI2 := Lib.hid hi2; have HK2 := Lib.hid hk2; clear hr2 hf2 hi2 hk2 d1)
        | (go_at_call 55; go_must (with_reducible refine (HFX.out _).mono ?_); rintro e w3 ⟨v3, rfl, hr3, hf3, hk3⟩; obtain ⟨a3, c3, rfl⟩ := hr3.slice; have HK3 := Lib.hid hk3; clear hr3 hf3 hk3))
      have hal : Keeps [] w3 (w3.alloc (.cells #[.slice a3 cf.length c3, .int .i64 0] 59)) := (Keeps.refl _ _).alloc _
      have HI4 := Lib.hid ((HI2.out.new HK3.out).new hal)
      have HK4 : Hid (Keeps [g, q] w (w3.alloc (.cells #[.slice a3 cf.length c3, .int .i64 0] 59))) := (((HK1.out.then_ HK2.out (fun b hb _ => hb)).new HK3.out).new hal)
      generalize w3.alloc (.cells #[.slice a3 cf.length c3, .int .i64 0] 59) = w4 at *
      have d0 := HI4.out.c0
      have d1 := HI4.out.c1
      clear hal
      go_wp2_with fail
      go_ret
      rw [HT2.out]
      exact ⟨.slice none 0 0, rfl, Row.nil _ _ _, (fun b h => by cases h), HI4.out, HK4.out⟩
end Go.Proofs.YtofkiimaoahfjaaDoor
