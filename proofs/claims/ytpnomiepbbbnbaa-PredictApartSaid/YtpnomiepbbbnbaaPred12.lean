/-
  Layer 7 (predict): of.
-/
import Derived.Test.YtpnomiepbbbnbaaPred11
import Derived.Test.YtpnomiepbbbnbaaApp
set_option linter.unusedVariables false
set_option linter.unusedSimpArgs false
namespace Go.Proofs.Ytpnomiepbbbnbaa
open Go.RowKit

theorem results_cell1 {P : Program} {fn : Func} {p : Tmp} {ty : TypeId} (h : fn.results = #[.cell p ty]) (tmps : Array Value) (w : World) (g : Nat) (t : TypeId) (cs : Array Value) (fr : Nat × Nat) (d : TypeDesc)
    (hp : tmps.getD p undef = .pointer (some ⟨g, 0, none⟩)) (hg : w.heap[g]? = some (.cells cs t fr))
    (hu : P.underlying ty = some d) (hd : (match d with | .struct _ | .array _ _ => true | _ => false) = true) (hi : (P.info? ty).map (·.size) = some cs.size) :
    (results fn tmps).run P w = .ok (.agg cs) w := by
  have : (results fn tmps).run P w = ((asAddr (tmps.getD p undef)).run P w).andThen fun a w₁ => (loadVar ty a).run P w₁ := by
    simp only [results, h]
    simp [Sem.run_bind, Result.andThen]
  rw [this, hp]
  simp [asAddr, run_loadVar_row w g t ty cs fr d hg hu hd hi, Result.andThen]

set_option maxHeartbeats 2000000 in
theorem of_calls (cs : List Int) (sh : Int) (m : Nat) (hm : m = cs.length) (a : Option Addr) (c : Nat) (w : World) (hl : cs.length ≤ 17592186043904) (hn : a = none → c = 0) (hc : Hid (Rd w .i64 a cs)) :
    Calls Try.prog 17 #[.agg #[.slice a m c, .int .i64 sh]] w fun e w' => ∃ v, e = .returned (.agg #[v, .int .i64 sh]) ∧ Row w' .i64 3 v cs ∧ (∀ b, b ∈ fp v → w.heap.size ≤ b) ∧ Keeps [] w w' := by
  subst hm
  have HK0 : Hid (Keeps [] w ((w.alloc (.cells #[.slice a cs.length c, .int .i64 sh] 34)).alloc (.cells #[.slice none 0 0, .int .i64 0] 26))) := ((Keeps.refl _ _).alloc _).alloc _
  have HB := Lib.hid ((Box.made w (.slice a cs.length c) (.int .i64 sh) 34).new ((Keeps.refl _ _).alloc (.cells #[.slice none 0 0, .int .i64 0] 26)))
  have HM := Lib.hid (heap_alloc_new (w.alloc (.cells #[.slice a cs.length c, .int .i64 sh] 34)) (.cells #[.slice none 0 0, .int .i64 0] 26))
  have HC := Lib.hid (hc.out.new HK0.out)
  have HSP := Lib.hid hc.out.spot
  rw [World.size_alloc] at HM
  go_enter Try.func17, Try.ntmps17
  go_upto_region 1 with fail
  have HLT : Hid (w.heap.size + 1 < ((w.alloc (.cells #[.slice a cs.length c, .int .i64 sh] 34)).alloc (.cells #[.slice none 0 0, .int .i64 0] 26)).heap.size) := by
    show _ < _
    simp
  have HG2 : Hid (Cell2 ((w.alloc (.cells #[.slice a cs.length c, .int .i64 sh] 34)).alloc (.cells #[.slice none 0 0, .int .i64 0] 26)) (w.heap.size + 1) 26 (.slice none 0 0) (.int .i64 0)) := ⟨HM.out⟩
  clear HM
  generalize ((w.alloc (.cells #[.slice a cs.length c, .int .i64 sh] 34)).alloc (.cells #[.slice none 0 0, .int .i64 0] 26)) = w1 at *
  have hbx0 := HB.out.c0
  have hbx1 := HB.out.c1
  have hwr : IntKind.i64.wrap ((cs.length : Int) + 2) = (cs.length : Int) + 2 := IntWalk.i64_in _ (by omega)
  have hmk := run_mk Try.prog 22 3 .i64 8 Try.underlying22 info_i64 .i64 .i64 0 (cs.length + 2) 0 ((cs.length : Int) + 2) rfl rfl (by omega) (by omega) (by omega)
  have HKV : Hid (∀ w7, Keeps (fp (.slice (some ⟨w1.heap.size, 0, none⟩) 0 (cs.length + 2))) (w1.alloc (.cells (madeCells #[.int .i64 0] (cs.length + 2)) 3)).drew w7 → Keeps [] w1 w7) := fun w7 h =>
    (((Keeps.refl [] w1).alloc _).drew).then_ h (fun b hb hlt => by rw [fp_some, List.mem_singleton] at hb; omega)
  go_region_held3 (fun w' => w'.cell? ⟨w.heap.size, 0, none⟩ = some (.slice a cs.length c) ∧ w'.cell? ⟨w.heap.size, 1, none⟩ = some (.int .i64 sh))
    (first
      | (exact ⟨hbx0, hbx1⟩)
      | (exact ⟨(HKV.out _ hk7).cell hbx0 (by simp), (HKV.out _ hk7).cell hbx1 (by simp)⟩)
      | (exact ⟨((((Keeps.refl [w.heap.size + 1] w7).setCell (.inl (by simp)) _).setCell (.inl (by simp)) _).cell ((HKV.out _ hk7).cell hbx0 (by simp)) (by simp)), ((((Keeps.refl [w.heap.size + 1] w7).setCell (.inl (by simp)) _).setCell (.inl (by simp)) _).cell ((HKV.out _ hk7).cell hbx1 (by simp)) (by simp))⟩)
      | go_keep)
    (first
      | (refine step_appR _ (by rfl) _ _ _ 3 .i64 8 (by rfl) Try.underlying22 info_i64 (by decide) (.slice (some ⟨w1.heap.size, 0, none⟩) 0 (cs.length + 2)) [] cs (by rfl) a c (by rfl) ((Row.madeRoom w1 .i64 3 (cs.length + 2) (by omega)).keeps ((Keeps.refl [] _).drew) (fun _ _ => by simp)) (HC.out.new (((Keeps.refl _ _).alloc _).drew)) hn HSP.out (by simp; omega) ?_; intro v7 w7 hr7 hk7 hf7; obtain ⟨a7, c7, rfl⟩ := hr7.slice; have hd0 := (HG2.out.keeps (HKV.out _ hk7) (by simp)).c0; have hd1 := (HG2.out.keeps (HKV.out _ hk7) (by simp)).c1; have hz0 := (HG2.out.keeps (HKV.out _ hk7) (by simp)).frozen 0; have hz1 := (HG2.out.keeps (HKV.out _ hk7) (by simp)).frozen 1))
  have HR7 := Lib.hid hr7
  have HK7 := Lib.hid (HKV.out _ hk7)
  have HC7 := Lib.hid (HG2.out.keeps (HKV.out _ hk7) (by simp))
  have HF7 : Hid (∀ b, b ∈ fp (.slice a7 ([] ++ cs).length c7) → w.heap.size + 1 < b) := by
    intro b hb
    rcases hf7 b hb with h | h
    · rw [fp_some, List.mem_singleton] at h; have := HLT.out; omega
    · have h2 : w1.heap.size ≤ b := Nat.le_trans ((((Keeps.refl [] w1).alloc _).drew).size) h
      have := HLT.out
      omega
  clear hr7 hk7 hf7 hbx0 hbx1 hd0 hd1 hz0 hz1 hwr hmk
  rename_i hX
  clear hX
  rw [List.nil_append] at HR7 HF7
  go_wp2_with fail
  have HE1 : Hid (((w7.setCell ⟨w.heap.size + 1, 0, none⟩ (.slice a7 cs.length c7)).setCell ⟨w.heap.size + 1, 1, none⟩ (.int .i64 sh)).heap[w.heap.size + 1]? = some (.cells #[.slice a7 cs.length c7, .int .i64 sh] 26 (0, 0))) :=
    blk_set (blk_set HC7.out.hp 0 (.slice a7 cs.length c7)) 1 (.int .i64 sh)
  have HKE : Hid (Keeps [w.heap.size + 1] w7 ((w7.setCell ⟨w.heap.size + 1, 0, none⟩ (.slice a7 cs.length c7)).setCell ⟨w.heap.size + 1, 1, none⟩ (.int .i64 sh))) :=
    ((Keeps.refl _ w7).setCell (.inl (by simp)) _).setCell (.inl (by simp)) _
  refine bodyPost_ret (results_cell1 rfl _ _ (w.heap.size + 1) 26 #[.slice a7 cs.length c7, .int .i64 sh] (0, 0) _ rfl HE1.out Try.underlying26 rfl (by kernel_rfl)) rfl ?_
  refine ⟨_, rfl, HR7.out.keeps HKE.out (fun b hb h => by rw [List.mem_singleton] at h; have := HF7.out b hb; omega), (fun b hb => by have := HF7.out b hb; omega), ?_⟩
  exact ((HK0.out.new HK7.out).then_ HKE.out (fun b hb hlt => by rw [List.mem_singleton] at hb; omega))
end Go.Proofs.Ytpnomiepbbbnbaa
