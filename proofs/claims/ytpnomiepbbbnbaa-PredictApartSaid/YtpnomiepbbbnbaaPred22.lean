/-
  Layer 7 (predict): of, and the room behind its coefficients.
-/
import Derived.Test.YtpnomiepbbbnbaaPred21
import Derived.Test.YtpnomiepbbbnbaaRoom
set_option linter.unusedVariables false
set_option linter.unusedSimpArgs false
namespace Go.Proofs.Ytpnomiepbbbnbaa
open Go.RowKit

theorem Box.far {w w' : World} {g : Nat} {u v : Value} {F : List Nat} (h : Box w g u v) (hk : Keeps F w w') (hg : g ∉ F) : Box w' g u v := ⟨hk.cell h.c0 hg, hk.cell h.c1 hg⟩

set_option maxHeartbeats 2000000 in
theorem of_room (cs : List Int) (sh : Int) (m : Nat) (hm : m = cs.length) (a : Option Addr) (c : Nat) (w : World) (hl : cs.length ≤ 17592186043904) (hn : a = none → c = 0) (hc : Hid (Rd w .i64 a cs)) :
    Calls Try.prog 17 #[.agg #[.slice a m c, .int .i64 sh]] w fun e w' => ∃ g, e = .returned (.agg #[.slice (some ⟨g, 0, none⟩) cs.length (cs.length + 2), .int .i64 sh]) ∧ Rd w' .i64 (some ⟨g, 0, none⟩) (cs ++ [0, 0]) ∧ w.heap.size ≤ g ∧ Keeps [] w w' := by
  subst hm
  have HK0 : Hid (Keeps [] w ((w.alloc (.cells #[.slice a cs.length c, .int .i64 sh] 34)).alloc (.cells #[.slice none 0 0, .int .i64 0] 26))) := ((Keeps.refl _ _).alloc _).alloc _
  have HB := Lib.hid ((Box.made w (.slice a cs.length c) (.int .i64 sh) 34).new ((Keeps.refl _ _).alloc (.cells #[.slice none 0 0, .int .i64 0] 26)))
  have HM := Lib.hid (heap_alloc_new (w.alloc (.cells #[.slice a cs.length c, .int .i64 sh] 34)) (.cells #[.slice none 0 0, .int .i64 0] 26))
  have HC := Lib.hid (hc.out.new HK0.out)
  have HSP := Lib.hid hc.out.spot
  rw [World.size_alloc] at HM
  go_enter Try.func17, Try.ntmps17
  go_upto_region 1 with fail
  have HLT : Hid (w.heap.size + 1 < ((w.alloc (.cells #[.slice a cs.length c, .int .i64 sh] 34)).alloc (.cells #[.slice none 0 0, .int .i64 0] 26)).heap.size) := by
    show _ < _
    simp
  have HG2 : Hid (Cell2 ((w.alloc (.cells #[.slice a cs.length c, .int .i64 sh] 34)).alloc (.cells #[.slice none 0 0, .int .i64 0] 26)) (w.heap.size + 1) 26 (.slice none 0 0) (.int .i64 0)) := ⟨HM.out⟩
  clear HM
  generalize ((w.alloc (.cells #[.slice a cs.length c, .int .i64 sh] 34)).alloc (.cells #[.slice none 0 0, .int .i64 0] 26)) = w1 at *
  have hbx0 := HB.out.c0
  have hbx1 := HB.out.c1
  have hwr : IntKind.i64.wrap ((cs.length : Int) + 2) = (cs.length : Int) + 2 := IntWalk.i64_in _ (by omega)
  have hmk := run_mk Try.prog 22 3 .i64 8 Try.underlying22 info_i64 .i64 .i64 0 (cs.length + 2) 0 ((cs.length : Int) + 2) rfl rfl (by omega) (by omega) (by omega)
  have HKV : Hid (∀ w7, Keeps [w1.heap.size] (w1.alloc (.cells (madeCells #[.int .i64 0] (cs.length + 2)) 3)).drew w7 → Keeps [] w1 w7) := fun w7 h =>
    (((Keeps.refl [] w1).alloc _).drew).then_ h (fun b hb hlt => by rw [List.mem_singleton] at hb; omega)
  go_region_held3 (fun w' => w'.cell? ⟨w.heap.size, 0, none⟩ = some (.slice a cs.length c) ∧ w'.cell? ⟨w.heap.size, 1, none⟩ = some (.int .i64 sh))
    (first
      | (exact ⟨hbx0, hbx1⟩)
      | (exact ⟨(HKV.out _ hk7).cell hbx0 (by simp), (HKV.out _ hk7).cell hbx1 (by simp)⟩)
      | (exact ⟨((((Keeps.refl [w.heap.size + 1] w7).setCell (.inl (by simp)) _).setCell (.inl (by simp)) _).cell ((HKV.out _ hk7).cell hbx0 (by simp)) (by simp)), ((((Keeps.refl [w.heap.size + 1] w7).setCell (.inl (by simp)) _).setCell (.inl (by simp)) _).cell ((HKV.out _ hk7).cell hbx1 (by simp)) (by simp))⟩)
      | go_keep)
    (first
      | (refine step_appG _ (by rfl) _ _ _ 3 .i64 8 (by rfl) Try.underlying22 info_i64 w1.heap.size (cs.length + 2) cs (by rfl) a c (by rfl) ((Row.made w1 .i64 3 (cs.length + 2) (by omega)).keeps ((Keeps.refl [] _).drew) (fun _ _ => by simp)) ((Row.madeRoom w1 .i64 3 (cs.length + 2) (by omega)).keeps ((Keeps.refl [] _).drew) (fun _ _ => by simp)) (HC.out.new (((Keeps.refl _ _).alloc _).drew)) hn (by omega) ?_; intro w7 hr7 hk7; have hd0 := (HG2.out.keeps (HKV.out _ hk7) (by simp)).c0; have hd1 := (HG2.out.keeps (HKV.out _ hk7) (by simp)).c1; have hz0 := (HG2.out.keeps (HKV.out _ hk7) (by simp)).frozen 0; have hz1 := (HG2.out.keeps (HKV.out _ hk7) (by simp)).frozen 1))
  have HR7 := Lib.hid hr7
  have HK7 := Lib.hid (HKV.out _ hk7)
  have HC7 := Lib.hid (HG2.out.keeps (HKV.out _ hk7) (by simp))
  rw [show cs.length + 2 - cs.length = 2 by omega] at HR7
  have HR7 : Hid (Rd w7 .i64 (some ⟨w1.heap.size, 0, none⟩) (cs ++ [0, 0])) := HR7.out
  clear hr7 hk7 hbx0 hbx1 hd0 hd1 hz0 hz1 hwr hmk
  rename_i hX
  clear hX
  obtain ⟨g1, hg1⟩ : ∃ g1, w1.heap.size = g1 := ⟨_, rfl⟩
  have HG1 := Lib.hid hg1
  rw [hg1] at HR7 HLT ⊢
  clear hg1 HKV
  go_wp2_with fail
  have HE1 : Hid (((w7.setCell ⟨w.heap.size + 1, 0, none⟩ (.slice (some ⟨g1, 0, none⟩) cs.length (cs.length + 2))).setCell ⟨w.heap.size + 1, 1, none⟩ (.int .i64 sh)).heap[w.heap.size + 1]? = some (.cells #[.slice (some ⟨g1, 0, none⟩) cs.length (cs.length + 2), .int .i64 sh] 26 (0, 0))) :=
    blk_set (blk_set HC7.out.hp 0 (.slice (some ⟨g1, 0, none⟩) cs.length (cs.length + 2))) 1 (.int .i64 sh)
  have HKE : Hid (Keeps [w.heap.size + 1] w7 ((w7.setCell ⟨w.heap.size + 1, 0, none⟩ (.slice (some ⟨g1, 0, none⟩) cs.length (cs.length + 2))).setCell ⟨w.heap.size + 1, 1, none⟩ (.int .i64 sh))) :=
    ((Keeps.refl _ w7).setCell (.inl (by simp)) _).setCell (.inl (by simp)) _
  refine bodyPost_ret (results_cell1 rfl _ _ (w.heap.size + 1) 26 #[.slice (some ⟨g1, 0, none⟩) cs.length (cs.length + 2), .int .i64 sh] (0, 0) _ rfl HE1.out Try.underlying26 rfl (by kernel_rfl)) rfl ?_
  refine ⟨g1, rfl, HR7.out.keeps HKE.out (fun ad e h => ?_), by have := HLT.out; omega, ?_⟩
  · cases e
    rw [List.mem_singleton] at h
    have h : g1 = w.heap.size + 1 := h
    have := HLT.out
    omega
  · exact ((HK0.out.new HK7.out).then_ HKE.out (fun b hb hlt => by rw [List.mem_singleton] at hb; omega))
end Go.Proofs.Ytpnomiepbbbnbaa
