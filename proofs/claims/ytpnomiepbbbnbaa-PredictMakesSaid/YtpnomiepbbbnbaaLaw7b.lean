/-
  The statement PredictMakes of layer 7: the walk.
-/
import Derived.Test.YtpnomiepbbbnbaaPred15
set_option linter.unusedVariables false
set_option linter.unusedSimpArgs false
namespace Go.Proofs.Ytpnomiepbbbnbaa
open Go.RowKit

set_option maxHeartbeats 4000000 in
theorem predictMakes_walk (a0 : Option Addr) (len0 cap0 : Nat) (z0 : List Int) (n0 : Int) (a1 : Option Addr) (len1 cap1 : Nat) (z1 : List Int) (a2 : Option Addr) (len2 cap2 : Nat) (z2 : List Int) (w : World) (w0 : InRow .i64 w a0 len0 cap0 z0) (s0 : cap0 * 8 ≤ 140737488351232) (u0 : (Lit.int .i64 n0).wf = true) (w1 : InRow .i64 w a1 len1 cap1 z1) (s1 : cap1 * 8 ≤ 140737488351232) (w2 : InRow .i64 w a2 len2 cap2 z2) (s2 : cap2 * 8 ≤ 140737488351232) :
    Calls Try.prog 6 #[.agg #[.slice a0 len0 cap0, .int .i64 n0], .slice a1 len1 cap1, .slice a2 len2 cap2] w fun e w' => e = .returned (.bool true) ∧ Below w.heap.size w w' := by
  obtain ⟨hr0, hl0, hw0, hc0⟩ := w0.rd
  have hnc0 := w0.nil_cap
  generalize z0.take len0 = cs at *
  subst hl0
  obtain ⟨hr1, hl1, hw1, hc1⟩ := w1.rd
  have hnc1 := w1.nil_cap
  generalize z1.take len1 = ws at *
  subst hl1
  obtain ⟨hr2, hl2, hw2, hc2⟩ := w2.rd
  generalize z2.take len2 = xs at *
  have HB := Lib.hid (Box.made w (.slice a0 cs.length cap0) (.int .i64 n0) 34)
  have HK0 : Hid (Keeps [] w (w.alloc (.cells #[.slice a0 cs.length cap0, .int .i64 n0] 34))) := (Keeps.refl _ _).alloc _
  have HC := Lib.hid (hr0.new HK0.out)
  have HW := Lib.hid (hr1.new HK0.out)
  have HX := Lib.hid ((hr2.take 600).new HK0.out)
  have hxm : min len2 600 = (xs.take 600).length := by rw [List.length_take, hl2]; omega
  have hxl : (xs.take 600).length ≤ 600 := by rw [List.length_take]; omega
  have hlm : len2 ≤ 9223372036854775807 := by rw [← hl2]; exact hr2.small
  generalize xs.take 600 = ys at *
  clear hr0 hr1 hr2 hw0 hw1 hw2 w0 w1 w2 u0 hl2
  have hcl : cs.length ≤ 17592186043904 := by omega
  have hwl : ws.length ≤ 17592186043904 := by omega
  go_enter Try.func6, Try.ntmps6
  go_wp2_with fail
  generalize w.alloc (.cells #[.slice a0 cs.length cap0, .int .i64 n0] 34) = wB at *
  have HKB : Hid (Keeps [] wB wB) := Keeps.refl _ _
  have hb0 := HB.out.c0
  have hb1 := HB.out.c1
  obtain ⟨E, hE⟩ : ∃ E, rstE cs n0 ws ys = E := ⟨_, rfl⟩
  obtain ⟨L, hL⟩ : ∃ L, rstO cs n0 ws ys = L := ⟨_, rfl⟩
  have HE := Lib.hid hE
  have HL := Lib.hid hL
  clear hE hL
  go_wp2_with (first
    | (go_at_call 11; go_must (refine (known_calls _).mono ?_); rintro e wk ⟨rfl, hk⟩; replace HKB : Hid (Keeps [] wB wk) := HKB.out.new hk; clear hk; obtain ⟨hb0, hb1⟩ := HB.out.new HKB.out)
    | (go_at_call 15; go_must (refine (cut_calls len2 cap2 a2 _ hlm hc2).mono ?_); rw [hxm]; rintro e w' ⟨rfl, rfl⟩)
    | (go_at_call 24; go_must (with_reducible refine (docRestore_calls cs ws ys n0 _ _ _ rfl a0 a1 a2 cap0 cap1 cap2 _ rfl rfl hnc1 hwl (by omega) (Lib.hid (HC.out.new HKB.out)) (Lib.hid (HW.out.new HKB.out)) (Lib.hid (HX.out.new HKB.out))).mono ?_); rw [HE.out, HL.out]; rintro e wd ⟨vd, rfl, hrd, hfd, hkd⟩; replace HKB : Hid (Keeps [] wB wd) := HKB.out.new hkd; clear hkd; obtain ⟨hb0, hb1⟩ := HB.out.new HKB.out; obtain ⟨ad, cd, rfl, hq⟩ := hrd.rd; have HD : Hid (Rd wd .i64 ad L) := hq; clear hq hrd hfd)
    | (go_at_call 17; go_must (with_reducible refine (of_calls cs n0 _ rfl a0 cap0 _ hcl hnc0 (Lib.hid (HC.out.new HKB.out))).mono ?_); rintro e wo ⟨vo, rfl, hro, hfo, hko⟩; replace HKB : Hid (Keeps [] wB wo) := HKB.out.new hko; replace HD : Hid (Rd wo .i64 ad L) := HD.out.new hko; clear hko; obtain ⟨hb0, hb1⟩ := HB.out.new HKB.out; obtain ⟨ao, co, rfl, hq⟩ := hro.rd; have HO : Hid (Rd wo .i64 ao cs) := hq; clear hq hro hfo)
    | (go_at_call 25; go_must (with_reducible refine (restore_calls cs ws ys n0 _ _ _ rfl ao a1 a2 co cap1 cap2 _ rfl rfl hnc1 hwl (by omega) HO (Lib.hid (HW.out.new HKB.out)) (Lib.hid (HX.out.new HKB.out))).mono ?_); rw [HE.out, HL.out]; rintro e wr ⟨vr, rfl, hrr, hfr, hkr⟩; replace HKB : Hid (Keeps [] wB wr) := HKB.out.new hkr; replace HD : Hid (Rd wr .i64 ad L) := HD.out.new hkr; clear hkr; obtain ⟨ar, cr, rfl, hq⟩ := hrr.rd; have HR : Hid (Rd wr .i64 ar L) := hq; clear hq hrr hfr)
    | (go_at_call 14; go_must (with_reducible refine (same_calls L L _ _ rfl rfl ad ar cd cr _ HD HR).mono ?_); rw [decide_eq_true (rfl : L = L)]; rintro e wz ⟨rfl, hks⟩; replace HKB : Hid (Keeps [] wB wz) := HKB.out.new hks))
  go_ret
  exact ⟨rfl, (HK0.out.new HKB.out).below⟩
end Go.Proofs.Ytpnomiepbbbnbaa
