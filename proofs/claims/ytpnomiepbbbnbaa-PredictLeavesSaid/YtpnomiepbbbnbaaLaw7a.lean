/-
  The statement PredictLeaves of layer 7: the walk.
-/
import Derived.Test.YtpnomiepbbbnbaaPred13
set_option linter.unusedVariables false
set_option linter.unusedSimpArgs false
namespace Go.Proofs.Ytpnomiepbbbnbaa
open Go.RowKit

/-- Fixed's answers. -/
def fixE (z : Int) : Int := if 0 ≤ z ∧ z ≤ 4 then 0 else 1
def fixS (z : Int) : List Int := if 0 ≤ z ∧ z ≤ 4 then fixL z.toNat else []

theorem fixed_any (z : Int) (w : World) :
    Calls Try.prog 12 #[.int .i64 z] w fun e w' => ∃ v, e = .returned (.tuple #[.agg #[v, .int .i64 0], .int .i64 (fixE z)]) ∧ Row w' .i64 3 v (fixS z) ∧ (∀ b, b ∈ fp v → w.heap.size ≤ b) ∧ Keeps [] w w' := by
  unfold fixE fixS
  by_cases h : 0 ≤ z ∧ z ≤ 4
  · rw [if_pos h, if_pos h]
    exact fixed_at z z.toNat (by omega) (by omega) w
  · rw [if_neg h, if_neg h]
    refine (fixed_err z w (by omega)).mono ?_
    rintro e w' ⟨rfl, hk⟩
    exact ⟨_, rfl, Row.nil _ _ _, (fun b hb => by cases hb), hk⟩
theorem refFixed_any (z : Int) (w : World) :
    Calls Try.prog 20 #[.int .i64 z] w fun e w' => ∃ v, e = .returned (.tuple #[.agg #[v, .int .i64 0], .int .i64 (fixE z)]) ∧ Row w' .i64 3 v (fixS z) ∧ (∀ b, b ∈ fp v → w.heap.size ≤ b) ∧ Keeps [] w w' := by
  unfold fixE fixS
  by_cases h : 0 ≤ z ∧ z ≤ 4
  · rw [if_pos h, if_pos h]
    exact refFixed_at z z.toNat (by omega) (by omega) w
  · rw [if_neg h, if_neg h]
    refine (refFixed_err z w (by omega)).mono ?_
    rintro e w' ⟨rfl, hk⟩
    exact ⟨_, rfl, Row.nil _ _ _, (fun b hb => by cases hb), hk⟩

theorem check_right (cs : List Int) (sh : Int) : ((checkE cs sh == 0) == rightB cs sh) = true := by
  unfold checkE
  cases rightB cs sh <;> rfl

set_option maxHeartbeats 4000000 in
theorem predictLeaves_walk (a0 : Option Addr) (len0 cap0 : Nat) (z0 : List Int) (n0 : Int) (a1 : Option Addr) (len1 cap1 : Nat) (z1 : List Int) (a2 : Int) (w : World) (w0 : InRow .i64 w a0 len0 cap0 z0) (s0 : cap0 * 8 ≤ 140737488351232) (u0 : (Lit.int .i64 n0).wf = true) (w1 : InRow .i64 w a1 len1 cap1 z1) (s1 : cap1 * 8 ≤ 140737488351232) (w2 : (Lit.int .i64 a2).wf = true) :
    Calls Try.prog 4 #[.agg #[.slice a0 len0 cap0, .int .i64 n0], .slice a1 len1 cap1, .int .i64 a2] w fun e w' => e = .returned (.bool true) ∧ Below w.heap.size w w' := by
  obtain ⟨hr0, hl0, hw0, hc0⟩ := w0.rd
  have hnc0 := w0.nil_cap
  generalize z0.take len0 = cs at *
  subst hl0
  obtain ⟨hr1, hl1, hw1, hc1⟩ := w1.rd
  generalize z1.take len1 = xs at *
  have HB := Lib.hid (Box.made w (.slice a0 cs.length cap0) (.int .i64 n0) 34)
  have HK0 : Hid (Keeps [] w (w.alloc (.cells #[.slice a0 cs.length cap0, .int .i64 n0] 34))) := (Keeps.refl _ _).alloc _
  have HC := Lib.hid (hr0.new HK0.out)
  have HX := Lib.hid ((hr1.take 600).new HK0.out)
  have hxm : min len1 600 = (xs.take 600).length := by rw [List.length_take, hl1]; omega
  have hxl : (xs.take 600).length ≤ 600 := by rw [List.length_take]; omega
  have hlm : len1 ≤ 9223372036854775807 := by rw [← hl1]; exact hr1.small
  generalize xs.take 600 = ys at *
  clear hr0 hr1 hw0 hw1 w0 w1 w2 u0 hl1
  have hcm : ys.length ≤ cap1 := by omega
  have hcl : cs.length ≤ 17592186043904 := by omega
  have HS : Hid (∀ {α : Type} [DecidableEq α] (x : α), decide (x = x) = true) := fun x => decide_eq_true rfl
  go_enter Try.func4, Try.ntmps4
  go_wp2_with fail
  generalize w.alloc (.cells #[.slice a0 cs.length cap0, .int .i64 n0] 34) = wB at *
  have HKB : Hid (Keeps [] wB wB) := Keeps.refl _ _
  have hb0 := HB.out.c0
  have hb1 := HB.out.c1
  obtain ⟨E, hE⟩ : ∃ E, resE cs n0 ys = E := ⟨_, rfl⟩
  obtain ⟨L, hL⟩ : ∃ L, resO cs n0 ys = L := ⟨_, rfl⟩
  obtain ⟨CN, hCN⟩ : ∃ CN, costN cs n0 ys = CN := ⟨_, rfl⟩
  obtain ⟨FE, hFE⟩ : ∃ FE, fixE a2 = FE := ⟨_, rfl⟩
  obtain ⟨FS, hFS⟩ : ∃ FS, fixS a2 = FS := ⟨_, rfl⟩
  have HE := Lib.hid hE
  have HL := Lib.hid hL
  have HCN := Lib.hid hCN
  have HFE := Lib.hid hFE
  have HFS := Lib.hid hFS
  clear hE hL hCN hFE hFS
  go_upto_region 10 with (first
    | (go_at_call 11; go_must (refine (known_calls _).mono ?_); rintro e wk ⟨rfl, hk⟩; replace HKB : Hid (Keeps [] wB wk) := HKB.out.new hk; clear hk; obtain ⟨hb0, hb1⟩ := HB.out.new HKB.out)
    | (go_at_call 15; go_must (refine (cut_calls len1 cap1 a1 _ hlm hc1).mono ?_); rw [hxm]; rintro e w' ⟨rfl, rfl⟩)
    | (go_at_call 16; go_must (with_reducible refine (docResidual_calls cs ys n0 _ _ rfl a0 a1 cap0 cap1 _ rfl hcm (by omega) (Lib.hid (HC.out.new HKB.out)) (Lib.hid (HX.out.new HKB.out))).mono ?_); rw [HE.out, HL.out]; rintro e wd ⟨vd, rfl, hrd, hfd, hkd⟩; replace HKB : Hid (Keeps [] wB wd) := HKB.out.new hkd; clear hkd; obtain ⟨hb0, hb1⟩ := HB.out.new HKB.out; obtain ⟨ad, cd, rfl, hq⟩ := hrd.rd; have HD : Hid (Rd wd .i64 ad L) := hq; clear hq hrd hfd; have HKD : Hid (Keeps [] wd wd) := Keeps.refl _ _)
    | (go_at_call 17; go_must (with_reducible refine (of_calls cs n0 _ rfl a0 cap0 _ hcl hnc0 (Lib.hid (HC.out.new HKB.out))).mono ?_); rintro e wo ⟨vo, rfl, hro, hfo, hko⟩; replace HKB : Hid (Keeps [] wB wo) := HKB.out.new hko; replace HD : Hid (Rd wo .i64 ad L) := HD.out.new hko; (try replace HR : Hid (Rd wo .i64 ar L) := HR.out.new hko); clear hko; obtain ⟨hb0, hb1⟩ := HB.out.new HKB.out; obtain ⟨ao, co, rfl, hq⟩ := hro.rd; have HO : Hid (Rd wo .i64 ao cs) := hq; clear hq hro hfo)
    | (go_at_call 13; go_must (with_reducible refine (residual_calls cs ys n0 _ _ rfl ao a1 co cap1 _ rfl hcm (by omega) HO (Lib.hid (HX.out.new HKB.out))).mono ?_); rw [HE.out, HL.out]; rintro e wr ⟨vr, rfl, hrr, hfr, hkr⟩; replace HKB : Hid (Keeps [] wB wr) := HKB.out.new hkr; replace HD : Hid (Rd wr .i64 ad L) := HD.out.new hkr; clear hkr; obtain ⟨hb0, hb1⟩ := HB.out.new HKB.out; obtain ⟨ar, cr, rfl, hq⟩ := hrr.rd; have HR : Hid (Rd wr .i64 ar L) := hq; clear hq hrr hfr)
    | (go_at_call 18; go_must (with_reducible refine (docCost_calls cs ys n0 _ _ rfl a0 a1 cap0 cap1 _ rfl hcm (by omega) (Lib.hid (HC.out.new HKB.out)) (Lib.hid (HX.out.new HKB.out))).mono ?_); rw [HE.out, HCN.out]; rintro e wc ⟨rfl, hkc⟩; replace HKB : Hid (Keeps [] wB wc) := HKB.out.new hkc; replace HD : Hid (Rd wc .i64 ad L) := HD.out.new hkc; replace HR : Hid (Rd wc .i64 ar L) := HR.out.new hkc; clear hkc; obtain ⟨hb0, hb1⟩ := HB.out.new HKB.out)
    | (go_at_call 19; go_must (with_reducible refine (cost_calls cs ys n0 _ _ rfl ao a1 co cap1 _ rfl hcm (by omega) HO (Lib.hid (HX.out.new HKB.out))).mono ?_); rw [HE.out, HCN.out]; rintro e wq ⟨rfl, hkq⟩; replace HKB : Hid (Keeps [] wB wq) := HKB.out.new hkq; replace HD : Hid (Rd wq .i64 ad L) := HD.out.new hkq; replace HR : Hid (Rd wq .i64 ar L) := HR.out.new hkq; clear hkq; obtain ⟨hb0, hb1⟩ := HB.out.new HKB.out)
    | (go_at_call 20; go_must (refine (refFixed_any a2 _).mono ?_); rw [HFE.out, HFS.out]; rintro e wx ⟨vx, rfl, hrx, hfx, hkx⟩; obtain ⟨ax, cx, rfl, hqx⟩ := hrx.rd)
    | (go_at_call 12; go_must (refine (fixed_any a2 _).mono ?_); rw [HFE.out, HFS.out]; rintro e wy ⟨vy, rfl, hry, hfy, hky⟩; obtain ⟨ay, cy, rfl, hqy⟩ := hry.rd))
  have HKY : Hid (Keeps [] wB wy) := (HKB.out.new hkx).alloc _ |>.new hky
  have HBX := Lib.hid ((Box.made wx (.slice ax FS.length cx) (.int .i64 0) 34).new hky)
  have HRX : Hid (Rd wy .i64 ax FS) := hqx.new (((Keeps.refl _ _).alloc _).new hky)
  have HRY := Lib.hid hqy
  have HDY : Hid (Rd wy .i64 ad L) := HD.out.new ((hkx.alloc _).new hky)
  have HRR : Hid (Rd wy .i64 ar L) := HR.out.new ((hkx.alloc _).new hky)
  clear hqx hqy hkx hky hfx hfy hrx hry HKD HD HR HO
  have HKA : Hid (Keeps [] wy (wy.alloc (.cells #[.slice ay FS.length cy, .int .i64 0] 26))) := (Keeps.refl _ _).alloc _
  have HBY := Lib.hid (Box.made wy (.slice ay FS.length cy) (.int .i64 0) 26)
  generalize wy.alloc (.cells #[.slice ay FS.length cy, .int .i64 0] 26) = W at *
  replace HBX := Lib.hid (HBX.out.new HKA.out)
  replace HRX := Lib.hid (HRX.out.new HKA.out)
  replace HRY := Lib.hid (HRY.out.new HKA.out)
  replace HDY := Lib.hid (HDY.out.new HKA.out)
  replace HRR := Lib.hid (HRR.out.new HKA.out)
  have HBB := Lib.hid ((HB.out.new HKY.out).new HKA.out)
  replace HC := Lib.hid ((HC.out.new HKY.out).new HKA.out)
  have HKW : Hid (Keeps [] w W) := (HK0.out.new HKY.out).new HKA.out
  clear HKY HKA HX HB HKB HK0 hb0 hb1
  have hc0 := HBB.out.c0
  have hc1 := HBB.out.c1
  have hc2 := HBX.out.c0
  have hc3 := HBX.out.c1
  have hc4 := HBY.out.c0
  have hc5 := HBY.out.c1
  have HER := Lib.hid (check_right cs n0)
  obtain ⟨CE, hCE⟩ : ∃ CE, checkE cs n0 = CE := ⟨_, rfl⟩
  obtain ⟨RB, hRB⟩ : ∃ RB, rightB cs n0 = RB := ⟨_, rfl⟩
  have HCE := Lib.hid hCE
  have HRB := Lib.hid hRB
  rw [hCE, hRB] at HER
  clear hCE hRB
  have hce : (CE == 0) = RB := by have := HER.out; simpa using this
  go_region_held3 (fun w' => Keeps [] W w' ∧ w'.cell? ⟨w.heap.size, 0, none⟩ = some (.slice a0 cs.length cap0) ∧ w'.cell? ⟨w.heap.size, 1, none⟩ = some (.int .i64 n0) ∧
      w'.cell? ⟨wx.heap.size, 0, none⟩ = some (.slice ax FS.length cx) ∧ w'.cell? ⟨wx.heap.size, 1, none⟩ = some (.int .i64 0) ∧
      w'.cell? ⟨wy.heap.size, 0, none⟩ = some (.slice ay FS.length cy) ∧ w'.cell? ⟨wy.heap.size, 1, none⟩ = some (.int .i64 0))
    (first
      | (exact ⟨(Keeps.refl [] W).drew, hc0, hc1, hc2, hc3, hc4, hc5⟩)
      | (go_split_ands; refine ⟨Keeps.new (by assumption) hkN, hkN.cell (by assumption) (by simp), hkN.cell (by assumption) (by simp), hkN.cell (by assumption) (by simp), hkN.cell (by assumption) (by simp), hkN.cell (by assumption) (by simp), hkN.cell (by assumption) (by simp)⟩)
      | go_keep)
    (first
      | (go_at_call 17; go_split_ands; go_must (with_reducible refine (of_calls cs n0 _ rfl a0 cap0 _ hcl hnc0 ?hrd).mono ?_); (case hrd => exact Lib.hid (HC.out.new (by assumption))); rintro e wo ⟨vo, rfl, hro, hfo, hkN⟩; obtain ⟨ao, co, rfl, hq⟩ := hro.rd; have HO := Lib.hid hq; clear hq hro hfo)
      | (go_at_call 21; go_split_ands; go_must (with_reducible refine (check_calls cs n0 _ rfl ao co _ ?hrd).mono ?_); (case hrd => first | exact HO | exact Lib.hid (HO.out.new (by assumption))); rw [HCE.out]; rintro e wc ⟨rfl, hkN⟩)
      | (go_at_call 22; go_split_ands; go_must (with_reducible refine (right_calls cs n0 _ rfl a0 cap0 _ ?hrd).mono ?_); (case hrd => exact Lib.hid (HC.out.new (by assumption))); rw [HRB.out]; rintro e wc ⟨rfl, hkN⟩)
      | (go_at_call 14; go_split_ands; go_must (with_reducible refine (same_calls L L _ _ rfl rfl ad ar cd cr _ ?hra ?hrb).mono ?_); (case hra => exact Lib.hid (HDY.out.new (by assumption))); (case hrb => exact Lib.hid (HRR.out.new (by assumption))); rw [decide_eq_true (rfl : L = L)]; rintro e wc ⟨rfl, hkN⟩)
      | (go_at_call 23; go_split_ands; go_must (with_reducible refine (sameM_calls FS FS 0 0 _ _ rfl rfl ay ax cy cx _ ?hra ?hrb).mono ?_); (case hra => exact Lib.hid (HRY.out.new (by assumption))); (case hrb => exact Lib.hid (HRX.out.new (by assumption))); rw [decide_eq_true (rfl : FS = FS), decide_eq_true (rfl : (0 : Int) = 0)]; rintro e wc ⟨rfl, hkN⟩))
  all_goals
    go_split_ands
    go_wp2_with fail
    go_ret
    exact ⟨rfl, (HKW.out.new (by assumption)).below⟩
end Go.Proofs.Ytpnomiepbbbnbaa
