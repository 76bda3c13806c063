/-
  The statement PredictBack of layer 7: the plain law and the walk.
-/
import Derived.Test.YtpnomiepbbbnbaaPred15
set_option linter.unusedVariables false
set_option linter.unusedSimpArgs false
namespace Go.Proofs.Ytpnomiepbbbnbaa
open Go.RowKit

theorem restR_back (cs : List Int) (sh : Int) (xs : List Int) (hc : cs.length ≤ xs.length) (hx : xs.all inB = true) : ∀ d t, t + d = xs.length - cs.length → restR cs sh (xs.take (cs.length + t)) ((leftL cs sh xs).drop t) = some xs := by
  intro d
  induction d with
  | zero =>
    intro t ht
    rw [List.drop_of_length_le (by rw [leftL_length]; omega), List.take_of_length_le (by omega)]
    rfl
  | succ d ih =>
    intro t ht
    have h1 : t < (leftL cs sh xs).length := by rw [leftL_length]; omega
    have h2 : cs.length + t < xs.length := by omega
    rw [List.drop_eq_getElem_cons h1, leftL_get, restR]
    have e : leftAt cs sh xs (cs.length + t) + predI cs sh (xs.take (cs.length + t)) = xs[cs.length + t] := by
      unfold leftAt
      rw [List.getD_eq_getElem?_getD, List.getElem?_eq_getElem h2]
      simp
    rw [e, if_pos (List.all_eq_true.1 hx _ (List.getElem_mem h2)), ← List.take_succ_eq_append_getElem h2]
    exact ih (t + 1) (by omega)

theorem back_law (cs : List Int) (sh : Int) (xs : List Int) (h : resE cs sh xs = 0) : cs.length ≤ xs.length ∧ (resO cs sh xs).length = xs.length - cs.length ∧ rstE cs sh (xs.take cs.length) (resO cs sh xs) = 0 ∧ rstO cs sh (xs.take cs.length) (resO cs sh xs) = xs := by
  have hO : resO cs sh xs = leftL cs sh xs := by unfold resO; rw [if_pos h]
  rw [hO]
  have hr : rightB cs sh = true := by
    cases hr : rightB cs sh
    · unfold resE at h; rw [if_pos hr] at h; omega
    · rfl
  have hl : ¬ xs.length < cs.length := by
    intro hl
    unfold resE at h; rw [if_neg (by rw [hr]; simp), if_pos hl] at h; omega
  have hx : xs.all inB = true := by
    cases hx : xs.all inB
    · unfold resE at h; rw [if_neg (by rw [hr]; simp), if_neg hl, if_pos hx] at h; omega
    · rfl
  have hL : (leftL cs sh xs).all inB = true := by
    cases hL : (leftL cs sh xs).all inB
    · unfold resE at h; rw [if_neg (by rw [hr]; simp), if_neg hl, if_neg (by rw [hx]; simp), if_pos hL] at h; omega
    · rfl
  refine ⟨by omega, leftL_length cs sh xs, ?_⟩
  have hw : (xs.take cs.length).all inB = true := by
    rw [List.all_eq_true]
    exact fun y hy => List.all_eq_true.1 hx y (List.mem_of_mem_take hy)
  exact (rstE_res (xs.take cs.length) (leftL cs sh xs) hr (by simp; omega) hw hL).2 xs (by
    have := restR_back cs sh xs (by omega) hx (xs.length - cs.length) 0 (by omega)
    simpa using this)

theorem resO_err (cs : List Int) (sh : Int) (xs : List Int) (h : resE cs sh xs ≠ 0) : resO cs sh xs = [] := by unfold resO; rw [if_neg h]

set_option maxHeartbeats 4000000 in
theorem predictBack_walk (a0 : Option Addr) (len0 cap0 : Nat) (z0 : List Int) (n0 : Int) (a1 : Option Addr) (len1 cap1 : Nat) (z1 : List Int) (w : World) (w0 : InRow .i64 w a0 len0 cap0 z0) (s0 : cap0 * 8 ≤ 140737488351232) (u0 : (Lit.int .i64 n0).wf = true) (w1 : InRow .i64 w a1 len1 cap1 z1) (s1 : cap1 * 8 ≤ 140737488351232) :
    Calls Try.prog 7 #[.agg #[.slice a0 len0 cap0, .int .i64 n0], .slice a1 len1 cap1] w fun e w' => e = .returned (.bool true) ∧ Below w.heap.size w w' := by
  obtain ⟨hr0, hl0, hw0, hc0⟩ := w0.rd
  have hnc0 := w0.nil_cap
  generalize z0.take len0 = cs at *
  subst hl0
  obtain ⟨hr1, hl1, hw1, hc1⟩ := w1.rd
  have hnc1 := w1.nil_cap
  generalize z1.take len1 = xs at *
  have HB := Lib.hid (Box.made w (.slice a0 cs.length cap0) (.int .i64 n0) 34)
  have HK0 : Hid (Keeps [] w (w.alloc (.cells #[.slice a0 cs.length cap0, .int .i64 n0] 34))) := (Keeps.refl _ _).alloc _
  have HC := Lib.hid (hr0.new HK0.out)
  have HX := Lib.hid ((hr1.take 600).new HK0.out)
  have hxm : min len1 600 = (xs.take 600).length := by rw [List.length_take, hl1]; omega
  have hxl : (xs.take 600).length ≤ 600 := by rw [List.length_take]; omega
  have hlm : len1 ≤ 9223372036854775807 := by rw [← hl1]; exact hr1.small
  generalize xs.take 600 = ys at *
  clear hr0 hr1 hw0 hw1 w0 w1 u0 hl1
  have hcm : ys.length ≤ cap1 := by omega
  have hcl : cs.length ≤ 17592186043904 := by omega
  obtain ⟨E, hE⟩ : ∃ E, resE cs n0 ys = E := ⟨_, rfl⟩
  obtain ⟨L, hL⟩ : ∃ L, resO cs n0 ys = L := ⟨_, rfl⟩
  have hbk := back_law cs n0 ys
  have hbe := resO_err cs n0 ys
  rw [hE, hL] at hbk hbe
  have HE := Lib.hid hE
  have HL := Lib.hid hL
  clear hE hL
  by_cases h0 : E = 0
  · subst h0
    obtain ⟨k0, k1, k2, k3⟩ := hbk rfl
    have HK1 := Lib.hid k1
    have HK2 := Lib.hid k2
    have HK3 := Lib.hid k3
    clear hbk hbe k1 k2 k3
    have hLl : L.length ≤ 600 := by have := HK1.out; omega
    have hL2 : (L.length : Int) = (ys.length : Int) - (cs.length : Int) := by have := HK1.out; omega
    have HTL : Hid (cs.length = (ys.take cs.length).length) := by show _ = _; simp; omega
    go_enter Try.func7, Try.ntmps7
    go_wp2_with fail
    generalize w.alloc (.cells #[.slice a0 cs.length cap0, .int .i64 n0] 34) = wB at *
    have HKB : Hid (Keeps [] wB wB) := Keeps.refl _ _
    have hb0 := HB.out.c0
    have hb1 := HB.out.c1
    go_upto_region 8 with (first
      | (go_at_call 11; go_must (refine (known_calls _).mono ?_); rintro e wk ⟨rfl, hk⟩; replace HKB : Hid (Keeps [] wB wk) := HKB.out.new hk; clear hk; obtain ⟨hb0, hb1⟩ := HB.out.new HKB.out)
      | (go_at_call 15; go_must (refine (cut_calls len1 cap1 a1 _ hlm hc1).mono ?_); rw [hxm]; rintro e w' ⟨rfl, rfl⟩)
      | (go_at_call 17; go_must (with_reducible refine (of_calls cs n0 _ rfl a0 cap0 _ hcl hnc0 (Lib.hid (HC.out.new HKB.out))).mono ?_); rintro e wo ⟨vo, rfl, hro, hfo, hko⟩; replace HKB : Hid (Keeps [] wB wo) := HKB.out.new hko; clear hko; obtain ⟨hb0, hb1⟩ := HB.out.new HKB.out; obtain ⟨ao, co, rfl, hq⟩ := hro.rd; have HO : Hid (Rd wo .i64 ao cs) := hq; clear hq hro hfo)
      | (go_at_call 13; go_must (with_reducible refine (residual_calls cs ys n0 _ _ rfl ao a1 co cap1 _ rfl hcm (by omega) HO (Lib.hid (HX.out.new HKB.out))).mono ?_); rw [HE.out, HL.out]; rintro e wr ⟨vr, rfl, hrr, hfr, hkr⟩; replace HKB : Hid (Keeps [] wB wr) := HKB.out.new hkr; clear hkr; obtain ⟨hb0, hb1⟩ := HB.out.new HKB.out; obtain ⟨ar, cr, rfl, hq⟩ := hrr.rd; have HR : Hid (Rd wr .i64 ar L) := hq; clear hq hrr hfr HO))
    have hi0 : (0 : Int) ≤ (cs.length : Int) := by omega
    have hi1 : (cs.length : Int) ≤ (cap1 : Int) := by omega
    obtain ⟨W, rfl⟩ : ∃ W : World, W = wr := ⟨_, rfl⟩
    have hkW : Keeps [] W W.drew := (Keeps.refl _ _).drew
    have HC2 := Lib.hid (HC.out.new HKB.out)
    have HX2 := Lib.hid (HX.out.new HKB.out)
    go_region_held3 (fun w' => Keeps [] W w' ∧ w'.cell? ⟨w.heap.size, 0, none⟩ = some (.slice a0 cs.length cap0) ∧ w'.cell? ⟨w.heap.size, 1, none⟩ = some (.int .i64 n0))
      (first
        | (exact ⟨hkW, hb0, hb1⟩)
        | (go_split_ands; refine ⟨Keeps.new (by assumption) hkN, hkN.cell (by assumption) (by simp), hkN.cell (by assumption) (by simp)⟩)
        | go_keep)
      (first
        | (go_at_call 17; go_split_ands; go_must (with_reducible refine (of_calls cs n0 _ rfl a0 cap0 _ hcl hnc0 ?hrd).mono ?_); (case hrd => exact Lib.hid (HC2.out.new (by assumption))); rintro e wo ⟨vo, rfl, hro, hfo, hkN⟩; obtain ⟨ao, co, rfl, hq⟩ := hro.rd; have HO := Lib.hid hq; clear hq hro hfo)
        | (go_at_call 25; go_split_ands; go_must (with_reducible refine (restore_calls cs (ys.take cs.length) L n0 _ cs.length _ rfl ao a1 ar co cap1 cr _ HTL.out rfl hnc1 (by rw [← HTL.out]; exact hcl) (by omega) ?hra ?hrb ?hrc).mono ?_); (case hra => exact HO); (case hrb => exact Lib.hid ((HX2.out.take cs.length).new (by assumption))); (case hrc => exact Lib.hid (HR.out.new (by assumption))); rw [HK2.out, HK3.out]; rintro e wd ⟨vd, rfl, hrd, hfd, hkN⟩; obtain ⟨ad, cd, rfl, hq⟩ := hrd.rd; have HD : Hid (Rd wd .i64 ad ys) := hq; clear hq hrd hfd))
    all_goals
      go_split_ands
      have hdd : decide (ys = ys) = true := decide_eq_true rfl
      have HKF : Hid (Keeps [] W wd) := (by assumption : Keeps [] W wd)
      go_wp2_with (first
        | (go_at_call 14; go_must (with_reducible refine (same_calls ys ys _ _ rfl rfl ad a1 cd cap1 _ HD (Lib.hid (HX2.out.new HKF.out))).mono ?_); rw [decide_eq_true (rfl : ys = ys)]; rintro e ws ⟨rfl, hks⟩))
      go_ret
      exact ⟨rfl, (((HK0.out.new HKB.out).new HKF.out).new hks).below⟩
  · have hbe' := hbe h0
    subst hbe'
    clear hbk hbe
    have hne : (E != 0) = true := by simpa using h0
    go_enter Try.func7, Try.ntmps7
    go_wp2_with fail
    generalize w.alloc (.cells #[.slice a0 cs.length cap0, .int .i64 n0] 34) = wB at *
    have HKB : Hid (Keeps [] wB wB) := Keeps.refl _ _
    have hb0 := HB.out.c0
    have hb1 := HB.out.c1
    go_wp2_with (first
      | (go_at_call 11; go_must (refine (known_calls _).mono ?_); rintro e wk ⟨rfl, hk⟩; replace HKB : Hid (Keeps [] wB wk) := HKB.out.new hk; clear hk; obtain ⟨hb0, hb1⟩ := HB.out.new HKB.out)
      | (go_at_call 15; go_must (refine (cut_calls len1 cap1 a1 _ hlm hc1).mono ?_); rw [hxm]; rintro e w' ⟨rfl, rfl⟩)
      | (go_at_call 17; go_must (with_reducible refine (of_calls cs n0 _ rfl a0 cap0 _ hcl hnc0 (Lib.hid (HC.out.new HKB.out))).mono ?_); rintro e wo ⟨vo, rfl, hro, hfo, hko⟩; replace HKB : Hid (Keeps [] wB wo) := HKB.out.new hko; clear hko; obtain ⟨hb0, hb1⟩ := HB.out.new HKB.out; obtain ⟨ao, co, rfl, hq⟩ := hro.rd; have HO : Hid (Rd wo .i64 ao cs) := hq; clear hq hro hfo)
      | (go_at_call 13; go_must (with_reducible refine (residual_calls cs ys n0 _ _ rfl ao a1 co cap1 _ rfl hcm (by omega) HO (Lib.hid (HX.out.new HKB.out))).mono ?_); rw [HE.out, HL.out]; rintro e wr ⟨vr, rfl, hrr, hfr, hkr⟩; replace HKB : Hid (Keeps [] wB wr) := HKB.out.new hkr; clear hkr; obtain ⟨ar, cr, rfl, hq⟩ := hrr.rd; clear hq hrr hfr HO))
    go_ret
    exact ⟨rfl, (HK0.out.new HKB.out).below⟩
end Go.Proofs.Ytpnomiepbbbnbaa
