/-
  The statement PredictSearches of layer 7: the walk.
-/
import Derived.Test.YtpnomiepbbbnbaaPred21
set_option linter.unusedVariables false
set_option linter.unusedSimpArgs false
namespace Go.Proofs.Ytpnomiepbbbnbaa
open Go.RowKit

set_option maxHeartbeats 4000000 in
theorem predictSearches_walk (a0 : Option Addr) (len0 cap0 : Nat) (z0 : List Int) (a1 : Int) (w : World) (w0 : InRow .i64 w a0 len0 cap0 z0) (s0 : cap0 * 8 ≤ 140737488351232) (w1 : (Lit.int .i64 a1).wf = true) :
    Calls Try.prog 8 #[.slice a0 len0 cap0, .int .i64 a1] w fun e w' => e = .returned (.bool true) ∧ Below w.heap.size w w' := by
  obtain ⟨hr1, hl1, hw1, hc1⟩ := w0.rd
  generalize z0.take len0 = xs at *
  have HX := Lib.hid (hr1.take 200)
  have hxm : min len0 200 = (xs.take 200).length := by rw [List.length_take, hl1]; omega
  have hxl : (xs.take 200).length ≤ 200 := by rw [List.length_take]; omega
  have hlm : len0 ≤ 9223372036854775807 := by rw [← hl1]; exact hr1.small
  generalize xs.take 200 = ys at *
  clear hr1 hw1 w0 hl1
  have hcm : ys.length ≤ cap0 := by omega
  have hmin : (if (200 : Int) < (len0 : Int) then 200 else (len0 : Int)) = (ys.length : Int) := by split <;> omega
  clear hxm w1
  obtain ⟨E, hE⟩ : ∃ E, srcE ys a1 = E := ⟨_, rfl⟩
  obtain ⟨S, hS⟩ : ∃ E, srcS ys a1 = E := ⟨_, rfl⟩
  obtain ⟨L, hL⟩ : ∃ L, srcL ys a1 = L := ⟨_, rfl⟩
  have HE := Lib.hid hE
  have HS := Lib.hid hS
  have HL := Lib.hid hL
  clear hE hL hS
  go_enter Try.func8, Try.ntmps8
  go_wp2_with (first
    | (go_at_call 11; go_must (refine (known_calls _).mono ?_); rintro e wk ⟨rfl, hk⟩; have HK := Lib.hid hk; clear hk)
    | (go_at_call 26; go_must (with_reducible refine (docSearch_any ys a1 _ a0 cap0 _ rfl hcm (by omega) (Lib.hid (HX.out.new HK.out))).mono ?_); rw [HE.out, HS.out, HL.out]; rintro e wa ⟨va, rfl, hra, hfa, hka⟩; obtain ⟨aa, ca, rfl, hqa⟩ := hra.rd; have HKA := Lib.hid hka; have HQA := Lib.hid hqa; clear hka hqa hra hfa)
    | (go_at_call 27; go_must (with_reducible refine (search_any ys a1 _ a0 cap0 _ rfl hcm (by omega) (Lib.hid (HX.out.new ((HK.out.new HKA.out).alloc _)))).mono ?_); rw [HE.out, HS.out, HL.out]; rintro e wb ⟨vb, rfl, hrb, hfb, hkb⟩; obtain ⟨ab, cb, rfl, hqb⟩ := hrb.rd; have HKB := Lib.hid hkb; have HQB := Lib.hid hqb; have hbx := ((Box.made wa (.slice aa L.length ca) (.int .i64 S) 34).new hkb).new ((Keeps.refl _ _).alloc (.cells #[.slice ab L.length cb, .int .i64 S] 26)); obtain ⟨hb0, hb1⟩ := hbx; clear hkb hqb hrb hfb)
    | (go_at_call 23; go_must (with_reducible refine (sameM_calls L L S S _ _ rfl rfl ab aa cb ca _ (Lib.hid (HQB.out.new ((Keeps.refl _ _).alloc _))) (Lib.hid (HQA.out.new ((((Keeps.refl _ _).alloc _).new HKB.out).alloc _)))).mono ?_); rw [decide_eq_true (rfl : L = L), decide_eq_true (rfl : S = S)]; rintro e wc ⟨rfl, hkc⟩))
  go_ret
  exact ⟨rfl, (((((HK.out.new HKA.out).alloc _).new HKB.out).alloc _).new hkc).below⟩
end Go.Proofs.Ytpnomiepbbbnbaa
