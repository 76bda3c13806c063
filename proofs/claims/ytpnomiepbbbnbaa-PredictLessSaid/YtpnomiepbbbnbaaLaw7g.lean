/-
  The statement PredictLess of layer 7: the plain law and the walk.
-/
import Derived.Test.YtpnomiepbbbnbaaPred21
import Derived.Test.YtpnomiepbbbnbaaLaw7d
set_option linter.unusedVariables false
set_option linter.unusedSimpArgs false
namespace Go.Proofs.Ytpnomiepbbbnbaa
open Go.RowKit

theorem Row.noneCap {w : World} {k : IntKind} {e : TypeId} {a : Option Addr} {n c : Nat} {xs : List Int} (h : Row w k e (.slice a n c) xs) : a = none → c = 0 := by
  intro h0
  subst h0
  rcases h.2 with ⟨h1, _⟩ | ⟨_, _, _, h1, _⟩ <;> cases h1
  rfl

theorem less_law (xs : List Int) (o : Nat) (ho : o ≤ 8) : rightB (srcF xs o).1 4 = true ∧ (srcF xs o).1.length = o ∧
    (resE (beginL o) 4 xs = 0 → resE (srcF xs o).1 4 xs = 0 ∧ costN (srcF xs o).1 4 xs ≤ costN (beginL o) 4 xs) := by
  have hk : SrcOk xs o (srcF xs o) := SrcOk.fold _ (SrcOk.begin xs o ho)
  refine ⟨?_, hk.len, fun h => ?_⟩
  · rw [rightB_iff]
    refine ⟨by rw [hk.len]; exact ho, by omega, by omega, ?_⟩
    rw [List.all_eq_true]
    exact fun c hc => (cfB_iff c).2 (hk.small c hc)
  · have h1 := fold_le xs (mvS o 4) (src0 xs o)
    have h2 : (src0 xs o).2 = some (costN (beginL o) 4 xs) := by simp only [src0, costO]; rw [if_pos h]
    have h3 := hk.cost
    rw [h2] at h1
    change LeO (srcF xs o).2 _ at h1
    rw [h3] at h1
    unfold costO at h1
    by_cases h4 : resE (srcF xs o).1 4 xs = 0
    · rw [if_pos h4] at h1
      exact ⟨h4, h1⟩
    · rw [if_neg h4] at h1
      exact h1.elim

set_option maxHeartbeats 4000000 in
theorem predictLess_walk (a0 : Option Addr) (len0 cap0 : Nat) (z0 : List Int) (a1 : Int) (w : World) (w0 : InRow .i64 w a0 len0 cap0 z0) (s0 : cap0 * 8 ≤ 140737488351232) (w1 : (Lit.int .i64 a1).wf = true) :
    Calls Try.prog 9 #[.slice a0 len0 cap0, .int .i64 a1] w fun e w' => e = .returned (.bool true) ∧ Below w.heap.size w w' := by
  obtain ⟨hr1, hl1, hw1, hc1⟩ := w0.rd
  generalize z0.take len0 = xs at *
  have HX := Lib.hid (hr1.take 300)
  have hxm : min len0 300 = (xs.take 300).length := by rw [List.length_take, hl1]; omega
  have hxl : (xs.take 300).length ≤ 300 := by rw [List.length_take]; omega
  have hlm : len0 ≤ 9223372036854775807 := by rw [← hl1]; exact hr1.small
  generalize xs.take 300 = ys at *
  clear hr1 hw1 w0 hl1
  have hcm : ys.length ≤ cap0 := by omega
  have hmin : (if (300 : Int) < (len0 : Int) then 300 else (len0 : Int)) = (ys.length : Int) := by split <;> omega
  clear hxm w1
  have HMOD := Lib.hid (u64_mod a1 9 (by omega) (by omega))
  go_enter Try.func9, Try.ntmps9
  go_upto_region 5 with (first
    | (go_at_call 11; go_must (refine (known_calls _).mono ?_); rintro e wk ⟨rfl, hk⟩; have HK := Lib.hid hk; clear hk))
  obtain ⟨k, hk3, hke⟩ := HMOD.out
  rw [show ((9 : Nat) : Int) = 9 from rfl] at hke
  rw [hke]
  clear hke HMOD
  obtain ⟨E, hE⟩ : ∃ E, srcE ys (k : Int) = E := ⟨_, rfl⟩
  obtain ⟨S, hS⟩ : ∃ E, srcS ys (k : Int) = E := ⟨_, rfl⟩
  obtain ⟨L, hL⟩ : ∃ L, srcL ys (k : Int) = L := ⟨_, rfl⟩
  have HE := Lib.hid hE
  have HS := Lib.hid hS
  have HL := Lib.hid hL
  have HB8 : Hid (k ≤ 8) := (show _ ≤ _ from by omega)
  by_cases h0 : E = 0
  · subst h0
    have hall : ys.all inB = true ∧ k ≤ ys.length := by
      unfold srcE at hE
      split at hE
      · omega
      · split at hE
        · omega
        · rename_i h1 h2
          refine ⟨by simpa using h2, by omega⟩
    obtain ⟨e1, e2, e3⟩ := srcE_ok (o := k) HB8.out hall.2 hall.1
    rw [hL] at e2
    rw [hS] at e3
    subst e3
    obtain ⟨l1, l2, l3⟩ := less_law ys k HB8.out
    rw [← e2] at l1 l2 l3
    have HCE : Hid (checkE L 4 = 0) := by show _ = _; unfold checkE; rw [l1]; rfl
    have HLL := Lib.hid l2
    have HBL : Hid ((beginL k).length = k) := (SrcOk.begin ys k HB8.out).len
    obtain ⟨E1, hE1⟩ : ∃ E1, resE L 4 ys = E1 := ⟨_, rfl⟩
    obtain ⟨N1, hN1⟩ : ∃ N1, costN L 4 ys = N1 := ⟨_, rfl⟩
    obtain ⟨E2, hE2⟩ : ∃ E2, resE (beginL k) 4 ys = E2 := ⟨_, rfl⟩
    obtain ⟨N2, hN2⟩ : ∃ N2, costN (beginL k) 4 ys = N2 := ⟨_, rfl⟩
    rw [hE1, hN1, hE2, hN2] at l3
    have HE1 := Lib.hid hE1
    have HN1 := Lib.hid hN1
    have HE2 := Lib.hid hE2
    have HN2 := Lib.hid hN2
    clear hE hS hL hall e1 e2 l1 l2 hE1 hN1 hE2 hN2
    have hcase : (E2 = 0 ∧ E1 = 0 ∧ N1 ≤ N2) ∨ E2 ≠ 0 := by
      by_cases h : E2 = 0
      · exact .inl ⟨h, l3 h⟩
      · exact .inr h
    clear l3
    rcases hcase with ⟨rfl, rfl, hle⟩ | hne
    all_goals
      (try have hne' : (E2 != 0) = true := by simpa using hne)
      (try clear hne)
      go_wp2_with (first
        | (go_at_call 27; go_must (with_reducible refine (search_any ys (k : Int) _ a0 cap0 _ rfl hcm (by omega) (Lib.hid (HX.out.new HK.out))).mono ?_); rw [HE.out, HS.out, HL.out]; rintro e wa ⟨va, rfl, hra, hfa, hka⟩; obtain ⟨aa, ca, hv, hqa⟩ := hra.rd; rw [HLL.out] at hv; subst hv; have HKA := Lib.hid hka; have HQA := Lib.hid hqa; clear hka hqa hra hfa)
        | (go_at_call_of 19 (Value.agg #[Value.slice aa k ca, Value.int IntKind.i64 4]); go_must (with_reducible refine (cost_calls L ys 4 _ _ HLL.out.symm aa a0 ca cap0 _ rfl hcm (by omega) (Lib.hid (HQA.out.new ((Keeps.refl _ _).alloc _))) (Lib.hid (HX.out.new ((HK.out.new HKA.out).alloc _)))).mono ?_); rw [HE1.out, HN1.out]; rintro e wb ⟨rfl, hkb⟩; have HKB := Lib.hid hkb; clear hkb)
        | (go_at_call 28; go_must (with_reducible refine (refBegin_calls k _ HB8.out).mono ?_); rintro e wc ⟨vc, rfl, hrc, hfc, hkc⟩; obtain ⟨ac, cc, hv, hqc⟩ := hrc.rd; rw [HBL.out] at hv; subst hv; have HNC := Lib.hid hrc.noneCap; have HKC := Lib.hid hkc; have HQC := Lib.hid hqc; clear hkc hqc hrc hfc)
        | (go_at_call 17; go_must (with_reducible refine (of_calls (beginL k) 4 _ HBL.out.symm ac cc _ (by rw [HBL.out]; omega) HNC.out HQC).mono ?_); rintro e wd ⟨vd, rfl, hrd, hfd, hkd⟩; obtain ⟨ad, cd, hv, hqd⟩ := hrd.rd; rw [HBL.out] at hv; subst hv; have HKD := Lib.hid hkd; have HQD := Lib.hid hqd; clear hkd hqd hrd hfd)
        | (go_at_call 19; go_must (with_reducible refine (cost_calls (beginL k) ys 4 _ _ HBL.out.symm ad a0 cd cap0 _ rfl hcm (by omega) HQD (Lib.hid (HX.out.new (((((HK.out.new HKA.out).alloc _).new HKB.out).new HKC.out).new HKD.out)))).mono ?_); rw [HE2.out, HN2.out]; rintro e we ⟨rfl, hke⟩; have HKE := Lib.hid hke; have HBX := Lib.hid ((((Box.made wa (.slice aa k ca) (.int .i64 4) 26).new HKB.out).new HKC.out).new HKD.out |>.new hke); obtain ⟨hb0, hb1⟩ := HBX.out; clear hke)
        | (go_at_call 21; go_must (with_reducible refine (check_calls L 4 _ HLL.out.symm aa ca _ (Lib.hid (HQA.out.new ((((((Keeps.refl _ _).alloc _).new HKB.out).new HKC.out).new HKD.out).new HKE.out)))).mono ?_); rw [HCE.out]; rintro e wf ⟨rfl, hkf⟩; obtain ⟨hb2, hb3⟩ := HBX.out.new hkf))
      go_ret
      exact ⟨rfl, (((((((HK.out.new HKA.out).alloc _).new HKB.out).new HKC.out).new HKD.out).new HKE.out).new hkf).below⟩
  · have hne : (E != 0) = true := by simpa using h0
    clear h0 hE hS hL
    go_wp2_with (first
      | (go_at_call 27; go_must (with_reducible refine (search_any ys (k : Int) _ a0 cap0 _ rfl hcm (by omega) (Lib.hid (HX.out.new HK.out))).mono ?_); rw [HE.out, HS.out, HL.out]; rintro e wa ⟨va, rfl, hra, hfa, hka⟩; obtain ⟨aa, ca, rfl, hqa⟩ := hra.rd))
    go_ret
    exact ⟨rfl, ((HK.out.new hka).alloc _).below⟩
end Go.Proofs.Ytpnomiepbbbnbaa
