/-
  The statement SubframeReads of layer 9: the walk.
-/
import Derived.Test.YtofkiimaoahfjaaDoorZDr7
import Derived.Test.YtofkiimaoahfjaaDoorZRd9
import Derived.Test.YtofkiimaoahfjaaDoorZSub11
import Derived.Test.YtofkiimaoahfjaaDoorZRice21
import Derived.Test.YtofkiimaoahfjaaDoorZIn
set_option maxRecDepth 100000
set_option linter.unusedVariables false
set_option linter.unusedSimpArgs false
namespace Go.Proofs.YtofkiimaoahfjaaDoor
open Go.RowKit Go.Proofs.YtofkiimaoahfjaaDoor.Pure

set_option maxHeartbeats 16000000 in
theorem subframeReads_walk (a0 : Option Addr) (len0 cap0 : Nat) (z0 : List Int) (a1 a2 : Int) (w : World) (w0 : InRow .u8 w a0 len0 cap0 z0) (s0 : cap0 * 1 ≤ 140737488351232) (w1 : (Lit.int .i64 a1).wf = true) (w2 : (Lit.int .i64 a2).wf = true) (hT : Hid (Tab w)) :
    Calls Tryd.prog 5 #[.slice a0 len0 cap0, .int .i64 a1, .int .i64 a2] w fun e w' => e = .returned (.bool true) ∧ Below w.heap.size w w' := by
  obtain ⟨hr, hl, hw, hcap⟩ := w0.rd
  have hn := w0.nil_cap
  have hwf1 := wf_i64 w1
  have hwf2 := wf_i64 w2
  generalize z0.take len0 = bs at *
  subst hl
  have HK : Hid (Keeps [] w w) := Keeps.refl _ _
  have hbl : bs.length ≤ 140737488351232 := by omega
  have HB : Hid (∀ x ∈ bs, 0 ≤ x ∧ x ≤ 255) := fun x hx => wf_u8 (hw x hx)
  have HR := Lib.hid hr
  have HN := Lib.hid hn
  have HO1 := Lib.hid hwf1
  have HO2 := Lib.hid hwf2
  clear w0 s0 w1 w2 hw hr hn hwf1 hwf2 hcap
  have HKN := Lib.hid (fun W (h : Keeps [] w W) => sknown_calls W (Lib.hid (hT.out.new h)))
  by_cases hbig : 400 < bs.length
  · go_enter Tryd.func5, Tryd.ntmps5
    go_wp2_with (first
      | (go_at_call 9; with_reducible refine (HKN.out _ HK.out).mono ?_; rintro e wk ⟨rfl, hk1⟩; replace HK := Lib.hid (HK.out.new hk1); clear hk1))
    go_ret
    exact ⟨rfl, HK.out.below⟩
  · have hb6 : bs.length ≤ 400 := by omega
    clear hbig hbl
    go_enter Tryd.func5, Tryd.ntmps5
    go_upto_region 3 with (first
      | (go_at_call 9; with_reducible refine (HKN.out _ HK.out).mono ?_; rintro e wk ⟨rfl, hk1⟩; replace HK := Lib.hid (HK.out.new hk1); clear hk1))
    go_cut [28] (fun c wx => c = .bool (decide (200 < a1 ∧ a1 ≤ 512)) ∧ wx = wk)
    case first =>
      by_cases h1 : 200 < a1
      · by_cases h2 : a1 ≤ 512
        · go_wp2_with fail
          go_meet
          exact ⟨by rw [decide_eq_true ⟨h1, h2⟩], rfl⟩
        · have h3 : decide (200 < a1 ∧ a1 ≤ 512) = false := decide_eq_false (fun h => h2 h.2)
          go_wp2_with fail
          go_meet
          exact ⟨by rw [h3], rfl⟩
      · have h3 : decide (200 < a1 ∧ a1 ≤ 512) = false := decide_eq_false (fun h => h1 h.1)
        go_wp2_with fail
        go_meet
        exact ⟨by rw [h3], rfl⟩
    case rest =>
    obtain ⟨wa, rfl⟩ : ∃ x : World, x = wc := ⟨_, rfl⟩
    obtain ⟨rfl, rfl⟩ := hcut
    generalize decide (200 < a1 ∧ a1 ≤ 512) = big at *
    go_upto_if 28 with fail
    go_cut [1] (fun v wx => ∃ N : Int, v = .int .i64 N ∧ wx = wa)
    case first =>
      cases big
      · go_wp2_with fail
        go_meet
        exact ⟨a1, rfl, rfl⟩
      · go_wp2_with fail
        go_meet
        exact ⟨200, rfl, rfl⟩
    case rest =>
    obtain ⟨wk, rfl⟩ : ∃ x : World, x = wc := ⟨_, rfl⟩
    obtain ⟨N, rfl, rfl⟩ := hcut
    have hres : ∃ X, readX N a2 (restB bs 0) = X := ⟨_, rfl⟩
    obtain ⟨⟨X, E, T⟩, hX⟩ := hres
    have hU : (unpack bs).drop 0 = restB bs 0 := rfl
    have HRR : Hid (∀ W q sv, Hid (IsR W q sv bs 0) → Calls Tryd.prog 22 #[.pointer (some ⟨q, 0, none⟩), .int .i64 N, .int .i64 a2] W fun e w' => ∃ v, e = .returned (.tuple #[v, .int .i64 E]) ∧ Row w' .i64 3 v X ∧ IsR w' q sv bs T ∧ Keeps [q] W w' ∧ (∀ b, b ∈ fp v → W.heap.size ≤ b)) := by
      intro W q sv h
      refine (sread_calls q sv bs 0 N a2 W h (by omega)).mono ?_
      rintro e w' ⟨v, rfl, h1, h4, h2, h3⟩
      rw [hX] at h1 h2
      rw [Nat.zero_add] at h2
      rw [hX]
      exact ⟨v, rfl, h1, h2, h3, h4⟩
    have HDR : Hid (∀ W g, Hid (IsD W g (unpack bs) 0) → Calls Tryd.prog 23 #[.pointer (some ⟨g, 0, none⟩), .int .i64 N, .int .i64 a2] W fun e w' => ∃ v, e = .returned (.tuple #[v, .int .i64 E]) ∧ Row w' .i64 3 v X ∧ EndD w' g (unpack bs) E T ∧ Keeps [g] W w') := by
      intro W g h
      refine (docSRead_calls g (unpack bs) 0 N a2 W h (by rw [unpack_length]; omega)).mono ?_
      rintro e w' ⟨v, rfl, h1, h2, h3⟩
      rw [hU, hX] at h1 h2
      rw [Nat.zero_add] at h2
      rw [hU, hX]
      exact ⟨v, rfl, h1, h2, h3⟩
    have HUL : Hid ((unpack bs).length ≤ 1000000000) := (show _ ≤ _ from by rw [unpack_length]; omega)
    clear hX hU
    go_upto_region 7 with (first
      | (go_at_call 20; go_must (with_reducible refine (rsNew wk _ bs _ rfl a0 cap0 (Lib.hid (Keeps.refl [] wk)) HN.out (by omega) HB.out (Lib.hid (HR.out.new HK.out))).mono ?_); rintro e w3 ⟨q, rfl, hR3, -, -⟩; have HR3 := Lib.hid hR3; clear hR3)
      | (go_at_call 21; go_must (with_reducible refine (dText_calls bs _ rfl a0 cap0 _ (by omega) HB (Lib.hid (HR.out.new (HK.out.new HR3.out.keeps)))).mono ?_); rintro e w4 ⟨rfl, hk4⟩; have HK4 := Lib.hid hk4; have HR4 := Lib.hid (HR3.out.new hk4); clear hk4))
    have HKA : Hid (Keeps [] w4 (w4.alloc (.cells #[.string (dstr (unpack bs)), .int .i64 0] 47))) := (Keeps.refl _ _).alloc _
    obtain ⟨hk34, sv, h1, h2⟩ := HR4.out
    have HR5 := Lib.hid (h1.new HKA.out)
    have HD5 : Hid (IsD (w4.alloc (.cells #[.string (dstr (unpack bs)), .int .i64 0] 47)) w4.heap.size (unpack bs) 0) := ⟨⟨heap_alloc_new _ _⟩, Nat.zero_le _, HUL.out⟩
    have HKK : Hid (Keeps [] wk (w4.alloc (.cells #[.string (dstr (unpack bs)), .int .i64 0] 47))) := hk34.new HKA.out
    have HGQ : Hid (wk.heap.size ≤ w4.heap.size ∧ wk.heap.size ≤ q) := ⟨hk34.size, h2⟩
    have HQG : Hid (q < w4.heap.size) := h1.duo.lt
    have HSV : Hid (∀ b, b ∈ fp sv → b < w4.heap.size) := h1.row.lt
    have HG5 : Hid (w4.heap.size < (w4.alloc (.cells #[.string (dstr (unpack bs)), .int .i64 0] 47)).heap.size) := (show _ < _ from by simp)
    clear HR4 HR3 HKA HK4 hk34 h1 h2
    generalize w4.alloc (.cells #[.string (dstr (unpack bs)), .int .i64 0] 47) = w5 at *
    generalize w4.heap.size = g at *
    go_upto_region 9 with (first
      | (go_at_call 22; go_must (with_reducible refine (HRR.out _ _ _ HR5).mono ?_); rintro e w6 ⟨v9, rfl, hr9, hi6, hk6, hf9⟩; have HD6 := Lib.hid (HD5.out.keeps hk6 (by have := HQG.out; simp; omega)); have HI6 := Lib.hid hi6; have HK6 := Lib.hid hk6; have HR9 := Lib.hid hr9; have HF9 : Hid (∀ b, b ∈ fp v9 → g < b) := (fun b hb => by have h1 := hf9 b hb; have h2 := HG5.out; omega); clear hr9 hi6 hk6 hf9)
      | (go_at_call 23; go_must (with_reducible refine (HDR.out _ _ HD6).mono ?_); rintro e w7 ⟨v11, rfl, hr11, hd7, hk7⟩; have HD7 := Lib.hid hd7; have HK7 := Lib.hid hk7; have HR11 := Lib.hid hr11; clear hr11 hd7 hk7))
    have HI7 := Lib.hid (HI6.out.keeps HK7.out (by have := HQG.out; simp; omega) (fun b hb hm => by have h1 := HSV.out b hb; have h2 : b = g := List.mem_singleton.1 hm; omega))
    have HR9' := Lib.hid (HR9.out.keeps HK7.out (fun b hb hm => by have h1 := HF9.out b hb; have h2 : b = g := List.mem_singleton.1 hm; omega))
    have HKW : Hid (Keeps [] wk w7) := by
      have h1 : Keeps [] wk w6 := HKK.out.then_ HK6.out (fun b hb hlt => by have h3 := HGQ.out; have h2 : b = q := List.mem_singleton.1 hb; omega)
      exact h1.then_ HK7.out (fun b hb hlt => by have h3 := HGQ.out; have h2 : b = g := List.mem_singleton.1 hb; omega)
    obtain ⟨a9, c9, rfl, hrd9⟩ := HR9'.out.rd
    obtain ⟨a11, c11, rfl, hrd11⟩ := HR11.out.rd
    have HRD9 := Lib.hid hrd9
    have HRD11 := Lib.hid hrd11
    clear HR5 HD5 HI6 HD6 HR9 HF9 HK6 HK7 HR9' HR11 hrd9 hrd11 HRR HDR HGQ HQG HSV HKK HG5
    have HRAT := Lib.hid (fun W (h : Hid (IsR W q sv bs T)) => rAt_calls q sv bs T W h)
    have HSAME := Lib.hid (fun k => rsame_q X X _ _ rfl rfl a9 a11 c9 c11 (w7.drewN k) (Lib.hid (HRD9.out.drewN k)) (Lib.hid (HRD11.out.drewN k)))
    rw [decide_eq_true (rfl : X = X)] at HSAME
    have HRQ : Hid (∀ k, Calls Tryd.prog 25 #[.pointer (some ⟨q, 0, none⟩)] (w7.drewN k) fun e w' => e = .returned (.int .i64 T) ∧ w' = w7.drewN k) := fun k => (HRAT.out (w7.drewN k) (Lib.hid (HI7.out.new ((Keeps.refl _ _).drewN k)))).mono (fun e w' ⟨h1, h2⟩ => ⟨h1, h2.symm⟩)
    have hEE : (E == E) = true := beq_self_eq_true E
    obtain ⟨T', hd7, hT'⟩ := HD7.out
    have hc0 := hd7.duo.c1
    go_upto_region 10 with (first
      | (go_at_call 22; go_must (with_reducible refine (sread_nil 1 8 _).mono ?_); rintro e w8 ⟨rfl, rfl⟩))
    by_cases hE : E = 0
    · obtain rfl := hT' hE
      subst hE
      go_quiet (first
        | (go_at_call 24; exact Calls.quiet_of (HSAME.out _))
        | (go_at_call 25; exact Calls.quiet_of_same (HRQ.out _)))
      go_wp2_with fail
      go_ret
      exact ⟨rfl, ((HK.out.new HKW.out).new ((Keeps.refl _ _).drewN nq)).below⟩
    · have hEb : (E != 0) = true := by simp [hE]
      go_quiet (first
        | (go_at_call 24; exact Calls.quiet_of (HSAME.out _)))
      go_wp2_with fail
      go_ret
      exact ⟨rfl, ((HK.out.new HKW.out).new ((Keeps.refl _ _).drewN nq)).below⟩
end Go.Proofs.YtofkiimaoahfjaaDoor
