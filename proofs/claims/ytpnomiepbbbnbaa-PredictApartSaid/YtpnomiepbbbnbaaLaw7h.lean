/-
  The statement PredictApart of layer 7: the walk.
-/
import Derived.Test.YtpnomiepbbbnbaaPred22
set_option linter.unusedVariables false
set_option linter.unusedSimpArgs false
namespace Go.Proofs.Ytpnomiepbbbnbaa
open Go.RowKit

/-- What the run has laid since w0 and hands in: the models' boxes, the samples and the coefficients with the room behind them. -/
structure PA (w0 w : World) (b2 b6 gx g5 : Nat) (a0 a1 : Option Addr) (cap0 : Nat) (n0 : Int) (cs ys : List Int) : Prop where
  keeps : Keeps [] w0 w
  box2 : Box w b2 (.slice a0 cs.length cap0) (.int .i64 n0)
  box6 : Box w b6 (.slice (some ⟨gx, 0, none⟩) cs.length (cs.length + 2)) (.int .i64 n0)
  inn : Rd w .i64 (some ⟨g5, 0, none⟩) (ys ++ [0, 0, 0])
  coef : Rd w .i64 (some ⟨gx, 0, none⟩) (cs ++ [0, 0])
  sam : Rd w .i64 a1 ys
  mod_ : Rd w .i64 a0 cs
theorem PA.new {w0 w w' : World} {b2 b6 gx g5 : Nat} {a0 a1 : Option Addr} {cap0 : Nat} {n0 : Int} {cs ys : List Int} (h : PA w0 w b2 b6 gx g5 a0 a1 cap0 n0 cs ys) (hk : Keeps [] w w') : PA w0 w' b2 b6 gx g5 a0 a1 cap0 n0 cs ys :=
  ⟨h.keeps.new hk, h.box2.new hk, h.box6.new hk, h.inn.new hk, h.coef.new hk, h.sam.new hk, h.mod_.new hk⟩
theorem PA.ys_ {w0 w : World} {b2 b6 gx g5 : Nat} {a0 a1 : Option Addr} {cap0 : Nat} {n0 : Int} {cs ys : List Int} (h : PA w0 w b2 b6 gx g5 a0 a1 cap0 n0 cs ys) : Rd w .i64 (some ⟨g5, 0, none⟩) ys := by
  have := h.inn.take ys.length
  rwa [List.take_left] at this
theorem PA.cs_ {w0 w : World} {b2 b6 gx g5 : Nat} {a0 a1 : Option Addr} {cap0 : Nat} {n0 : Int} {cs ys : List Int} (h : PA w0 w b2 b6 gx g5 a0 a1 cap0 n0 cs ys) : Rd w .i64 (some ⟨gx, 0, none⟩) cs := by
  have := h.coef.take cs.length
  rwa [List.take_left] at this

set_option maxHeartbeats 8000000 in
set_option maxRecDepth 100000 in
theorem predictApart_walk (a0 : Option Addr) (len0 cap0 : Nat) (z0 : List Int) (n0 : Int) (a1 : Option Addr) (len1 cap1 : Nat) (z1 : List Int) (w : World) (w0 : InRow .i64 w a0 len0 cap0 z0) (s0 : cap0 * 8 ≤ 140737488351232) (u0 : (Lit.int .i64 n0).wf = true) (w1 : InRow .i64 w a1 len1 cap1 z1) (s1 : cap1 * 8 ≤ 140737488351232) :
    Calls Try.prog 10 #[.agg #[.slice a0 len0 cap0, .int .i64 n0], .slice a1 len1 cap1] w fun e w' => e = .returned (.bool true) ∧ Below w.heap.size w w' := by
  obtain ⟨hr0, hl0, -, hc0⟩ := w0.rd
  obtain ⟨hr1, hl1, -, hc1⟩ := w1.rd
  have hn0 := w0.nil_cap
  have hn1 := w1.nil_cap
  generalize z0.take len0 = cs at *
  generalize z1.take len1 = xs at *
  have HX := Lib.hid (hr1.take 100)
  have HC := Lib.hid hr0
  have hxm : min len1 100 = (xs.take 100).length := by rw [List.length_take, hl1]; omega
  have hxl : (xs.take 100).length ≤ 100 := by rw [List.length_take]; omega
  have hlm : len1 ≤ 9223372036854775807 := by rw [← hl1]; exact hr1.small
  generalize xs.take 100 = ys at *
  subst hl0
  clear hr0 hr1 w0 w1 hl1
  have hcm : ys.length ≤ cap1 := by omega
  have hmin : (if (100 : Int) < (len1 : Int) then 100 else (len1 : Int)) = (ys.length : Int) := by split <;> omega
  have HN0 := Lib.hid hn0
  have HN1 := Lib.hid hn1
  have hcl : cs.length ≤ 17592186043904 := by omega
  clear hxm hn0 hn1
  have HB0 := Lib.hid (Box.made w (.slice a0 cs.length cap0) (.int .i64 n0) 34)
  have HKB : Hid (Keeps [] w (w.alloc (.cells #[.slice a0 cs.length cap0, .int .i64 n0] 34))) := (Keeps.refl _ _).alloc _
  go_enter Try.func10, Try.ntmps10
  go_upto_region 4 with (first
    | (go_at_call 11; go_must (refine (known_calls _).mono ?_); rintro e wk ⟨rfl, hk⟩; have HK := Lib.hid (HKB.out.new hk); have HB2 := Lib.hid (HB0.out.new hk); clear hk))
  clear HB0 HKB
  have hmk : ∀ W : World, Sem.run Try.prog (Instr.makeSlice 22 (.int .i64 0) (.int .i64 ((ys.length : Int) + 3))) W = .ok (.slice (some ⟨W.heap.size, 0, none⟩) 0 (ys.length + 3)) (W.alloc (.cells (madeCells #[.int .i64 0] (ys.length + 3)) 3)) :=
    fun W => run_mk Try.prog 22 3 .i64 8 Try.underlying22 info_i64 .i64 .i64 0 (ys.length + 3) 0 ((ys.length : Int) + 3) rfl (by omega) (by omega) (by omega) (by omega) W
  have HKV : Hid (Keeps [] wk (wk.alloc (.cells (madeCells #[.int .i64 0] (ys.length + 3)) 3))) := (Keeps.refl _ _).alloc _
  have HXV := Lib.hid ((HX.out.new HK.out).new HKV.out)
  go_upto_region 6 with (first
    | (at_builtin; go_must (refine wp_appG (W := wk.alloc (.cells (madeCells #[.int .i64 0] (ys.length + 3)) 3)) rfl (.tmp 34) (.tmp 35) 22 3 .i64 8 rfl Try.underlying22 info_i64 wk.heap.size (ys.length + 3) ys rfl a1 cap1 rfl (Row.made wk .i64 3 (ys.length + 3) (by omega)) (Row.madeRoom wk .i64 3 (ys.length + 3) (by omega)) HXV.out HN1.out (by omega) ?_); intro w2 hr2 hk2; have HK2 : Hid (Keeps [] wk w2) := HKV.out.then_ hk2 (fun b hb hlt => by rw [List.mem_singleton] at hb; omega); rw [show ys.length + 3 - ys.length = 3 by omega] at hr2; have HR2 : Hid (Rd w2 .i64 (some ⟨wk.heap.size, 0, none⟩) (ys ++ [0, 0, 0])) := hr2; have hbx0 := (HB2.out.new HK2.out).c0; have hbx1 := (HB2.out.new HK2.out).c1; clear hr2 hk2)
    | (go_at_call 17; go_must (with_reducible refine (of_room cs n0 _ rfl a0 cap0 _ hcl HN0.out (Lib.hid ((HC.out.new HK.out).new HK2.out))).mono ?_); rintro e w3 ⟨gx, rfl, hr3, hg3, hk3⟩; have HR3 := Lib.hid hr3; have HK3 := Lib.hid hk3; clear hr3 hk3))
  have HP4 : Hid (PA w (w3.alloc (.cells #[.slice (some ⟨gx, 0, none⟩) cs.length (cs.length + 2), .int .i64 n0] 26)) w.heap.size w3.heap.size gx wk.heap.size a0 a1 cap0 n0 cs ys) := by
    have hk4 : Keeps [] w3 (w3.alloc (.cells #[.slice (some ⟨gx, 0, none⟩) cs.length (cs.length + 2), .int .i64 n0] 26)) := (Keeps.refl _ _).alloc _
    have hk24 := HK3.out.new hk4
    have hkk4 := HK2.out.new hk24
    exact ⟨HK.out.new hkk4, HB2.out.new hkk4, Box.made _ _ _ _, HR2.out.new hk24, HR3.out.new hk4, (HX.out.new HK.out).new hkk4, (HC.out.new HK.out).new hkk4⟩
  clear HK HB2 HKV HXV HK2 HR2 hbx0 hbx1 HR3 HK3 HX HC hmk hmin hg3
  generalize w3.alloc (.cells #[.slice (some ⟨gx, 0, none⟩) cs.length (cs.length + 2), .int .i64 n0] 26) = w4 at *
  generalize w3.heap.size = b6 at *
  generalize w.heap.size = b2 at *
  generalize wk.heap.size = g5 at *
  have hb0 := HP4.out.box2.c0
  have hb1 := HP4.out.box2.c1
  have hx0 := HP4.out.box6.c0
  have hx1 := HP4.out.box6.c1
  obtain ⟨RO, hRO⟩ : ∃ R, resO cs n0 ys = R := ⟨_, rfl⟩
  obtain ⟨RE, hRE⟩ : ∃ R, resE cs n0 ys = R := ⟨_, rfl⟩
  have HRO := Lib.hid hRO
  have HRE := Lib.hid hRE
  obtain ⟨kk, hkk⟩ : ∃ kk, min cs.length ys.length = kk := ⟨_, rfl⟩
  have HMIN2 : Hid (∀ inst : Decidable (ys.length < cs.length), (@ite Int (ys.length < cs.length) inst (ys.length : Int) (cs.length : Int)) = (kk : Int)) := by intro inst; split <;> omega
  have hkl : kk ≤ ys.length := by omega
  clear hRO hRE hkk
  go_upto_region 8 with (first
    | (go_at_call 13; go_must (with_reducible refine (residual_calls cs ys n0 _ _ rfl (some ⟨gx, 0, none⟩) (some ⟨g5, 0, none⟩) _ _ _ rfl (by omega) (by omega) (Lib.hid HP4.out.cs_) (Lib.hid HP4.out.ys_)).mono ?_); rw [HRO.out, HRE.out]; rintro e w5 ⟨v7, rfl, hr7, hf7, hk7⟩; have HR7 := Lib.hid hr7; have HF7 := Lib.hid hf7; have HK7 := Lib.hid hk7; have hb0' := (HP4.out.new hk7).box2.c0; have hb1' := (HP4.out.new hk7).box2.c1; clear hr7 hf7 hk7))
  rw [HMIN2.out]
  clear HMIN2
  have HP5 := Lib.hid (HP4.out.new HK7.out)
  have hx0 := HP5.out.box6.c0
  have hx1 := HP5.out.box6.c1
  have hk0 : (0 : Int) ≤ (kk : Int) := by omega
  have hk1 : (kk : Int) ≤ (ys.length : Int) := by omega
  have hk2 : (kk : Int) ≤ (ys.length : Int) + 3 := by omega
  have hk3 : ¬ ys.length + 3 = kk := by omega
  have hk4 : kk ≤ ys.length + 3 := by omega
  obtain ⟨TO, hTO⟩ : ∃ R, rstO cs n0 (ys.take kk) (ys.drop kk) = R := ⟨_, rfl⟩
  obtain ⟨TE, hTE⟩ : ∃ R, rstE cs n0 (ys.take kk) (ys.drop kk) = R := ⟨_, rfl⟩
  have HTO := Lib.hid hTO
  have HTE := Lib.hid hTE
  have HTL : Hid (kk = (ys.take kk).length ∧ ys.length - kk = (ys.drop kk).length) := (show _ ∧ _ from by simp; omega)
  clear hTO hTE hb0 hb1
  go_cut [10, 11, 51] (fun v10 v11 v51 wx => Hid (Row wx .i64 3 v10 TO) ∧ Hid (∀ b, b ∈ fp v10 → w5.heap.size ≤ b) ∧ Hid (Keeps [] w5 wx))
  case first =>
    go_region_held3 (fun w' => Keeps [] w5 w' ∧ w'.cell? ⟨b6, 0, none⟩ = some (.slice (some ⟨gx, 0, none⟩) cs.length (cs.length + 2)) ∧ w'.cell? ⟨b6, 1, none⟩ = some (.int .i64 n0))
      (first
        | (exact ⟨(Keeps.refl [] w5).drew, hx0, hx1⟩)
        | (go_split_ands; refine ⟨Keeps.new (by assumption) hkN, hkN.cell (by assumption) (by simp), hkN.cell (by assumption) (by simp)⟩)
        | go_keep)
      (first
        | (go_at_call 25; go_split_ands; go_must (with_reducible refine (restore_calls cs (ys.take kk) (ys.drop kk) n0 _ _ _ rfl (some ⟨gx, 0, none⟩) (some ⟨g5, 0, none⟩) (some ⟨g5, kk, none⟩) _ _ _ _ HTL.out.1 HTL.out.2 (fun h => by cases h) (by rw [← HTL.out.1]; omega) (by rw [← HTL.out.2]; omega) ?ha ?hb ?hc).mono ?_); (case ha => exact Lib.hid (HP5.out.new (by assumption)).cs_); (case hb => exact Lib.hid ((HP5.out.new (by assumption)).ys_.take kk)); (case hc => exact Lib.hid (by have := ((HP5.out.new (by assumption)).ys_).tail rfl kk; rwa [Nat.zero_add] at this)); rw [HTO.out, HTE.out]; rintro e wr ⟨v10, rfl, hr10, hf10, hkN⟩))
    all_goals
      go_wp2_with fail
      go_meet
      go_split_ands
      exact ⟨Lib.hid hr10, hf10, Lib.hid (by assumption)⟩
  case rest =>
    obtain ⟨HR10, HF10, HK10⟩ := hcut
    obtain ⟨w6, rfl⟩ : ∃ x : World, x = wc := ⟨_, rfl⟩
    obtain ⟨a7, c7, rfl⟩ := HR7.out.slice
    obtain ⟨a10, c10, rfl⟩ := HR10.out.slice
    have HR7' := Lib.hid (HR7.out.keeps HK10.out (fun _ _ => by simp))
    have HD7 : Hid (∀ b, b ∈ fp (.slice a7 RO.length c7) → b < w5.heap.size) := HR7.out.lt
    have hrl := HR7.out.len_le
    have htl := HR10.out.len_le
    have HK46 := Lib.hid (HK7.out.new HK10.out)
    have HK45S := Lib.hid HK7.out.size
    clear HR7 HK7 HK10 hx0 hx1 hb0' hb1' HP5 hk0 hk1 hk2 hk3 hk4 HTL HTO HTE HRO HRE
    go_wp2_with fail
    go_loopg [12] (RO.length + 1) (fun q v12 wr => ∃ (j : Nat) (zs : List Int), v12 = .int .i64 j ∧ j ≤ RO.length ∧ Hid (zs.length = RO.length) ∧ Hid (j + q = RO.length + 1) ∧
      Hid (Row wr .i64 3 (.slice a7 RO.length c7) zs) ∧ Hid (Keeps (fp (.slice a7 RO.length c7)) w6 wr))
    case atStart => exact ⟨0, _, rfl, by omega, (show _ = _ from rfl), (show _ = _ from by omega), HR7'.out, Keeps.refl _ _⟩
    case round =>
      obtain ⟨j, zs, rfl, hj, HX, HJ, HRj, HKj⟩ := hrel
      obtain ⟨g1, rfl⟩ : ∃ g : Nat, g = gk := ⟨_, rfl⟩
      obtain ⟨wq, rfl⟩ : ∃ x : World, x = wr := ⟨_, rfl⟩
      by_cases hlt : j < RO.length
      · obtain ⟨g9, c', he⟩ := HRj.out.form (by have := HX.out; omega)
        simp only [Value.slice.injEq] at he
        obtain ⟨rfl, -, rfl⟩ := he
        obtain ⟨vx, hx⟩ : ∃ v, wq.cell? ⟨g9, j, none⟩ = some v := ⟨_, HRj.out.cell j (by have := HX.out; omega)⟩
        have hc := HRj.out.frozen j
        have HS := Lib.hid (HRj.out.set j 77)
        have HKS : Hid (Keeps [g9] wq (wq.setCell ⟨g9, j, none⟩ (.int .i64 77))) := (Keeps.refl _ _).setCell (.inl (by simp)) _
        go_wp2_with fail
        go_roundg (RO.length - j)
        case measure => have := HJ.out; omega
        case rel => exact ⟨j + 1, zs.set j 77, by go_num, by omega, (show _ = _ from by rw [List.length_set]; exact HX.out), (show _ = _ from by have := HJ.out; omega), HS.out, HKj.out.setCell (.inl (by simp [fp_some])) _⟩
      · have HR10' := Lib.hid (HR10.out.keeps HKj.out (fun b hb hm => by have h1 := HD7.out b hm; have h2 := HF10.out b hb; omega))
        have HKA : Hid (Keeps [] w4 wq) := HK46.out.then_ HKj.out (fun b hb hlt => by have := HF7.out b hb; omega)
        have HF10' : Hid (∀ b, b ∈ fp (.slice a10 TO.length c10) → w4.heap.size ≤ b) := (fun b hb => Nat.le_trans HK45S.out (HF10.out b hb))
        clear HR10 HR7' HRj HKj HK46 HD7 HF7 HF10 HX HJ
        obtain ⟨wA, rfl⟩ : ∃ x : World, x = wq := ⟨_, rfl⟩
        go_wp2_with fail
        go_loopg [13] (TO.length + 1) (fun q v13 wr => ∃ (j : Nat) (zs : List Int), v13 = .int .i64 j ∧ j ≤ TO.length ∧ Hid (zs.length = TO.length) ∧ Hid (j + q = TO.length + 1) ∧
          Hid (Row wr .i64 3 (.slice a10 TO.length c10) zs) ∧ Hid (Keeps (fp (.slice a10 TO.length c10)) wA wr))
        case atStart => exact ⟨0, _, rfl, by omega, (show _ = _ from rfl), (show _ = _ from by omega), HR10'.out, Keeps.refl _ _⟩
        case round =>
          obtain ⟨j, zs, rfl, hj, HX, HJ, HRj, HKj⟩ := hrel
          obtain ⟨g1, rfl⟩ : ∃ g : Nat, g = gk := ⟨_, rfl⟩
          obtain ⟨wq, rfl⟩ : ∃ x : World, x = wr := ⟨_, rfl⟩
          by_cases hlt : j < TO.length
          · obtain ⟨g9, c', he⟩ := HRj.out.form (by have := HX.out; omega)
            simp only [Value.slice.injEq] at he
            obtain ⟨rfl, -, rfl⟩ := he
            obtain ⟨vx, hx⟩ : ∃ v, wq.cell? ⟨g9, j, none⟩ = some v := ⟨_, HRj.out.cell j (by have := HX.out; omega)⟩
            have hc := HRj.out.frozen j
            have HS := Lib.hid (HRj.out.set j 78)
            have HKS : Hid (Keeps [g9] wq (wq.setCell ⟨g9, j, none⟩ (.int .i64 78))) := (Keeps.refl _ _).setCell (.inl (by simp)) _
            go_wp2_with fail
            go_roundg (TO.length - j)
            case measure => have := HJ.out; omega
            case rel => exact ⟨j + 1, zs.set j 78, by go_num, by omega, (show _ = _ from by rw [List.length_set]; exact HX.out), (show _ = _ from by have := HJ.out; omega), HS.out, HKj.out.setCell (.inl (by simp [fp_some])) _⟩
          · have HKB : Hid (Keeps [] w4 wq) := HKA.out.then_ HKj.out (fun b hb hlt => by have := HF10'.out b hb; omega)
            clear HR10' HRj HKj HKA HF10' HX HJ
            obtain ⟨wB, rfl⟩ : ∃ x : World, x = wq := ⟨_, rfl⟩
            obtain ⟨m3, hm3⟩ : ∃ m3 : Int, (if (3 : Int) < (ys.length : Int) then 3 else (ys.length : Int)) = m3 := ⟨_, rfl⟩
            obtain ⟨SL, hSL⟩ : ∃ L, srcL ys m3 = L := ⟨_, rfl⟩
            obtain ⟨SS, hSS⟩ : ∃ L, srcS ys m3 = L := ⟨_, rfl⟩
            have HSL := Lib.hid hSL
            have HSS := Lib.hid hSS
            clear hSL hSS
            go_upto_region 18 with (first
              | (go_at_call 27; go_must (with_reducible refine (search_any ys _ _ (some ⟨g5, 0, none⟩) _ _ rfl (by omega) (by omega) (Lib.hid (HP4.out.new HKB.out).ys_)).mono ?_); rw [HSL.out, HSS.out]; rintro e w8 ⟨v14, rfl, hr14, hf14, hk8⟩; obtain ⟨a14, c14, rfl⟩ := hr14.slice; have HR14 := Lib.hid hr14; have HF14 := Lib.hid hf14; have HK8 := Lib.hid hk8; clear hr14 hf14 hk8))
            have hk9 : Keeps [] w8 (w8.alloc (.cells #[.slice a14 SL.length c14, .int .i64 SS] 26)) := (Keeps.refl _ _).alloc _
            have HBX := Lib.hid (Box.made w8 (.slice a14 SL.length c14) (.int .i64 SS) 26)
            have HFAR : Hid (∀ g9, g9 ∈ fp (.slice a14 SL.length c14) → w8.heap.size ∉ [g9]) := (fun g9 h => by rw [List.mem_singleton]; have := HR14.out.lt g9 h; omega)
            have HR9 := Lib.hid (HR14.out.keeps hk9 (fun _ _ => by simp))
            have HK49 := Lib.hid ((HKB.out.new HK8.out).new hk9)
            have HSB : Hid (w4.heap.size ≤ wB.heap.size) := HKB.out.size
            have hsl := HR14.out.len_le
            clear HR14 HK8 hk9 HKB HSL HSS hm3
            generalize w8.alloc (.cells #[.slice a14 SL.length c14, .int .i64 SS] 26) = w9 at *
            generalize w8.heap.size = b14 at *
            have hb0 := HBX.out.c0
            go_wp2_with fail
            clear hb0
            go_loopg [16] (SL.length + 1) (fun q v16 wr => ∃ (j : Nat) (zs : List Int), v16 = .int .i64 j ∧ j ≤ SL.length ∧ Hid (zs.length = SL.length) ∧ Hid (j + q = SL.length + 1) ∧
              Hid (Row wr .i64 3 (.slice a14 SL.length c14) zs) ∧ Hid (Keeps (fp (.slice a14 SL.length c14)) w9 wr) ∧ Hid (Box wr b14 (.slice a14 SL.length c14) (.int .i64 SS)))
            case atStart => exact ⟨0, _, rfl, by omega, (show _ = _ from rfl), (show _ = _ from by omega), HR9.out, Keeps.refl _ _, HBX.out⟩
            case round =>
              obtain ⟨j, zs, rfl, hj, HX, HJ, HRj, HKj, HBj⟩ := hrel
              obtain ⟨g1, rfl⟩ : ∃ g : Nat, g = gk := ⟨_, rfl⟩
              obtain ⟨wq, rfl⟩ : ∃ x : World, x = wr := ⟨_, rfl⟩
              by_cases hlt : j < SL.length
              · obtain ⟨g9, c', he⟩ := HRj.out.form (by have := HX.out; omega)
                simp only [Value.slice.injEq] at he
                obtain ⟨rfl, -, rfl⟩ := he
                obtain ⟨vx, hx⟩ : ∃ v, wq.cell? ⟨g9, j, none⟩ = some v := ⟨_, HRj.out.cell j (by have := HX.out; omega)⟩
                have hc := HRj.out.frozen j
                have HS := Lib.hid (HRj.out.set j 79)
                have HKS : Hid (Keeps [g9] wq (wq.setCell ⟨g9, j, none⟩ (.int .i64 79))) := (Keeps.refl _ _).setCell (.inl (by simp)) _
                have hb0 := HBj.out.c0
                have HBS := Lib.hid (HBj.out.far HKS.out (HFAR.out _ (by simp [fp_some])))
                go_wp2_with fail
                go_roundg (SL.length - j)
                case measure => have := HJ.out; omega
                case rel => exact ⟨j + 1, zs.set j 79, by go_num, by omega, (show _ = _ from by rw [List.length_set]; exact HX.out), (show _ = _ from by have := HJ.out; omega), HS.out, HKj.out.setCell (.inl (by simp [fp_some])) _, HBS.out⟩
              · have HKC : Hid (Keeps [] w4 wq) := HK49.out.then_ HKj.out (fun b hb hlt => by have h1 := HF14.out b hb; have h2 := HSB.out; omega)
                have hb0 := HBj.out.c0
                clear HR9 HRj HKj HK49 HF14 HX HJ HBX HFAR HSB
                obtain ⟨wC, rfl⟩ : ∃ x : World, x = wq := ⟨_, rfl⟩
                obtain ⟨FL, hFL⟩ : ∃ L, fixL 3 = L := ⟨_, rfl⟩
                have HFL := Lib.hid hFL
                clear hFL
                go_upto_region 23 with (first
                  | (go_at_call 12; go_must (refine (fixed_at 3 3 rfl (by omega) _).mono ?_); rw [HFL.out]; rintro e wd ⟨v17, rfl, hr17, hf17, hk17⟩; obtain ⟨a17, c17, rfl⟩ := hr17.slice; have HR17 := Lib.hid hr17; have HF17 := Lib.hid hf17; have HK17 := Lib.hid hk17; clear hr17 hf17 hk17))
                clear hb0
                have hk18 : Keeps [] wd (wd.alloc (.cells #[.slice a17 FL.length c17, .int .i64 0] 26)) := (Keeps.refl _ _).alloc _
                have HBX : Hid (Cell2 (wd.alloc (.cells #[.slice a17 FL.length c17, .int .i64 0] 26)) wd.heap.size 26 (.slice a17 FL.length c17) (.int .i64 0)) := ⟨heap_alloc_new _ _⟩
                have HFAR : Hid (∀ g9, g9 ∈ fp (.slice a17 FL.length c17) → wd.heap.size ∉ [g9]) := (fun g9 h => by rw [List.mem_singleton]; have := HR17.out.lt g9 h; omega)
                have HR18 := Lib.hid (HR17.out.keeps hk18 (fun _ _ => by simp))
                have HK418 := Lib.hid ((HKC.out.new HK17.out).new hk18)
                have HSC : Hid (w4.heap.size ≤ wC.heap.size) := HKC.out.size
                have HSD : Hid (w4.heap.size ≤ wd.heap.size) := (HKC.out.new HK17.out).size
                have hfl := HR17.out.len_le
                clear HR17 HK17 hk18 HKC
                generalize wd.alloc (.cells #[.slice a17 FL.length c17, .int .i64 0] 26) = we at *
                generalize wd.heap.size = b17 at *
                have hb0 := HBX.out.c0
                go_wp2_with fail
                clear hb0
                go_loopg [19] (FL.length + 1) (fun q v19 wr => ∃ (j : Nat) (zs : List Int), v19 = .int .i64 j ∧ j ≤ FL.length ∧ Hid (zs.length = FL.length) ∧ Hid (j + q = FL.length + 1) ∧
                  Hid (Row wr .i64 3 (.slice a17 FL.length c17) zs) ∧ Hid (Keeps (fp (.slice a17 FL.length c17)) we wr) ∧ Hid (Cell2 wr b17 26 (.slice a17 FL.length c17) (.int .i64 0)))
                case atStart => exact ⟨0, _, rfl, by omega, (show _ = _ from rfl), (show _ = _ from by omega), HR18.out, Keeps.refl _ _, HBX.out⟩
                case round =>
                  obtain ⟨j, zs, rfl, hj, HX, HJ, HRj, HKj, HBj⟩ := hrel
                  obtain ⟨g1, rfl⟩ : ∃ g : Nat, g = gk := ⟨_, rfl⟩
                  obtain ⟨wq, rfl⟩ : ∃ x : World, x = wr := ⟨_, rfl⟩
                  by_cases hlt : j < FL.length
                  · obtain ⟨g9, c', he⟩ := HRj.out.form (by have := HX.out; omega)
                    simp only [Value.slice.injEq] at he
                    obtain ⟨rfl, -, rfl⟩ := he
                    obtain ⟨vx, hx⟩ : ∃ v, wq.cell? ⟨g9, j, none⟩ = some v := ⟨_, HRj.out.cell j (by have := HX.out; omega)⟩
                    have hc := HRj.out.frozen j
                    have HS := Lib.hid (HRj.out.set j 80)
                    have HKS : Hid (Keeps [g9] wq (wq.setCell ⟨g9, j, none⟩ (.int .i64 80))) := (Keeps.refl _ _).setCell (.inl (by simp)) _
                    have hb0 := HBj.out.c0
                    have HBS := Lib.hid (HBj.out.keeps HKS.out (HFAR.out _ (by simp [fp_some])))
                    go_wp2_with fail
                    go_roundg (FL.length - j)
                    case measure => have := HJ.out; omega
                    case rel => exact ⟨j + 1, zs.set j 80, by go_num, by omega, (show _ = _ from by rw [List.length_set]; exact HX.out), (show _ = _ from by have := HJ.out; omega), HS.out, HKj.out.setCell (.inl (by simp [fp_some])) _, HBS.out⟩
                  · have HKD : Hid (Keeps [] w4 wq) := HK418.out.then_ HKj.out (fun b hb hlt => by have h1 := HF17.out b hb; have h2 := HSC.out; omega)
                    have hb0 := HBj.out.c0
                    clear HR18 HRj HKj HK418 HF17 HX HJ HBX HFAR HSC
                    obtain ⟨wD, rfl⟩ : ∃ x : World, x = wq := ⟨_, rfl⟩
                    go_upto_region 28 with (first
                      | (go_at_call 12; go_must (refine (fixed_at 3 3 rfl (by omega) _).mono ?_); rw [HFL.out]; rintro e wf ⟨v20, rfl, hr20, hf20, hk20⟩; obtain ⟨a20, c20, rfl⟩ := hr20.slice; have HR20 := Lib.hid hr20; have HF20 := Lib.hid hf20; have HK20 := Lib.hid hk20; have HBF := Lib.hid (HBj.out.keeps hk20 (by simp)); have hd0 := HBF.out.c0; have hd1 := HBF.out.c1; have hz0 := HBF.out.frozen 0; have hz1 := HBF.out.frozen 1; clear hr20 hf20 hk20))
                    have HKZ : Hid (Keeps [] w4 ((wf.setCell ⟨b17, 0, none⟩ (.slice a20 FL.length c20)).setCell ⟨b17, 1, none⟩ (.int .i64 0))) := ((HKD.out.new HK20.out).setCell (a := ⟨b17, 0, none⟩) (.inr HSD.out) _).setCell (a := ⟨b17, 1, none⟩) (.inr HSD.out) _
                    have HKF : Hid (Keeps [b17] wf ((wf.setCell ⟨b17, 0, none⟩ (.slice a20 FL.length c20)).setCell ⟨b17, 1, none⟩ (.int .i64 0))) := ((Keeps.refl _ _).setCell (a := ⟨b17, 0, none⟩) (.inl (by simp)) _).setCell (a := ⟨b17, 1, none⟩) (.inl (by simp)) _
                    have HPZ := Lib.hid (HP4.out.new HKZ.out)
                    have HRZ := Lib.hid (HR20.out.keeps HKF.out (fun b hb hm => by rw [List.mem_singleton] at hm; subst hm; have h1 := HF20.out _ hb; have h2 : b < wD.heap.size := (Array.getElem?_eq_some_iff.1 HBj.out.hp).1; omega))
                    have HBZ : Hid (Box ((wf.setCell ⟨b17, 0, none⟩ (.slice a20 FL.length c20)).setCell ⟨b17, 1, none⟩ (.int .i64 0)) b17 (.slice a20 FL.length c20) (.int .i64 0)) := by
                      have h1 := (HBF.out.set (.slice a20 FL.length c20))
                      have h2 : Cell2 ((wf.setCell ⟨b17, 0, none⟩ (.slice a20 FL.length c20)).setCell ⟨b17, 1, none⟩ (.int .i64 0)) b17 26 (.slice a20 FL.length c20) (.int .i64 0) := ⟨blk_set h1.hp 1 _⟩
                      exact ⟨h2.c0, h2.c1⟩
                    clear HKZ HKF HP4 HR20 HF20 HKD HK20 HBF hd0 hd1 hz0 hz1 hb0 hx0 hx1 HSD
                    generalize ((wf.setCell ⟨b17, 0, none⟩ (.slice a20 FL.length c20)).setCell ⟨b17, 1, none⟩ (.int .i64 0)) = wz at *
                    have hx0 := HPZ.out.box6.c0
                    have hcz : ((ys.length : Int) + 3) ≤ 200 := by omega
                    go_quiet (fail)
                    have HKQ : Hid (Keeps [] wz (wz.drewN nq)) := (Keeps.refl _ _).drewN nq
                    have HPE := Lib.hid (HPZ.out.new HKQ.out)
                    have HRE := Lib.hid (HRZ.out.keeps HKQ.out (fun _ _ => by simp))
                    have HBE := Lib.hid (HBZ.out.new HKQ.out)
                    clear HPZ HRZ HBZ HKQ hx0
                    generalize wz.drewN nq = wE at *
                    have hx0 := HPE.out.box6.c0
                    go_wp2_with fail
                    go_loopg [22] 4 (fun q v22 wr => wr = wE ∧ ∃ i : Nat, v22 = .int .i64 ((ys.length : Int) + (i : Int)) ∧ i ≤ 3 ∧ Hid (i + q = 4))
                    case atStart => exact ⟨rfl, 0, by simp, by omega, (show _ = _ from by omega)⟩
                    case round =>
                      obtain ⟨rfl, i, rfl, hi, HQ⟩ := hrel
                      obtain ⟨wE, rfl⟩ : ∃ x : World, x = wr := ⟨_, rfl⟩
                      by_cases hi3 : i < 3
                      · have hl5 : ys.length + i < (ys ++ [0, 0, 0]).length := by simp; omega
                        obtain ⟨b', o', e5, hc⟩ := HPE.out.inn.at_ (ys.length + i) hl5
                        cases e5
                        have hz : (ys ++ [0, 0, 0])[ys.length + i] = 0 := by
                          rw [List.getElem_append_right (by omega)]
                          rcases (show i = 0 ∨ i = 1 ∨ i = 2 by omega) with rfl | rfl | rfl <;> simp
                        rw [hz, Nat.zero_add] at hc
                        have hix : (0 : Int) ≤ (ys.length : Int) + (i : Int) := by omega
                        have hix2 : (ys.length : Int) + (i : Int) < (ys.length : Int) + 3 := by omega
                        have hixn : ((ys.length : Int) + (i : Int)).toNat = ys.length + i := by omega
                        clear hz hl5
                        go_wp2_with fail
                        go_roundg (3 - i)
                        case measure => have := HQ.out; omega
                        case rel => exact ⟨rfl, i + 1, by rw [show ((i + 1 : Nat) : Int) = (i : Int) + 1 by omega, ← Int.add_assoc], by omega, (show _ = _ from by have := HQ.out; omega)⟩
                      · obtain rfl : i = 3 := by omega
                        go_wp2_with fail
                        go_loopg [23] 3 (fun q v23 wr => wr = wE ∧ ∃ i : Nat, v23 = .int .i64 ((cs.length : Int) + (i : Int)) ∧ i ≤ 2 ∧ Hid (i + q = 3))
                        case atStart => exact ⟨rfl, 0, by simp, by omega, (show _ = _ from by omega)⟩
                        case round =>
                          obtain ⟨rfl, i, rfl, hi2, HQ2⟩ := hrel
                          obtain ⟨wE, rfl⟩ : ∃ x : World, x = wr := ⟨_, rfl⟩
                          by_cases hi3 : i < 2
                          · have hl5 : cs.length + i < (cs ++ [0, 0]).length := by simp; omega
                            obtain ⟨b', o', e5, hc⟩ := HPE.out.coef.at_ (cs.length + i) hl5
                            cases e5
                            have hz : (cs ++ [0, 0])[cs.length + i] = 0 := by
                              rw [List.getElem_append_right (by omega)]
                              rcases (show i = 0 ∨ i = 1 by omega) with rfl | rfl <;> simp
                            rw [hz, Nat.zero_add] at hc
                            have hix : (0 : Int) ≤ (cs.length : Int) + (i : Int) := by omega
                            have hix2 : (cs.length : Int) + (i : Int) < (cs.length : Int) + 2 := by omega
                            have hixn : ((cs.length : Int) + (i : Int)).toNat = cs.length + i := by omega
                            clear hz hl5
                            go_wp2_with fail
                            go_roundg (2 - i)
                            case measure => have := HQ2.out; omega
                            case rel => exact ⟨rfl, i + 1, by rw [show ((i + 1 : Nat) : Int) = (i : Int) + 1 by omega, ← Int.add_assoc], by omega, (show _ = _ from by have := HQ2.out; omega)⟩
                          · obtain rfl : i = 2 := by omega
                            have hF3 : FL = [3, -3, 1] := by rw [← HFL.out]; decide
                            subst hF3
                            go_wp2_with (first
                              | (go_at_call 14; with_reducible refine (same_calls ys ys _ _ rfl rfl (some ⟨g5, 0, none⟩) a1 _ _ wE (Lib.hid HPE.out.ys_) (Lib.hid HPE.out.sam)).mono ?_; rw [decide_eq_true (rfl : ys = ys)]; rintro e wS ⟨rfl, hkS⟩; have HPS := Lib.hid (HPE.out.new hkS); have HRS := Lib.hid (HRE.out.keeps hkS (fun _ _ => by simp)); have HBS := Lib.hid (HBE.out.new hkS); have hy0 := HPS.out.box6.c0; have hy1 := HPS.out.box6.c1; have hy2 := HPS.out.box2.c0; have hy3 := HPS.out.box2.c1; clear hkS)
                              | (go_at_call 23; go_must (with_reducible refine (sameM_calls cs cs n0 n0 _ _ rfl rfl (some ⟨gx, 0, none⟩) a0 _ _ _ (Lib.hid HPS.out.cs_) (Lib.hid HPS.out.mod_)).mono ?_); rw [decide_eq_true (rfl : cs = cs), decide_eq_true (rfl : n0 = n0)]; rintro e wT ⟨rfl, hkT⟩; have HPT := Lib.hid (HPS.out.new hkT); have HRT := Lib.hid (HRS.out.keeps hkT (fun _ _ => by simp)); have hv0 := (HBS.out.new hkT).c0; clear hkT)
                              | (go_at_call 14; go_must (with_reducible refine (same_calls [3, -3, 1] [3, -3, 1] 3 3 rfl rfl a20 (some ⟨wT.heap.size, 0, none⟩) _ _ _ (Lib.hid ((Row.rdAt HRT.out).new ((Keeps.refl _ _).alloc _))) (Lib.hid (Rd.lit0 wT .i64 3 #[.int .i64 3, .int .i64 (-3), .int .i64 1] [3, -3, 1] rfl (by simp)))).mono ?_); rw [decide_eq_true (rfl : ([3, -3, 1] : List Int) = [3, -3, 1])]; rintro e wU ⟨rfl, hkU⟩; have HKU := Lib.hid hkU; clear hkU))
                            go_ret
                            exact ⟨rfl, ((HPT.out.keeps.alloc _).new HKU.out).below⟩
end Go.Proofs.Ytpnomiepbbbnbaa
