/-
  The statement CodeRuns of layer 5: the walk.
-/
import Derived.Test.YtjgljjpgknjihaaRuns
set_option linter.unusedVariables false
set_option linter.unusedSimpArgs false
namespace Go.Proofs.Ytjgljjpgknjihaa
open Go.RowKit Go.Proofs.Ytjgljjpgknjihaa.Pure

theorem u64_modB (a : Int) (m : Nat) (h0 : 0 < m) (h1 : m ≤ 4611686018427387904) : ∃ k : Nat, k < m ∧ wrap64 ((IntKind.u64.wrap a).tmod m) = k := by
  have e : IntKind.u64.wrap a = a % 18446744073709551616 := IntKind.wrap_u64 a
  have h2 : 0 ≤ IntKind.u64.wrap a := by rw [e]; omega
  rw [Int.tmod_eq_emod_of_nonneg h2]
  have h3 := Int.emod_nonneg (IntKind.u64.wrap a) (show (m : Int) ≠ 0 by omega)
  have h4 := Int.emod_lt_of_pos (IntKind.u64.wrap a) (show (0 : Int) < m by omega)
  refine ⟨((IntKind.u64.wrap a) % m).toNat, by omega, ?_⟩
  unfold wrap64
  omega

set_option maxHeartbeats 8000000 in
set_option maxRecDepth 100000 in
theorem codeRuns_walk (a0 : Option Addr) (len0 cap0 : Nat) (z0 : List Int) (a1 : Int) (w : World) (w0 : InRow .i64 w a0 len0 cap0 z0) (s0 : cap0 * 8 ≤ 140737488351232) (w1 : (Lit.int .i64 a1).wf = true) :
    Calls Try.prog 8 #[.slice a0 len0 cap0, .int .i64 a1] w fun e w' => e = .returned (.bool true) ∧ Below w.heap.size w w' := by
  obtain ⟨hr, hl, hw, hcap⟩ := w0.rd
  generalize z0.take len0 = xs at *
  subst hl
  have HR := Lib.hid hr
  have HK : Hid (Keeps [] w w) := Keeps.refl _ _
  have hxl : xs.length ≤ 17592186043904 := by omega
  obtain ⟨W, hW⟩ : ∃ W, (xs.take 60).map mwI = W := ⟨_, rfl⟩
  have HWL : Hid (W.length ≤ 60 ∧ W.length ≤ xs.length ∧ (W.length < 60 → W.length = xs.length)) := by show _ ∧ _ ∧ _; rw [← hW]; simp; omega
  have HWG : Hid (∀ i (h : i < W.length) (h2 : i < xs.length), W[i] = mwI xs[i]) := by intro i h h2; subst hW; simp
  have HWR : Hid (∀ x ∈ W, 0 ≤ x ∧ x ≤ 68719476735) := by
    intro x hx
    rw [← hW] at hx
    obtain ⟨y, _, rfl⟩ := List.mem_map.1 hx
    exact mwI_range y
  clear w0 s0 w1 hw hcap hr hW
  go_enter Try.func8, Try.ntmps8
  go_upto_block 0 with (first
    | (go_at_call 9; go_must (refine (known_calls _).mono ?_); rintro e w1 ⟨rfl, hk1⟩; replace HK : Hid (Keeps [] w w1) := HK.out.new hk1; clear hk1))
  have HT0 : Hid (Tri w (w1.alloc (.cells #[.bool true] 4)) (.slice none 0 0) (.slice none 0 0) (.slice (some ⟨w1.heap.size, 0, none⟩) 1 1) [] [] [true]) :=
    ⟨HK.out.alloc _, Row.nil _ _ _, Row.nil _ _ _, RowB.lit1 _ _, (fun b hb => by cases hb), (fun b hb => by cases hb), (fun b hb => by rw [fp_some, List.mem_singleton] at hb; have := HK.out.size; omega), (fun b hb => by cases hb), (fun b hb => by cases hb), (fun b hb => by cases hb)⟩
  clear HK
  generalize w1.alloc (.cells #[.bool true] 4) = w2 at *
  go_cut [5, 6, 7, 8, 9, 10, 11] (fun v5 v6 v7 v8 v9 v10 v11 wx => Hid (Tri w wx v5 v6 v7 (runs W) W (ends W)))
  case first =>
    go_wp2_with fail
    go_loopg [5, 6, 7, 8] 61 (fun q v5 v6 v7 v8 wr => ∃ i : Nat, v8 = .int .i64 i ∧ i ≤ W.length ∧ Hid (i + q = 61) ∧ Hid (Tri w wr v5 v6 v7 (runs (W.take i)) (W.take i) (ends (W.take i))))
    case atStart => exact ⟨0, rfl, by omega, (show _ = _ from by omega), HT0.out⟩
    case round =>
      obtain ⟨i, rfl, hi, HQ, HT⟩ := hrel
      obtain ⟨g1, rfl⟩ : ∃ g : Nat, g = gk := ⟨_, rfl⟩
      obtain ⟨hw60, hwx, hwe⟩ := HWL.out
      clear HT0
      by_cases hiw : i < W.length
      · have hi60 : i < 60 := by omega
        have hix : i < xs.length := by omega
        obtain ⟨x, hxe⟩ : ∃ x, xs[i] = x := ⟨_, rfl⟩
        obtain ⟨b0, o0, rfl, hcells⟩ := HR.out.form (by omega)
        have hc := HT.out.keeps.cell (hcells i hix) (by simp)
        rw [hxe] at hc
        have hwi := HWG.out i hiw hix
        rw [hxe] at hwi
        have HWI := Lib.hid hwi
        have hn := HWR.out W[i] (List.getElem_mem hiw)
        have HTK : Hid (W.take (i + 1) = W.take i ++ [W[i]]) := List.take_succ_eq_append_getElem hiw
        generalize W[i] = n at *
        clear hcells hxe hwi hwe
        go_upto_region 10 with fail
        rw [show wrap64 ((IntKind.u64.wrap x).tmod 68719476736) = n from HWI.out.symm]
        obtain ⟨hp0, hp7⟩ := putS_len7 n
        have hal : (runs (W.take i)).length ≤ 420 := by have := runs_le (W.take i); rw [List.length_take] at this; omega
        have HLA : Hid (((runs (W.take i)).length + (putS n).length) * 1 ≤ 140737488355328) := (show _ ≤ _ from by omega)
        have HLW : Hid (((W.take i).length + 1) * 8 ≤ 140737488355328) := (show _ ≤ _ from by rw [List.length_take]; omega)
        have HEL := Lib.hid (ends_length (W.take i))
        clear hc HR HWI
        go_upto_region 15 with (first
          | (go_at_call 17; go_must (refine (put_calls n _ hn.1 hn.2).mono ?_); rintro e w3 ⟨v3, rfl, hr3, -, hk3⟩; obtain ⟨g3, c3, rfl⟩ := hr3.form hp0; obtain ⟨a3, c3', he3, hrd3⟩ := hr3.rd; simp only [Value.slice.injEq] at he3; obtain ⟨rfl, -, rfl⟩ := he3; have HRD3 := Lib.hid hrd3; have HSP3 := Lib.hid (Rd.spot hrd3); have HT3 := Lib.hid (HT.out.new hk3); clear hr3 hk3 hrd3)
          | (at_builtin; refine wp_appR (W := w3) ?hg (.tmp 44) (.tmp 45) 30 5 .u8 1 ?ho Try.underlying30 c_info_u8 (by decide) u5 (runs (W.take i)) (putS n) ?hs (some ⟨g3, 0, none⟩) c3 ?hx HT3.out.ra HRD3.out (fun h => by cases h) HSP3.out HLA.out ?_; (case ho => rfl); (case hg => rfl); (case hs => rfl); (case hx => rfl); intro v4 w4 hr4 hk4 hf4; have HT4 := Lib.hid (HT3.out.appA hr4 hk4 hf4); clear hr4 hk4 hf4)
          | (at_builtin; go_must (refine wp_app1 (W := w4) rfl (.tmp 47) (.tmp 49) 41 3 .i64 8 rfl Try.underlying41 info_int (by decide) u6 (W.take i) n rfl rfl HT4.out.rw_ HLW.out ?_); intro v5 w5 hr5 hk5 hf5; have HT5 := Lib.hid (HT4.out.appW hr5 hk5 hf5); clear hr5 hk5 hf5))
        clear HT HT3 HT4 HRD3 HSP3 HLA HLW
        obtain ⟨a4, c4, rfl⟩ := HT5.out.ra.slice
        obtain ⟨LA, hLA⟩ : ∃ LA, (runs (W.take i) ++ putS n).length = LA := ⟨_, rfl⟩
        obtain ⟨A0, hA0⟩ : ∃ A0, (runs (W.take i)).length = A0 := ⟨_, rfl⟩
        obtain ⟨P, hP⟩ : ∃ P, (putS n).length = P := ⟨_, rfl⟩
        have hLA' : LA = A0 + P := by rw [← hLA, List.length_append, hA0, hP]
        have HBL := Lib.hid (blk_length n)
        rw [hP] at hp0 hp7 HBL
        rw [hA0] at hal HEL
        have HPn := Lib.hid hP
        rw [hLA] at HT5 ⊢
        subst hLA'
        clear hLA hA0 hP
        go_loopg [7] (P + 1) (fun q v7 w6 => ∃ j : Nat, j ≤ P ∧ Hid (j + q = P + 1) ∧ Hid (Tri w w6 (.slice a4 (A0 + P) c4) v5 v7 (runs (W.take i) ++ putS n) (W.take i ++ [n]) (ends (W.take i) ++ (blk n).take j)))
        case atStart => exact ⟨0, by omega, (show _ = _ from by omega), (show Tri _ _ _ _ _ _ _ _ from by simpa using HT5.out)⟩
        case round =>
          obtain ⟨j, hj, HJ, HTj⟩ := hrel
          obtain ⟨LE, hLE⟩ : ∃ LE, (ends (W.take i) ++ (blk n).take j).length = LE := ⟨_, rfl⟩
          have hLE' : LE = A0 + 1 + j := by rw [← hLE, List.length_append, List.length_take, HEL.out, HBL.out]; omega
          obtain ⟨a7, c7, he7⟩ := HTj.out.re.slice
          rw [hLE] at he7
          subst hLE'
          subst he7
          clear hLE
          by_cases hjp : j < P
          · obtain ⟨bb, hbb⟩ : ∃ bb, (blk n)[j]'(by rw [HBL.out]; exact hjp) = bb := ⟨_, rfl⟩
            have hbe : ((A0 : Int) + 1 + (j : Int) == (A0 : Int) + (P : Int)) = bb := by
              rw [← hbb, blk_get, HPn.out]
              by_cases h : j + 1 = P
              · rw [decide_eq_true h]; exact beq_iff_eq.2 (by omega)
              · rw [decide_eq_false h]; exact beq_eq_false_iff_ne.2 (by omega)
            have HTK2 : Hid ((blk n).take (j + 1) = (blk n).take j ++ [bb]) := (show _ = _ from by rw [← hbb]; exact List.take_succ_eq_append_getElem _)
            have hle : (A0 : Int) + 1 + (j : Int) ≤ (A0 : Int) + (P : Int) := by omega
            have hbl : (ends (W.take i) ++ (blk n).take j).length ≤ 1000000 := by rw [List.length_append, List.length_take, HEL.out]; omega
            have HBLL := Lib.hid hbl
            clear hbb hbl
            go_wp2_with (first
              | (at_builtin; go_must (refine wp_appB (W := wr) rfl (.tmp 56) (.tmp 62) 42 rfl Try.underlying42 info_bool _ (ends (W.take i) ++ (blk n).take j) bb rfl rfl HTj.out.re HBLL.out ?_); intro v8 w8 hr8 hk8 hf8; have HT8 := Lib.hid (HTj.out.appE hr8 hk8 hf8); clear hr8 hk8 hf8))
            go_roundg (P - j)
            case measure => have := HJ.out; omega
            case rel => exact ⟨j + 1, by omega, (show _ = _ from by have := HJ.out; omega), (show Tri _ _ _ _ _ _ _ _ from by rw [HTK2.out, ← List.append_assoc]; exact HT8.out)⟩
          · obtain rfl : j = P := by omega
            have hle : ¬ ((A0 : Int) + 1 + (j : Int) ≤ (A0 : Int) + (j : Int)) := by omega
            have ht := HTj.out
            rw [List.take_of_length_le (show (blk n).length ≤ j from by rw [HBL.out]; exact Nat.le_refl _), ← ends_snoc, ← runs_snoc, ← HTK.out] at ht
            have HTE := Lib.hid ht
            clear ht HTj HT5
            go_wp2_with fail
            go_roundg (g1 - 1)
            case measure => have := HQ.out; omega
            case rel => exact ⟨i + 1, by go_num, by omega, (show _ = _ from by have := HQ.out; omega), HTE.out⟩
      · obtain rfl : i = W.length := by omega
        have ht := HT.out
        rw [List.take_of_length_le (Nat.le_refl _)] at ht
        have HT1 := Lib.hid ht
        clear ht HT
        by_cases hi60 : W.length < 60
        · have hx1 : ¬ ((W.length : Int) < (xs.length : Int)) := by have := hwe hi60; omega
          clear hwe
          go_wp2_with fail
          go_meet
          exact HT1
        · clear hwe
          go_wp2_with fail
          all_goals
            go_meet
            exact HT1
  case rest =>
    have HT := hcut
    obtain ⟨wa, rfl⟩ : ∃ x : World, x = wc := ⟨_, rfl⟩
    obtain ⟨a5, c5, rfl⟩ := HT.out.ra.slice
    obtain ⟨a6, c6, rfl⟩ := HT.out.rw_.slice
    obtain ⟨g7, c7, rfl⟩ := HT.out.re.form (by simp [ends])
    have HEL := Lib.hid (ends_length W)
    have hal := runs_le W
    have HRG := Lib.hid (runs_range W HWR.out)
    obtain ⟨LA, hLA⟩ : ∃ LA, (runs W).length = LA := ⟨_, rfl⟩
    have hcc := HT.out.ra.cap_le
    rw [hLA] at hcc hal HEL ⊢
    have HLA := Lib.hid hLA
    rw [HEL.out]
    have hw60 : W.length ≤ 60 := HWL.out.1
    clear hLA hcut HT0 HR
    rw [HLA.out, HEL.out] at HT
    go_upto_region 18 with fail
    obtain ⟨ct, hct, hcte⟩ := u64_modB a1 (LA + 1) (by omega) (by omega)
    rw [show ((LA + 1 : Nat) : Int) = (LA : Int) + 1 by omega] at hcte
    rw [hcte]
    clear hcte
    have hctl : ct ≤ LA := by omega
    have hctc : ct ≤ c5 := by omega
    have HRD : Hid (Rd wa .u8 a5 ((runs W).take ct)) := by
      obtain ⟨a', c', e', h'⟩ := HT.out.ra.rd
      simp only [Value.slice.injEq] at e'
      obtain ⟨rfl, -, rfl⟩ := e'
      exact h'.take ct
    have hct0 : (0 : Int) ≤ (ct : Int) := by omega
    go_wp2_with fail
    go_loopg [12, 13] (W.length + 2) (fun q v12 v13 wr => ∃ (i o R : Nat) (X : Option Addr) (C : Nat), v13 = .int .i64 i ∧ v12 = .slice X R C ∧ R ≤ C ∧ i ≤ W.length ∧ R ≤ 420 ∧ Hid (i + q = W.length + 2) ∧ Hid (o = (runs (W.take i)).length) ∧ Hid (o + R = ct) ∧ Hid (Rd wr .u8 X (((runs W).take ct).drop o)) ∧ Hid (Keeps [] wa wr))
    case atStart => exact ⟨0, 0, ct, a5, c5, rfl, rfl, by omega, by omega, by omega, (show _ = _ from by omega), (show _ = _ from by simp [runs]), (show _ = _ from by omega), HRD.out, Keeps.refl _ _⟩
    case round =>
      obtain ⟨i, o, R, X, C, rfl, rfl, hRC, hi, hR4, HQ, HO, HOR, HX, HKr⟩ := hrel
      by_cases hR0 : 0 < R
      · have hiw : i < W.length := by
          rcases Nat.lt_or_ge i W.length with h | h
          · exact h
          · have h1 := HO.out
            have h2 := HOR.out
            rw [List.take_of_length_le h, HLA.out] at h1
            omega
        obtain ⟨hra, hrn⟩ := runs_at W i ct hiw (by rw [← HO.out]; have := HOR.out; omega)
        rw [← HO.out] at hra hrn
        rw [show ct - o = R by have := HOR.out; omega] at hra
        have hn := HWR.out W[i] (List.getElem_mem hiw)
        obtain ⟨hp0, hp7⟩ := putS_len7 W[i]
        have hef := ends_false W i ct hiw
        obtain ⟨g6, c6', he6⟩ := HT.out.rw_.form (by omega)
        simp only [Value.slice.injEq] at he6
        obtain ⟨rfl, -, rfl⟩ := he6
        have hcw := HKr.out.cell (HT.out.rw_.cell i hiw) (by simp)
        obtain ⟨n, hne⟩ : ∃ n, W[i] = n := ⟨_, rfl⟩
        rw [hne] at hra hrn hn hp0 hp7 hef hcw
        have hxl2 : (((runs W).take ct).drop o).length = R := by rw [List.length_drop, List.length_take, HLA.out]; have := HOR.out; omega
        obtain ⟨bx, ox, rfl, -⟩ := HX.out.form (by omega)
        rw [hra] at hxl2
        by_cases hpr : (putS n).length ≤ R
        · have hr2 : (putS n ++ runs (W.drop (i + 1))).take R = putS n ++ (runs (W.drop (i + 1))).take (R - (putS n).length) := by
            rw [List.take_append]
            congr 1
            exact List.take_of_length_le hpr
          rw [hr2] at hra hxl2
          have HG := Lib.hid (get_put n hn.1 hn.2 ((runs (W.drop (i + 1))).take (R - (putS n).length)))
          rw [← hra] at HG hxl2
          have HXL := Lib.hid hxl2.symm
          have HBY : Hid (∀ x ∈ ((runs W).take ct).drop o, 0 ≤ x ∧ x ≤ 255) := fun x hx => HRG.out x (List.mem_of_mem_take (List.mem_of_mem_drop hx))
          have HXT := HX.out.tail rfl (putS n).length
          rw [List.drop_drop] at HXT
          have HXT2 := Lib.hid HXT
          have HRN := Lib.hid hrn
          obtain ⟨P, hP⟩ : ∃ P, (putS n).length = P := ⟨_, rfl⟩
          rw [hP] at HG HXT2 HRN hp0 hp7 hpr
          have hP1 : ¬ ((P : Int) < 1) := by omega
          have hP7 : ¬ ((7 : Int) < (P : Int)) := by omega
          have hP0 : (0 : Int) ≤ (P : Int) := by omega
          have hPR : (P : Int) ≤ (R : Int) := by omega
          clear hra hrn hn hef hr2 hxl2 HXT hP hne
          go_upto_region 26 with (first
            | (go_at_call 19; go_must (with_reducible refine (get_resN _ _ HXL.out _ _ _ HG.out _ _ _ HX.out HBY (by rw [← HXL.out]; omega)).mono ?_); rintro e w7 ⟨rfl, hk7⟩; have hcw7 := hk7.cell hcw (by simp); have HK7 := Lib.hid hk7))
          go_wp2_with fail
          · rename_i hCP
            have hnil : ((runs W).take ct).drop (o + P) = [] := by
              apply List.drop_of_length_le
              rw [List.length_take]
              have := HOR.out
              omega
            have HNIL : Hid (Rd w7 .u8 (some ⟨bx, ox, none⟩) (((runs W).take ct).drop (o + P))) := by
              show Rd _ _ _ _
              rw [hnil]
              exact Rd.nil _ _ _
            clear hnil
            go_roundg (W.length + 1 - i)
            case measure => have := HQ.out; omega
            case rel =>
              exact ⟨i + 1, o + P, R - P, some ⟨bx, ox, none⟩, 0, by go_num, rfl, by omega, by omega, by omega, (show _ = _ from by have := HQ.out; omega), HRN.out.symm, (show _ = _ from by have := HOR.out; omega), HNIL.out, HKr.out.new HK7.out⟩
          · go_roundg (W.length + 1 - i)
            case measure => have := HQ.out; omega
            case rel =>
              exact ⟨i + 1, o + P, R - P, some ⟨bx, ox + P, none⟩, C - P, by go_num, rfl, by omega, by omega, by omega, (show _ = _ from by have := HQ.out; omega), HRN.out.symm, (show _ = _ from by have := HOR.out; omega), HXT2.out.new HK7.out, HKr.out.new HK7.out⟩
        · have hr2 : (putS n ++ runs (W.drop (i + 1))).take R = (putS n).take R := List.take_append_of_le_length (by omega)
          rw [hr2] at hra hxl2
          have HG := Lib.hid (get_cut n hn.1 hn.2 R (by omega))
          rw [← hra] at HG hxl2
          have HXL := Lib.hid hxl2.symm
          have HBY : Hid (∀ x ∈ ((runs W).take ct).drop o, 0 ≤ x ∧ x ≤ 255) := fun x hx => HRG.out x (List.mem_of_mem_take (List.mem_of_mem_drop hx))
          have hcE : wr.cell? ⟨g7, ct, none⟩ = some (.bool false) := by
            have h1 := HT.out.re.cell ct (by rw [HEL.out]; omega)
            have hor := HOR.out
            have ho := HO.out
            rw [hef (by omega) (by omega) (by rw [HEL.out]; omega)] at h1
            exact HKr.out.cell h1 (by simp)
          have hctE : (ct : Int) < (LA : Int) + 1 := by omega
          clear hra hrn hn hef hr2 hxl2 hne hpr hp0 hp7
          go_wp2_with (first
            | (go_at_call 19; go_must (with_reducible refine (get_resN _ _ HXL.out _ _ _ HG.out _ _ _ HX.out HBY (by rw [← HXL.out]; omega)).mono ?_); rintro e w7 ⟨rfl, hk7⟩; have hcE7 := hk7.cell hcE (by simp); have HK7 := Lib.hid hk7))
          go_ret
          exact ⟨rfl, ((HT.out.keeps.new HKr.out).new HK7.out).below⟩
      · obtain rfl : R = 0 := by omega
        have hcE : wr.cell? ⟨g7, ct, none⟩ = some (.bool true) := by
          have h1 := HT.out.re.cell ct (by rw [HEL.out]; omega)
          have hor := HOR.out
          have ho := HO.out
          have h2 := ends_true W i (by rw [HEL.out]; omega)
          have h3 : ct = (runs (W.take i)).length := by omega
          simp only [h3] at h1
          rw [h2] at h1
          rw [h3]
          exact HKr.out.cell h1 (by simp)
        have hctE : (ct : Int) < (LA : Int) + 1 := by omega
        go_wp2_with fail
        go_ret
        exact ⟨rfl, (HT.out.keeps.new HKr.out).below⟩
end Go.Proofs.Ytjgljjpgknjihaa
