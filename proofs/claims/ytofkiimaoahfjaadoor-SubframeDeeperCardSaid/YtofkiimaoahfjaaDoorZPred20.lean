/-
  Layer 7 (predict): the document's Search.
  Layer 7 (predict): Search and DocSearch, whatever comes in.
-/
import Derived.Test.YtofkiimaoahfjaaDoorZPred19
set_option maxRecDepth 100000
set_option linter.unusedVariables false
set_option linter.unusedSimpArgs false
namespace Go.Proofs.YtofkiimaoahfjaaDoor
open Go.RowKit

/-- How the document keeps the best cost. -/
def BestD (B : Option Int) (b0 : Int) : Prop := match B with
  | none => b0 = 4611686018427387904
  | some b => b0 = b ∧ b ≤ 2147483648000000
theorem BestD.iff {B : Option Int} {b0 n : Int} (h : BestD B b0) (hn : n ≤ 2147483648000000) : srcB n B = true ↔ n < b0 := by
  cases B with
  | none => simp only [BestD] at h; simp only [srcB, true_iff]; omega
  | some b => simp only [BestD] at h; simp only [srcB, decide_eq_true_eq]; omega

set_option maxHeartbeats 8000000 in
theorem docSearch_good (xs : List Int) (o n : Nat) (a : Option Addr) (c : Nat) (w : World) (hn : n = xs.length) (ho : o ≤ 8) (hox : o ≤ xs.length) (hd : xs.length ≤ c) (hl : xs.length ≤ 1000000) (hin : Hid (xs.all inB = true)) (hx : Hid (Rd w .i64 a xs)) :
    Calls Tryd.prog 39 #[.slice a n c, .int .i64 o] w fun e w' => ∃ v, e = .returned (.tuple #[.agg #[v, .int .i64 4], .int .i64 0]) ∧ Row w' .i64 3 v (srcF xs o).1 ∧ (∀ b, b ∈ fp v → w.heap.size ≤ b) ∧ Keeps [] w w' := by
  subst hn
  obtain ⟨F, hF⟩ : ∃ F, srcF xs o = F := ⟨_, rfl⟩
  have HF : Hid ((mvS o 4).foldl (srcT xs) (src0 xs o) = F) := hF
  have HOK := Lib.hid (SrcOk.begin xs o ho)
  rw [hF]
  clear hF
  have HK0 : Hid (Keeps [] w (w.alloc (.cells #[.slice none 0 0, .int .i64 0] 71))) := (Keeps.refl _ _).alloc _
  have HG0 : Hid (Cell2 (w.alloc (.cells #[.slice none 0 0, .int .i64 0] 71)) w.heap.size 71 (.slice none 0 0) (.int .i64 0)) := ⟨heap_alloc_new w _⟩
  have HX := Lib.hid (hx.out.new HK0.out)
  obtain ⟨E0, hE0⟩ : ∃ E0, resE (beginL o) 4 xs = E0 := ⟨_, rfl⟩
  obtain ⟨N0, hN0⟩ : ∃ N0, costN (beginL o) 4 xs = N0 := ⟨_, rfl⟩
  have hlen0 : (beginL o).length = o := HOK.out.len
  have HLEN0 := Lib.hid hlen0
  have HE0 := Lib.hid hE0
  have HN0 := Lib.hid hN0
  clear hE0 hN0 hlen0
  have ho0 : (0 : Int) ≤ (o : Int) := by omega
  have ho8 : (o : Int) ≤ 8 := by omega
  have hox' : (o : Int) ≤ (xs.length : Int) := by omega
  go_enter Tryd.func39, Tryd.ntmps39
  go_upto_region 7 with (first
    | (go_at_call 69; go_must (with_reducible refine (all_calls xs _ rfl a c _ HX).mono ?_); rw [hin.out]; rintro e w3 ⟨rfl, rfl⟩)
    | (go_at_call 70; go_must (with_reducible refine (refBegin_calls o _ ho).mono ?_); rintro e wb ⟨vb, rfl, hrb, hfb, hkb⟩; obtain ⟨ab, cb, hv, hqb⟩ := hrb.rd; rw [HLEN0.out] at hv; subst hv)
    | (go_at_call 71; go_must (with_reducible refine (docCost_calls (beginL o) xs 4 _ _ HLEN0.out.symm ab a cb c _ rfl hd hl (Lib.hid (hqb.new ((Keeps.refl _ _).alloc _))) (Lib.hid (HX.out.new (hkb.alloc _)))).mono ?_); rw [HE0.out, HN0.out]; rintro e wc ⟨rfl, hkc⟩))
  have hA := heap_alloc_new wb (.cells #[.slice ab o cb, .int .i64 4] 71)
  have HG6 : Hid (Cell2 wc wb.heap.size 71 (.slice ab o cb) (.int .i64 4)) := Cell2.keeps ⟨hA⟩ hkc (by simp)
  have hkw : Keeps [] (w.alloc (.cells #[.slice none 0 0, .int .i64 0] 71)) wc := (hkb.alloc _).new hkc
  have HGR := Lib.hid (HG0.out.keeps hkw (by simp))
  have HR6 : Hid (Row wc .i64 3 (.slice ab o cb) (beginL o)) := hrb.keeps (((Keeps.refl [] _).alloc _).new hkc) (fun _ _ => by simp)
  have hlt6 := hrb.lt
  have HF6 : Hid (∀ b, b ∈ fp (.slice ab o cb) → w.heap.size < b ∧ b ≠ wb.heap.size) := fun b hb => by
    have h1 := hfb b hb
    have h2 := hlt6 b hb
    rw [World.size_alloc] at h1
    omega
  have HSZ : Hid (w.heap.size < wb.heap.size) := by have := hkb.size; rw [World.size_alloc] at this; show _ < _; omega
  have HKW : Hid (Keeps [] w wc) := HK0.out.new hkw
  have HXW : Hid (∀ w', Keeps [wb.heap.size] wc w' → Rd w' .i64 a xs) := fun w' hk => hx.out.old HKW.out (Nat.le_of_lt HSZ.out) hk
  have HS6 : Hid (wb.heap.size < wc.heap.size) := (Array.getElem?_eq_some_iff.1 HG6.out.hp).1
  clear hA hkw hlt6 hkb hkc hqb hrb hfb HG0 HX HK0
  generalize wb.heap.size = g6 at *
  have HSO : Hid (∀ e, e ≤ 4 → (0 < e → 0 < stepOf e) ∧ 0 ≤ stepOf e ∧ stepOf e ≤ 8 ∧ (e = 0 → stepOf e = 0)) := stepOf_pos
  have HC0 : Hid (costO xs (beginL o) = if E0 = 0 then some N0 else none) := by
    show _ = _
    unfold costO
    rw [HE0.out, HN0.out]
  have HN0B : Hid (0 ≤ N0 ∧ N0 ≤ 2147483648000000) := by
    have := costN_bound (beginL o) 4 xs hl
    rw [HN0.out] at this
    exact this
  obtain ⟨wd, hwd⟩ : ∃ wd, wd = wc.alloc (.cells #[.int .i64 8, .int .i64 4, .int .i64 2, .int .i64 1] 3) := ⟨_, rfl⟩
  have HGS : Hid (wc.heap.size < wd.heap.size ∧ g6 < wc.heap.size) := by rw [hwd]; exact ⟨by simp, HS6.out⟩
  have HRS : Hid (Rd wd .i64 (some ⟨wc.heap.size, 0, none⟩) [8, 4, 2, 1]) := by rw [hwd]; exact Rd.lit0 wc .i64 3 #[.int .i64 8, .int .i64 4, .int .i64 2, .int .i64 1] [8, 4, 2, 1] rfl (by simp)
  have hkd : Keeps [] wc wd := by rw [hwd]; exact (Keeps.refl _ _).alloc _
  replace HGR := Lib.hid (HGR.out.keeps hkd (by simp))
  replace HG6 := Lib.hid (HG6.out.keeps hkd (by simp))
  replace HR6 : Hid (Row wd .i64 3 (.slice ab o cb) (beginL o)) := HR6.out.keeps hkd (fun _ _ => by simp)
  have HXW' : Hid (∀ w', Keeps [g6] wd w' → Rd w' .i64 a xs) := fun w' h => HXW.out w' ((Keeps.refl _ _).new hkd |>.trans h)
  have HKWd := Lib.hid (HKW.out.new hkd)
  have HS6d : Hid (g6 < wd.heap.size) := Nat.lt_trans HS6.out HGS.out.1
  clear hkd HXW HKW HS6
  generalize hgs : wc.heap.size = gs at *
  have hB0 : ∃ bb : Int, bb = (if E0 = 0 then N0 else 4611686018427387904) := ⟨_, rfl⟩
  obtain ⟨bb, hbb⟩ := hB0
  by_cases hE : E0 = 0
  all_goals
    first
      | (rw [if_pos hE] at hbb HC0; subst hE)
      | (rw [if_neg hE] at hbb HC0; have hE' : (E0 != 0) = true := by simpa using hE)
    have HBB : Hid (BestD (costO xs (beginL o)) bb) := by
      show BestD _ _
      rw [HC0.out, hbb]
      first
        | exact rfl
        | exact ⟨rfl, HN0B.out.2⟩
    go_wp2_with fail
    rw [← hwd, ← hbb]
    (try clear hE hE')
    clear hwd hbb HC0 HN0B
    generalize decide ((o : Int) < 0) = d1 at *
    generalize decide (8 < (o : Int)) = d2 at *
    clear hgs
    go_loopg [7, 10, 11, 12, 13, 14, 15] 5 (fun q v7 v10 v11 v12 v13 v14 v15 w3 => ∃ (i e : Nat) (C : List Int) (B : Option Int) (b0 : Int) (a6 : Option Addr) (c6 : Nat), v10 = .int .i64 i ∧ i + e = 4 ∧ v7 = .int .i64 b0 ∧ Hid (BestD B b0) ∧ Hid (SrcOk xs o (C, B)) ∧ Hid ((mvS o e).foldl (srcT xs) (C, B) = F) ∧
      Hid (Cell2 w3 g6 71 (.slice a6 o c6) (.int .i64 4)) ∧ Hid (Row w3 .i64 3 (.slice a6 o c6) C) ∧ Hid (∀ b, b ∈ fp (.slice a6 o c6) → w.heap.size < b ∧ b ≠ g6) ∧ Hid (q = e + 1) ∧ Hid (Keeps [g6] wd w3))
    case atStart => exact ⟨0, 4, beginL o, costO xs (beginL o), bb, ab, cb, rfl, by omega, rfl, HBB.out, HOK.out, HF.out, HG6.out, HR6.out, HF6.out, (show _ = _ from rfl), Keeps.refl _ _⟩
    case round =>
      clear HBB HOK HF HG6 HR6 HF6
      obtain ⟨i, e, C, B, b0, a6, c6, rfl, he, rfl, HB, HSK, HFO, HC6, HRW, HFR, HQ, HKL⟩ := hrel
      obtain ⟨gko, rfl⟩ : ∃ x : Nat, x = gk := ⟨_, rfl⟩
      obtain ⟨wo, rfl⟩ : ∃ x : World, x = wr := ⟨_, rfl⟩
      cases e with
      | zero =>
        obtain rfl : i = 4 := by omega
        have hc0 := HC6.out.c0
        have hc1 := HC6.out.c1
        have HGRo := Lib.hid (HGR.out.keeps HKL.out (by simp; have := HSZ.out; omega))
        have hd0 := HGRo.out.c0
        have hd1 := HGRo.out.c1
        have hf0 := HGRo.out.frozen 0
        have hf1 := HGRo.out.frozen 1
        go_wp2_with fail
        have HE1 : Hid (((wo.setCell ⟨w.heap.size, 0, none⟩ (.slice a6 o c6)).setCell ⟨w.heap.size, 1, none⟩ (.int .i64 4)).heap[w.heap.size]? = some (.cells #[.slice a6 o c6, .int .i64 4] 71 (0, 0))) :=
          blk_set (blk_set HGRo.out.hp 0 _) 1 (.int .i64 4)
        have HKE : Hid (Keeps [w.heap.size] wo ((wo.setCell ⟨w.heap.size, 0, none⟩ (.slice a6 o c6)).setCell ⟨w.heap.size, 1, none⟩ (.int .i64 4))) :=
          ((Keeps.refl _ wo).setCell (.inl (by simp)) _).setCell (.inl (by simp)) _
        refine bodyPost_ret (results_cell2 rfl _ _ w.heap.size 71 #[.slice a6 o c6, .int .i64 4] (0, 0) _ rfl HE1.out Tryd.underlying71 rfl (by kernel_rfl)) rfl ?_
        have hCF : C = F.1 := by
          have : (C, B) = F := HFO.out
          rw [← this]
        have hSZ := HSZ.out
        subst hCF
        refine ⟨_, rfl, HRW.out.keeps HKE.out (fun b hb h => by have := (HFR.out b hb).1; rw [List.mem_singleton] at h; omega), (fun b hb => Nat.le_of_lt (HFR.out b hb).1), ?_⟩
        exact (HKWd.out.then_ HKL.out (fun b hb hlt => by rw [List.mem_singleton] at hb; omega)).then_ HKE.out (fun b hb hlt => by rw [List.mem_singleton] at hb; omega)
      | succ e =>
        obtain ⟨st, hst⟩ : ∃ st, stepOf (e + 1) = st := ⟨_, rfl⟩
        have hi4 : (i : Int) < 4 := by omega
        have hi0 : (0 : Int) ≤ (i : Int) := by omega
        obtain ⟨-, hs2, hs3, -⟩ := HSO.out (e + 1) (by omega)
        rw [hst] at hs2 hs3
        have HFO2 : Hid ((mvJ st o 0 ++ mvS o e).foldl (srcT xs) (C, B) = F) := by
          show _ = _
          have := HFO.out
          rw [mvS, hst] at this
          exact this
        have HSI : Hid (([8, 4, 2, 1] : List Int)[i]'(by simp; omega) = st) := by
          show _ = _
          rw [← hst]
          have hi' : i = 0 ∨ i = 1 ∨ i = 2 ∨ i = 3 := by omega
          rcases hi' with rfl | rfl | rfl | rfl
          · obtain rfl : e = 3 := by omega
            rfl
          · obtain rfl : e = 2 := by omega
            rfl
          · obtain rfl : e = 1 := by omega
            rfl
          · obtain rfl : e = 0 := by omega
            rfl
        clear HFO hst
        go_wp2_with fail
        go_loopg [7, 11, 12, 13, 14, 15] (o + 1) (fun q v7 v11 v12 v13 v14 v15 w3 => ∃ (j d : Nat) (C : List Int) (B : Option Int) (b0 : Int) (a6 : Option Addr) (c6 : Nat), v11 = .int .i64 j ∧ j + d = o ∧ v7 = .int .i64 b0 ∧ Hid (BestD B b0) ∧ Hid (SrcOk xs o (C, B)) ∧ Hid ((mvJ st d j ++ mvS o e).foldl (srcT xs) (C, B) = F) ∧
          Hid (Cell2 w3 g6 71 (.slice a6 o c6) (.int .i64 4)) ∧ Hid (Row w3 .i64 3 (.slice a6 o c6) C) ∧ Hid (∀ b, b ∈ fp (.slice a6 o c6) → w.heap.size < b ∧ b ≠ g6) ∧ Hid (q = d + 1) ∧ Hid (Keeps [g6] wd w3))
        case atStart => exact ⟨0, o, C, B, b0, a6, c6, rfl, by omega, rfl, HB.out, HSK.out, HFO2.out, HC6.out, HRW.out, HFR.out, (show _ = _ from rfl), HKL.out⟩
        case round =>
          clear HB HSK HFO2 HC6 HRW HFR HKL
          obtain ⟨j, d, C, B, b0, a6, c6, rfl, hjd, rfl, HB, HSK, HFO, HC6, HRW, HFR, HQ2, HKL⟩ := hrel
          obtain ⟨gkj, rfl⟩ : ∃ x : Nat, x = gk := ⟨_, rfl⟩
          obtain ⟨wj, rfl⟩ : ∃ x : World, x = wr := ⟨_, rfl⟩
          cases d with
          | zero =>
            obtain rfl : j = o := by omega
            go_wp2_with fail
            go_roundg (gko - 1)
            case measure => have := HQ.out; omega
            case rel =>
              exact ⟨i + 1, e, C, B, b0, a6, c6, by go_num, by omega, rfl, HB.out, HSK.out, HFO.out, HC6.out, HRW.out, HFR.out, (show _ = _ from by have := HQ.out; omega), HKL.out⟩
          | succ d =>
            have hjo : j < o := by omega
            have HFO3 : Hid ((mvK j st 0 ++ (mvJ st d (j + 1) ++ mvS o e)).foldl (srcT xs) (C, B) = F) := by
              show _ = _
              have := HFO.out
              rw [mvJ, List.append_assoc] at this
              exact this
            obtain ⟨R, hR⟩ : ∃ R, mvJ st d (j + 1) ++ mvS o e = R := ⟨_, rfl⟩
            rw [hR] at HFO3
            have HR := Lib.hid hR
            clear hR HFO
            go_wp2_with fail
            go_loopg [7, 12, 13, 14, 15] 3 (fun q v7 v12 v13 v14 v15 w3 => ∃ (kk : Nat) (C : List Int) (B : Option Int) (b0 : Int) (a6 : Option Addr) (c6 : Nat), v12 = .int .i64 kk ∧ kk ≤ 2 ∧ v7 = .int .i64 b0 ∧ Hid (BestD B b0) ∧ Hid (SrcOk xs o (C, B)) ∧ Hid ((mvK j st kk ++ R).foldl (srcT xs) (C, B) = F) ∧
              Hid (Cell2 w3 g6 71 (.slice a6 o c6) (.int .i64 4)) ∧ Hid (Row w3 .i64 3 (.slice a6 o c6) C) ∧ Hid (∀ b, b ∈ fp (.slice a6 o c6) → w.heap.size < b ∧ b ≠ g6) ∧ Hid (kk + q = 3) ∧ Hid (Keeps [g6] wd w3))
            case atStart => exact ⟨0, C, B, b0, a6, c6, rfl, by omega, rfl, HB.out, HSK.out, HFO3.out, HC6.out, HRW.out, HFR.out, (show _ = _ from rfl), HKL.out⟩
            case round =>
              clear HB HSK HFO3 HC6 HRW HFR HKL
              obtain ⟨kk, C, B, b0, a6, c6, rfl, hkk, rfl, HB, HSK, HFO, HC6, HRW, HFR, HQ3, HKL⟩ := hrel
              obtain ⟨wk, rfl⟩ : ∃ x : World, x = wr := ⟨_, rfl⟩
              have hkk' : kk = 2 ∨ kk = 0 ∨ kk = 1 := by omega
              rcases hkk' with rfl | hk2
              · have HFO4 : Hid (R.foldl (srcT xs) (C, B) = F) := HFO.out
                go_wp2_with fail
                go_roundg (gkj - 1)
                case measure => have := HQ2.out; omega
                case rel =>
                  exact ⟨j + 1, d, C, B, b0, a6, c6, by go_num, by omega, rfl, HB.out, HSK.out, (by show _ = _; rw [HR.out]; exact HFO4.out), HC6.out, HRW.out, HFR.out, (show _ = _ from by have := HQ2.out; omega), HKL.out⟩
              · have hbys : -8 ≤ st * (1 - 2 * (kk : Int)) ∧ st * (1 - 2 * (kk : Int)) ≤ 8 ∧ (mvK j st kk ++ R = (j, st * (1 - 2 * (kk : Int))) :: (mvK j st (kk + 1) ++ R)) := by
                  rcases hk2 with rfl | rfl
                  · have : st * (1 - 2 * ((0 : Nat) : Int)) = st := by omega
                    rw [this]
                    exact ⟨by omega, by omega, rfl⟩
                  · have : st * (1 - 2 * ((1 : Nat) : Int)) = -st := by omega
                    rw [this]
                    exact ⟨by omega, by omega, rfl⟩
                obtain ⟨hby0, hby1, hbyl⟩ := hbys
                have HFO4 : Hid ((mvK j st (kk + 1) ++ R).foldl (srcT xs) (srcT xs (C, B) (j, st * (1 - 2 * (kk : Int)))) = F) := by
                  show _ = _
                  have := HFO.out
                  rw [hbyl] at this
                  exact this
                clear HFO hbyl
                have hkl : (kk : Int) < 2 := by omega
                have hk00 : (0 : Int) ≤ (kk : Int) := by omega
                have hc0 := HC6.out.c0
                have hc1 := HC6.out.c1
                have hc0' : (wk.alloc (.cells #[] 3)).cell? ⟨g6, 0, none⟩ = some (.slice a6 o c6) := ((Keeps.refl [] wk).alloc _).cell hc0 (by simp)
                obtain ⟨a6', c6', hv6, hrd6⟩ := HRW.out.rd
                have hCl : C.length = o := HSK.out.len
                rw [hCl] at hv6
                cases hv6
                have HRD6 := Lib.hid hrd6
                have HCL := Lib.hid hCl
                clear hrd6 hCl
                have HNC : Hid (a6 = none → c6 = 0) := by
                  intro h
                  subst h
                  rcases HRW.out.2 with ⟨h1, _⟩ | ⟨_, _, _, h1, _⟩ <;> cases h1
                  rfl
                have HSP6 := Lib.hid HRD6.out.spot
                go_upto_region 20 with (first
                  | (at_builtin; refine wp_appR (W := wk.alloc (.cells #[] 3)) ?hg (.tmp 57) (.tmp 59) 22 3 .i64 8 ?ho Tryd.underlying22 info_i64 (by decide) (.slice (some ⟨wk.heap.size, 0, none⟩) 0 0) [] C ?hs a6 c6 ?hx (Row.litNil wk .i64 3) (HRD6.out.new ((Keeps.refl _ _).alloc _)) HNC.out HSP6.out (by rw [HCL.out]; simp; omega) ?_; (case ho => rfl); (case hg => rfl); (case hs => rfl); (case hx => rw [HCL.out]; rfl); intro vN wN hrN hkN hfN; rw [List.nil_append] at hrN; obtain ⟨a7, c7, hvN, -⟩ := hrN.rd; rw [HCL.out] at hvN; subst hvN))
                have HKN : Hid (Keeps [] wk wN) := ((Keeps.refl _ _).alloc _).then_ hkN (fun b hb hlt => by rw [fp_some, List.mem_singleton] at hb; omega)
                have hF : ∀ b, b ∈ fp (.slice a7 o c7) → wk.heap.size ≤ b ∧ b < wN.heap.size := fun b hb => by
                  have hb' : b ∈ fp (.slice a7 C.length c7) := by rw [HCL.out]; exact hb
                  refine ⟨?_, hrN.lt b hb⟩
                  rcases hfN b hb with h | h
                  · rw [fp_some, List.mem_singleton] at h; omega
                  · rw [World.size_alloc] at h; omega
                have hs : Keeps [] wN (wN.alloc (.cells #[.slice a7 o c7, .int .i64 4] 71)) := (Keeps.refl _ wN).alloc _
                have HC14 : Hid (Cell2 (wN.alloc (.cells #[.slice a7 o c7, .int .i64 4] 71)) wN.heap.size 71 (.slice a7 o c7) (.int .i64 4)) := ⟨heap_alloc_new wN _⟩
                have HR14 : Hid (Row (wN.alloc (.cells #[.slice a7 o c7, .int .i64 4] 71)) .i64 3 (.slice a7 o c7) C) := hrN.keeps hs (fun _ _ => by simp)
                have HK14 : Hid (Keeps [] wk (wN.alloc (.cells #[.slice a7 o c7, .int .i64 4] 71))) := HKN.out.new hs
                have HF14' : Hid (∀ b, b ∈ fp (.slice a7 o c7) → wk.heap.size ≤ b ∧ b ≠ wN.heap.size) := fun b hb => by have := hF b hb; omega
                have HGX : Hid (wk.heap.size ≤ wN.heap.size) := HKN.out.size
                generalize wN.alloc (.cells #[.slice a7 o c7, .int .i64 4] 71) = W6 at *
                generalize wN.heap.size = gx at *
                clear hF hs hkN hrN hfN HKN hc0 hc1 hc0' HRD6 HNC HSP6
                obtain ⟨gr, cr, hav⟩ := HR14.out.form (by rw [HCL.out]; omega)
                rw [HCL.out] at hav
                cases hav
                have hgr := HF14'.out gr (by rw [fp_some]; simp)
                have HGR2 : Hid (wk.heap.size ≤ gr ∧ gr ≠ gx) := hgr
                clear hgr HF14'
                have HSZk : Hid (wd.heap.size ≤ wk.heap.size) := HKL.out.size
                have hjC : j < C.length := by rw [HCL.out]; exact hjo
                obtain ⟨y, hy⟩ : ∃ y, C[j] = y := ⟨_, rfl⟩
                obtain ⟨y0, y1⟩ := HSK.out.small y (hy ▸ List.getElem_mem hjC)
                have hyD : C.getD j 0 = y := by rw [List.getD_eq_getElem?_getD, List.getElem?_eq_getElem hjC, hy]; rfl
                have hcr := HR14.out.cell j hjC
                rw [hy] at hcr
                have hcz := HR14.out.frozen j
                have hx0 := HC14.out.c0
                have hjo2 : (j : Int) < (o : Int) := by omega
                have hj0 : (0 : Int) ≤ (j : Int) := by omega
                have hks := ((HRS.out.keeps HKL.out (fun ad e => by cases e; have := HGS.out.2; simp; omega)).new HK14.out).cellAt i (by simp; omega)
                obtain ⟨bs, os, es, hcs⟩ := hks
                cases es
                rw [HSI.out, Nat.zero_add] at hcs
                obtain ⟨by_, hbye⟩ : ∃ by_, st * (1 - 2 * (kk : Int)) = by_ := ⟨_, rfl⟩
                rw [hbye] at hby0 hby1 HFO4
                obtain ⟨C', hC'⟩ : ∃ C', C.set j (y + by_) = C' := ⟨_, rfl⟩
                have HCL' : Hid (C'.length = o) := by show _ = _; rw [← hC', List.length_set]; exact HCL.out
                obtain ⟨E1, hE1⟩ : ∃ E1, resE C' 4 xs = E1 := ⟨_, rfl⟩
                obtain ⟨N1, hN1⟩ : ∃ N1, costN C' 4 xs = N1 := ⟨_, rfl⟩
                have HYES : Hid (E1 = 0 → srcB N1 B = true → srcT xs (C, B) (j, by_) = (C', some N1)) := fun h1 h2 => srcT_yes hyD hC' (hE1.trans h1) hN1 h2
                have HNO : Hid ((E1 ≠ 0 ∨ srcB N1 B = false) → srcT xs (C, B) (j, by_) = (C, B)) := fun h => srcT_no hyD hC' hN1 (by rw [hE1]; exact h)
                have hN1b : N1 ≤ 2147483648000000 := by rw [← hN1]; exact (costN_bound C' 4 xs hl).2
                have HIFF := Lib.hid (HB.out.iff hN1b)
                have HE1 := Lib.hid hE1
                have HN1 := Lib.hid hN1
                have HOK1 := Lib.hid (HSK.out.step (j, by_))
                have HKG : Hid (Keeps [gr] W6 (W6.drew.setCell ⟨gr, j, none⟩ (.int .i64 (y + by_)))) := ((Keeps.refl [gr] W6).drew).setCell (.inl (by simp)) _
                have HR15 : Hid (Row (W6.drew.setCell ⟨gr, j, none⟩ (.int .i64 (y + by_))) .i64 3 (.slice (some ⟨gr, 0, none⟩) o c7) C') := by
                  show Row _ _ _ _ _
                  rw [← hC']
                  exact (HR14.out.keeps ((Keeps.refl [] W6).drew) (fun _ _ => by simp)).set j (y + by_)
                have HK15 : Hid (Keeps [] wk (W6.drew.setCell ⟨gr, j, none⟩ (.int .i64 (y + by_)))) := HK14.out.drew.setCell (.inr HGR2.out.1) _
                have HC15 : Hid (Cell2 (W6.drew.setCell ⟨gr, j, none⟩ (.int .i64 (y + by_))) gx 71 (.slice (some ⟨gr, 0, none⟩) o c7) (.int .i64 4)) := HC14.out.keeps HKG.out (by have := HGR2.out.2; simp; omega)
                have HKX : Hid (Keeps [g6] wd (W6.drew.setCell ⟨gr, j, none⟩ (.int .i64 (y + by_)))) := HKL.out.new HK15.out
                have HXR := Lib.hid (HXW'.out _ HKX.out)
                have hx2 := HC15.out.c0
                have hx3 := HC15.out.c1
                have hcs2 := HKG.out.cell hcs (by have h1 := HGR2.out.1; have h2 := HSZk.out; have h3 := HGS.out.1; simp; omega)
                have hcrd : W6.drew.cell? ⟨gr, j, none⟩ = some (.int .i64 y) := hcr
                have hczd : W6.drew.frozen? ⟨gr, j, none⟩ = false := hcz
                have hm1 : IntKind.i64.wrap (2 * (kk : Int)) = 2 * (kk : Int) := IntWalk.i64_in _ (by omega)
                have hm2 : IntKind.i64.wrap (1 - 2 * (kk : Int)) = 1 - 2 * (kk : Int) := IntWalk.i64_in _ (by omega)
                have hm3 : IntKind.i64.wrap (st * (1 - 2 * (kk : Int))) = by_ := by rw [hbye]; exact IntWalk.i64_in _ (by omega)
                have hm5 : IntKind.i64.wrap by_ = by_ := IntWalk.i64_in _ (by omega)
                have hm4 : IntKind.i64.wrap (y + by_) = y + by_ := IntWalk.i64_in _ (by omega)
                clear hy hyD hC' hE1 hN1 hjC
                have hx0d : W6.drew.cell? ⟨gx, 0, none⟩ = some (.slice (some ⟨gr, 0, none⟩) o c7) := hx0
                have hcsd : W6.drew.cell? ⟨gs, i, none⟩ = some (.int .i64 st) := hcs
                go_still_tail 18, (by kernel_rfl)
                change wpList _ _ _ _ _ W6.drew
                generalize W6.drew = W7 at *
                clear hcr hcz hx0 hcs
                go_wp2_with fail
                have hacc : (E1 = 0 ∧ srcT xs (C, B) (j, by_) = (C', some N1) ∧ N1 < b0) ∨ (srcT xs (C, B) (j, by_) = (C, B) ∧ (E1 ≠ 0 ∨ (E1 = 0 ∧ b0 ≤ N1))) := by
                  by_cases h1 : E1 = 0
                  · by_cases h2 : N1 < b0
                    · exact .inl ⟨h1, HYES.out h1 (HIFF.out.2 h2), h2⟩
                    · refine .inr ⟨HNO.out (.inr ?_), .inr ⟨h1, by omega⟩⟩
                      cases h3 : srcB N1 B
                      · rfl
                      · exact absurd (HIFF.out.1 h3) h2
                  · exact .inr ⟨HNO.out (.inl h1), .inl h1⟩
                clear HYES HNO HIFF hcs2 hcsd hx0d hm1 hm2 hm3 hm4 hm5
                rcases hacc with ⟨rfl, hst, hcase⟩ | ⟨hst, hcase⟩
                · rw [hst] at HFO4 HOK1
                  clear hst
                  go_wp2_with (first
                    | (go_at_call 71; go_must (with_reducible refine (docCost_calls C' xs 4 _ _ HCL'.out.symm (some ⟨gr, 0, none⟩) a c7 c _ rfl hd hl (Lib.hid HR15.out.rdAt) HXR).mono ?_); rw [HE1.out, HN1.out]; rintro e wq ⟨rfl, hkq⟩; have HKQ := Lib.hid hkq; clear hkq; have hx4 := (HC15.out.keeps HKQ.out (by simp)).c0; have hx5 := (HC15.out.keeps HKQ.out (by simp)).c1; have HC6q := Lib.hid (HC6.out.keeps (HK15.out.new HKQ.out) (by simp)); have hg0 := HC6q.out.c0; have hg1 := HC6q.out.c1; have hgz0 := HC6q.out.frozen 0; have hgz1 := HC6q.out.frozen 1))
                  have hs6 : Keeps [g6] wq ((wq.setCell ⟨g6, 0, none⟩ (.slice (some ⟨gr, 0, none⟩) o c7)).setCell ⟨g6, 1, none⟩ (.int .i64 4)) := ((Keeps.refl _ wq).setCell (.inl (by simp)) _).setCell (.inl (by simp)) _
                  have HGR3 : Hid (g6 < gr ∧ w.heap.size < gr) := by
                    have h1 := HGR2.out.1
                    have h2 := HSZk.out
                    have h3 := HS6d.out
                    have h4 := HSZ.out
                    show _ ∧ _
                    omega
                  go_roundg (gk - 1)
                  case measure => have := HQ3.out; omega
                  case rel =>
                    refine ⟨kk + 1, C', some N1, N1, some ⟨gr, 0, none⟩, c7, by go_num, by omega, rfl, ⟨rfl, hN1b⟩, HOK1.out, HFO4.out, ⟨blk_set (blk_set HC6q.out.hp 0 _) 1 _⟩, ?_, ?_, (show _ = _ from by have := HQ3.out; omega), ?_⟩
                    · exact (HR15.out.keeps HKQ.out (fun _ _ => by simp)).keeps hs6 (fun b hb h => by rw [fp_some, List.mem_singleton] at hb; rw [List.mem_singleton] at h; have := HGR3.out.1; omega)
                    · intro b hb
                      rw [fp_some, List.mem_singleton] at hb
                      have := HGR3.out
                      omega
                    · exact (HKX.out.new HKQ.out).trans hs6
                · rw [hst] at HFO4
                  clear hst HOK1
                  rcases hcase with hne | ⟨rfl, hcase⟩
                  · have hne' : (E1 == 0) = false := beq_eq_false_iff_ne.2 hne
                    go_wp2_with (first
                      | (go_at_call 71; go_must (with_reducible refine (docCost_calls C' xs 4 _ _ HCL'.out.symm (some ⟨gr, 0, none⟩) a c7 c _ rfl hd hl (Lib.hid HR15.out.rdAt) HXR).mono ?_); rw [HE1.out, HN1.out]; rintro e wq ⟨rfl, hkq⟩; have HKQ := Lib.hid hkq; clear hkq; have hx4 := (HC15.out.keeps HKQ.out (by simp)).c0; have hx5 := (HC15.out.keeps HKQ.out (by simp)).c1))
                    go_roundg (gk - 1)
                    case measure => have := HQ3.out; omega
                    case rel =>
                      exact ⟨kk + 1, C, B, b0, a6, c6, by go_num, by omega, rfl, HB.out, HSK.out, HFO4.out, HC6.out.keeps (HK15.out.new HKQ.out) (by simp), HRW.out.keeps (HK15.out.new HKQ.out) (fun _ _ => by simp), HFR.out, (show _ = _ from by have := HQ3.out; omega), HKX.out.new HKQ.out⟩
                  · go_wp2_with (first
                      | (go_at_call 71; go_must (with_reducible refine (docCost_calls C' xs 4 _ _ HCL'.out.symm (some ⟨gr, 0, none⟩) a c7 c _ rfl hd hl (Lib.hid HR15.out.rdAt) HXR).mono ?_); rw [HE1.out, HN1.out]; rintro e wq ⟨rfl, hkq⟩; have HKQ := Lib.hid hkq; clear hkq; have hx4 := (HC15.out.keeps HKQ.out (by simp)).c0; have hx5 := (HC15.out.keeps HKQ.out (by simp)).c1))
                    go_roundg (gk - 1)
                    case measure => have := HQ3.out; omega
                    case rel =>
                      exact ⟨kk + 1, C, B, b0, a6, c6, by go_num, by omega, rfl, HB.out, HSK.out, HFO4.out, HC6.out.keeps (HK15.out.new HKQ.out) (by simp), HRW.out.keeps (HK15.out.new HKQ.out) (fun _ _ => by simp), HFR.out, (show _ = _ from by have := HQ3.out; omega), HKX.out.new HKQ.out⟩
end Go.Proofs.YtofkiimaoahfjaaDoor

set_option maxRecDepth 100000
set_option linter.unusedVariables false
set_option linter.unusedSimpArgs false
namespace Go.Proofs.YtofkiimaoahfjaaDoor
open Go.RowKit

theorem srcE_one {xs : List Int} {z : Int} (h : z < 0 ∨ 8 < z ∨ (xs.length : Int) < z) : srcE xs z = 1 ∧ srcL xs z = [] ∧ srcS xs z = 0 := by
  have e : srcE xs z = 1 := by unfold srcE; rw [if_pos h]
  exact ⟨e, by unfold srcL; rw [e]; rfl, by unfold srcS; rw [e]; rfl⟩
theorem srcE_wide {xs : List Int} {z : Int} (h : ¬ (z < 0 ∨ 8 < z ∨ (xs.length : Int) < z)) (hx : xs.all inB = false) : srcE xs z = 12 ∧ srcL xs z = [] ∧ srcS xs z = 0 := by
  have e : srcE xs z = 12 := by unfold srcE; rw [if_neg h, if_pos hx]
  exact ⟨e, by unfold srcL; rw [e]; rfl, by unfold srcS; rw [e]; rfl⟩
theorem srcE_ok {xs : List Int} {o : Nat} (ho : o ≤ 8) (hx : o ≤ xs.length) (h : xs.all inB = true) : srcE xs o = 0 ∧ srcL xs o = (srcF xs o).1 ∧ srcS xs o = 4 := by
  have e : srcE xs o = 0 := by unfold srcE; rw [if_neg (by omega), if_neg (by rw [h]; simp)]
  refine ⟨e, ?_, by unfold srcS; rw [if_pos e]⟩
  unfold srcL
  rw [if_pos e]
  rfl

set_option maxHeartbeats 4000000 in
theorem search_any (xs : List Int) (z : Int) (n : Nat) (a : Option Addr) (c : Nat) (w : World) (hn : n = xs.length) (hd : xs.length ≤ c) (hl : xs.length ≤ 1000000) (hx : Hid (Rd w .i64 a xs)) :
    Calls Tryd.prog 57 #[.slice a n c, .int .i64 z] w fun e w' => ∃ v, e = .returned (.tuple #[.agg #[v, .int .i64 (srcS xs z)], .int .i64 (srcE xs z)]) ∧ Row w' .i64 3 v (srcL xs z) ∧ (∀ b, b ∈ fp v → w.heap.size ≤ b) ∧ Keeps [] w w' := by
  by_cases hz : z < 0 ∨ 8 < z ∨ (xs.length : Int) < z
  · obtain ⟨e1, e2, e3⟩ := srcE_one hz
    rw [e1, e2, e3]
    subst hn
    have hz' : z < 0 ∨ (0 ≤ z ∧ 8 < z) ∨ (0 ≤ z ∧ z ≤ 8 ∧ (xs.length : Int) < z) := by omega
    clear hz e1 e2 e3
    rcases hz' with h | ⟨h0, h⟩ | ⟨h0, h1, h⟩
    all_goals
      go_enter Tryd.func57, Tryd.ntmps57
      go_wp2_with fail
      refine bodyPost_ret (results_cell2 rfl _ _ w.heap.size 59 #[.slice none 0 0, .int .i64 0] (0, 0) _ rfl (heap_alloc_new _ _) Tryd.underlying59 rfl (by kernel_rfl)) rfl ?_
      exact ⟨_, rfl, Row.nil _ _ _, (fun b hb => by cases hb), (Keeps.refl _ _).alloc _⟩
  · obtain ⟨o, rfl⟩ : ∃ o : Nat, z = o := ⟨z.toNat, by omega⟩
    cases hin : xs.all inB
    · obtain ⟨e1, e2, e3⟩ := srcE_wide hz hin
      rw [e1, e2, e3]
      subst hn
      have HIN := Lib.hid hin
      have HX := Lib.hid (hx.out.new ((Keeps.refl [] w).alloc (.cells #[.slice none 0 0, .int .i64 0] 59)))
      have ho0 : (0 : Int) ≤ (o : Int) := by omega
      have ho8 : (o : Int) ≤ 8 := by omega
      have hox' : (o : Int) ≤ (xs.length : Int) := by omega
      clear hz hin e1 e2 e3
      go_enter Tryd.func57, Tryd.ntmps57
      go_wp2_with (first
        | (go_at_call 50; go_must (with_reducible refine (contains_wide xs _ rfl a c _ HX).mono ?_); rw [HIN.out]; rintro e w3 ⟨rfl, rfl⟩))
      refine bodyPost_ret (results_cell2 rfl _ _ w.heap.size 59 #[.slice none 0 0, .int .i64 0] (0, 0) _ rfl (heap_alloc_new _ _) Tryd.underlying59 rfl (by kernel_rfl)) rfl ?_
      exact ⟨_, rfl, Row.nil _ _ _, (fun b hb => by cases hb), (Keeps.refl _ _).alloc _⟩
    · obtain ⟨e1, e2, e3⟩ := srcE_ok (o := o) (by omega) (by omega) hin
      rw [e1, e2, e3]
      exact search_good xs o n a c w hn (by omega) (by omega) hd hl hin hx

set_option maxHeartbeats 4000000 in
theorem docSearch_any (xs : List Int) (z : Int) (n : Nat) (a : Option Addr) (c : Nat) (w : World) (hn : n = xs.length) (hd : xs.length ≤ c) (hl : xs.length ≤ 1000000) (hx : Hid (Rd w .i64 a xs)) :
    Calls Tryd.prog 39 #[.slice a n c, .int .i64 z] w fun e w' => ∃ v, e = .returned (.tuple #[.agg #[v, .int .i64 (srcS xs z)], .int .i64 (srcE xs z)]) ∧ Row w' .i64 3 v (srcL xs z) ∧ (∀ b, b ∈ fp v → w.heap.size ≤ b) ∧ Keeps [] w w' := by
  by_cases hz : z < 0 ∨ 8 < z ∨ (xs.length : Int) < z
  · obtain ⟨e1, e2, e3⟩ := srcE_one hz
    rw [e1, e2, e3]
    subst hn
    have hz' : z < 0 ∨ (0 ≤ z ∧ 8 < z) ∨ (0 ≤ z ∧ z ≤ 8 ∧ (xs.length : Int) < z) := by omega
    clear hz e1 e2 e3
    rcases hz' with h | ⟨h0, h⟩ | ⟨h0, h1, h⟩
    all_goals
      go_enter Tryd.func39, Tryd.ntmps39
      go_wp2_with fail
      refine bodyPost_ret (results_cell2 rfl _ _ w.heap.size 71 #[.slice none 0 0, .int .i64 0] (0, 0) _ rfl (heap_alloc_new _ _) Tryd.underlying71 rfl (by kernel_rfl)) rfl ?_
      exact ⟨_, rfl, Row.nil _ _ _, (fun b hb => by cases hb), (Keeps.refl _ _).alloc _⟩
  · obtain ⟨o, rfl⟩ : ∃ o : Nat, z = o := ⟨z.toNat, by omega⟩
    cases hin : xs.all inB
    · obtain ⟨e1, e2, e3⟩ := srcE_wide hz hin
      rw [e1, e2, e3]
      subst hn
      have HIN := Lib.hid hin
      have HX := Lib.hid (hx.out.new ((Keeps.refl [] w).alloc (.cells #[.slice none 0 0, .int .i64 0] 71)))
      have ho0 : (0 : Int) ≤ (o : Int) := by omega
      have ho8 : (o : Int) ≤ 8 := by omega
      have hox' : (o : Int) ≤ (xs.length : Int) := by omega
      clear hz hin e1 e2 e3
      go_enter Tryd.func39, Tryd.ntmps39
      go_wp2_with (first
        | (go_at_call 69; go_must (with_reducible refine (all_calls xs _ rfl a c _ HX).mono ?_); rw [HIN.out]; rintro e w3 ⟨rfl, rfl⟩))
      refine bodyPost_ret (results_cell2 rfl _ _ w.heap.size 71 #[.slice none 0 0, .int .i64 0] (0, 0) _ rfl (heap_alloc_new _ _) Tryd.underlying71 rfl (by kernel_rfl)) rfl ?_
      exact ⟨_, rfl, Row.nil _ _ _, (fun b hb => by cases hb), (Keeps.refl _ _).alloc _⟩
    · obtain ⟨e1, e2, e3⟩ := srcE_ok (o := o) (by omega) (by omega) hin
      rw [e1, e2, e3]
      exact docSearch_good xs o n a c w hn (by omega) (by omega) hd hl hin hx
end Go.Proofs.YtofkiimaoahfjaaDoor
