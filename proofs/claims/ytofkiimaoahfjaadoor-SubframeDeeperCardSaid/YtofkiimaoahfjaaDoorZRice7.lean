/-
  Layer 6 (rice): choose, the walk.
-/
import Derived.Test.YtofkiimaoahfjaaDoorZRice4
set_option maxRecDepth 100000
set_option linter.unusedVariables false
set_option linter.unusedSimpArgs false
namespace Go.Proofs.YtofkiimaoahfjaaDoor
open Go.RowKit

theorem info_part : (Tryd.prog.info? 107).map (fun i => (i.zero, i.size, i.bytes)) = some (some (.agg #[.int .i64 0, .int .i64 0, .int .i64 0]), 3, 24) := by kernel_rfl

/-- A plan's block: its parts are a row made since B. -/
structure PlanAt (w : World) (g B : Nat) (m p : Int) (v : Value) (ps : List T3) (s : Int) : Prop where
  quad : Quad w g 102 (.int .i64 m) (.int .i64 p) v (.int .i64 s)
  row : RowT w 107 v ps
  new : ∀ b, b ∈ fp v → B ≤ b ∧ b ≠ g
theorem PlanAt.keeps {w w' : World} {g B : Nat} {m p : Int} {v : Value} {ps : List T3} {s : Int} {F : List Nat} (h : PlanAt w g B m p v ps s) (hk : Keeps F w w') (hg : g ∉ F) (hf : ∀ b, b ∈ fp v → b ∉ F) : PlanAt w' g B m p v ps s :=
  ⟨h.quad.keeps hk hg, h.row.keeps hk hf, h.new⟩

set_option maxHeartbeats 8000000 in
set_option maxRecDepth 100000 in
theorem choose_calls (L : List Int) (order n : Nat) (hn : n = L.length) (a : Option Addr) (c : Nat) (w : World) (hnc : a = none → c = 0) (hl : L.length ≤ 600) (hc : L.length ≤ c) (ho : order ≤ 8) (hin : Hid (∀ n ∈ L, -2147483648 < n ∧ n < 2147483648)) (hx : Hid (Rd w .i64 a L)) :
    Calls Tryd.prog 60 #[.slice a n c, .int .i64 order] w fun e w' => ∃ v, e = .returned (.agg #[.int .i64 (chooseS L order).1, .int .i64 (chooseS L order).2.1, v, .int .i64 (chooseS L order).2.2.2]) ∧ RowT w' 107 v (chooseS L order).2.2.1 ∧ (∀ b, b ∈ fp v → w.heap.size ≤ b) ∧ Keeps [] w w' := by
  subst hn
  have HNC := Lib.hid hnc
  clear hnc
  go_enter Tryd.func60, Tryd.ntmps60
  go_wp2_with fail
  have HK : Hid (Keeps [] w ((w.alloc (.cells #[.int .i64 0, .int .i64 0, .slice none 0 0, .int .i64 0] 102)).alloc (.cells #[.int .i64 0, .int .i64 0, .slice none 0 0, .int .i64 (-1)] 102))) := ((Keeps.refl _ _).alloc _).alloc _
  have HQ4 : Hid (Quad ((w.alloc (.cells #[.int .i64 0, .int .i64 0, .slice none 0 0, .int .i64 0] 102)).alloc (.cells #[.int .i64 0, .int .i64 0, .slice none 0 0, .int .i64 (-1)] 102)) w.heap.size 102 (.int .i64 0) (.int .i64 0) (.slice none 0 0) (.int .i64 0)) :=
    (⟨heap_alloc_new w _⟩ : Quad (w.alloc (.cells #[.int .i64 0, .int .i64 0, .slice none 0 0, .int .i64 0] 102)) w.heap.size 102 (.int .i64 0) (.int .i64 0) (.slice none 0 0) (.int .i64 0)).keeps ((Keeps.refl [] _).alloc _) (by simp)
  have HP5 : Hid (PlanAt ((w.alloc (.cells #[.int .i64 0, .int .i64 0, .slice none 0 0, .int .i64 0] 102)).alloc (.cells #[.int .i64 0, .int .i64 0, .slice none 0 0, .int .i64 (-1)] 102)) (w.heap.size + 1) (w.heap.size + 1 + 1) 0 0 (.slice none 0 0) [] (-1)) := by
    have h1 : Quad ((w.alloc (.cells #[.int .i64 0, .int .i64 0, .slice none 0 0, .int .i64 0] 102)).alloc (.cells #[.int .i64 0, .int .i64 0, .slice none 0 0, .int .i64 (-1)] 102)) (w.alloc (.cells #[.int .i64 0, .int .i64 0, .slice none 0 0, .int .i64 0] 102)).heap.size 102 (.int .i64 0) (.int .i64 0) (.slice none 0 0) (.int .i64 (-1)) := ⟨heap_alloc_new _ _⟩
    rw [World.size_alloc] at h1
    exact ⟨h1, RowT.nil _ _, fun b hb => by cases hb⟩
  have HSZ : Hid (w.heap.size + 1 + 1 ≤ ((w.alloc (.cells #[.int .i64 0, .int .i64 0, .slice none 0 0, .int .i64 0] 102)).alloc (.cells #[.int .i64 0, .int .i64 0, .slice none 0 0, .int .i64 (-1)] 102)).heap.size) := (show _ ≤ _ from by simp)
  generalize ((w.alloc (.cells #[.int .i64 0, .int .i64 0, .slice none 0 0, .int .i64 0] 102)).alloc (.cells #[.int .i64 0, .int .i64 0, .slice none 0 0, .int .i64 (-1)] 102)) = w1 at *
  obtain ⟨g4, hg4⟩ : ∃ g, w.heap.size = g := ⟨_, rfl⟩
  obtain ⟨g5, hg5⟩ : ∃ g, w.heap.size + 1 = g := ⟨_, rfl⟩
  obtain ⟨B, hB⟩ : ∃ g, w.heap.size + 1 + 1 = g := ⟨_, rfl⟩
  have HGG : Hid (w.heap.size ≤ g4 ∧ g4 < g5 ∧ g5 < B) := (show _ ∧ _ from by omega)
  rw [hB] at HSZ
  rw [hB, hg5] at HP5
  rw [hg4] at HQ4
  rw [hg5, hg4]
  clear hg4 hg5 hB
  go_loopg [6] 6 (fun q v6 wr => ∃ (p : Nat) (bm bp : Int) (bv : Value) (bps : List T3) (bs : Int), v6 = .int .i64 p ∧ p ≤ 5 ∧ Hid (p + q = 6) ∧ Hid (loopP L order p = (bm, bp, bps, bs)) ∧ Hid (PlanAt wr g5 B bm bp bv bps bs) ∧ Hid (Quad wr g4 102 (.int .i64 0) (.int .i64 0) (.slice none 0 0) (.int .i64 0)) ∧ Hid (B ≤ wr.heap.size) ∧ Hid (Keeps [] w wr))
  case atStart => exact ⟨0, 0, 0, _, [], -1, rfl, by omega, (show _ = _ from by omega), loopP_zero L order, HP5.out, HQ4.out, HSZ.out, HK.out⟩
  case round =>
    obtain ⟨p, bm, bp, bv, bps, bs, rfl, hp, HQ, HLP, HPB, HQ4p, HSZp, HKp⟩ := hrel
    obtain ⟨q1, rfl⟩ : ∃ g : Nat, g = gk := ⟨_, rfl⟩
    obtain ⟨wp, rfl⟩ : ∃ x : World, x = wr := ⟨_, rfl⟩
    clear HQ4 HP5 HSZ HK
    by_cases hp4 : p ≤ 4
    · have HFT : Hid (∀ W, Calls Tryd.prog 94 #[.int .i64 ((L.length : Int) + (order : Int)), .int .i64 order, .int .i64 p] W fun e w' => e = .returned (.bool (fitsB (L.length + order) order p)) ∧ W = w') := by
        intro W
        have := fits_calls (L.length + order) order p W (by omega) (by omega) (by omega)
        rwa [Int.natCast_add] at this
      cases hf : fitsB (L.length + order) order p
      · rw [hf] at HFT
        have HLN : Hid (loopP L order (p + 1) = (bm, bp, bps, bs)) := by
          show _ = _
          rw [loopP_succ, HLP.out]
          unfold stepP
          rw [hf]
          rfl
        clear hf
        go_wp2_with (first
          | (go_at_call 94; go_must (refine (HFT.out _).mono ?_; rintro e w3 ⟨rfl, rfl⟩)))
        go_roundg (5 - p)
        case measure => have := HQ.out; omega
        case rel => exact ⟨p + 1, bm, bp, bv, bps, bs, by go_num, by omega, (show _ = _ from by have := HQ.out; omega), HLN.out, HPB.out, HQ4p.out, HSZp.out, HKp.out⟩
      · rw [hf] at HFT
        have HF := Lib.hid hf
        clear hf
        go_wp2_with (first
          | (go_at_call 94; go_must (refine (HFT.out _).mono ?_; rintro e w3 ⟨rfl, rfl⟩)))
        go_loopg [7] 3 (fun q v7 wr => ∃ (m : Nat) (bm' bp' : Int) (bv' : Value) (bps' : List T3) (bs' : Int), v7 = .int .i64 m ∧ m ≤ 2 ∧ Hid (m + q = 3) ∧ Hid (loopM L order p (bm, bp, bps, bs) m = (bm', bp', bps', bs')) ∧ Hid (PlanAt wr g5 B bm' bp' bv' bps' bs') ∧ Hid (Quad wr g4 102 (.int .i64 0) (.int .i64 0) (.slice none 0 0) (.int .i64 0)) ∧ Hid (B ≤ wr.heap.size) ∧ Hid (Keeps [] w wr))
        case atStart => exact ⟨0, bm, bp, bv, bps, bs, rfl, by omega, (show _ = _ from by omega), loopM_zero _ _ _ _, HPB.out, HQ4p.out, HSZp.out, HKp.out⟩
        case round =>
          obtain ⟨m, bm', bp', bv', bps', bs', rfl, hm, HQm, HLM, HPm, HQ4m, HSZm, HKm⟩ := hrel
          obtain ⟨q2, rfl⟩ : ∃ g : Nat, g = gk := ⟨_, rfl⟩
          obtain ⟨wm, rfl⟩ : ∃ x : World, x = wr := ⟨_, rfl⟩
          clear HPB HQ4p HSZp
          by_cases hm1 : m ≤ 1
          · go_upto_block 4 with (first
              | (go_at_call 61; go_must (refine (rcut_calls L order p _ rfl a c _ HNC.out hp4 hl hc ho HF.out (Lib.hid (hx.out.new (HKm.out.alloc _)))).mono ?_); rintro e wk ⟨v36, vs, rfl, hr36, hf36, hps, hkc⟩; obtain ⟨a36, c36, rfl⟩ := hr36.slice; have HR36 := Lib.hid hr36; have HF36 := Lib.hid hf36; have HPS := Lib.hid (hps w hx.out); have HKC := Lib.hid hkc; clear hr36 hf36 hps hkc))
            have HQ8 : Hid (Quad wk wm.heap.size 102 (.int .i64 m) (.int .i64 p) (.slice none 0 0) (.int .i64 6)) :=
              (⟨heap_alloc_new wm _⟩ : Quad (wm.alloc (.cells #[.int .i64 m, .int .i64 p, .slice none 0 0, .int .i64 6] 102)) wm.heap.size 102 (.int .i64 m) (.int .i64 p) (.slice none 0 0) (.int .i64 6)).keeps HKC.out (by simp)
            have HKMC : Hid (Keeps [] wm wk) := ((Keeps.refl [] wm).alloc _).new HKC.out
            have HG8 : Hid (wm.heap.size < wk.heap.size ∧ (∀ b, b ∈ fp (.slice a36 vs.length c36) → b ≠ wm.heap.size)) := ⟨HQ8.out.lt, fun b hb => by have := HF36.out b hb; rw [World.size_alloc] at this; omega⟩
            have hvl := HPS.out.length
            have HPM := Lib.hid (partsS_mem L order p)
            have hpl : (partsS L order p).length ≤ 16 := by rw [partsS_length]; exact Nat.pow_le_pow_right (show 0 < 2 by omega) hp4
            clear HKC HF36
            obtain ⟨g8, hg8⟩ : ∃ g, wm.heap.size = g := ⟨_, rfl⟩
            have HGM := Lib.hid hg8
            rw [hg8] at HQ8 HG8 ⊢
            obtain ⟨ps, hpse⟩ : ∃ ps, partsS L order p = ps := ⟨_, rfl⟩
            have HPE := Lib.hid hpse
            rw [hpse] at HPS HPM hvl hpl
            rw [hvl] at HR36 HG8 ⊢
            clear hg8 hpse
            obtain ⟨nv, hnv⟩ : ∃ nv, ps.length = nv := ⟨_, rfl⟩
            have HNV := Lib.hid hnv
            have HVL := Lib.hid (hvl.trans hnv)
            rw [hnv] at HR36 HG8 hpl ⊢
            clear hvl hnv
            go_cut [9, 11, 12] (fun v9 v11 v12 wx => ∃ (ok : Bool) (vp : Value) (acc : List T3) (s : Int), v9 = .bool ok ∧ Hid (candGo m ps [] 6 = (acc, s, ok)) ∧ Hid (PlanAt wx g8 wk.heap.size m p vp acc s) ∧ Hid (Keeps [] wm wx))
            case first =>
              go_wp2_with fail
              go_loopg [9, 38] (nv + 1) (fun q v9 v38 wr => ∃ (j : Nat) (vp : Value) (acc : List T3) (s : Int), v38 = .int .i64 j ∧ v9 = .bool true ∧ j ≤ nv ∧ 0 ≤ s ∧ s ≤ 6 + 10000000000010 * (j : Int) ∧ Hid (acc.length ≤ j) ∧ Hid (j + q = nv + 1) ∧ Hid (candGo m (ps.drop j) acc s = candGo m ps [] 6) ∧ Hid (PlanAt wr g8 wk.heap.size m p vp acc s) ∧ Hid (Keeps [g8] wk wr))
              case atStart => exact ⟨0, _, [], 6, rfl, rfl, by omega, by omega, by omega, (show _ ≤ _ from Nat.le_refl _), (show _ = _ from by omega), (show _ = _ from rfl), ⟨HQ8.out, RowT.nil _ _, fun b hb => by cases hb⟩, Keeps.refl _ _⟩
              case round =>
                obtain ⟨j, vp, acc, s, rfl, rfl, hj, hs0, hs1, HAL, HQj, HCG, HPL, HKj⟩ := hrel
                obtain ⟨q3, rfl⟩ : ∃ g : Nat, g = gk := ⟨_, rfl⟩
                obtain ⟨wj, rfl⟩ : ∃ x : World, x = wr := ⟨_, rfl⟩
                have HKWJ : Hid (Keeps [] w wj) := (HKm.out.new HKMC.out).then_ HKj.out (fun b hb hlt => by rw [List.mem_singleton] at hb; have h1 := HGM.out; have h2 := HKm.out.size; omega)
                by_cases hlt : j < nv
                · have hjp : j < ps.length := by rw [HNV.out]; exact hlt
                  obtain ⟨pj, hpj⟩ : ∃ pj, ps[j] = pj := ⟨_, rfl⟩
                  obtain ⟨hmem, hpjl⟩ := HPM.out pj (by rw [← hpj]; exact List.getElem_mem _)
                  obtain ⟨A, C, hvj, hrd, hcl⟩ := HPS.out.at_ j (by rw [HVL.out]; exact hlt) hjp
                  rw [hpj] at hvj hrd hcl
                  have hform := HR36.out.form (by rw [HVL.out]; omega)
                  obtain ⟨g36, c36', he36⟩ := hform
                  simp only [Value.slice.injEq] at he36
                  obtain ⟨rfl, -, rfl⟩ := he36
                  have hcell := (HR36.out.keeps HKj.out (fun b hb hm => by rw [List.mem_singleton] at hm; exact HG8.out.2 b hb hm)).cell j (by rw [HVL.out]; exact hlt)
                  rw [hvj] at hcell
                  have HDR : Hid (ps.drop j = pj :: ps.drop (j + 1)) := by show _ = _; rw [List.drop_eq_getElem_cons hjp, hpj]
                  have HRNG : Hid (∀ n ∈ pj, -2147483648 < n ∧ n < 2147483648) := fun n hn => hin.out n (hmem n hn)
                  have hbr := bestS_range pj m hm1 (by omega) HRNG.out
                  have HRD := Lib.hid hrd
                  obtain ⟨bk, bw, bsz, bok, hbe⟩ : ∃ bk bw bsz bok, bestS pj m = ((bk, bw, bsz), bok) := ⟨_, _, _, _, rfl⟩
                  have HBE := Lib.hid hbe
                  rw [hbe] at hbr
                  obtain ⟨hb0, hb1⟩ := hbr
                  have hb0 : 0 ≤ bsz := hb0
                  have hb1 : bsz ≤ 10000000000000 := hb1
                  have hpj6 : pj.length ≤ 600 := by omega
                  have HBC : Hid (∀ W, Keeps [] w W → Calls Tryd.prog 95 #[.slice A pj.length C, .int .i64 m] W fun e w' => e = .returned (.tuple #[.agg #[.int .i64 bk, .int .i64 bw, .int .i64 bsz], .bool bok]) ∧ Keeps [] W w') := by
                    intro W hW
                    have := best_calls pj m _ rfl A C W hm1 hpj6 HRNG (Lib.hid (HRD.out.new hW))
                    rwa [HBE.out] at this
                  clear hpj hmem hvj hrd hbe hb0 hb1 HPS HPM
                  have HB01 : Hid (0 ≤ bsz ∧ bsz ≤ 10000000000000) := ⟨by assumption, by assumption⟩
                  have HT0 : Hid (Tri3 (wj.alloc (.cells #[.int .i64 0, .int .i64 0, .int .i64 0] 107)) wj.heap.size 107 0 0 0) := ⟨heap_alloc_new _ _⟩
                  have HKA : Hid (Keeps [] wj (wj.alloc (.cells #[.int .i64 0, .int .i64 0, .int .i64 0] 107))) := (Keeps.refl _ _).alloc _
                  go_upto_region 15 with (first
                    | (go_at_call 95; go_must (refine (HBC.out _ (HKWJ.out.new HKA.out)).mono ?_); rintro e wl ⟨rfl, hkl⟩; have HKL := Lib.hid (HKA.out.new hkl); have HT1 := Lib.hid (HT0.out.keeps hkl (by simp)); have hd0 := HT1.out.c0; have hd1 := HT1.out.c1; have hd2 := HT1.out.c2; have hz0 := HT1.out.frozen 0; have hz1 := HT1.out.frozen 1; have hz2 := HT1.out.frozen 2; clear hkl))
                  have HKN : Hid (Keeps [] wj (((wl.setCell ⟨wj.heap.size, 0, none⟩ (.int .i64 bk)).setCell ⟨wj.heap.size, 1, none⟩ (.int .i64 bw)).setCell ⟨wj.heap.size, 2, none⟩ (.int .i64 bsz))) := ((HKL.out.setCell (a := ⟨wj.heap.size, 0, none⟩) (.inr (Nat.le_refl _)) _).setCell (a := ⟨wj.heap.size, 1, none⟩) (.inr (Nat.le_refl _)) _).setCell (a := ⟨wj.heap.size, 2, none⟩) (.inr (Nat.le_refl _)) _
                  have HTN := Lib.hid (HT1.out.set bk bw bsz)
                  have HG12 : Hid (g8 ≠ wj.heap.size ∧ (∀ b, b ∈ fp vp → b ≠ wj.heap.size) ∧ wk.heap.size ≤ wj.heap.size) := ⟨(by have := HPL.out.quad.lt; omega), (fun b hb => by have := HPL.out.row.lt b hb; omega), HKj.out.size⟩
                  have HPN := Lib.hid (HPL.out.keeps HKN.out (by simp) (fun _ _ => by simp))
                  clear hd0 hd1 hd2 hz0 hz1 hz2 HT0 HT1 HKA HKL hcell HBC HPL
                  generalize ((wl.setCell ⟨wj.heap.size, 0, none⟩ (.int .i64 bk)).setCell ⟨wj.heap.size, 1, none⟩ (.int .i64 bw)).setCell ⟨wj.heap.size, 2, none⟩ (.int .i64 bsz) = wn at *
                  have HSZN : Hid (wj.heap.size ≤ wn.heap.size) := HKN.out.size
                  generalize wj.heap.size = g12 at *
                  cases bok
                  · have HCE : Hid (candGo m ps [] 6 = (acc, s, false)) := by
                      show _ = _
                      rw [← HCG.out, HDR.out]
                      unfold candGo
                      rw [HBE.out]
                      rfl
                    have HKX : Hid (Keeps [] wm wn) := (HKMC.out.then_ HKj.out (fun b hb hlt => by rw [List.mem_singleton] at hb; have h1 := HGM.out; omega)).new HKN.out
                    go_wp2_with fail
                    go_meet
                    exact ⟨false, vp, acc, s, rfl, HCE.out, HPN.out, HKX.out⟩
                  · have HCE : Hid (candGo m (ps.drop (j + 1)) (acc ++ [(bk, bw, bsz)]) (s + ((4 + m : Nat) + bsz)) = candGo m ps [] 6) := by
                      show _ = _
                      rw [← HCG.out, HDR.out]
                      conv => rhs; unfold candGo
                      rw [HBE.out]
                      rfl
                    have hq2 := HPN.out.quad.c2
                    have ht0 := HTN.out.c0
                    have ht1 := HTN.out.c1
                    have ht2 := HTN.out.c2
                    have HACC : Hid (acc.length ≤ 1000000) := (show _ ≤ _ from by have := HAL.out; omega)
                    obtain ⟨avp, cvp, hvp⟩ := HPN.out.row.slice
                    subst hvp
                    go_upto_region 17 with (first
                      | (at_builtin; go_must (refine wp_appT (W := wn) rfl (.tmp 51) (.tmp 53) 100 107 rfl Tryd.underlying100 info_part (.slice avp acc.length cvp) acc (bk, bw, bsz) rfl rfl HPN.out.row HACC.out ?_); intro v1 w1 hr1 hk1 hf1; obtain ⟨av1, cv1, hv1⟩ := hr1.slice; subst hv1; have HR1 := Lib.hid hr1; have HK1 := Lib.hid hk1; have HF1 := Lib.hid hf1; have hy2 := (HPN.out.quad.keeps hk1 (fun hm => (HPN.out.new _ hm).2 rfl)).c2; have hyz := (HPN.out.quad.keeps hk1 (fun hm => (HPN.out.new _ hm).2 rfl)).frozen 2; clear hr1 hk1 hf1))
                    have hlen1 : (acc ++ [(bk, bw, bsz)]).length = acc.length + 1 := by simp
                    rw [hlen1] at HR1 HF1
                    have HFN : Hid (∀ b, b ∈ fp (.slice av1 (acc.length + 1) cv1) → wk.heap.size ≤ b ∧ b ≠ g8) := (fun b hb => by
                      rcases HF1.out b hb with h | h
                      · exact HPN.out.new b h
                      · have h1 := HG12.out.2.2; have h2 := HSZN.out; have h3 := HG8.out.1; omega)
                    have hks : Keeps [g8] w1 (w1.setCell ⟨g8, 2, none⟩ (.slice av1 (acc.length + 1) cv1)) := (Keeps.refl _ _).setCell (a := ⟨g8, 2, none⟩) (.inl (by simp)) _
                    have HPO : Hid (PlanAt (w1.setCell ⟨g8, 2, none⟩ (.slice av1 (acc.length + 1) cv1)) g8 wk.heap.size m p (.slice av1 (acc.length + 1) cv1) (acc ++ [(bk, bw, bsz)]) s) :=
                      ⟨(HPN.out.quad.keeps HK1.out (fun hm => (HPN.out.new _ hm).2 rfl)).set2 _, HR1.out.keeps hks (fun b hb hm => by rw [List.mem_singleton] at hm; exact (HFN.out b hb).2 hm), HFN.out⟩
                    have HTO := Lib.hid ((HTN.out.keeps HK1.out (fun hm => HG12.out.2.1 _ hm rfl)).keeps hks (by rw [List.mem_singleton]; exact fun h => HG12.out.1 h.symm))
                    have HKO : Hid (Keeps [g8] wk (w1.setCell ⟨g8, 2, none⟩ (.slice av1 (acc.length + 1) cv1))) := ((HKj.out.new HKN.out).then_ HK1.out (fun b hb hlt => by have := (HPN.out.new b hb).1; omega)).trans hks
                    clear hy2 hyz hq2 ht0 ht1 ht2 HR1 HK1 HF1 HTN HPN hks hlen1 HFN
                    generalize w1.setCell ⟨g8, 2, none⟩ (.slice av1 (acc.length + 1) cv1) = wo at *
                    obtain ⟨M4, hM4⟩ : ∃ M4 : Int, ((4 + m : Nat) : Int) = M4 := ⟨_, rfl⟩
                    have HMB : Hid (∀ W, Calls Tryd.prog 62 #[.int .i64 m] W fun e w' => e = .returned (.int .i64 M4) ∧ W = w') := by
                      intro W
                      have := mbits_calls m W hm1
                      rwa [hM4] at this
                    have hM45 : 4 ≤ M4 ∧ M4 ≤ 5 := by omega
                    obtain ⟨hM40, hM41⟩ := hM45
                    rw [hM4] at HCE
                    have hw1 : IntKind.i64.wrap (M4 + bsz) = M4 + bsz := IntWalk.i64_in _ (by omega)
                    have hw2 : IntKind.i64.wrap (s + (M4 + bsz)) = s + (M4 + bsz) := IntWalk.i64_in _ (by omega)
                    have hk3 : wo.drew.cell? ⟨g8, 3, none⟩ = some (.int .i64 s) := HPO.out.quad.c3
                    have hz3 : wo.drew.frozen? ⟨g8, 3, none⟩ = false := HPO.out.quad.frozen 3
                    have ht2 : wo.drew.cell? ⟨g12, 2, none⟩ = some (.int .i64 bsz) := HTO.out.c2
                    have HPZ : Hid (PlanAt (wo.drew.setCell ⟨g8, 3, none⟩ (.int .i64 (s + (M4 + bsz)))) g8 wk.heap.size m p (.slice av1 (acc.length + 1) cv1) (acc ++ [(bk, bw, bsz)]) (s + (M4 + bsz))) := by
                      have h1 := HPO.out.keeps ((Keeps.refl [] wo).drew) (by simp) (fun _ _ => by simp)
                      exact ⟨h1.quad.set3 _, h1.row.keeps ((Keeps.refl [g8] _).setCell (a := ⟨g8, 3, none⟩) (.inl (by simp)) _) (fun b hb hm => by rw [List.mem_singleton] at hm; exact (h1.new b hb).2 hm), h1.new⟩
                    have HKZ : Hid (Keeps [g8] wk (wo.drew.setCell ⟨g8, 3, none⟩ (.int .i64 (s + (M4 + bsz))))) := (HKO.out.drew).setCell (a := ⟨g8, 3, none⟩) (.inl (by simp)) _
                    clear hM4 HTO HKO HPO
                    refine wp_region_any (by kernel_rfl) ?_
                    change wpAny _ _ _ _ _ _ _ (World.drew _)
                    refine wpAny_take (i := 0) (v := ?_) rfl (by kernel_rfl) (by kernel_rfl) (by kernel_rfl) (fun _ _ _ h => h) (Or.inl ⟨by rfl, ?_⟩) ?_
                    rotate_left 1
                    · (intro w; go_simp; try with_reducible rfl)
                    simp only [Act.put, List.setIfInBounds_toArray, List.set_cons_zero, List.set_cons_succ, List.getElem_toArray, List.getElem_cons_zero, List.getElem_cons_succ]
                    refine wpAny_take (i := 2) (v := ?_) rfl (by kernel_rfl) (by kernel_rfl) (by kernel_rfl) (fun _ _ _ h => h) (Or.inl ⟨by rfl, ?_⟩) ?_
                    rotate_left 1
                    · (intro w; go_simp; try with_reducible rfl)
                    simp only [Act.put, List.setIfInBounds_toArray, List.set_cons_zero, List.set_cons_succ, List.getElem_toArray, List.getElem_cons_zero, List.getElem_cons_succ]
                    refine wpAny_take (i := 4) (v := ?_) rfl (by kernel_rfl) (by kernel_rfl) (by kernel_rfl) (fun _ _ _ h => h) (Or.inl ⟨by rfl, ?_⟩) ?_
                    rotate_left 1
                    · (intro w; go_simp; try with_reducible rfl)
                    simp only [Act.put, List.setIfInBounds_toArray, List.set_cons_zero, List.set_cons_succ, List.getElem_toArray, List.getElem_cons_zero, List.getElem_cons_succ]
                    refine wpAny_ready (rs := [1, 3, 5]) (by kernel_rfl) (by simp) (AllReady.cons rfl (fun K hK => ?_) (AllReady.cons rfl (fun K hK => ?_) (AllReady.cons rfl (fun K hK => ?_) AllReady.nil)))
                    · go_simp
                      (try (refine hK _ _ ?_; clear hK K))
                      (try simp only [Act.put, List.setIfInBounds_toArray, List.set_cons_zero, List.set_cons_succ, List.getElem_toArray, List.getElem_cons_zero, List.getElem_cons_succ])
                      refine wpAny_ready (rs := [3, 5]) (by kernel_rfl) (by simp) (AllReady.cons rfl (fun K hK => ?_) (AllReady.cons rfl (fun K hK => ?_) AllReady.nil))
                      · go_simp
                        (go_at_call 62; go_must (refine (HMB.out _).mono ?_; rintro e w3 ⟨rfl, rfl⟩))
                        go_wp2_with fail
                        (try (refine hK _ _ ?_; clear hK K))
                        (try simp only [Act.put, List.setIfInBounds_toArray, List.set_cons_zero, List.set_cons_succ, List.getElem_toArray, List.getElem_cons_zero, List.getElem_cons_succ])
                        refine wpAny_ready (rs := [5]) (by kernel_rfl) (by simp) (AllReady.cons rfl (fun K hK => ?_) AllReady.nil)
                        go_simp
                        (try (refine hK _ _ ?_; clear hK K))
                        (try simp only [Act.put, List.setIfInBounds_toArray, List.set_cons_zero, List.set_cons_succ, List.getElem_toArray, List.getElem_cons_zero, List.getElem_cons_succ])
                        refine wpAny_take (i := 6) (v := ?_) rfl (by kernel_rfl) (by kernel_rfl) (by kernel_rfl) (fun _ _ _ h => h) (Or.inl ⟨by rfl, ?_⟩) ?_
                        rotate_left 1
                        · (intro w; go_simp; try with_reducible rfl)
                        simp only [Act.put, List.setIfInBounds_toArray, List.set_cons_zero, List.set_cons_succ, List.getElem_toArray, List.getElem_cons_zero, List.getElem_cons_succ]
                        refine wpAny_take (i := 7) (v := ?_) rfl (by kernel_rfl) (by kernel_rfl) (by kernel_rfl) (fun _ _ _ h => h) (Or.inl ⟨by rfl, ?_⟩) ?_
                        rotate_left 1
                        · (intro w; go_simp; try with_reducible rfl)
                        simp only [Act.put, List.setIfInBounds_toArray, List.set_cons_zero, List.set_cons_succ, List.getElem_toArray, List.getElem_cons_zero, List.getElem_cons_succ]
                        refine wpAny_take (i := 8) (v := ?_) rfl (by kernel_rfl) (by kernel_rfl) (by kernel_rfl) (fun _ _ _ h => h) (Or.inl ⟨by rfl, ?_⟩) ?_
                        rotate_left 1
                        · (intro w; go_simp; try with_reducible rfl)
                        simp only [Act.put, List.setIfInBounds_toArray, List.set_cons_zero, List.set_cons_succ, List.getElem_toArray, List.getElem_cons_zero, List.getElem_cons_succ]
                        refine wpAny_ready (rs := [9]) (by kernel_rfl) (by simp) (AllReady.cons rfl (fun K hK => ?_) AllReady.nil)
                        go_simp
                        (try (refine hK _ _ ?_; clear hK K))
                        (try simp only [Act.put, List.setIfInBounds_toArray, List.set_cons_zero, List.set_cons_succ, List.getElem_toArray, List.getElem_cons_zero, List.getElem_cons_succ])
                        refine wpAny_done (by kernel_rfl) ?_ _
                        go_wp2_with fail
                        go_roundg (nv - j)
                        case measure => have := HQj.out; omega
                        case rel => exact ⟨j + 1, _, _, _, by go_num, rfl, by omega, by omega, by omega, (show _ ≤ _ from by have := HAL.out; simp; omega), (show _ = _ from by have := HQj.out; omega), HCE.out, HPZ.out, HKZ.out⟩
                      · go_simp
                        (try (refine hK _ _ ?_; clear hK K))
                        (try simp only [Act.put, List.setIfInBounds_toArray, List.set_cons_zero, List.set_cons_succ, List.getElem_toArray, List.getElem_cons_zero, List.getElem_cons_succ])
                        refine wpAny_ready (rs := [3]) (by kernel_rfl) (by simp) (AllReady.cons rfl (fun K hK => ?_) AllReady.nil)
                        go_simp
                        (go_at_call 62; go_must (refine (HMB.out _).mono ?_; rintro e w3 ⟨rfl, rfl⟩))
                        go_wp2_with fail
                        (try (refine hK _ _ ?_; clear hK K))
                        (try simp only [Act.put, List.setIfInBounds_toArray, List.set_cons_zero, List.set_cons_succ, List.getElem_toArray, List.getElem_cons_zero, List.getElem_cons_succ])
                        refine wpAny_take (i := 6) (v := ?_) rfl (by kernel_rfl) (by kernel_rfl) (by kernel_rfl) (fun _ _ _ h => h) (Or.inl ⟨by rfl, ?_⟩) ?_
                        rotate_left 1
                        · (intro w; go_simp; try with_reducible rfl)
                        simp only [Act.put, List.setIfInBounds_toArray, List.set_cons_zero, List.set_cons_succ, List.getElem_toArray, List.getElem_cons_zero, List.getElem_cons_succ]
                        refine wpAny_take (i := 7) (v := ?_) rfl (by kernel_rfl) (by kernel_rfl) (by kernel_rfl) (fun _ _ _ h => h) (Or.inl ⟨by rfl, ?_⟩) ?_
                        rotate_left 1
                        · (intro w; go_simp; try with_reducible rfl)
                        simp only [Act.put, List.setIfInBounds_toArray, List.set_cons_zero, List.set_cons_succ, List.getElem_toArray, List.getElem_cons_zero, List.getElem_cons_succ]
                        refine wpAny_take (i := 8) (v := ?_) rfl (by kernel_rfl) (by kernel_rfl) (by kernel_rfl) (fun _ _ _ h => h) (Or.inl ⟨by rfl, ?_⟩) ?_
                        rotate_left 1
                        · (intro w; go_simp; try with_reducible rfl)
                        simp only [Act.put, List.setIfInBounds_toArray, List.set_cons_zero, List.set_cons_succ, List.getElem_toArray, List.getElem_cons_zero, List.getElem_cons_succ]
                        refine wpAny_ready (rs := [9]) (by kernel_rfl) (by simp) (AllReady.cons rfl (fun K hK => ?_) AllReady.nil)
                        go_simp
                        (try (refine hK _ _ ?_; clear hK K))
                        (try simp only [Act.put, List.setIfInBounds_toArray, List.set_cons_zero, List.set_cons_succ, List.getElem_toArray, List.getElem_cons_zero, List.getElem_cons_succ])
                        refine wpAny_done (by kernel_rfl) ?_ _
                        go_wp2_with fail
                        go_roundg (nv - j)
                        case measure => have := HQj.out; omega
                        case rel => exact ⟨j + 1, _, _, _, by go_num, rfl, by omega, by omega, by omega, (show _ ≤ _ from by have := HAL.out; simp; omega), (show _ = _ from by have := HQj.out; omega), HCE.out, HPZ.out, HKZ.out⟩
                    · go_simp
                      (go_at_call 62; go_must (refine (HMB.out _).mono ?_; rintro e w3 ⟨rfl, rfl⟩))
                      go_wp2_with fail
                      (try (refine hK _ _ ?_; clear hK K))
                      (try simp only [Act.put, List.setIfInBounds_toArray, List.set_cons_zero, List.set_cons_succ, List.getElem_toArray, List.getElem_cons_zero, List.getElem_cons_succ])
                      refine wpAny_ready (rs := [1, 5]) (by kernel_rfl) (by simp) (AllReady.cons rfl (fun K hK => ?_) (AllReady.cons rfl (fun K hK => ?_) AllReady.nil))
                      · go_simp
                        (try (refine hK _ _ ?_; clear hK K))
                        (try simp only [Act.put, List.setIfInBounds_toArray, List.set_cons_zero, List.set_cons_succ, List.getElem_toArray, List.getElem_cons_zero, List.getElem_cons_succ])
                        refine wpAny_ready (rs := [5]) (by kernel_rfl) (by simp) (AllReady.cons rfl (fun K hK => ?_) AllReady.nil)
                        go_simp
                        (try (refine hK _ _ ?_; clear hK K))
                        (try simp only [Act.put, List.setIfInBounds_toArray, List.set_cons_zero, List.set_cons_succ, List.getElem_toArray, List.getElem_cons_zero, List.getElem_cons_succ])
                        refine wpAny_take (i := 6) (v := ?_) rfl (by kernel_rfl) (by kernel_rfl) (by kernel_rfl) (fun _ _ _ h => h) (Or.inl ⟨by rfl, ?_⟩) ?_
                        rotate_left 1
                        · (intro w; go_simp; try with_reducible rfl)
                        simp only [Act.put, List.setIfInBounds_toArray, List.set_cons_zero, List.set_cons_succ, List.getElem_toArray, List.getElem_cons_zero, List.getElem_cons_succ]
                        refine wpAny_take (i := 7) (v := ?_) rfl (by kernel_rfl) (by kernel_rfl) (by kernel_rfl) (fun _ _ _ h => h) (Or.inl ⟨by rfl, ?_⟩) ?_
                        rotate_left 1
                        · (intro w; go_simp; try with_reducible rfl)
                        simp only [Act.put, List.setIfInBounds_toArray, List.set_cons_zero, List.set_cons_succ, List.getElem_toArray, List.getElem_cons_zero, List.getElem_cons_succ]
                        refine wpAny_take (i := 8) (v := ?_) rfl (by kernel_rfl) (by kernel_rfl) (by kernel_rfl) (fun _ _ _ h => h) (Or.inl ⟨by rfl, ?_⟩) ?_
                        rotate_left 1
                        · (intro w; go_simp; try with_reducible rfl)
                        simp only [Act.put, List.setIfInBounds_toArray, List.set_cons_zero, List.set_cons_succ, List.getElem_toArray, List.getElem_cons_zero, List.getElem_cons_succ]
                        refine wpAny_ready (rs := [9]) (by kernel_rfl) (by simp) (AllReady.cons rfl (fun K hK => ?_) AllReady.nil)
                        go_simp
                        (try (refine hK _ _ ?_; clear hK K))
                        (try simp only [Act.put, List.setIfInBounds_toArray, List.set_cons_zero, List.set_cons_succ, List.getElem_toArray, List.getElem_cons_zero, List.getElem_cons_succ])
                        refine wpAny_done (by kernel_rfl) ?_ _
                        go_wp2_with fail
                        go_roundg (nv - j)
                        case measure => have := HQj.out; omega
                        case rel => exact ⟨j + 1, _, _, _, by go_num, rfl, by omega, by omega, by omega, (show _ ≤ _ from by have := HAL.out; simp; omega), (show _ = _ from by have := HQj.out; omega), HCE.out, HPZ.out, HKZ.out⟩
                      · go_simp
                        (try (refine hK _ _ ?_; clear hK K))
                        (try simp only [Act.put, List.setIfInBounds_toArray, List.set_cons_zero, List.set_cons_succ, List.getElem_toArray, List.getElem_cons_zero, List.getElem_cons_succ])
                        refine wpAny_take (i := 6) (v := ?_) rfl (by kernel_rfl) (by kernel_rfl) (by kernel_rfl) (fun _ _ _ h => h) (Or.inl ⟨by rfl, ?_⟩) ?_
                        rotate_left 1
                        · (intro w; go_simp; try with_reducible rfl)
                        simp only [Act.put, List.setIfInBounds_toArray, List.set_cons_zero, List.set_cons_succ, List.getElem_toArray, List.getElem_cons_zero, List.getElem_cons_succ]
                        refine wpAny_ready (rs := [1]) (by kernel_rfl) (by simp) (AllReady.cons rfl (fun K hK => ?_) AllReady.nil)
                        go_simp
                        (try (refine hK _ _ ?_; clear hK K))
                        (try simp only [Act.put, List.setIfInBounds_toArray, List.set_cons_zero, List.set_cons_succ, List.getElem_toArray, List.getElem_cons_zero, List.getElem_cons_succ])
                        refine wpAny_take (i := 7) (v := ?_) rfl (by kernel_rfl) (by kernel_rfl) (by kernel_rfl) (fun _ _ _ h => h) (Or.inl ⟨by rfl, ?_⟩) ?_
                        rotate_left 1
                        · (intro w; go_simp; try with_reducible rfl)
                        simp only [Act.put, List.setIfInBounds_toArray, List.set_cons_zero, List.set_cons_succ, List.getElem_toArray, List.getElem_cons_zero, List.getElem_cons_succ]
                        refine wpAny_take (i := 8) (v := ?_) rfl (by kernel_rfl) (by kernel_rfl) (by kernel_rfl) (fun _ _ _ h => h) (Or.inl ⟨by rfl, ?_⟩) ?_
                        rotate_left 1
                        · (intro w; go_simp; try with_reducible rfl)
                        simp only [Act.put, List.setIfInBounds_toArray, List.set_cons_zero, List.set_cons_succ, List.getElem_toArray, List.getElem_cons_zero, List.getElem_cons_succ]
                        refine wpAny_ready (rs := [9]) (by kernel_rfl) (by simp) (AllReady.cons rfl (fun K hK => ?_) AllReady.nil)
                        go_simp
                        (try (refine hK _ _ ?_; clear hK K))
                        (try simp only [Act.put, List.setIfInBounds_toArray, List.set_cons_zero, List.set_cons_succ, List.getElem_toArray, List.getElem_cons_zero, List.getElem_cons_succ])
                        refine wpAny_done (by kernel_rfl) ?_ _
                        go_wp2_with fail
                        go_roundg (nv - j)
                        case measure => have := HQj.out; omega
                        case rel => exact ⟨j + 1, _, _, _, by go_num, rfl, by omega, by omega, by omega, (show _ ≤ _ from by have := HAL.out; simp; omega), (show _ = _ from by have := HQj.out; omega), HCE.out, HPZ.out, HKZ.out⟩
                    · go_simp
                      (try (refine hK _ _ ?_; clear hK K))
                      (try simp only [Act.put, List.setIfInBounds_toArray, List.set_cons_zero, List.set_cons_succ, List.getElem_toArray, List.getElem_cons_zero, List.getElem_cons_succ])
                      refine wpAny_ready (rs := [1, 3]) (by kernel_rfl) (by simp) (AllReady.cons rfl (fun K hK => ?_) (AllReady.cons rfl (fun K hK => ?_) AllReady.nil))
                      · go_simp
                        (try (refine hK _ _ ?_; clear hK K))
                        (try simp only [Act.put, List.setIfInBounds_toArray, List.set_cons_zero, List.set_cons_succ, List.getElem_toArray, List.getElem_cons_zero, List.getElem_cons_succ])
                        refine wpAny_ready (rs := [3]) (by kernel_rfl) (by simp) (AllReady.cons rfl (fun K hK => ?_) AllReady.nil)
                        go_simp
                        (go_at_call 62; go_must (refine (HMB.out _).mono ?_; rintro e w3 ⟨rfl, rfl⟩))
                        go_wp2_with fail
                        (try (refine hK _ _ ?_; clear hK K))
                        (try simp only [Act.put, List.setIfInBounds_toArray, List.set_cons_zero, List.set_cons_succ, List.getElem_toArray, List.getElem_cons_zero, List.getElem_cons_succ])
                        refine wpAny_take (i := 6) (v := ?_) rfl (by kernel_rfl) (by kernel_rfl) (by kernel_rfl) (fun _ _ _ h => h) (Or.inl ⟨by rfl, ?_⟩) ?_
                        rotate_left 1
                        · (intro w; go_simp; try with_reducible rfl)
                        simp only [Act.put, List.setIfInBounds_toArray, List.set_cons_zero, List.set_cons_succ, List.getElem_toArray, List.getElem_cons_zero, List.getElem_cons_succ]
                        refine wpAny_take (i := 7) (v := ?_) rfl (by kernel_rfl) (by kernel_rfl) (by kernel_rfl) (fun _ _ _ h => h) (Or.inl ⟨by rfl, ?_⟩) ?_
                        rotate_left 1
                        · (intro w; go_simp; try with_reducible rfl)
                        simp only [Act.put, List.setIfInBounds_toArray, List.set_cons_zero, List.set_cons_succ, List.getElem_toArray, List.getElem_cons_zero, List.getElem_cons_succ]
                        refine wpAny_take (i := 8) (v := ?_) rfl (by kernel_rfl) (by kernel_rfl) (by kernel_rfl) (fun _ _ _ h => h) (Or.inl ⟨by rfl, ?_⟩) ?_
                        rotate_left 1
                        · (intro w; go_simp; try with_reducible rfl)
                        simp only [Act.put, List.setIfInBounds_toArray, List.set_cons_zero, List.set_cons_succ, List.getElem_toArray, List.getElem_cons_zero, List.getElem_cons_succ]
                        refine wpAny_ready (rs := [9]) (by kernel_rfl) (by simp) (AllReady.cons rfl (fun K hK => ?_) AllReady.nil)
                        go_simp
                        (try (refine hK _ _ ?_; clear hK K))
                        (try simp only [Act.put, List.setIfInBounds_toArray, List.set_cons_zero, List.set_cons_succ, List.getElem_toArray, List.getElem_cons_zero, List.getElem_cons_succ])
                        refine wpAny_done (by kernel_rfl) ?_ _
                        go_wp2_with fail
                        go_roundg (nv - j)
                        case measure => have := HQj.out; omega
                        case rel => exact ⟨j + 1, _, _, _, by go_num, rfl, by omega, by omega, by omega, (show _ ≤ _ from by have := HAL.out; simp; omega), (show _ = _ from by have := HQj.out; omega), HCE.out, HPZ.out, HKZ.out⟩
                      · go_simp
                        (go_at_call 62; go_must (refine (HMB.out _).mono ?_; rintro e w3 ⟨rfl, rfl⟩))
                        go_wp2_with fail
                        (try (refine hK _ _ ?_; clear hK K))
                        (try simp only [Act.put, List.setIfInBounds_toArray, List.set_cons_zero, List.set_cons_succ, List.getElem_toArray, List.getElem_cons_zero, List.getElem_cons_succ])
                        refine wpAny_take (i := 6) (v := ?_) rfl (by kernel_rfl) (by kernel_rfl) (by kernel_rfl) (fun _ _ _ h => h) (Or.inl ⟨by rfl, ?_⟩) ?_
                        rotate_left 1
                        · (intro w; go_simp; try with_reducible rfl)
                        simp only [Act.put, List.setIfInBounds_toArray, List.set_cons_zero, List.set_cons_succ, List.getElem_toArray, List.getElem_cons_zero, List.getElem_cons_succ]
                        refine wpAny_ready (rs := [1]) (by kernel_rfl) (by simp) (AllReady.cons rfl (fun K hK => ?_) AllReady.nil)
                        go_simp
                        (try (refine hK _ _ ?_; clear hK K))
                        (try simp only [Act.put, List.setIfInBounds_toArray, List.set_cons_zero, List.set_cons_succ, List.getElem_toArray, List.getElem_cons_zero, List.getElem_cons_succ])
                        refine wpAny_take (i := 7) (v := ?_) rfl (by kernel_rfl) (by kernel_rfl) (by kernel_rfl) (fun _ _ _ h => h) (Or.inl ⟨by rfl, ?_⟩) ?_
                        rotate_left 1
                        · (intro w; go_simp; try with_reducible rfl)
                        simp only [Act.put, List.setIfInBounds_toArray, List.set_cons_zero, List.set_cons_succ, List.getElem_toArray, List.getElem_cons_zero, List.getElem_cons_succ]
                        refine wpAny_take (i := 8) (v := ?_) rfl (by kernel_rfl) (by kernel_rfl) (by kernel_rfl) (fun _ _ _ h => h) (Or.inl ⟨by rfl, ?_⟩) ?_
                        rotate_left 1
                        · (intro w; go_simp; try with_reducible rfl)
                        simp only [Act.put, List.setIfInBounds_toArray, List.set_cons_zero, List.set_cons_succ, List.getElem_toArray, List.getElem_cons_zero, List.getElem_cons_succ]
                        refine wpAny_ready (rs := [9]) (by kernel_rfl) (by simp) (AllReady.cons rfl (fun K hK => ?_) AllReady.nil)
                        go_simp
                        (try (refine hK _ _ ?_; clear hK K))
                        (try simp only [Act.put, List.setIfInBounds_toArray, List.set_cons_zero, List.set_cons_succ, List.getElem_toArray, List.getElem_cons_zero, List.getElem_cons_succ])
                        refine wpAny_done (by kernel_rfl) ?_ _
                        go_wp2_with fail
                        go_roundg (nv - j)
                        case measure => have := HQj.out; omega
                        case rel => exact ⟨j + 1, _, _, _, by go_num, rfl, by omega, by omega, by omega, (show _ ≤ _ from by have := HAL.out; simp; omega), (show _ = _ from by have := HQj.out; omega), HCE.out, HPZ.out, HKZ.out⟩
                · obtain rfl : j = nv := by omega
                  have hcg := HCG.out
                  rw [List.drop_of_length_le (by rw [HNV.out]; exact Nat.le_refl _)] at hcg
                  have HCE : Hid (candGo m ps [] 6 = (acc, s, true)) := hcg.symm
                  have HKX : Hid (Keeps [] wm wj) := HKMC.out.then_ HKj.out (fun b hb hlt => by rw [List.mem_singleton] at hb; have h1 := HGM.out; omega)
                  clear hcg
                  go_wp2_with fail
                  go_meet
                  exact ⟨true, vp, acc, s, rfl, HCE.out, HPL.out, HKX.out⟩
            case rest =>
              obtain ⟨ok, vp, acc, s, rfl, HCG, HPL, HKX⟩ := hcut
              obtain ⟨wx, rfl⟩ : ∃ x : World, x = wc := ⟨_, rfl⟩
              clear HR36 HPS HPM HQ8
              have HGO : Hid (g5 < B ∧ B ≤ g8 ∧ g4 < g5 ∧ w.heap.size ≤ g4 ∧ g8 < wk.heap.size) := ⟨HGG.out.2.2, (by rw [← HGM.out]; exact HSZm.out), HGG.out.2.1, HGG.out.1, HG8.out.1⟩
              obtain ⟨avp, cvp, hvp⟩ := HPL.out.row.slice
              subst hvp
              have HPX := Lib.hid (HPm.out.keeps HKX.out (by simp) (fun _ _ => by simp))
              have HQX := Lib.hid (HQ4m.out.keeps HKX.out (by simp))
              have HSX : Hid (B ≤ wx.heap.size) := Nat.le_trans HSZm.out HKX.out.size
              have HKWX := Lib.hid (HKm.out.new HKX.out)
              have HKF : Hid (Keeps [g5] wx ((((wx.setCell ⟨g5, 0, none⟩ (.int .i64 m)).setCell ⟨g5, 1, none⟩ (.int .i64 p)).setCell ⟨g5, 2, none⟩ (.slice avp acc.length cvp)).setCell ⟨g5, 3, none⟩ (.int .i64 s))) := ((((Keeps.refl [g5] wx).setCell (a := ⟨g5, 0, none⟩) (.inl (by simp)) _).setCell (a := ⟨g5, 1, none⟩) (.inl (by simp)) _).setCell (a := ⟨g5, 2, none⟩) (.inl (by simp)) _).setCell (a := ⟨g5, 3, none⟩) (.inl (by simp)) _
              have HNEW : Hid (PlanAt ((((wx.setCell ⟨g5, 0, none⟩ (.int .i64 m)).setCell ⟨g5, 1, none⟩ (.int .i64 p)).setCell ⟨g5, 2, none⟩ (.slice avp acc.length cvp)).setCell ⟨g5, 3, none⟩ (.int .i64 s)) g5 B m p (.slice avp acc.length cvp) acc s) :=
                ⟨HPX.out.quad.set _ _ _ _, HPL.out.row.keeps HKF.out (fun b hb hm => by rw [List.mem_singleton] at hm; have h1 := (HPL.out.new b hb).1; have h2 := HGO.out; omega), fun b hb => ⟨(by have h1 := (HPL.out.new b hb).1; have h2 := HGO.out; omega), (by have h1 := (HPL.out.new b hb).1; have h2 := HGO.out; omega)⟩⟩
              have HQN := Lib.hid (HQX.out.keeps HKF.out (by rw [List.mem_singleton]; have h2 := HGO.out; omega))
              have HSN : Hid (B ≤ ((((wx.setCell ⟨g5, 0, none⟩ (.int .i64 m)).setCell ⟨g5, 1, none⟩ (.int .i64 p)).setCell ⟨g5, 2, none⟩ (.slice avp acc.length cvp)).setCell ⟨g5, 3, none⟩ (.int .i64 s)).heap.size) := Nat.le_trans HSX.out HKF.out.size
              have HKN : Hid (Keeps [] w ((((wx.setCell ⟨g5, 0, none⟩ (.int .i64 m)).setCell ⟨g5, 1, none⟩ (.int .i64 p)).setCell ⟨g5, 2, none⟩ (.slice avp acc.length cvp)).setCell ⟨g5, 3, none⟩ (.int .i64 s))) := HKWX.out.then_ HKF.out (fun b hb hlt => by rw [List.mem_singleton] at hb; have h2 := HGO.out; omega)
              clear HKF
              cases ok
              · have HLN : Hid (loopM L order p (bm, bp, bps, bs) (m + 1) = (bm', bp', bps', bs')) := by
                  show _ = _
                  rw [loopM_succ, HLM.out]
                  unfold stepM
                  rw [HPE.out, HCG.out, if_neg (fun h => by cases h.1)]
                go_wp2_with fail
                go_roundg (2 - m)
                case measure => have := HQm.out; omega
                case rel => exact ⟨m + 1, bm', bp', bv', bps', bs', by go_num, by omega, (show _ = _ from by have := HQm.out; omega), HLN.out, HPX.out, HQX.out, HSX.out, HKWX.out⟩
              · by_cases hb0 : bs' < 0
                · have hx0 := HPL.out.quad.c0
                  have hx1 := HPL.out.quad.c1
                  have hx2 := HPL.out.quad.c2
                  have hx3 := HPL.out.quad.c3
                  have hy3 := HPX.out.quad.c3
                  have hy0 := HPX.out.quad.c0
                  have hy1 := HPX.out.quad.c1
                  have hy2 := HPX.out.quad.c2
                  have hz0 := HPX.out.quad.frozen 0
                  have hz1 := HPX.out.quad.frozen 1
                  have hz2 := HPX.out.quad.frozen 2
                  have hz3 := HPX.out.quad.frozen 3
                  have HLN : Hid (loopM L order p (bm, bp, bps, bs) (m + 1) = ((m : Int), (p : Int), acc, s)) := by
                    show _ = _
                    rw [loopM_succ, HLM.out]
                    unfold stepM
                    rw [HPE.out, HCG.out, if_pos ⟨rfl, .inl hb0⟩]
                  go_wp2_with fail
                  go_roundg (2 - m)
                  case measure => have := HQm.out; omega
                  case rel => exact ⟨m + 1, m, p, _, acc, s, by go_num, by omega, (show _ = _ from by have := HQm.out; omega), HLN.out, HNEW.out, HQN.out, HSN.out, HKN.out⟩
                · by_cases hb1 : s < bs'
                  · have hx0 := HPL.out.quad.c0
                    have hx1 := HPL.out.quad.c1
                    have hx2 := HPL.out.quad.c2
                    have hx3 := HPL.out.quad.c3
                    have hy3 := HPX.out.quad.c3
                    have hy0 := HPX.out.quad.c0
                    have hy1 := HPX.out.quad.c1
                    have hy2 := HPX.out.quad.c2
                    have hz0 := HPX.out.quad.frozen 0
                    have hz1 := HPX.out.quad.frozen 1
                    have hz2 := HPX.out.quad.frozen 2
                    have hz3 := HPX.out.quad.frozen 3
                    have HLN : Hid (loopM L order p (bm, bp, bps, bs) (m + 1) = ((m : Int), (p : Int), acc, s)) := by
                      show _ = _
                      rw [loopM_succ, HLM.out]
                      unfold stepM
                      rw [HPE.out, HCG.out, if_pos ⟨rfl, .inr hb1⟩]
                    go_wp2_with fail
                    go_roundg (2 - m)
                    case measure => have := HQm.out; omega
                    case rel => exact ⟨m + 1, m, p, _, acc, s, by go_num, by omega, (show _ = _ from by have := HQm.out; omega), HLN.out, HNEW.out, HQN.out, HSN.out, HKN.out⟩
                  · have HLN : Hid (loopM L order p (bm, bp, bps, bs) (m + 1) = (bm', bp', bps', bs')) := by
                      show _ = _
                      rw [loopM_succ, HLM.out]
                      unfold stepM
                      rw [HPE.out, HCG.out, if_neg]
                      rintro ⟨_, h | h⟩
                      · exact hb0 h
                      · exact hb1 h
                    have hx3 := HPL.out.quad.c3
                    have hy3 := HPX.out.quad.c3
                    go_wp2_with fail
                    go_roundg (2 - m)
                    case measure => have := HQm.out; omega
                    case rel => exact ⟨m + 1, bm', bp', bv', bps', bs', by go_num, by omega, (show _ = _ from by have := HQm.out; omega), HLN.out, HPX.out, HQX.out, HSX.out, HKWX.out⟩
          · obtain rfl : m = 2 := by omega
            have HLN : Hid (loopP L order (p + 1) = (bm', bp', bps', bs')) := by
              show _ = _
              rw [loopP_succ, HLP.out]
              unfold stepP
              rw [if_pos HF.out]
              exact HLM.out
            go_wp2_with fail
            go_roundg (5 - p)
            case measure => have := HQ.out; omega
            case rel => exact ⟨p + 1, bm', bp', bv', bps', bs', by go_num, by omega, (show _ = _ from by have := HQ.out; omega), HLN.out, HPm.out, HQ4m.out, HSZm.out, HKm.out⟩
    · obtain rfl : p = 5 := by omega
      obtain ⟨abv, cbv, hbv⟩ := HPB.out.row.slice
      subst hbv
      have hx0 := HPB.out.quad.c0
      have hx1 := HPB.out.quad.c1
      have hx2 := HPB.out.quad.c2
      have hx3 := HPB.out.quad.c3
      have hy0 := HQ4p.out.c0
      have hy1 := HQ4p.out.c1
      have hy2 := HQ4p.out.c2
      have hy3 := HQ4p.out.c3
      have hz0 := HQ4p.out.frozen 0
      have hz1 := HQ4p.out.frozen 1
      have hz2 := HQ4p.out.frozen 2
      have hz3 := HQ4p.out.frozen 3
      go_wp2_with fail
      refine bodyPost_ret (results_cell1 rfl _ _ g4 102 #[.int .i64 bm, .int .i64 bp, .slice abv bps.length cbv, .int .i64 bs] (0, 0) _ rfl (HQ4p.out.set (.int .i64 bm) (.int .i64 bp) (.slice abv bps.length cbv) (.int .i64 bs)).hp Tryd.underlying102 rfl (by kernel_rfl)) rfl ?_
      have hch : chooseS L order = (bm, bp, bps, bs) := HLP.out
      rw [hch]
      have hk : Keeps [g4] wp ((((wp.setCell ⟨g4, 0, none⟩ (.int .i64 bm)).setCell ⟨g4, 1, none⟩ (.int .i64 bp)).setCell ⟨g4, 2, none⟩ (.slice abv bps.length cbv)).setCell ⟨g4, 3, none⟩ (.int .i64 bs)) := ((((Keeps.refl [g4] wp).setCell (a := ⟨g4, 0, none⟩) (.inl (by simp)) _).setCell (a := ⟨g4, 1, none⟩) (.inl (by simp)) _).setCell (a := ⟨g4, 2, none⟩) (.inl (by simp)) _).setCell (a := ⟨g4, 3, none⟩) (.inl (by simp)) _
      refine ⟨_, rfl, HPB.out.row.keeps hk (fun b hb hm => by rw [List.mem_singleton] at hm; have h1 := (HPB.out.new b hb).1; have h2 := HGG.out; omega), fun b hb => by have h1 := (HPB.out.new b hb).1; have h2 := HGG.out; omega, HKp.out.then_ hk (fun b hb hlt => by rw [List.mem_singleton] at hb; have h2 := HGG.out; omega)⟩
end Go.Proofs.YtofkiimaoahfjaaDoor
