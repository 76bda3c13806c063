/-
  Layer 7 (predict): the program's Search.
-/
import Derived.Test.YtofkiimaoahfjaaDoorZPred17
set_option maxRecDepth 100000
set_option linter.unusedVariables false
set_option linter.unusedSimpArgs false
namespace Go.Proofs.YtofkiimaoahfjaaDoor
open Go.RowKit

/-- What is read in old blocks is read still, when a new block has turned. -/
theorem Rd.old {w w1 w' : World} {a : Option Addr} {xs : List Int} (h : Rd w .i64 a xs) (hk : Keeps [] w w1) {g : Nat} (hg : w.heap.size ≤ g) (hk' : Keeps [g] w1 w') : Rd w' .i64 a xs := by
  rcases Nat.eq_zero_or_pos xs.length with h0 | h0
  · exact ⟨by omega, fun i hi => by omega⟩
  · have hl := h.lt h0
    exact (h.new hk).keeps hk' (fun ad e => by have := hl ad e; simp; omega)

theorem alloc_keep {w w' : World} {cs : Array Value} {T : TypeId} (hk : Keeps [] (w.alloc (.cells cs T)).drew w') : w'.heap[w.heap.size]? = some (.cells cs T (0, 0)) :=
  (hk.block w.heap.size (by show w.heap.size < (w.alloc (.cells cs T)).heap.size; simp) (by simp)).trans (heap_alloc_new w _)

set_option maxHeartbeats 8000000 in
theorem search_good (xs : List Int) (o n : Nat) (a : Option Addr) (c : Nat) (w : World) (hn : n = xs.length) (ho : o ≤ 8) (hox : o ≤ xs.length) (hd : xs.length ≤ c) (hl : xs.length ≤ 1000000) (hin : Hid (xs.all inB = true)) (hx : Hid (Rd w .i64 a xs)) :
    Calls Tryd.prog 57 #[.slice a n c, .int .i64 o] w fun e w' => ∃ v, e = .returned (.tuple #[.agg #[v, .int .i64 4], .int .i64 0]) ∧ Row w' .i64 3 v (srcF xs o).1 ∧ (∀ b, b ∈ fp v → w.heap.size ≤ b) ∧ Keeps [] w w' := by
  subst hn
  obtain ⟨F, hF⟩ : ∃ F, srcF xs o = F := ⟨_, rfl⟩
  have HF : Hid ((mvS o 4).foldl (srcT xs) (src0 xs o) = F) := hF
  have HOK := Lib.hid (SrcOk.begin xs o ho)
  rw [hF]
  clear hF
  have HK0 : Hid (Keeps [] w (w.alloc (.cells #[.slice none 0 0, .int .i64 0] 59))) := (Keeps.refl _ _).alloc _
  have HG0 : Hid (Cell2 (w.alloc (.cells #[.slice none 0 0, .int .i64 0] 59)) w.heap.size 59 (.slice none 0 0) (.int .i64 0)) := ⟨heap_alloc_new w _⟩
  have HX := Lib.hid (hx.out.new HK0.out)
  obtain ⟨E0, hE0⟩ : ∃ E0, resE (beginL o) 4 xs = E0 := ⟨_, rfl⟩
  obtain ⟨N0, hN0⟩ : ∃ N0, costN (beginL o) 4 xs = N0 := ⟨_, rfl⟩
  have hlen0 : (beginL o).length = o := HOK.out.len
  have HLEN0 := Lib.hid hlen0
  have HE0 := Lib.hid hE0
  have HN0 := Lib.hid hN0
  clear hE0 hN0 hlen0
  have ho0 : (0 : Int) ≤ (o : Int) := by omega
  have ho8 : (o : Int) ≤ 8 := by omega
  have hox' : (o : Int) ≤ (xs.length : Int) := by omega
  go_enter Tryd.func57, Tryd.ntmps57
  go_upto_region 8 with (first
    | (go_at_call 50; go_must (with_reducible refine (contains_wide xs _ rfl a c _ HX).mono ?_); rw [hin.out]; rintro e w3 ⟨rfl, rfl⟩)
    | (go_at_call 89; go_must (with_reducible refine (begin_calls o _ ho).mono ?_); rintro e wb ⟨vb, rfl, hrb, hfb, hkb⟩; obtain ⟨ab, cb, hv, hqb⟩ := hrb.rd; rw [HLEN0.out] at hv; subst hv)
    | (go_at_call 90; go_must (with_reducible refine (cost_calls (beginL o) xs 4 _ _ HLEN0.out.symm ab a cb c _ rfl hd hl (Lib.hid (hqb.new ((Keeps.refl _ _).alloc _))) (Lib.hid (HX.out.new (hkb.alloc _)))).mono ?_); rw [HE0.out, HN0.out]; rintro e wc ⟨rfl, hkc⟩))
  have hA := heap_alloc_new wb (.cells #[.slice ab o cb, .int .i64 4] 59)
  have HG6 : Hid (Cell2 wc wb.heap.size 59 (.slice ab o cb) (.int .i64 4)) := Cell2.keeps ⟨hA⟩ hkc (by simp)
  have hkw : Keeps [] (w.alloc (.cells #[.slice none 0 0, .int .i64 0] 59)) wc := (hkb.alloc _).new hkc
  have HGR := Lib.hid (HG0.out.keeps hkw (by simp))
  have HR6 : Hid (Row wc .i64 3 (.slice ab o cb) (beginL o)) := hrb.keeps (((Keeps.refl [] _).alloc _).new hkc) (fun _ _ => by simp)
  have hlt6 := hrb.lt
  have HF6 : Hid (∀ b, b ∈ fp (.slice ab o cb) → w.heap.size < b ∧ b ≠ wb.heap.size) := fun b hb => by
    have h1 := hfb b hb
    have h2 := hlt6 b hb
    rw [World.size_alloc] at h1
    omega
  have HSZ : Hid (w.heap.size < wb.heap.size) := by have := hkb.size; rw [World.size_alloc] at this; show _ < _; omega
  have HKW : Hid (Keeps [] w wc) := HK0.out.new hkw
  have HXW : Hid (∀ w', Keeps [wb.heap.size] wc w' → Rd w' .i64 a xs) := fun w' hk => hx.out.old HKW.out (Nat.le_of_lt HSZ.out) hk
  have HS6 : Hid (wb.heap.size < wc.heap.size) := (Array.getElem?_eq_some_iff.1 HG6.out.hp).1
  clear hA hkw hlt6 hkb hkc hqb hrb hfb HG0 HX HK0
  generalize wb.heap.size = g6 at *
  have HSO : Hid (∀ e, e ≤ 4 → (0 < e → 0 < stepOf e) ∧ 0 ≤ stepOf e ∧ stepOf e ≤ 8 ∧ (e = 0 → stepOf e = 0)) := stepOf_pos
  go_wp2_with fail
  generalize decide ((o : Int) < 0) = d1 at *
  generalize decide (8 < (o : Int)) = d2 at *
  go_loopg [7, 9, 10, 11, 13, 14, 15, 16] 5 (fun q v7 v9 v10 v11 v13 v14 v15 v16 w3 => ∃ (e : Nat) (st : Int) (C : List Int) (B : Option Int) (b0 : Int) (sm : Bool) (a6 : Option Addr) (c6 : Nat), v10 = .int .i64 st ∧ e ≤ 4 ∧ v7 = .int .i64 b0 ∧ v9 = .bool sm ∧ Hid (stepOf e = st) ∧ Hid (B = if sm then some b0 else none) ∧ Hid (SrcOk xs o (C, B)) ∧ Hid ((mvS o e).foldl (srcT xs) (C, B) = F) ∧
    Hid (Cell2 w3 g6 59 (.slice a6 o c6) (.int .i64 4)) ∧ Hid (Row w3 .i64 3 (.slice a6 o c6) C) ∧ Hid (∀ b, b ∈ fp (.slice a6 o c6) → w.heap.size < b ∧ b ≠ g6) ∧ Hid (q = e + 1) ∧ Hid (Keeps [g6] wc w3))
  case atStart => exact ⟨4, 8, beginL o, costO xs (beginL o), N0, E0 == 0, ab, cb, rfl, by omega, rfl, rfl, rfl, (by
    show _ = _
    unfold costO
    rw [HE0.out, HN0.out]
    by_cases h : E0 = 0 <;> simp [h]), HOK.out, HF.out, HG6.out, HR6.out, HF6.out, (show _ = _ from rfl), Keeps.refl _ _⟩
  case round =>
    obtain ⟨e, st, C, B, b0, sm, a6, c6, rfl, he, rfl, rfl, HST, HB, HSK, HFO, HC6, HRW, HFR, HQ, HKL⟩ := hrel
    obtain ⟨gko, rfl⟩ : ∃ x : Nat, x = gk := ⟨_, rfl⟩
    obtain ⟨wo, rfl⟩ : ∃ x : World, x = wr := ⟨_, rfl⟩
    obtain ⟨hs1, hs2, hs3, hs4⟩ := HSO.out e he
    rw [HST.out] at hs1 hs2 hs3 hs4
    rcases Nat.eq_zero_or_pos e with h0 | h0
    · have hs5 := hs4 h0
      subst hs5 h0
      clear hs1 hs2 hs3 hs4
      have hc0 := HC6.out.c0
      have hc1 := HC6.out.c1
      have HGRo := Lib.hid (HGR.out.keeps HKL.out (by simp; have := HSZ.out; omega))
      have hd0 := HGRo.out.c0
      have hd1 := HGRo.out.c1
      have hf0 := HGRo.out.frozen 0
      have hf1 := HGRo.out.frozen 1
      go_wp2_with fail
      have HE1 : Hid (((wo.setCell ⟨w.heap.size, 0, none⟩ (.slice a6 o c6)).setCell ⟨w.heap.size, 1, none⟩ (.int .i64 4)).heap[w.heap.size]? = some (.cells #[.slice a6 o c6, .int .i64 4] 59 (0, 0))) :=
        blk_set (blk_set HGRo.out.hp 0 _) 1 (.int .i64 4)
      have HKE : Hid (Keeps [w.heap.size] wo ((wo.setCell ⟨w.heap.size, 0, none⟩ (.slice a6 o c6)).setCell ⟨w.heap.size, 1, none⟩ (.int .i64 4))) :=
        ((Keeps.refl _ wo).setCell (.inl (by simp)) _).setCell (.inl (by simp)) _
      refine bodyPost_ret (results_cell2 rfl _ _ w.heap.size 59 #[.slice a6 o c6, .int .i64 4] (0, 0) _ rfl HE1.out Tryd.underlying59 rfl (by kernel_rfl)) rfl ?_
      have hCF : C = F.1 := by
        have : (C, B) = F := HFO.out
        rw [← this]
      have hSZ := HSZ.out
      subst hCF
      refine ⟨_, rfl, HRW.out.keeps HKE.out (fun b hb h => by have := (HFR.out b hb).1; rw [List.mem_singleton] at h; omega), (fun b hb => Nat.le_of_lt (HFR.out b hb).1), ?_⟩
      exact (HKW.out.then_ HKL.out (fun b hb hlt => by rw [List.mem_singleton] at hb; omega)).then_ HKE.out (fun b hb hlt => by rw [List.mem_singleton] at hb; omega)
    · have hs5 := hs1 h0
      obtain ⟨e', rfl⟩ : ∃ e', e = e' + 1 := ⟨e - 1, by omega⟩
      clear hs1 hs2 hs4 h0
      have HHALF : Hid (st / 2 = stepOf e') := by show _ = _; rw [← HST.out]; exact stepOf_half e' (by omega)
      have HFO2 : Hid ((mvJ st o 0 ++ mvS o e').foldl (srcT xs) (C, B) = F) := by
        show _ = _
        have := HFO.out
        rw [mvS, HST.out] at this
        exact this
      clear HFO HST
      go_wp2_with fail
      go_loopg [7, 9, 11, 13, 14, 15, 16, 50] (o + 1) (fun q v7 v9 v11 v13 v14 v15 v16 v50 w3 => ∃ (j d : Nat) (C : List Int) (B : Option Int) (b0 : Int) (sm : Bool) (a6 : Option Addr) (c6 : Nat), v50 = .int .i64 j ∧ j + d = o ∧ v7 = .int .i64 b0 ∧ v9 = .bool sm ∧ Hid (B = if sm then some b0 else none) ∧ Hid (SrcOk xs o (C, B)) ∧ Hid ((mvJ st d j ++ mvS o e').foldl (srcT xs) (C, B) = F) ∧
        Hid (Cell2 w3 g6 59 (.slice a6 o c6) (.int .i64 4)) ∧ Hid (Row w3 .i64 3 (.slice a6 o c6) C) ∧ Hid (∀ b, b ∈ fp (.slice a6 o c6) → w.heap.size < b ∧ b ≠ g6) ∧ Hid (q = d + 1) ∧ Hid (Keeps [g6] wc w3))
      case atStart => exact ⟨0, o, C, B, b0, sm, a6, c6, rfl, by omega, rfl, rfl, HB.out, HSK.out, HFO2.out, HC6.out, HRW.out, HFR.out, (show _ = _ from rfl), HKL.out⟩
      case round =>
        clear HB HSK HFO2 HC6 HRW HFR HKL
        obtain ⟨j, d, C, B, b0, sm, a6, c6, rfl, hjd, rfl, rfl, HB, HSK, HFO, HC6, HRW, HFR, HQ2, HKL⟩ := hrel
        obtain ⟨gkj, rfl⟩ : ∃ x : Nat, x = gk := ⟨_, rfl⟩
        obtain ⟨wj, rfl⟩ : ∃ x : World, x = wr := ⟨_, rfl⟩
        cases d with
        | zero =>
          obtain rfl : j = o := by omega
          have hst3 : -9223372036854775808 < st := by omega
          go_wp2_with fail
          go_roundg (gko - 1)
          case measure => have := HQ.out; omega
          case rel =>
            refine ⟨e', st / 2, C, B, b0, sm, a6, c6, rfl, by omega, rfl, rfl, HHALF.out.symm, HB.out, HSK.out, HFO.out, HC6.out, HRW.out, HFR.out, (show _ = _ from by have := HQ.out; omega), HKL.out⟩
        | succ d =>
          have hjo : j < o := by omega
          have HFO3 : Hid ((mvK j st 0 ++ (mvJ st d (j + 1) ++ mvS o e')).foldl (srcT xs) (C, B) = F) := by
            show _ = _
            have := HFO.out
            rw [mvJ, List.append_assoc] at this
            exact this
          obtain ⟨R, hR⟩ : ∃ R, mvJ st d (j + 1) ++ mvS o e' = R := ⟨_, rfl⟩
          rw [hR] at HFO3
          have HR := Lib.hid hR
          clear hR HFO
          go_wp2_with fail
          go_loopg [7, 9, 13, 14, 15, 16, 57] 3 (fun q v7 v9 v13 v14 v15 v16 v57 w3 => ∃ (kk : Nat) (C : List Int) (B : Option Int) (b0 : Int) (sm : Bool) (a6 : Option Addr) (c6 : Nat), v57 = .int .i64 kk ∧ kk ≤ 2 ∧ v7 = .int .i64 b0 ∧ v9 = .bool sm ∧ Hid (B = if sm then some b0 else none) ∧ Hid (SrcOk xs o (C, B)) ∧ Hid ((mvK j st kk ++ R).foldl (srcT xs) (C, B) = F) ∧
            Hid (Cell2 w3 g6 59 (.slice a6 o c6) (.int .i64 4)) ∧ Hid (Row w3 .i64 3 (.slice a6 o c6) C) ∧ Hid (∀ b, b ∈ fp (.slice a6 o c6) → w.heap.size < b ∧ b ≠ g6) ∧ Hid (kk + q = 3) ∧ Hid (Keeps [g6] wc w3))
          case atStart => exact ⟨0, C, B, b0, sm, a6, c6, rfl, by omega, rfl, rfl, HB.out, HSK.out, HFO3.out, HC6.out, HRW.out, HFR.out, (show _ = _ from rfl), HKL.out⟩
          case round =>
            clear HB HSK HFO3 HC6 HRW HFR HKL
            obtain ⟨kk, C, B, b0, sm, a6, c6, rfl, hkk, rfl, rfl, HB, HSK, HFO, HC6, HRW, HFR, HQ3, HKL⟩ := hrel
            obtain ⟨wk, rfl⟩ : ∃ x : World, x = wr := ⟨_, rfl⟩
            have hkk' : kk = 2 ∨ kk = 0 ∨ kk = 1 := by omega
            rcases hkk' with rfl | hk2
            · have HFO4 : Hid (R.foldl (srcT xs) (C, B) = F) := HFO.out
              go_wp2_with fail
              go_roundg (gkj - 1)
              case measure => have := HQ2.out; omega
              case rel =>
                exact ⟨j + 1, d, C, B, b0, sm, a6, c6, by go_num, by omega, rfl, rfl, HB.out, HSK.out, (by show _ = _; rw [HR.out]; exact HFO4.out), HC6.out, HRW.out, HFR.out, (show _ = _ from by have := HQ2.out; omega), HKL.out⟩
            · have hbys : ∃ by_ : Int, -8 ≤ by_ ∧ by_ ≤ 8 ∧ by_ = (if kk = 0 then st else -st) ∧ (mvK j st kk ++ R = (j, by_) :: (mvK j st (kk + 1) ++ R)) := by
                rcases hk2 with rfl | rfl
                · exact ⟨st, by omega, by omega, rfl, rfl⟩
                · exact ⟨-st, by omega, by omega, rfl, rfl⟩
              obtain ⟨by_, hby0, hby1, hbye, hbyl⟩ := hbys
              have HFO4 : Hid ((mvK j st (kk + 1) ++ R).foldl (srcT xs) (srcT xs (C, B) (j, by_)) = F) := by
                show _ = _
                have := HFO.out
                rw [hbyl] at this
                exact this
              clear HFO hbyl
              have hkl : (kk : Int) < 2 := by omega
              have hidx : ∀ W : World, (Instr.index 125 (.agg #[.int .i64 st, .int .i64 (-st)]) (.int .i64 kk)).run Tryd.prog W = .ok (.int .i64 by_) W := by
                subst hbye
                rcases hk2 with rfl | rfl <;> exact fun _ => rfl
              go_upto_region 17 with fail
              rw [← hbye]
              clear hidx hbye hkl
              have hc0 := HC6.out.c0
              have hc1 := HC6.out.c1
              have hkk0 : Keeps [] wk wk := Keeps.refl _ _
              obtain ⟨a6', c6', hv6, hrd6⟩ := HRW.out.rd
              have hCl : C.length = o := HSK.out.len
              rw [hCl] at hv6
              cases hv6
              have HRD6 := Lib.hid hrd6
              have HCL := Lib.hid hCl
              clear hrd6 hCl
              have HNC : Hid (a6 = none → c6 = 0) := by
                intro h
                subst h
                rcases HRW.out.2 with ⟨h1, _⟩ | ⟨_, _, _, h1, _⟩ <;> cases h1
                rfl
              have HALL : Hid (∀ W', Keeps [] wk W' → (Keeps [] wk W' ∧ W'.cell? ⟨g6, 0, none⟩ = some (.slice a6 o c6) ∧ W'.cell? ⟨g6, 1, none⟩ = some (.int .i64 4))) := fun W' K => ⟨K, K.cell hc0 (by simp), K.cell hc1 (by simp)⟩
              go_region_held3 (fun w' => Keeps [] wk w' ∧ w'.cell? ⟨g6, 0, none⟩ = some (.slice a6 o c6) ∧ w'.cell? ⟨g6, 1, none⟩ = some (.int .i64 4))
                (first
                  | (exact HALL.out _ hkk0.drew)
                  | (exact HALL.out _ HKN.out)
                  | (exact HALL.out _ (HKN.out.alloc _))
                  | (exact HALL.out _ (hkk0.drew.alloc _))
                  | (exact HALL.out _ ((HKN.out.setCell (.inr (Nat.le_refl _)) _).setCell (.inr (Nat.le_refl _)) _)))
                (first
                  | (go_at_call 91; go_split_ands; go_must (with_reducible refine (clone_calls C _ HCL.out.symm a6 c6 _ HNC.out (by rw [HCL.out]; omega) ?hrd).mono ?_); (case hrd => exact Lib.hid (HRD6.out.new (by assumption))); rintro e wN ⟨vN, rfl, hrN, hfN, hkN⟩; have HKN : Hid (Keeps [] wk wN) := Keeps.new (by assumption) hkN; obtain ⟨a7, c7, hvN, -⟩ := hrN.rd; rw [HCL.out] at hvN; subst hvN; (try have hnew : Hid (Cell2 wN wk.heap.size 59 (.slice none 0 0) (.int .i64 0)) := ⟨alloc_keep hkN⟩); (try have hn0 := hnew.out.c0); (try have hn1 := hnew.out.c1); (try have hnf0 := hnew.out.frozen 0); (try have hnf1 := hnew.out.frozen 1)))
              all_goals
                first
                  | (clear hn0 hn1 hnf0 hnf1
                     have hF : ∀ b, b ∈ fp (.slice a7 o c7) → wk.heap.size < b := fun b hb => by
                       have h1 : (wk.alloc (.cells #[.slice none 0 0, .int .i64 0] 59)).heap.size ≤ b := hfN b hb
                       rw [World.size_alloc] at h1
                       omega
                     have hs : Keeps [wk.heap.size] wN ((wN.setCell ⟨wk.heap.size, 0, none⟩ (.slice a7 o c7)).setCell ⟨wk.heap.size, 1, none⟩ (.int .i64 4)) := ((Keeps.refl _ wN).setCell (.inl (by simp)) _).setCell (.inl (by simp)) _
                     have HC14 : Hid (Cell2 ((wN.setCell ⟨wk.heap.size, 0, none⟩ (.slice a7 o c7)).setCell ⟨wk.heap.size, 1, none⟩ (.int .i64 4)) wk.heap.size 59 (.slice a7 o c7) (.int .i64 4)) := ⟨blk_set (blk_set hnew.out.hp 0 _) 1 _⟩
                     have HR14 : Hid (Row ((wN.setCell ⟨wk.heap.size, 0, none⟩ (.slice a7 o c7)).setCell ⟨wk.heap.size, 1, none⟩ (.int .i64 4)) .i64 3 (.slice a7 o c7) C) := hrN.keeps hs (fun b hb h => by rw [List.mem_singleton] at h; have := hF b hb; omega)
                     have HK14 : Hid (Keeps [] wk ((wN.setCell ⟨wk.heap.size, 0, none⟩ (.slice a7 o c7)).setCell ⟨wk.heap.size, 1, none⟩ (.int .i64 4))) := HKN.out.then_ hs (fun b hb hlt => by rw [List.mem_singleton] at hb; omega)
                     have HF14 : Hid (∀ b, b ∈ fp (.slice a7 o c7) → wk.heap.size ≤ b ∧ b ≠ wk.heap.size) := fun b hb => by have := hF b hb; omega
                     generalize (wN.setCell ⟨wk.heap.size, 0, none⟩ (.slice a7 o c7)).setCell ⟨wk.heap.size, 1, none⟩ (.int .i64 4) = W6 at *
                     obtain ⟨gx, hgx, HGX⟩ : ∃ gx, wk.heap.size = gx ∧ Hid (wk.heap.size ≤ gx) := ⟨_, rfl, Nat.le_refl _⟩
                     have HF14' : Hid (∀ b, b ∈ fp (.slice a7 o c7) → wk.heap.size ≤ b ∧ b ≠ gx) := by rw [← hgx]; exact HF14
                     clear HF14
                     rw [hgx] at HC14 ⊢
                     clear hgx hF hs hnew)
                  | (have hs : Keeps [] wN (wN.alloc (.cells #[.slice a7 o c7, .int .i64 4] 59)) := (Keeps.refl _ wN).alloc _
                     have hF : ∀ b, b ∈ fp (.slice a7 o c7) → wk.heap.size ≤ b ∧ b < wN.heap.size := fun b hb => ⟨hfN b hb, hrN.lt b hb⟩
                     have HC14 : Hid (Cell2 (wN.alloc (.cells #[.slice a7 o c7, .int .i64 4] 59)) wN.heap.size 59 (.slice a7 o c7) (.int .i64 4)) := ⟨heap_alloc_new wN _⟩
                     have HR14 : Hid (Row (wN.alloc (.cells #[.slice a7 o c7, .int .i64 4] 59)) .i64 3 (.slice a7 o c7) C) := hrN.keeps hs (fun _ _ => by simp)
                     have HK14 : Hid (Keeps [] wk (wN.alloc (.cells #[.slice a7 o c7, .int .i64 4] 59))) := HKN.out.new hs
                     have HF14' : Hid (∀ b, b ∈ fp (.slice a7 o c7) → wk.heap.size ≤ b ∧ b ≠ wN.heap.size) := fun b hb => by have := hF b hb; omega
                     have HGX : Hid (wk.heap.size ≤ wN.heap.size) := HKN.out.size
                     generalize wN.alloc (.cells #[.slice a7 o c7, .int .i64 4] 59) = W6 at *
                     generalize wN.heap.size = gx at *
                     clear hF hs)
              all_goals
                rename_i hheld
                clear hheld
                clear hkN HKN hrN hfN HALL hkk0
                obtain ⟨gr, cr, hav⟩ := HR14.out.form (by rw [HCL.out]; omega)
                rw [HCL.out] at hav
                cases hav
                have hgr := HF14'.out gr (by rw [fp_some]; simp)
                have HGR2 : Hid (wk.heap.size ≤ gr ∧ gr ≠ gx) := hgr
                clear hgr HF14' hc0 hc1 HRD6 HNC
                have hjC : j < C.length := by rw [HCL.out]; exact hjo
                obtain ⟨y, hy⟩ : ∃ y, C[j] = y := ⟨_, rfl⟩
                obtain ⟨y0, y1⟩ := HSK.out.small y (hy ▸ List.getElem_mem hjC)
                have hyD : C.getD j 0 = y := by rw [List.getD_eq_getElem?_getD, List.getElem?_eq_getElem hjC, hy]; rfl
                have hcr := HR14.out.cell j hjC
                rw [hy] at hcr
                have hcz := HR14.out.frozen j
                have hx0 := HC14.out.c0
                have hx1 := HC14.out.c1
                have hjo2 : (j : Int) < (o : Int) := by omega
                have hj0 : (0 : Int) ≤ (j : Int) := by omega
                obtain ⟨C', hC'⟩ : ∃ C', C.set j (y + by_) = C' := ⟨_, rfl⟩
                have HCL' : Hid (C'.length = o) := by show _ = _; rw [← hC', List.length_set]; exact HCL.out
                obtain ⟨E1, hE1⟩ : ∃ E1, resE C' 4 xs = E1 := ⟨_, rfl⟩
                obtain ⟨N1, hN1⟩ : ∃ N1, costN C' 4 xs = N1 := ⟨_, rfl⟩
                have HYES : Hid (E1 = 0 → srcB N1 B = true → srcT xs (C, B) (j, by_) = (C', some N1)) := fun h1 h2 => srcT_yes hyD hC' (hE1.trans h1) hN1 h2
                have HNO : Hid ((E1 ≠ 0 ∨ srcB N1 B = false) → srcT xs (C, B) (j, by_) = (C, B)) := fun h => srcT_no hyD hC' hN1 (by rw [hE1]; exact h)
                have HE1 := Lib.hid hE1
                have HN1 := Lib.hid hN1
                have HOK1 := Lib.hid (HSK.out.step (j, by_))
                have HR15 : Hid (Row (W6.setCell ⟨gr, j, none⟩ (.int .i64 (y + by_))) .i64 3 (.slice (some ⟨gr, 0, none⟩) o c7) C') := by
                  show Row _ _ _ _ _
                  rw [← hC']
                  exact HR14.out.set j (y + by_)
                have HK15 : Hid (Keeps [] wk (W6.setCell ⟨gr, j, none⟩ (.int .i64 (y + by_)))) := HK14.out.setCell (.inr HGR2.out.1) _
                have HC15 : Hid (Cell2 (W6.setCell ⟨gr, j, none⟩ (.int .i64 (y + by_))) gx 59 (.slice (some ⟨gr, 0, none⟩) o c7) (.int .i64 4)) := HC14.out.keeps ((Keeps.refl [gr] W6).setCell (.inl (by simp)) _) (by have := HGR2.out.2; simp; omega)
                have HKX : Hid (Keeps [g6] wc (W6.setCell ⟨gr, j, none⟩ (.int .i64 (y + by_)))) := HKL.out.new HK15.out
                have HXR := Lib.hid (HXW.out _ HKX.out)
                have hx2 := HC15.out.c0
                have hx3 := HC15.out.c1
                clear hy hyD hC' hE1 hN1 hjC
                have hacc : (E1 = 0 ∧ sm = false ∧ srcB N1 B = true) ∨ (E1 = 0 ∧ sm = true ∧ N1 < b0 ∧ srcB N1 B = true) ∨ (E1 = 0 ∧ sm = true ∧ b0 ≤ N1 ∧ srcB N1 B = false) ∨ E1 ≠ 0 := by
                  have hb := HB.out
                  subst hb
                  by_cases h1 : E1 = 0
                  · cases sm
                    · exact .inl ⟨h1, rfl, rfl⟩
                    · by_cases h2 : N1 < b0
                      · exact .inr (.inl ⟨h1, rfl, h2, decide_eq_true h2⟩)
                      · exact .inr (.inr (.inl ⟨h1, rfl, by omega, decide_eq_false h2⟩))
                  · exact .inr (.inr (.inr h1))
                have hacc2 : (E1 = 0 ∧ srcT xs (C, B) (j, by_) = (C', some N1) ∧ (sm = false ∨ (sm = true ∧ N1 < b0))) ∨ (srcT xs (C, B) (j, by_) = (C, B) ∧ (E1 ≠ 0 ∨ (E1 = 0 ∧ sm = true ∧ b0 ≤ N1))) := by
                  rcases hacc with ⟨h1, h2, h3⟩ | ⟨h1, h2, h3, h4⟩ | ⟨h1, h2, h3, h4⟩ | h1
                  · exact .inl ⟨h1, HYES.out h1 h3, .inl h2⟩
                  · exact .inl ⟨h1, HYES.out h1 h4, .inr ⟨h2, h3⟩⟩
                  · exact .inr ⟨HNO.out (.inr h4), .inr ⟨h1, h2, h3⟩⟩
                  · exact .inr ⟨HNO.out (.inl h1), .inl h1⟩
                clear hacc HYES HNO
                rcases hacc2 with ⟨rfl, hst, hcase⟩ | ⟨hst, hcase⟩
                · rw [hst] at HFO4 HOK1
                  clear hst
                  rcases hcase with rfl | ⟨rfl, hcase⟩
                  all_goals
                    go_wp2_with (first
                      | (go_at_call 90; go_must (with_reducible refine (cost_calls C' xs 4 _ _ HCL'.out.symm (some ⟨gr, 0, none⟩) a c7 c _ rfl hd hl (Lib.hid HR15.out.rdAt) HXR).mono ?_); rw [HE1.out, HN1.out]; rintro e wq ⟨rfl, hkq⟩; have HKQ := Lib.hid hkq; clear hkq; have hx4 := (HC15.out.keeps HKQ.out (by simp)).c0; have hx5 := (HC15.out.keeps HKQ.out (by simp)).c1; have HC6q := Lib.hid (HC6.out.keeps (HK15.out.new HKQ.out) (by simp)); have hg0 := HC6q.out.c0; have hg1 := HC6q.out.c1; have hgz0 := HC6q.out.frozen 0; have hgz1 := HC6q.out.frozen 1))
                    have hs6 : Keeps [g6] wq ((wq.setCell ⟨g6, 0, none⟩ (.slice (some ⟨gr, 0, none⟩) o c7)).setCell ⟨g6, 1, none⟩ (.int .i64 4)) := ((Keeps.refl _ wq).setCell (.inl (by simp)) _).setCell (.inl (by simp)) _
                    have HGR3 : Hid (g6 < gr ∧ w.heap.size < gr) := by
                      have h1 := HGR2.out.1
                      have h2 := HKL.out.size
                      have h3 := HS6.out
                      have h4 := HSZ.out
                      show _ ∧ _
                      omega
                    go_roundg (gk - 1)
                    case measure => have := HQ3.out; omega
                    case rel =>
                      refine ⟨kk + 1, C', some N1, N1, true, some ⟨gr, 0, none⟩, c7, by go_num, by omega, rfl, rfl, rfl, HOK1.out, HFO4.out, ⟨blk_set (blk_set HC6q.out.hp 0 _) 1 _⟩, ?_, ?_, (show _ = _ from by have := HQ3.out; omega), ?_⟩
                      · exact (HR15.out.keeps HKQ.out (fun _ _ => by simp)).keeps hs6 (fun b hb h => by rw [fp_some, List.mem_singleton] at hb; rw [List.mem_singleton] at h; have := HGR3.out.1; omega)
                      · intro b hb
                        rw [fp_some, List.mem_singleton] at hb
                        have := HGR3.out
                        omega
                      · exact (HKX.out.new HKQ.out).trans hs6
                · rw [hst] at HFO4
                  clear hst HOK1
                  rcases hcase with hne | ⟨rfl, rfl, hcase⟩
                  · have hne' : (E1 == 0) = false := beq_eq_false_iff_ne.2 hne
                    go_wp2_with (first
                      | (go_at_call 90; go_must (with_reducible refine (cost_calls C' xs 4 _ _ HCL'.out.symm (some ⟨gr, 0, none⟩) a c7 c _ rfl hd hl (Lib.hid HR15.out.rdAt) HXR).mono ?_); rw [HE1.out, HN1.out]; rintro e wq ⟨rfl, hkq⟩; have HKQ := Lib.hid hkq; clear hkq; have hx4 := (HC15.out.keeps HKQ.out (by simp)).c0; have hx5 := (HC15.out.keeps HKQ.out (by simp)).c1))
                    go_roundg (gk - 1)
                    case measure => have := HQ3.out; omega
                    case rel =>
                      exact ⟨kk + 1, C, B, b0, sm, a6, c6, by go_num, by omega, rfl, rfl, HB.out, HSK.out, HFO4.out, HC6.out.keeps (HK15.out.new HKQ.out) (by simp), HRW.out.keeps (HK15.out.new HKQ.out) (fun _ _ => by simp), HFR.out, (show _ = _ from by have := HQ3.out; omega), HKX.out.new HKQ.out⟩
                  · go_wp2_with (first
                      | (go_at_call 90; go_must (with_reducible refine (cost_calls C' xs 4 _ _ HCL'.out.symm (some ⟨gr, 0, none⟩) a c7 c _ rfl hd hl (Lib.hid HR15.out.rdAt) HXR).mono ?_); rw [HE1.out, HN1.out]; rintro e wq ⟨rfl, hkq⟩; have HKQ := Lib.hid hkq; clear hkq; have hx4 := (HC15.out.keeps HKQ.out (by simp)).c0; have hx5 := (HC15.out.keeps HKQ.out (by simp)).c1))
                    go_roundg (gk - 1)
                    case measure => have := HQ3.out; omega
                    case rel =>
                      exact ⟨kk + 1, C, B, b0, true, a6, c6, by go_num, by omega, rfl, rfl, HB.out, HSK.out, HFO4.out, HC6.out.keeps (HK15.out.new HKQ.out) (by simp), HRW.out.keeps (HK15.out.new HKQ.out) (fun _ _ => by simp), HFR.out, (show _ = _ from by have := HQ3.out; omega), HKX.out.new HKQ.out⟩
end Go.Proofs.YtofkiimaoahfjaaDoor
