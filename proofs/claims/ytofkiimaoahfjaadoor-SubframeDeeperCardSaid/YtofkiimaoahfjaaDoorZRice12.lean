/-
  Layer 6 (rice): Write, the walk.
  Layer 6 (rice): Write on a Writer that the run has made; the law's known and cut; the least size.
-/
import Derived.Test.YtofkiimaoahfjaaDoorZRice8
set_option maxRecDepth 100000
set_option linter.unusedVariables false
set_option linter.unusedSimpArgs false
namespace Go.Proofs.YtofkiimaoahfjaaDoor
open Go.RowKit Go.Proofs.YtofkiimaoahfjaaDoor.Pure

/-- What Write puts: nothing, if it tells an error. -/
def rwB (L : List Int) (order : Int) : List Bool := if rchkE L order = 0 then writeB L order.toNat else []

set_option maxHeartbeats 8000000 in
set_option maxRecDepth 100000 in
theorem rwrite_calls (L : List Int) (order : Int) (n : Nat) (hn : n = L.length) (a : Option Addr) (c : Nat) (w : World) (pw : Nat) (sv : Value) (l : List Bool) (hnc : a = none → c = 0) (hl : L.length ≤ 600) (hc : L.length ≤ c) (h1 : -9223372036854775808 ≤ order ∧ order ≤ 9223372036854775807) (hx : Hid (Rd w .i64 a L))
    (hW : Hid (IsW w pw sv l)) (hb : l.length ≤ 1000000000) (hfar : ∀ ad, a = some ad → 0 < L.length → ad.block ∉ pw :: fp sv) :
    Calls Tryd.prog 32 #[.pointer (some ⟨pw, 0, none⟩), .slice a n c, .int .i64 order] w fun e w' => e = .returned (.int .i64 (rchkE L order)) ∧ Wrote w w' pw sv (l ++ rwB L order) := by
  subst hn
  have HCK := Lib.hid (fun W (hk : Keeps [] w W) => rcheck_calls L order _ rfl a c W h1 (by omega) (Lib.hid (hx.out.new hk)))
  have HFAR := Lib.hid hfar
  have HNC := Lib.hid hnc
  clear hfar hnc
  by_cases he : rchkE L order = 0
  · obtain ⟨⟨g1, g2, g3, g4⟩, hin⟩ := rchk_ok L order he
    obtain ⟨o, rfl⟩ : ∃ o : Nat, order = (o : Int) := ⟨order.toNat, by omega⟩
    have hz : rwB L (o : Int) = writeB L o := by unfold rwB; rw [if_pos he, Int.toNat_natCast]
    rw [hz, he]
    rw [he] at HCK
    have HIN := Lib.hid hin
    have ho : o ≤ 8 := by omega
    obtain ⟨m, p, hm, hp, hm1, hp4, hfit, hcand, hs0⟩ := choose_plan hl hin (order := o) (by omega)
    have HCH := Lib.hid (choose_calls L o _ rfl a c w HNC.out hl hc ho HIN hx)
    obtain ⟨ps, hps⟩ : ∃ ps, partsS L o p = ps := ⟨_, rfl⟩
    obtain ⟨ys, hys⟩ : ∃ ys, (chooseS L o).2.2.1 = ys := ⟨_, rfl⟩
    obtain ⟨S, hS⟩ : ∃ S, (chooseS L o).2.2.2 = S := ⟨_, rfl⟩
    rw [hm, hp, hys, hS] at HCH
    have HWB : Hid (writeB L o = putB m 2 ++ putB p 4 ++ partsB m ys ps) := by
      show _ = _
      unfold writeB
      rw [hm, hp, hys, Int.toNat_natCast, Int.toNat_natCast, hps]
    rw [hys, hS, hps] at hcand
    have hyp := candGo_parts m ps [] 6 (by rw [hcand])
    rw [hcand, List.nil_append] at hyp
    have HYP : Hid (ys = ps.map (fun c => (bestS c m).1)) := hyp
    have HYL : Hid (ys.length = ps.length) := by show _ = _; rw [HYP.out, List.length_map]
    have HPM := Lib.hid (partsS_mem L o p)
    rw [hps] at HPM
    have hpl : ps.length ≤ 16 := by rw [← hps, partsS_length]; exact Nat.pow_le_pow_right (show 0 < 2 by omega) hp4
    have HF := Lib.hid hfit
    have HPE := Lib.hid hps
    clear he hz hin hcand hyp hps hys hS hm hp hfit g1 g2 g3 g4 hs0
    go_enter Tryd.func32, Tryd.ntmps32
    go_upto_region 7 with (first
      | (go_at_call 59; go_must (refine (HCK.out _ (Keeps.refl _ _)).mono ?_; rintro e w1 ⟨rfl, rfl⟩))
      | (go_at_call 60; go_must (refine HCH.out.mono ?_; rintro e w2 ⟨v, rfl, hr2, hf2, hk2⟩; obtain ⟨av, cv, hv⟩ := hr2.slice; subst hv; have HR2 := Lib.hid hr2; have HF2 := Lib.hid hf2; have HK2 := Lib.hid hk2; clear hr2 hf2 hk2)))
    obtain ⟨lb, hlb1, hlb2⟩ : ∃ lb : List Nat, (∀ ad, a = some ad → 0 < L.length → ad.block ∈ lb) ∧ (∀ b, b ∈ lb → b < w.heap.size ∧ b ∉ pw :: fp sv) := by
      rcases Nat.eq_zero_or_pos L.length with h0 | h0
      · exact ⟨[], fun ad _ h => (by omega), fun b hb => (by cases hb)⟩
      · obtain ⟨b, o', hae, hcc⟩ := hx.out.form h0
        refine ⟨[b], fun ad e _ => ?_, fun b' hb' => ?_⟩
        · rw [hae] at e; cases e; simp
        · rw [List.mem_singleton] at hb'
          subst hb'
          exact ⟨World.block_lt_of_cell? w _ (hcc 0 h0), HFAR.out _ hae h0⟩
    have hk3 : Keeps [] w2 (w2.alloc (.cells #[.int .i64 m, .int .i64 p, .slice av ys.length cv, .int .i64 S] 102)) := (Keeps.refl _ _).alloc _
    have HB0 : Hid (WB6 w (w2.alloc (.cells #[.int .i64 m, .int .i64 p, .slice av ys.length cv, .int .i64 S] 102)) pw sv l ((w2.heap.size :: fp (.slice av ys.length cv)) ++ lb) w2.heap.size m p (.slice av ys.length cv) ys S (.slice none 0 0) [] a L) := by
      have hwo := (WO.start hW.out hlb2).grow (HK2.out.new hk3) (w2.heap.size :: fp (.slice av ys.length cv)) (fun b hb => by
        have hsz : (w2.alloc (.cells #[.int .i64 m, .int .i64 p, .slice av ys.length cv, .int .i64 S] 102)).heap.size = w2.heap.size + 1 := World.size_alloc _ _
        rcases List.mem_cons.1 hb with rfl | hb
        · have := HK2.out.size; omega
        · have h5 := HF2.out b hb; have h6 := HR2.out.lt b hb; omega)
      exact ⟨hwo, ⟨heap_alloc_new _ _⟩, HR2.out.new hk3, World.ownsRow_nil _ _ _ _, (hx.out.new HK2.out).new hk3, by simp, fun b hb => List.mem_append_left _ (List.mem_cons_of_mem _ hb), fun b hb => (by cases hb), fun ad e hl => List.mem_append_right _ (hlb1 ad e hl)⟩
    clear HR2 HF2 HK2 hk3 HFAR hlb2
    have HLB1 := Lib.hid hlb1
    clear hlb1
    generalize w2.alloc (.cells #[.int .i64 m, .int .i64 p, .slice av ys.length cv, .int .i64 S] 102) = w3 at *
    generalize w2.heap.size = g8 at *
    have hq0 := HB0.out.quad.c0
    have HMR : Hid (-9223372036854775808 ≤ (m : Int) ∧ (m : Int) ≤ 9223372036854775807) := (show _ ∧ _ from by omega)
    have HPR : Hid (-9223372036854775808 ≤ (p : Int) ∧ (p : Int) ≤ 9223372036854775807) := (show _ ∧ _ from by omega)
    have hll : l.length ≤ 800000000000 := by omega
    have HL2 : Hid ((l ++ putB m 2).length ≤ 1000000040) := (show _ ≤ _ from by have := putB_le m 2; rw [List.length_append]; omega)
    have hll2 : (l ++ putB m 2).length ≤ 800000000000 := by have := HL2.out; omega
    have HLL2 := Lib.hid hll2
    have HLL := Lib.hid hll
    have HL3 : Hid ((l ++ putB m 2 ++ putB p 4).length ≤ 1000000080) := (show _ ≤ _ from by have h2 := putB_le p 4; have h3 := HL2.out; rw [List.length_append]; omega)
    clear hll hll2
    go_upto_region 10 with (first
      | (go_at_call 12; with_reducible refine (woPut (m : Int) 2 (Lib.hid HB0.out.wo) HMR HLL.out).mono ?_; rintro e w4 ⟨rfl, hwo4, hs4⟩; have HB1 := Lib.hid (HB0.out.put hwo4 hs4); have hq1 := HB1.out.quad.c1; clear hwo4 hs4)
      | (go_at_call 12; with_reducible refine (woPut (p : Int) 4 (Lib.hid HB1.out.wo) HPR HLL2.out).mono ?_; rintro e w5 ⟨rfl, hwo5, hs5⟩; have HB2 := Lib.hid (HB1.out.put hwo5 hs5); have hq1b := HB2.out.quad.c1; clear hwo5 hs5)
      | (go_at_call 61; go_must (refine (rcut_calls L o p _ rfl a c _ HNC.out hp4 hl hc ho HF.out (Lib.hid HB2.out.rd)).mono ?_); rintro e w6 ⟨v39, vs, rfl, hr39, hf39, hps39, hk6⟩; obtain ⟨a39, c39, hv39⟩ := hr39.slice; subst hv39; have HR39 := Lib.hid hr39; have HF39 := Lib.hid hf39; have HPS := Lib.hid hps39; have HK6 := Lib.hid hk6; clear hr39 hf39 hps39 hk6))
    have HB6 : Hid (WB6 w w6 pw sv (l ++ putB m 2 ++ putB p 4) (fp (.slice a39 vs.length c39) ++ ((g8 :: fp (.slice av ys.length cv)) ++ lb)) g8 m p (.slice av ys.length cv) ys S (.slice a39 vs.length c39) vs a L) := by
      have g := HB2.out.grow HK6.out (fp (.slice a39 vs.length c39)) (fun b hb => ⟨HF39.out b hb, HR39.out.lt b hb⟩)
      exact ⟨g.wo, g.quad, g.rowT, HR39.out, g.rd, g.mem8, g.memT, fun b hb => List.mem_append_left _ hb, g.memL⟩
    have hvl := (HPS.out w5 HB2.out.rd).length
    rw [HPE.out] at hvl HPS
    clear HB0 HB1 HB2 hq0 hq1 hq1b HR39 HF39 HK6 HCH HCK HLB1 HLL HLL2 HL2 HMR HPR
    obtain ⟨nv, hnv⟩ : ∃ nv, ps.length = nv := ⟨_, rfl⟩
    rw [hnv] at hvl HYL hpl
    have HNV := Lib.hid hnv
    have HVL := Lib.hid hvl
    rw [hvl] at HB6 ⊢
    rw [HYL.out] at HB6 ⊢
    clear hnv hvl
    obtain ⟨l0, hl0⟩ : ∃ l0, l ++ putB m 2 ++ putB p 4 = l0 := ⟨_, rfl⟩
    have HL0 := Lib.hid hl0
    rw [hl0] at HB6 HL3
    generalize (fp (.slice a39 nv c39) ++ ((g8 :: fp (.slice av nv cv)) ++ lb)) = BS at *
    clear hl0
    go_wp2_with fail
    go_loopg [41] (nv + 1) (fun q v41 wr => ∃ (j : Nat) (lj : List Bool), v41 = .int .i64 j ∧ j ≤ nv ∧ Hid (j + q = nv + 1) ∧ Hid (lj = l0 ++ partsB m (ys.take j) (ps.take j)) ∧ Hid (lj.length ≤ 1000000080 + 40000000 * j) ∧ Hid (WB6 w wr pw sv lj BS g8 m p (.slice av nv cv) ys S (.slice a39 nv c39) vs a L))
    case atStart => exact ⟨0, l0, rfl, by omega, (show _ = _ from by omega), (show _ = _ from by simp [partsB]), (show _ ≤ _ from by have := HL3.out; omega), HB6.out⟩
    case round =>
      obtain ⟨j, lj, rfl, hj, HQ, HLJ, HLL, HBj⟩ := hrel
      obtain ⟨q1, rfl⟩ : ∃ g : Nat, g = gk := ⟨_, rfl⟩
      obtain ⟨wj, rfl⟩ : ∃ x : World, x = wr := ⟨_, rfl⟩
      clear HB6 HL3
      by_cases hlt : j < nv
      · have hjp : j < ps.length := by rw [HNV.out]; exact hlt
        have hjy : j < ys.length := by rw [HYL.out]; exact hlt
        obtain ⟨cj, hcj⟩ : ∃ cj, ps[j] = cj := ⟨_, rfl⟩
        obtain ⟨hmem, hcjl⟩ := HPM.out cj (by rw [← hcj]; exact List.getElem_mem _)
        obtain ⟨A, C, hvj, hrd, hcl⟩ := (HPS.out wj HBj.out.rd).at_ j (by rw [HVL.out]; exact hlt) hjp
        rw [hcj] at hvj hrd hcl
        obtain ⟨g39, c39', he39⟩ := HBj.out.rowV.form (by rw [HVL.out]; omega)
        simp only [Value.slice.injEq] at he39
        obtain ⟨rfl, -, rfl⟩ := he39
        obtain ⟨gT, cT, heT⟩ := HBj.out.rowT.form (by rw [HYL.out]; omega)
        simp only [Value.slice.injEq] at heT
        obtain ⟨rfl, -, rfl⟩ := heT
        have hcellv := HBj.out.rowV.cell j (by rw [HVL.out]; exact hlt)
        rw [hvj] at hcellv
        obtain ⟨ht0, ht1, ht2⟩ := HBj.out.rowT.cells j hjy
        have hyj : ys[j] = (bestS cj m).1 := by
          have := HYP.out
          subst this
          simp [hcj]
        obtain ⟨k0, kw0⟩ := bestS_k cj m hm1
        have HSN := Lib.hid (partsB_snoc m ys ps j hjy hjp)
        obtain ⟨⟨yk, yw, ysz⟩, hye⟩ : ∃ y, ys[j] = y := ⟨_, rfl⟩
        rw [hye] at ht0 ht1 ht2 HSN
        rw [hcj] at HSN
        rw [← hyj, hye] at k0 kw0
        have ht0 : wj.cell? ⟨gT, j * 3, none⟩ = some (.int .i64 yk) := ht0
        have ht1 : wj.cell? ⟨gT, j * 3 + 1, none⟩ = some (.int .i64 yw) := ht1
        have ht2 : wj.cell? ⟨gT, j * 3 + 2, none⟩ = some (.int .i64 ysz) := ht2
        have hk0 : 0 ≤ yk := k0
        have hk1 : yk ≤ 31 := kw0.1
        have hw0 : 0 ≤ yw := kw0.2.1
        have hw1 : yw ≤ 65 := kw0.2.2
        have hq2 := HBj.out.quad.c2
        have HRNG : Hid (∀ n ∈ cj, -2147483648 < n ∧ n < 2147483648) := fun n hn => HIN.out n (hmem n hn)
        have HRDF : Hid (∀ wx, Rd wx .i64 a L → Rd wx .i64 A cj) := by
          intro wx hr
          obtain ⟨A', C', hv', hrd', _⟩ := (HPS.out wx hr).at_ j (by rw [HVL.out]; exact hlt) hjp
          rw [hvj] at hv'
          simp only [Value.slice.injEq] at hv'
          obtain ⟨rfl, -, -⟩ := hv'
          rw [hcj] at hrd'
          exact hrd'
        clear hcj hyj hye k0 kw0 hvj hmem hrd
        have hkA : Keeps [] wj (wj.alloc (.cells #[.int .i64 yk, .int .i64 yw, .int .i64 ysz] 107)) := (Keeps.refl _ _).alloc _
        have HT : Hid (Tri3 (wj.alloc (.cells #[.int .i64 yk, .int .i64 yw, .int .i64 ysz] 107)) wj.heap.size 107 yk yw ysz) := ⟨heap_alloc_new _ _⟩
        have HBA := Lib.hid (HBj.out.grow hkA [wj.heap.size] (fun b hb => by rw [List.mem_singleton] at hb; rw [hb, World.size_alloc]; omega))
        have HMEM : Hid (g8 ∈ BS ∧ (∀ b, b ∈ fp (.slice (some ⟨gT, 0, none⟩) nv cv) → b ∈ BS) ∧ (∀ b, b ∈ fp (.slice (some ⟨g39, 0, none⟩) nv c39) → b ∈ BS) ∧ (∀ ad, a = some ad → 0 < L.length → ad.block ∈ BS)) := ⟨HBj.out.mem8, HBj.out.memT, HBj.out.memV, HBj.out.memL⟩
        go_upto_region 13 with fail
        clear hkA hcellv ht0 ht1 ht2 hq2 HBj
        generalize wj.alloc (.cells #[.int .i64 yk, .int .i64 yw, .int .i64 ysz] 107) = wA at *
        generalize wj.heap.size = g11 at *
        have hy0 := HT.out.c0
        have hq0 := HBA.out.quad.c0
        obtain ⟨M4, hM4⟩ : ∃ M4 : Int, ((4 + m : Nat) : Int) = M4 := ⟨_, rfl⟩
        have HM4 := Lib.hid hM4
        have HMB : Hid (∀ W, Calls Tryd.prog 62 #[.int .i64 m] W fun e w' => e = .returned (.int .i64 M4) ∧ W = w') := by
          intro W
          have := mbits_calls m W hm1
          rwa [hM4] at this
        have HYR : Hid (-9223372036854775808 ≤ yk ∧ yk ≤ 9223372036854775807) := (show _ ∧ _ from by omega)
        have HLLA : Hid (lj.length ≤ 800000000000) := (show _ ≤ _ from by have := HLL.out; omega)
        clear hM4
        go_cut [57] (fun v57 wx => Hid (WB6 w wx pw sv (lj ++ putB yk M4) ([g11] ++ BS) g8 m p (.slice (some ⟨gT, 0, none⟩) nv cv) ys S (.slice (some ⟨g39, 0, none⟩) nv c39) vs a L) ∧ Hid (Tri3 wx g11 107 yk yw ysz))
        case first =>
          go_region_held3 (fun w' => w'.cell? ⟨g11, 0, none⟩ = some (.int .i64 yk) ∧ w'.cell? ⟨g8, 0, none⟩ = some (.int .i64 m))
            (first
              | (exact ⟨hy0, hq0⟩)
              | (exact ⟨hsN.cell hy0 (by simp), hsN.cell hq0 (List.mem_append_right _ HMEM.out.1)⟩)
              | go_keep)
            (first
              | (go_at_call 62; go_must (refine (HMB.out _).mono ?_); rintro e wb ⟨rfl, rfl⟩)
              | (go_at_call 12; go_must (with_reducible refine (woPut yk M4 (Lib.hid (HBA.out.new ((Keeps.refl [] wA).drew)).wo) HYR HLLA.out).mono ?_); rintro e wp ⟨rfl, hwoN, hsN⟩))
          go_wp2_with fail
          go_meet
          exact ⟨Lib.hid ((HBA.out.new ((Keeps.refl [] wA).drew)).put hwoN hsN), Lib.hid ((HT.out.keeps ((Keeps.refl [] wA).drew) (by simp)).same hsN (by simp))⟩
        case rest =>
          obtain ⟨HBC, HTC⟩ := hcut
          obtain ⟨wd, rfl⟩ : ∃ x : World, x = wc := ⟨_, rfl⟩
          clear HBA HT hy0 hq0 HMB
          obtain ⟨E, hE0⟩ : ∃ E, escS m = E := ⟨_, rfl⟩
          have HE := Lib.hid hE0
          have HES : Hid (∀ W, Calls Tryd.prog 63 #[.int .i64 m] W fun e w' => e = .returned (.int .i64 (E : Int)) ∧ W = w') := by
            intro W
            have := escape_calls m W hm1
            rwa [hE0] at this
          clear hE0
          have HESQ : Hid (∀ W, Calls Tryd.prog 63 #[.int .i64 m] W fun e w' => e = .returned (.int .i64 (E : Int)) ∧ w' = W) := fun W => (HES.out W).mono (fun e w' ⟨h1, h2⟩ => ⟨h1, h2.symm⟩)
          have hy0 := HTC.out.c0
          have hq0 := HBC.out.quad.c0
          go_upto_region 14 with fail
          go_quiet (first | (go_at_call 63; exact Calls.quiet_of_same (HESQ.out _)))
          have HKQ : Hid (Keeps [] wd (wd.drewN nq)) := (Keeps.refl _ _).drewN nq
          have HBD := Lib.hid (HBC.out.new HKQ.out)
          have HTD := Lib.hid (HTC.out.keeps HKQ.out (by simp))
          clear HKQ hy0 hq0 HBC HTC
          generalize wd.drewN nq = we at *
          have hpk : (putB yk M4).length ≤ 32 := putB_le yk M4
          have HPK := Lib.hid hpk
          clear hpk
          by_cases hE : yk = (E : Int)
          · have hEb : (yk == (E : Int)) = true := beq_iff_eq.2 hE
            have hy1 := HTD.out.c1
            have HYW : Hid (-9223372036854775808 ≤ yw ∧ yw ≤ 9223372036854775807) := (show _ ∧ _ from by omega)
            have HLLD : Hid ((lj ++ putB yk M4).length ≤ 800000000000) := (show _ ≤ _ from by have := HLL.out; have := HPK.out; rw [List.length_append]; omega)
            go_upto_region 16 with (first
              | (go_at_call 12; go_must (with_reducible refine (woPut yw 5 (Lib.hid HBD.out.wo) HYW HLLD.out).mono ?_); rintro e wp ⟨rfl, hwoN, hsN⟩; have HBL := Lib.hid (HBD.out.put hwoN hsN); have HTL := Lib.hid (HTD.out.same hsN (by simp)); clear hwoN hsN))
            have HLB : Hid ((lj ++ putB yk M4 ++ putB yw 5).length ≤ 600000000000) := (show _ ≤ _ from by have h1 := HLL.out; have h2 := HPK.out; have h3 := putB_le yw 5; rw [List.length_append, List.length_append]; omega)
            obtain ⟨LB, hLB⟩ : ∃ LB, lj ++ putB yk M4 ++ putB yw 5 = LB := ⟨_, rfl⟩
            have HLBE := Lib.hid hLB
            rw [hLB] at HBL HLB
            clear hLB HBD HTD hy1
            go_wp2_with fail
            go_loopg [70] (cj.length + 1) (fun q v70 wr => ∃ (i : Nat) (li : List Bool), v70 = .int .i64 i ∧ i ≤ cj.length ∧ Hid (i + q = cj.length + 1) ∧ Hid (li = LB ++ (cj.take i).flatMap (numB yk yw true)) ∧ Hid (WB6 w wr pw sv li ([g11] ++ BS) g8 m p (.slice (some ⟨gT, 0, none⟩) nv cv) ys S (.slice (some ⟨g39, 0, none⟩) nv c39) vs a L) ∧ Hid (Tri3 wr g11 107 yk yw ysz))
            case atStart => exact ⟨0, LB, rfl, by omega, (show _ = _ from by omega), (show _ = _ from by simp), HBL.out, HTL.out⟩
            case round =>
              obtain ⟨i, li, rfl, hi, HQi, HLI, HBi, HTi⟩ := hrel
              obtain ⟨q3, rfl⟩ : ∃ g : Nat, g = gk := ⟨_, rfl⟩
              obtain ⟨wi, rfl⟩ : ∃ x : World, x = wr := ⟨_, rfl⟩
              clear HBL HTL
              have HLIB : Hid (li.length ≤ 700000000000) := (show _ ≤ _ from by
                have h1 := HLB.out
                have h2 := numsB_le yk yw true (cj.take i)
                have h3 : (cj.take i).length ≤ 600 := by rw [List.length_take]; omega
                rw [HLI.out, List.length_append]
                omega)
              by_cases hli : i < cj.length
              · obtain ⟨bA, oA, rfl, hcells⟩ := (HRDF.out wi HBi.out.rd).form (by omega)
                obtain ⟨x, hxe⟩ : ∃ x, cj[i] = x := ⟨_, rfl⟩
                have hcx := hcells i hli
                rw [hxe] at hcx
                have hxr := HRNG.out x (by rw [← hxe]; exact List.getElem_mem _)
                have HXR : Hid (-9223372036854775808 ≤ x ∧ x ≤ 9223372036854775807) := (show _ ∧ _ from by omega)
                have HNX : Hid (li ++ numB yk yw true x = LB ++ (cj.take (i + 1)).flatMap (numB yk yw true)) := by
                  show _ = _
                  rw [List.take_succ_eq_append_getElem hli, hxe, HLI.out]
                  simp
                clear hcells hxe
                have hy0 := HTi.out.c0
                have hq0 := HBi.out.quad.c0
                go_upto_region 19 with fail
                go_quiet (first | (go_at_call 63; exact Calls.quiet_of_same (HESQ.out _)))
                have HKQ : Hid (Keeps [] wi (wi.drewN nq)) := (Keeps.refl _ _).drewN nq
                have HBq := Lib.hid (HBi.out.new HKQ.out)
                have HTq := Lib.hid (HTi.out.keeps HKQ.out (by simp))
                clear HKQ hy0 hq0 hcx HBi HTi
                generalize wi.drewN nq = wz at *
                have hy0 := HTq.out.c0
                have hy1 := HTq.out.c1
                go_wp2_with (first
                  | (go_at_call 58; go_must (with_reducible refine (woPutSigned x yw (Lib.hid HBq.out.wo) HXR (by have := HLIB.out; omega)).mono ?_); rintro e wp ⟨rfl, hwoN, hsN⟩; have HBn := Lib.hid (HBq.out.put hwoN hsN); have HTn := Lib.hid (HTq.out.same hsN (by simp)); clear hwoN hsN))
                go_roundg (cj.length - i)
                case measure => have := HQi.out; omega
                case rel => exact ⟨i + 1, _, by go_num, by omega, (show _ = _ from by have := HQi.out; omega), HNX.out, HBn.out, HTn.out⟩
              · obtain rfl : i = cj.length := by omega
                have hpart : li = l0 ++ partsB m (ys.take (j + 1)) (ps.take (j + 1)) := by
                  rw [HLI.out, List.take_of_length_le (Nat.le_refl _), HSN.out, ← List.append_assoc, ← HLJ.out]
                  unfold partB
                  rw [HE.out, HM4.out]
                  simp [hE, List.append_assoc, ← HLBE.out]
                have HPART := Lib.hid hpart
                have HLN : Hid (li.length ≤ 1000000080 + 40000000 * (j + 1)) := (show _ ≤ _ from by
                  have h1 := HLL.out
                  have h2 := partB_le m (yk, yw, ysz) cj (by omega)
                  rw [HPART.out, HSN.out, ← List.append_assoc, ← HLJ.out, List.length_append]
                  omega)
                have HBE := Lib.hid (HBi.out.less HMEM.out.1 HMEM.out.2.1 HMEM.out.2.2.1 HMEM.out.2.2.2)
                clear hpart
                go_wp2_with fail
                go_roundg (nv - j)
                case measure => have := HQ.out; omega
                case rel => exact ⟨j + 1, li, by go_num, by omega, (show _ = _ from by have := HQ.out; omega), HPART.out, HLN.out, HBE.out⟩
          · have hEb : (yk == (E : Int)) = false := beq_eq_false_iff_ne.2 hE
            have HBL := HBD
            have HTL := HTD
            have HLB : Hid ((lj ++ putB yk M4).length ≤ 600000000000) := (show _ ≤ _ from by have h1 := HLL.out; have h2 := HPK.out; rw [List.length_append]; omega)
            obtain ⟨LB, hLB⟩ : ∃ LB, lj ++ putB yk M4 = LB := ⟨_, rfl⟩
            have HLBE := Lib.hid hLB
            rw [hLB] at HBL HLB
            clear hLB HBD HTD
            go_wp2_with fail
            go_loopg [70] (cj.length + 1) (fun q v70 wr => ∃ (i : Nat) (li : List Bool), v70 = .int .i64 i ∧ i ≤ cj.length ∧ Hid (i + q = cj.length + 1) ∧ Hid (li = LB ++ (cj.take i).flatMap (numB yk yw false)) ∧ Hid (WB6 w wr pw sv li ([g11] ++ BS) g8 m p (.slice (some ⟨gT, 0, none⟩) nv cv) ys S (.slice (some ⟨g39, 0, none⟩) nv c39) vs a L) ∧ Hid (Tri3 wr g11 107 yk yw ysz))
            case atStart => exact ⟨0, LB, rfl, by omega, (show _ = _ from by omega), (show _ = _ from by simp), HBL.out, HTL.out⟩
            case round =>
              obtain ⟨i, li, rfl, hi, HQi, HLI, HBi, HTi⟩ := hrel
              obtain ⟨q3, rfl⟩ : ∃ g : Nat, g = gk := ⟨_, rfl⟩
              obtain ⟨wi, rfl⟩ : ∃ x : World, x = wr := ⟨_, rfl⟩
              clear HBL HTL
              have HLIB : Hid (li.length ≤ 700000000000) := (show _ ≤ _ from by
                have h1 := HLB.out
                have h2 := numsB_le yk yw false (cj.take i)
                have h3 : (cj.take i).length ≤ 600 := by rw [List.length_take]; omega
                rw [HLI.out, List.length_append]
                omega)
              by_cases hli : i < cj.length
              · obtain ⟨bA, oA, rfl, hcells⟩ := (HRDF.out wi HBi.out.rd).form (by omega)
                obtain ⟨x, hxe⟩ : ∃ x, cj[i] = x := ⟨_, rfl⟩
                have hcx := hcells i hli
                rw [hxe] at hcx
                have hxr := HRNG.out x (by rw [← hxe]; exact List.getElem_mem _)
                have HXR : Hid (-9223372036854775808 ≤ x ∧ x ≤ 9223372036854775807) := (show _ ∧ _ from by omega)
                have HNX : Hid (li ++ numB yk yw false x = LB ++ (cj.take (i + 1)).flatMap (numB yk yw false)) := by
                  show _ = _
                  rw [List.take_succ_eq_append_getElem hli, hxe, HLI.out]
                  simp
                clear hcells hxe
                have hy0 := HTi.out.c0
                have hq0 := HBi.out.quad.c0
                go_upto_region 19 with fail
                go_quiet (first | (go_at_call 63; exact Calls.quiet_of_same (HESQ.out _)))
                have HKQ : Hid (Keeps [] wi (wi.drewN nq)) := (Keeps.refl _ _).drewN nq
                have HBq := Lib.hid (HBi.out.new HKQ.out)
                have HTq := Lib.hid (HTi.out.keeps HKQ.out (by simp))
                clear HKQ hy0 hq0 hcx HBi HTi
                generalize wi.drewN nq = wz at *
                have hy0 := HTq.out.c0
                have hy1 := HTq.out.c1
                obtain ⟨f, hfe⟩ : ∃ f, foldS x = f := ⟨_, rfl⟩
                have HFE := Lib.hid hfe
                obtain ⟨f0, f1⟩ := foldS_range x hxr
                rw [hfe] at f0 f1
                have HF01 : Hid (0 ≤ f ∧ f ≤ 4294967296) := (show _ ∧ _ from ⟨f0, f1⟩)
                have HPUT : Hid (∃ (kN P : Nat) (D R : Int), yk = (kN : Int) ∧ kN ≤ 31 ∧ f / 2 ^ kN = D ∧ (2 : Int) ^ kN = (P : Int) ∧ 1 ≤ P ∧ P ≤ 2147483648 ∧ bits .and .i64 f ((P : Int) - 1) = R ∧ 0 ≤ D ∧ D ≤ 4294967296 ∧ 0 ≤ R ∧ R ≤ 2147483648 ∧ numB yk yw false x = unB D ++ putB R yk) := by
                  refine ⟨yk.toNat, 2 ^ yk.toNat, f / 2 ^ yk.toNat, f % 2 ^ yk.toNat, by omega, by omega, rfl, by simp, Nat.two_pow_pos _, ?_, ?_, (div_pow_range f _ f0 f1).1, (div_pow_range f _ f0 f1).2, ?_, ?_, ?_⟩
                  · exact Nat.le_trans (Nat.pow_le_pow_right (by omega) (show yk.toNat ≤ 31 by omega)) (by decide)
                  · have := and_mask yk.toNat (by omega) f
                    rw [← this]; simp
                  · exact Int.emod_nonneg _ (Int.ne_of_gt (Int.pow_pos (by omega)))
                  · have h1 : f % 2 ^ yk.toNat < 2 ^ yk.toNat := Int.emod_lt_of_pos _ (Int.pow_pos (by omega))
                    have h2 : (2 : Int) ^ yk.toNat = ((2 ^ yk.toNat : Nat) : Int) := by simp
                    have h3 : 2 ^ yk.toNat ≤ 2 ^ 31 := Nat.pow_le_pow_right (by omega) (by omega)
                    omega
                  · unfold numB
                    rw [hfe]
                    simp
                clear hfe f0 f1
                obtain ⟨kN, P, D, R, rfl, hkN, hD, hP, hP1, hP2, hand, d0, d1, r0, r1, hnum⟩ := HPUT.out
                have HNUM := Lib.hid hnum
                rw [hP] at hD
                have hw1 : IntKind.i64.wrap (P : Int) = (P : Int) := by rw [IntKind.wrap_i64]; omega
                have hw2 : IntKind.i64.wrap ((P : Int) - 1) = (P : Int) - 1 := by rw [IntKind.wrap_i64]; omega
                go_upto_region 23 with (first
                  | (go_at_call 64; go_must (refine (fold_calls x _ (by omega) (by omega)).mono ?_); rw [HFE.out]; rintro e w3 ⟨rfl, rfl⟩)
                  | (go_at_call 30; go_must (with_reducible refine (woUnary D (Lib.hid HBq.out.wo) (by have := HLIB.out; omega)).mono ?_); rintro e wp ⟨rfl, hwoN, hsN⟩; have HBu := Lib.hid (HBq.out.put hwoN hsN); have HTu := Lib.hid (HTq.out.same hsN (by simp)); clear hwoN hsN))
                clear hD
                have hk0' : (0 : Int) ≤ (kN : Int) := by omega
                have HKR : Hid (-9223372036854775808 ≤ (kN : Int) ∧ (kN : Int) ≤ 9223372036854775807) := (show _ ∧ _ from by omega)
                have HRR : Hid (-9223372036854775808 ≤ R ∧ R ≤ 9223372036854775807) := (show _ ∧ _ from by omega)
                have HLU : Hid ((li ++ unB D).length ≤ 800000000000) := (show _ ≤ _ from by have h1 := HLIB.out; have h2 := unB_le D; rw [List.length_append]; omega)
                have HBV := Lib.hid (HBu.out.new ((Keeps.refl [] wp).drew))
                have HTV := Lib.hid (HTu.out.keeps ((Keeps.refl [] wp).drew) (by simp))
                have hz0 := HTu.out.c0
                clear HPUT hnum HBq HTq hy0 hy1
                go_region_held3 (fun w' => w'.cell? ⟨g11, 0, none⟩ = some (.int .i64 (kN : Int)))
                  (first
                    | (exact hz0)
                    | (exact hsN.cell hz0 (by simp))
                    | go_keep)
                  (first
                    | (go_at_call 12; go_must (with_reducible refine (woPut R kN (Lib.hid HBV.out.wo) HRR HLU.out).mono ?_); rintro e wq ⟨rfl, hwoN, hsN⟩))
                have HBn := Lib.hid (HBV.out.put hwoN hsN)
                have HTn := Lib.hid (HTV.out.same hsN (by simp))
                clear hwoN hsN
                go_wp2_with fail
                go_roundg (cj.length - i)
                case measure => have := HQi.out; omega
                case rel => exact ⟨i + 1, _, by go_num, by omega, (show _ = _ from by have := HQi.out; omega), HNX.out, by rw [HNUM.out, ← List.append_assoc]; exact HBn.out, HTn.out⟩
              · obtain rfl : i = cj.length := by omega
                have hpart : li = l0 ++ partsB m (ys.take (j + 1)) (ps.take (j + 1)) := by
                  rw [HLI.out, List.take_of_length_le (Nat.le_refl _), HSN.out, ← List.append_assoc, ← HLJ.out]
                  unfold partB
                  rw [HE.out, HM4.out]
                  simp [hE, List.append_assoc, ← HLBE.out]
                have HPART := Lib.hid hpart
                have HLN : Hid (li.length ≤ 1000000080 + 40000000 * (j + 1)) := (show _ ≤ _ from by
                  have h1 := HLL.out
                  have h2 := partB_le m (yk, yw, ysz) cj (by omega)
                  rw [HPART.out, HSN.out, ← List.append_assoc, ← HLJ.out, List.length_append]
                  omega)
                have HBE := Lib.hid (HBi.out.less HMEM.out.1 HMEM.out.2.1 HMEM.out.2.2.1 HMEM.out.2.2.2)
                clear hpart
                go_wp2_with fail
                go_roundg (nv - j)
                case measure => have := HQ.out; omega
                case rel => exact ⟨j + 1, li, by go_num, by omega, (show _ = _ from by have := HQ.out; omega), HPART.out, HLN.out, HBE.out⟩
      · obtain rfl : j = nv := by omega
        have hfin : lj = l ++ writeB L o := by
          have h1 := HLJ.out
          rw [List.take_of_length_le (by rw [HYL.out]; exact Nat.le_refl _), List.take_of_length_le (by rw [HNV.out]; exact Nat.le_refl _)] at h1
          rw [h1, HWB.out, ← HL0.out]
          simp only [List.append_assoc]
        have HFIN := Lib.hid hfin
        clear hfin
        go_wp2_with fail
        go_ret
        refine ⟨rfl, ?_⟩
        rw [← HFIN.out]
        exact HBj.out.wo.wrote
  · obtain ⟨E, hE⟩ : ∃ E, rchkE L order = E := ⟨_, rfl⟩
    have hz : rwB L order = [] := by unfold rwB; rw [if_neg he]
    rw [hE] at HCK he ⊢
    rw [hz, List.append_nil]
    have hEb : (E == 0) = false := beq_eq_false_iff_ne.2 he
    have hEb2 : (E != 0) = true := bne_iff_ne.2 he
    clear hz hE
    go_enter Tryd.func32, Tryd.ntmps32
    go_wp2_with (first
      | (go_at_call 59; go_must (refine (HCK.out _ (Keeps.refl _ _)).mono ?_; rintro e w1 ⟨rfl, rfl⟩)))
    go_ret
    exact ⟨rfl, Wrote.refl hW.out⟩
end Go.Proofs.YtofkiimaoahfjaaDoor

set_option maxRecDepth 100000
set_option linter.unusedVariables false
set_option linter.unusedSimpArgs false
namespace Go.Proofs.YtofkiimaoahfjaaDoor
open Go.RowKit Go.Proofs.YtofkiimaoahfjaaDoor.Pure

theorem wsRice (L : List Int) (order : Int) (n : Nat) (hn : n = L.length) (a : Option Addr) (c : Nat) {w0 w1 w : World} {p : Nat} {l : List Bool} (hW : Hid (WS w0 w1 p l)) (hk : Hid (Keeps [] w1 w)) (hnc : a = none → c = 0) (hl : L.length ≤ 600) (hc : L.length ≤ c) (h1 : -9223372036854775808 ≤ order ∧ order ≤ 9223372036854775807) (hx : Hid (Rd w .i64 a L))
    (hb : l.length ≤ 1000000000) (hf : ∀ ad, a = some ad → 0 < L.length → ad.block < w0.heap.size ∨ w1.heap.size ≤ ad.block) :
    Calls Tryd.prog 32 #[.pointer (some ⟨p, 0, none⟩), .slice a n c, .int .i64 order] w fun e w' => e = .returned (.int .i64 (rchkE L order)) ∧ WS w0 w' p (l ++ rwB L order) := by
  obtain ⟨k1, sv, k2, k3, k4⟩ := hW.out
  have hpl := k2.duo.lt
  have hsl := k2.row.lt
  refine (rwrite_calls L order n hn a c w p sv l hnc hl hc h1 hx (Lib.hid (k2.new hk.out)) hb ?_).mono fun e w' ⟨he, hw⟩ => ⟨he, WS.wrote (k1.new hk.out) k3 k4 hw⟩
  intro ad e h0 hm
  rcases List.mem_cons.1 hm with hm | hm
  · rcases hf ad e h0 with h | h <;> omega
  · have h5 := k4 _ hm
    have h6 := hsl _ hm
    rcases hf ad e h0 with h | h <;> omega

theorem kn6 : rchkE [1, -1] 0 = 0 ∧ rwB [1, -1] 0 = [false, false, false, false, false, false, false, false, false, false, false, false, true, false, true] := by decide +kernel
theorem kn6Pack : pack [false, false, false, false, false, false, false, false, false, false, false, false, true, false, true] = [0, 10] := by decide +kernel

end Go.Proofs.YtofkiimaoahfjaaDoor
