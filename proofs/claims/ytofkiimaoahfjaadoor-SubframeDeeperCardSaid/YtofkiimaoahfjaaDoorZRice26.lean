/-
  Layer 6 (rice), the document's side: DocWrite.
-/
import Derived.Test.YtofkiimaoahfjaaDoorZRice24
import Derived.Test.YtofkiimaoahfjaaDoorZRice21
set_option maxRecDepth 100000
set_option linter.unusedVariables false
set_option linter.unusedSimpArgs false
namespace Go.Proofs.YtofkiimaoahfjaaDoor
open Go.RowKit Go.Proofs.YtofkiimaoahfjaaDoor.Pure

theorem cand_all (m : Nat) : ∀ (ps : List (List Int)) (acc : List T3) (s : Int), (candGo m ps acc s).2.2 = true → ∀ c ∈ ps, (bestS c m).2 = true := by
  intro ps
  induction ps with
  | nil => intro acc s _ c hc; cases hc
  | cons d ps ih =>
    intro acc s h c hc
    rw [cand_cons] at h
    split at h
    · rename_i hb
      rcases List.mem_cons.1 hc with rfl | hc
      · exact hb
      · exact ih _ _ h c hc
    · cases h
/-- What the document writes by its choices. -/
theorem bits_put (n k : Nat) (hk : k ≤ 32) (h : n < 2 ^ k) : bitsN k n = putB (n : Int) (k : Int) := by
  unfold putB
  rw [if_pos (putE_small n k hk h), Int.toNat_natCast, Int.toNat_natCast]

set_option maxHeartbeats 16000000 in
set_option maxRecDepth 100000 in
theorem docWrite_calls (L : List Int) (order : Int) (n : Nat) (hn : n = L.length) (a : Option Addr) (c : Nat) (w : World) (hnc : a = none → c = 0) (hl : L.length ≤ 17592186043904) (hc : L.length ≤ c) (h1 : -9223372036854775808 ≤ order ∧ order ≤ 9223372036854775807) (hx : Hid (Rd w .i64 a L)) :
    Calls Tryd.prog 68 #[.slice a n c, .int .i64 order] w fun e w' => e = .returned (.tuple #[.string (dstr (rwB L order)), .int .i64 (rchkE L order)]) ∧ Keeps [] w w' := by
  subst hn
  have ed : dstr [] = ⟨#[]⟩ := rfl
  have HCK := Lib.hid (dcheck_calls L order _ rfl a c w h1 hl hx)
  by_cases he : rchkE L order = 0
  · obtain ⟨⟨g1, g2, g3, g4⟩, hin⟩ := rchk_ok L order he
    obtain ⟨o, rfl⟩ : ∃ o : Nat, order = (o : Int) := ⟨order.toNat, by omega⟩
    have hl6 : L.length ≤ 600 := by omega
    have ho8 : o ≤ 8 := by omega
    have HB := Lib.hid (fun W (hk : Keeps [] w W) => dbest_calls L o _ rfl a c W hnc hl6 hc ho8 hin (Lib.hid (hx.out.new hk)))
    obtain ⟨m, p, e1, e2, hm, hp, hf, hcd, _⟩ := choose_plan hl6 hin (order := o) (by omega)
    have hmem := partsS_mem L o p
    have hgo : (candGo m (partsS L o p) [] 6).2.2 = true := by rw [hcd]
    have hpp := candGo_parts m (partsS L o p) [] 6 hgo
    have e3 : (chooseS L o).2.2.1 = (partsS L o p).map (fun c => (bestS c m).1) := by rw [← List.nil_append (List.map _ _), ← hpp, hcd]
    have hall := cand_all m (partsS L o p) [] 6 hgo
    have hw : rwB L (o : Int) = putB (m : Int) 2 ++ (putB (p : Int) 4 ++ partsB m ((partsS L o p).map (fun c => (bestS c m).1)) (partsS L o p)) := by
      unfold rwB
      rw [if_pos he, Int.toNat_natCast]
      unfold writeB
      rw [e1, e2, e3, Int.toNat_natCast, Int.toNat_natCast, List.append_assoc]
    have hpn : (partsS L o p).length = 2 ^ p := partsS_length L o p
    have hP16 : 2 ^ p ≤ 16 := Nat.pow_le_pow_right (show 0 < 2 by omega) hp
    have HPY := Lib.hid (fun W (hk : Keeps [] w W) => refParts_calls L o p _ rfl a c W hnc (by omega) hl6 hc ho8 hf (Lib.hid (hx.out.new hk)))
    obtain ⟨RB, hRB⟩ : ∃ RB, rwB L (o : Int) = RB := ⟨_, rfl⟩
    rw [hRB] at hw
    rw [hRB, he]
    rw [he] at HCK
    rw [e1, e2] at HB
    generalize (chooseS L o).2.2.2 = SZ at *
    have HPP : Hid (∀ W0, Rd W0 .i64 a L → True) := fun _ _ => trivial
    obtain ⟨PP, hPP⟩ : ∃ PP, partsS L o p = PP := ⟨_, rfl⟩
    rw [hPP] at hmem hall hw hpn HPY
    obtain ⟨YS, hYS⟩ : ∃ YS, PP.map (fun c => (bestS c m).1) = YS := ⟨_, rfl⟩
    have hYl : YS.length = PP.length := by rw [← hYS, List.length_map]
    have hYat : ∀ i (h : i < PP.length) (h2 : i < YS.length), YS[i] = (bestS PP[i] m).1 := by
      intro i h h2
      simp [← hYS]
    rw [hYS] at hw
    have b2 : bitsN 2 m = putB (m : Int) 2 := bits_put m 2 (by omega) (by omega)
    have b4 : bitsN 4 p = putB (p : Int) 4 := bits_put p 4 (by omega) (by omega)
    have HD2 : Hid (∀ W, Calls Tryd.prog 41 #[.int .i64 m, .int .i64 2] W fun e w' => e = .returned (.string (dstr (bitsN 2 m))) ∧ Keeps [] W w') := fun W => digits_calls m 2 W (by omega) (by omega)
    have HD4 : Hid (∀ W, Calls Tryd.prog 41 #[.int .i64 p, .int .i64 4] W fun e w' => e = .returned (.string (dstr (bitsN 4 p))) ∧ Keeps [] W w') := fun W => digits_calls p 4 W (by omega) (by omega)
    rw [b2] at HD2
    rw [b4] at HD4
    obtain ⟨Z, hZ⟩ : ∃ Z, putB (m : Int) 2 ++ putB (p : Int) 4 = Z := ⟨_, rfl⟩
    have hZl : Z.length ≤ 64 := by
      rw [← hZ, List.length_append]
      have q1 := putB_le (m : Int) 2
      have q2 := putB_le (p : Int) 4
      omega
    have hadd1 : ∀ W, (Op.stringOp .add (dstr (putB (m : Int) 2)) (dstr (putB (p : Int) 4))).run Tryd.prog W = .ok (.string (dstr Z)) W := by
      intro W
      rw [run_dstr_add Tryd.prog _ _ (by have q1 := putB_le (m : Int) 2; have q2 := putB_le (p : Int) 4; omega) W, hZ]
    rw [← List.append_assoc, hZ] at hw
    obtain ⟨EE, hEE⟩ : ∃ EE : Nat, escS m = EE := ⟨_, rfl⟩
    have hE31 : EE ≤ 31 := by rw [← hEE]; exact escS_le m hm
    have hE2 : EE < 2 ^ (4 + m) := by rw [← hEE]; unfold escS; have := Nat.two_pow_pos (4 + m); omega
    have HEE := Lib.hid hEE
    have HL2 : Hid (∀ W : World, (W.alloc (.cells #[.int .i64 15, .int .i64 31] 3)).cell? ⟨W.heap.size, m, none⟩ = some (.int .i64 (EE : Int))) := by
      intro W
      have := dlit2_cell 3 m hm W
      rwa [hEE] at this
    have HW := Lib.hid hw
    have HALL := Lib.hid hall
    have HMEM := Lib.hid hmem
    have HIN := Lib.hid hin
    have HYL := Lib.hid hYl
    have HYA := Lib.hid hYat
    have HE2 := Lib.hid hE2
    obtain ⟨np, hnp⟩ : ∃ np, PP.length = np := ⟨_, rfl⟩
    have hnp16 : np ≤ 16 ∧ 0 < np := by rw [← hnp, hpn]; exact ⟨hP16, Nat.two_pow_pos p⟩
    have HNP := Lib.hid hnp
    clear he g1 g2 g3 g4 hin e1 e2 hf hcd hmem hgo hpp e3 hall hw hpn hP16 hRB hPP hYS hYl hYat b2 b4 hZ hEE hE2 hnc hc hl HPP hnp
    go_enter Tryd.func68, Tryd.ntmps68
    go_wp2_with (first
      | (go_at_call 99; go_must (refine HCK.out.mono ?_); rintro e w3 ⟨rfl, hk3⟩; have HK3 := Lib.hid hk3; clear hk3)
      | (go_at_call 100; go_must (refine (HB.out _ HK3.out).mono ?_); rintro e w4 ⟨rfl, hk4⟩; have HK4 := Lib.hid (HK3.out.new hk4); clear hk4)
      | (go_at_call 41; go_must (first | (with_reducible refine (HD2.out w4).mono ?_; rintro e w5 ⟨rfl, hk5⟩; have HK5 := Lib.hid (HK4.out.new hk5); clear hk5) | (with_reducible refine (HD4.out w5).mono ?_; rintro e w6 ⟨rfl, hk6⟩; have HK6 := Lib.hid (HK5.out.new hk6); clear hk6)))
      | (go_at_call 101; go_must (refine (HPY.out _ HK6.out).mono ?_); rintro e w7 ⟨v, vs, rfl, hrv, -, hpo, hk7⟩; have HK7 := Lib.hid (HK6.out.new hk7); have hpo2 := hpo w7 ((hx.out.new HK6.out).new hk7); have hvl := hpo2.length; have hvl2 : vs.length = np := hvl.trans HNP.out; obtain ⟨g11, c11, rfl⟩ := hrv.form (by omega); rw [hvl2] at hrv; have HRV := Lib.hid hrv; have HPO := Lib.hid hpo2; rw [hvl2]; have HVL := Lib.hid hvl2; clear hk7 hpo hpo2 hrv hvl hvl2))
    clear hadd1
    go_loopg [10, 12] (np + 1) (fun q v10 v12 wr => ∃ (i : Nat) (T : List Bool), v12 = .int .i64 i ∧ v10 = .string (dstr T) ∧ i ≤ np ∧ Hid (T = Z ++ partsB m (YS.take i) (PP.take i)) ∧ Hid (T.length ≤ 64 + 40000000 * i) ∧ Hid (i + q = np + 1) ∧ Hid (Keeps [] w7 wr))
    case atStart => exact ⟨0, Z, rfl, rfl, by omega, (show _ = _ from by simp [partsB]), (show _ ≤ _ from by omega), (show _ = _ from by omega), Keeps.refl _ _⟩
    case round =>
      obtain ⟨i, T, rfl, rfl, hi, HT, HTL, HQ, HK⟩ := hrel
      obtain ⟨q1, rfl⟩ : ∃ g : Nat, g = gk := ⟨_, rfl⟩
      obtain ⟨wa, rfl⟩ : ∃ y : World, y = wr := ⟨_, rfl⟩
      by_cases hlt : i < np
      · have hi2 : i < PP.length := by rw [HNP.out]; exact hlt
        have hi3 : i < YS.length := by rw [HYL.out]; exact hi2
        have hvi : i < vs.length := by rw [HVL.out]; exact hlt
        have hsn := partsB_snoc m YS PP i hi3 hi2
        rw [HYA.out i hi2 hi3] at hsn
        have hbok := HALL.out PP[i] (List.getElem_mem _)
        have hmi := HMEM.out PP[i] (List.getElem_mem _)
        obtain ⟨ai, ci, hve, hrd, -⟩ := HPO.out.at_ i hvi hi2
        obtain ⟨d, hd⟩ : ∃ d, PP[i] = d := ⟨_, rfl⟩
        rw [hd] at hsn hbok hmi hve hrd
        have HCELL : Hid (∀ W, Keeps [] w7 W → W.cell? ⟨g11, i, none⟩ = some (.slice ai d.length ci)) := by
          intro W hk
          have := hk.cell (HRV.out.cell i hvi) (by simp)
          rwa [hve] at this
        have HRDD := Lib.hid hrd
        have hdin : ∀ x ∈ d, -2147483648 < x ∧ x < 2147483648 := fun x hx => HIN.out x (hmi.1 x hx)
        have HDIN := Lib.hid hdin
        have hdl : d.length ≤ 600 := by have := hmi.2; omega
        have hcall := dchoice_calls d m _ rfl ai ci wa hm hdl hdin (Lib.hid (hrd.new HK.out))
        have hch : choiceS d m = (bestS d m).1 := by unfold choiceS; rw [if_pos hbok]
        rw [hch] at hcall
        have hpl := partB_le m (bestS d m).1 d hdl
        have hcell0 := HCELL.out wa HK.out
        obtain ⟨nd, hnd⟩ : ∃ nd, d.length = nd := ⟨_, rfl⟩
        have hnd6 : nd ≤ 600 := by omega
        rw [hnd] at hcall hcell0 HCELL
        have HND := Lib.hid hnd
        rcases bestS_good d m hdin hbok with ⟨hb1, hb2, hb3, hb4⟩ | ⟨k, hb1, hb2, hb3⟩
        · obtain ⟨ww, hww⟩ : ∃ ww : Nat, widthS d = ww := ⟨(widthS d).toNat, by omega⟩
          rw [hww] at hb1 hb3 hb4
          obtain ⟨b3, hb3e⟩ : ∃ b3 : Int, 5 + (ww : Int) * (d.length : Int) = b3 := ⟨_, rfl⟩
          rw [hb3e, HEE.out] at hb1
          rw [hb1] at hcall hsn hpl
          have hp1 : bitsN (4 + m) EE = putB (EE : Int) ((4 + m : Nat) : Int) := bits_put EE (4 + m) (by omega) HE2.out
          have hp2 : bitsN 5 ww = putB (ww : Int) 5 := bits_put ww 5 (by omega) (by omega)
          have hpart : partB m ((EE : Int), (ww : Int), b3) d = putB (EE : Int) ((4 + m : Nat) : Int) ++ putB (ww : Int) 5 ++ d.flatMap (fun n => psB n ww) := by
            unfold partB
            rw [HEE.out, if_pos rfl, decide_eq_true rfl]
            congr 1
          have HDK := Lib.hid (fun W => digits_calls EE (4 + m) W (by omega) (by omega))
          have HDW : Hid (∀ W, Calls Tryd.prog 41 #[.int .i64 ww, .int .i64 5] W fun e w' => e = .returned (.string (dstr (bitsN 5 ww))) ∧ Keeps [] W w') := fun W => digits_calls ww 5 W (by omega) (by omega)
          rw [hp1] at HDK
          rw [hp2] at HDW
          have hl1 := putB_le (EE : Int) ((4 + m : Nat) : Int)
          have hl2 := putB_le (ww : Int) 5
          obtain ⟨A1, hA1⟩ : ∃ A1, putB (EE : Int) ((4 + m : Nat) : Int) = A1 := ⟨_, rfl⟩
          obtain ⟨A2, hA2⟩ : ∃ A2, putB (ww : Int) 5 = A2 := ⟨_, rfl⟩
          rw [hA1] at HDK hpart hl1
          rw [hA2] at HDW hpart hl2
          have hadd1 : ∀ W, (Op.stringOp .add (dstr T) (dstr A1)).run Tryd.prog W = .ok (.string (dstr (T ++ A1))) W := fun W => run_dstr_add Tryd.prog _ _ (by have := HTL.out; omega) W
          have hadd2 : ∀ W, (Op.stringOp .add (dstr (T ++ A1)) (dstr A2)).run Tryd.prog W = .ok (.string (dstr (T ++ A1 ++ A2))) W := fun W => run_dstr_add Tryd.prog _ _ (by have := HTL.out; rw [List.length_append]; omega) W
          have HNXT : Hid (T ++ A1 ++ A2 ++ d.flatMap (fun n => psB n ww) = Z ++ partsB m (YS.take (i + 1)) (PP.take (i + 1))) := by
            show _ = _
            rw [hsn, hpart, ← List.append_assoc Z, ← HT.out]
            simp only [List.append_assoc]
          have HTLN : Hid ((T ++ A1 ++ A2).length ≤ 64 + 40000000 * i + 64) := (show _ ≤ _ from by have := HTL.out; rw [List.length_append, List.length_append]; omega)
          have HTLN2 : Hid ((T ++ A1 ++ A2 ++ d.flatMap (fun n => psB n ww)).length ≤ 64 + 40000000 * (i + 1)) := by
            show _ ≤ _
            have h3 := HTL.out
            have h4 : (T ++ A1 ++ A2 ++ d.flatMap (fun n => psB n ww)).length = T.length + (partB m ((EE : Int), (ww : Int), b3) d).length := by rw [hpart]; simp only [List.length_append]; omega
            rw [h4]
            omega
          have HCC := Lib.hid hcall
          have hKEb : ((EE : Int) == (EE : Int)) = true := beq_self_eq_true _
          obtain ⟨M4, hM4⟩ : ∃ M4 : Nat, 4 + m = M4 := ⟨_, rfl⟩
          have hm4 : (4 : Int) + (m : Int) = (M4 : Int) := by omega
          have hM45 : M4 ≤ 5 := by omega
          rw [hM4] at HDK
          clear hM4
          clear hcall hsn hpart hpl hbok hmi hve hrd hch hp1 hp2 hA1 hA2 hb1 hb2 hb3e hd hdin hdl hnd hww hvi hi2 hi3
          generalize hAA : T ++ A1 ++ A2 = T2 at *
          clear hAA hl1 hl2
          go_upto_region 12 with (first
            | (go_at_call 102; go_must (refine HCC.out.mono ?_); rintro e wb ⟨rfl, hk8⟩; have HK8 := Lib.hid (HK.out.new hk8); clear hk8)
            | (go_at_call 41; go_must (with_reducible refine (HDK.out _).mono ?_); rintro e wd ⟨rfl, hk9⟩; have HK9 := Lib.hid (HK8.out.new hk9); clear hk9))
          have hlc := HL2.out wd
          have HK10 := Lib.hid (HK9.out.new ((Keeps.refl [] wd).alloc (.cells #[.int .i64 15, .int .i64 31] 3)))
          go_upto_region 13 with fail
          generalize wd.alloc (.cells #[.int .i64 15, .int .i64 31] 3) = we at *
          clear hlc hcell0
          go_wp2_with (first
            | (go_at_call 41; go_must (with_reducible refine (HDW.out _).mono ?_); rintro e wf ⟨rfl, hk11⟩; have HK11 := Lib.hid (HK10.out.new hk11); clear hk11))
          clear hadd1 hadd2
          go_loopg [10, 17] (nd + 1) (fun q v10 v17 wr => ∃ (j : Nat) (S : List Bool), v17 = .int .i64 j ∧ v10 = .string (dstr S) ∧ j ≤ nd ∧ Hid (S = T2 ++ (d.take j).flatMap (fun n => psB n ww)) ∧ Hid (S.length ≤ 64 + 40000000 * i + 64 + 40 * j) ∧ Hid (j + q = nd + 1) ∧ Hid (Keeps [] w7 wr))
          case atStart => exact ⟨0, T2, rfl, rfl, by omega, (show _ = _ from by simp), (show _ ≤ _ from by have := HTLN.out; omega), (show _ = _ from by omega), HK11.out⟩
          case round =>
            obtain ⟨j, S, rfl, rfl, hj, HS, HSL, HQ2, HK12⟩ := hrel
            obtain ⟨q2, rfl⟩ : ∃ g : Nat, g = gk := ⟨_, rfl⟩
            obtain ⟨wg, rfl⟩ : ∃ y : World, y = wr := ⟨_, rfl⟩
            have hcell0 := HCELL.out wg HK12.out
            by_cases hlt2 : j < nd
            · have hj2 : j < d.length := by rw [HND.out]; exact hlt2
              obtain ⟨bj, oj, hae, hcj⟩ := (HRDD.out.new HK12.out).at_ j hj2
              obtain ⟨x, hxe⟩ : ∃ x, d[j] = x := ⟨_, rfl⟩
              rw [hxe] at hcj
              have hxr := HDIN.out x (by rw [← hxe]; exact List.getElem_mem _)
              have htk : d.take (j + 1) = d.take j ++ [x] := by rw [List.take_succ_eq_append_getElem hj2, hxe]
              have hps := psB_le x (ww : Int)
              have HPS := Lib.hid (fun W => refPutSigned_calls x (ww : Int) W (show _ ∧ _ from by omega))
              obtain ⟨B, hB⟩ : ∃ B, psB x (ww : Int) = B := ⟨_, rfl⟩
              rw [hB] at hps HPS
              have hadd : ∀ W, (Op.stringOp .add (dstr S) (dstr B)).run Tryd.prog W = .ok (.string (dstr (S ++ B))) W := fun W => run_dstr_add Tryd.prog _ _ (by have := HSL.out; omega) W
              have HSN : Hid (S ++ B = T2 ++ (d.take (j + 1)).flatMap (fun n => psB n ww)) := by
                show _ = _
                rw [htk, List.flatMap_append, ← List.append_assoc, ← HS.out, ← hB]
                simp
              have HSLN : Hid ((S ++ B).length ≤ 64 + 40000000 * i + 64 + 40 * (j + 1)) := (show _ ≤ _ from by have := HSL.out; rw [List.length_append]; omega)
              subst hae
              generalize psE x (ww : Int) = PE at *
              clear htk hxe hB hj2
              go_wp2_with (first
                | (go_at_call 66; go_must (with_reducible refine (HPS.out _).mono ?_); rintro e wh ⟨rfl, hk13⟩; have HK13 := Lib.hid (HK12.out.new hk13); clear hk13))
              go_roundg (nd - j)
              case measure => have := HQ2.out; omega
              case rel => exact ⟨j + 1, S ++ B, by go_num, rfl, by omega, HSN.out, HSLN.out, (show _ = _ from by have := HQ2.out; omega), HK13.out⟩
            · obtain rfl : j = nd := by omega
              have hs := HS.out
              rw [List.take_of_length_le (by rw [HND.out]; exact Nat.le_refl _)] at hs
              have HSF : Hid (S = Z ++ partsB m (YS.take (i + 1)) (PP.take (i + 1))) := hs.trans HNXT.out
              have HSF2 : Hid (S.length ≤ 64 + 40000000 * (i + 1)) := by show _ ≤ _; rw [hs]; exact HTLN2.out
              clear hs
              go_wp2_with fail
              go_roundg (np - i)
              case measure => have := HQ.out; omega
              case rel => exact ⟨i + 1, S, by go_num, rfl, by omega, HSF.out, HSF2.out, (show _ = _ from by have := HQ.out; omega), HK12.out⟩
        · rw [hb3] at hcall hsn hpl
          rw [HEE.out] at hb1
          have hk31 : k ≤ 31 := by omega
          obtain ⟨b3, hb3e⟩ : ∃ b3 : Int, szK k (d.map foldS) = b3 := ⟨_, rfl⟩
          rw [hb3e] at hcall hsn hpl
          have hfm := far_mem hb2
          have hp1 : bitsN (4 + m) k = putB (k : Int) ((4 + m : Nat) : Int) := bits_put k (4 + m) (by omega) (by have := HE2.out; omega)
          have hne : ¬ ((k : Int) = (EE : Int)) := by omega
          have hpart : partB m ((k : Int), 0, b3) d = putB (k : Int) ((4 + m : Nat) : Int) ++ d.flatMap (numB (k : Int) 0 false) := by
            unfold partB
            rw [HEE.out, if_neg hne, decide_eq_false hne, List.append_nil]
          have HDK := Lib.hid (fun W => digits_calls k (4 + m) W (by omega) (by omega))
          rw [hp1] at HDK
          have hl1 := putB_le (k : Int) ((4 + m : Nat) : Int)
          obtain ⟨A1, hA1⟩ : ∃ A1, putB (k : Int) ((4 + m : Nat) : Int) = A1 := ⟨_, rfl⟩
          rw [hA1] at HDK hpart hl1
          have hadd1 : ∀ W, (Op.stringOp .add (dstr T) (dstr A1)).run Tryd.prog W = .ok (.string (dstr (T ++ A1))) W := fun W => run_dstr_add Tryd.prog _ _ (by have := HTL.out; omega) W
          have HNXT : Hid (T ++ A1 ++ d.flatMap (numB (k : Int) 0 false) = Z ++ partsB m (YS.take (i + 1)) (PP.take (i + 1))) := by
            show _ = _
            rw [hsn, hpart, ← List.append_assoc Z, ← HT.out]
            simp only [List.append_assoc]
          have HTLN : Hid ((T ++ A1).length ≤ 64 + 40000000 * i + 64) := (show _ ≤ _ from by have := HTL.out; rw [List.length_append]; omega)
          have HTLN2 : Hid ((T ++ A1 ++ d.flatMap (numB (k : Int) 0 false)).length ≤ 64 + 40000000 * (i + 1)) := by
            show _ ≤ _
            have h3 := HTL.out
            have h4 : (T ++ A1 ++ d.flatMap (numB (k : Int) 0 false)).length = T.length + (partB m ((k : Int), 0, b3) d).length := by rw [hpart]; simp only [List.length_append]; omega
            rw [h4]
            omega
          have HCC := Lib.hid hcall
          have hKEb : ((k : Int) == (EE : Int)) = false := beq_eq_false_iff_ne.2 hne
          obtain ⟨M4, hM4⟩ : ∃ M4 : Nat, 4 + m = M4 := ⟨_, rfl⟩
          have hm4 : (4 : Int) + (m : Int) = (M4 : Int) := by omega
          have hM45 : M4 ≤ 5 := by omega
          rw [hM4] at HDK
          clear hM4
          obtain ⟨P, hP⟩ : ∃ P : Nat, 2 ^ k = P := ⟨_, rfl⟩
          have hPi : (2 : Int) ^ k = (P : Int) := by rw [← hP]; simp
          have hP0 : 0 < P := by rw [← hP]; exact Nat.two_pow_pos k
          have hPb : P ≤ 2147483648 := by rw [← hP]; exact Nat.pow_le_pow_right (show 0 < 2 by omega) hk31
          have HPI := Lib.hid hPi
          have HFM := Lib.hid hfm
          clear hcall hsn hpart hpl hbok hmi hve hrd hch hp1 hA1 hb2 hb3e hb3 hd hdin hdl hnd hvi hi2 hi3 hne hfm hP hPi
          generalize hAA : T ++ A1 = T2 at *
          clear hAA hl1
          go_upto_region 12 with (first
            | (go_at_call 102; go_must (refine HCC.out.mono ?_); rintro e wb ⟨rfl, hk8⟩; have HK8 := Lib.hid (HK.out.new hk8); clear hk8)
            | (go_at_call 41; go_must (with_reducible refine (HDK.out _).mono ?_); rintro e wd ⟨rfl, hk9⟩; have HK9 := Lib.hid (HK8.out.new hk9); clear hk9))
          have hlc := HL2.out wd
          have HK10 := Lib.hid (HK9.out.new ((Keeps.refl [] wd).alloc (.cells #[.int .i64 15, .int .i64 31] 3)))
          go_upto_region 13 with fail
          generalize wd.alloc (.cells #[.int .i64 15, .int .i64 31] 3) = we at *
          clear hlc hcell0
          go_wp2_with fail
          clear hadd1
          go_loopg [10, 17] (nd + 1) (fun q v10 v17 wr => ∃ (j : Nat) (S : List Bool), v17 = .int .i64 j ∧ v10 = .string (dstr S) ∧ j ≤ nd ∧ Hid (S = T2 ++ (d.take j).flatMap (numB (k : Int) 0 false)) ∧ Hid (S.length ≤ 64 + 40000000 * i + 64 + 65600 * j) ∧ Hid (j + q = nd + 1) ∧ Hid (Keeps [] w7 wr))
          case atStart => exact ⟨0, T2, rfl, rfl, by omega, (show _ = _ from by simp), (show _ ≤ _ from by have := HTLN.out; omega), (show _ = _ from by omega), HK10.out⟩
          case round =>
            obtain ⟨j, S, rfl, rfl, hj, HS, HSL, HQ2, HK12⟩ := hrel
            obtain ⟨q2, rfl⟩ : ∃ g : Nat, g = gk := ⟨_, rfl⟩
            obtain ⟨wg, rfl⟩ : ∃ y : World, y = wr := ⟨_, rfl⟩
            have hcell0 := HCELL.out wg HK12.out
            by_cases hlt2 : j < nd
            · have hj2 : j < d.length := by rw [HND.out]; exact hlt2
              obtain ⟨bj, oj, hae, hcj⟩ := (HRDD.out.new HK12.out).at_ j hj2
              obtain ⟨x, hxe⟩ : ∃ x, d[j] = x := ⟨_, rfl⟩
              rw [hxe] at hcj
              have hxm : x ∈ d := by rw [← hxe]; exact List.getElem_mem _
              have hxr := HDIN.out x hxm
              have htk : d.take (j + 1) = d.take j ++ [x] := by rw [List.take_succ_eq_append_getElem hj2, hxe]
              have hnl := numB_le (k : Int) 0 false x
              have hf65 := HFM.out x hxm
              have hfr := foldS_far x hxr
              have hdr := div_pow_range (foldS x) k hfr.1 (by omega)
              have hnb : numB (k : Int) 0 false x = unB (foldS x / 2 ^ k) ++ putB (foldS x % 2 ^ k) k := by unfold numB; rw [if_neg (by simp), Int.toNat_natCast]
              have HFO := Lib.hid (fun W => dfold_calls x W (by omega))
              obtain ⟨f, hf⟩ : ∃ f, foldS x = f := ⟨_, rfl⟩
              rw [hf, HPI.out] at hnb hdr hf65
              rw [hf] at HFO hfr
              obtain ⟨D, hD⟩ : ∃ D, f / (P : Int) = D := ⟨_, rfl⟩
              rw [hD] at hnb hdr hf65
              have hr0 := Int.emod_nonneg f (show (P : Int) ≠ 0 by omega)
              have hr1 := Int.emod_lt_of_pos f (show (0 : Int) < P by omega)
              have hrm : f.tmod (P : Int) = f % (P : Int) := Int.tmod_eq_emod_of_nonneg hfr.1
              obtain ⟨Rn, hRn⟩ : ∃ Rn : Nat, f % (P : Int) = Rn := ⟨(f % (P : Int)).toNat, by omega⟩
              rw [hRn] at hnb hr0 hr1 hrm
              have hRP : Rn < 2 ^ k := by
                have h5 := HPI.out
                have h6 : ((2 ^ k : Nat) : Int) = 2 ^ k := by simp
                omega
              have hp2 : bitsN k Rn = putB (Rn : Int) (k : Int) := bits_put Rn k (by omega) hRP
              have HDR := Lib.hid (fun W => digits_calls Rn k W (by omega) (by omega))
              rw [hp2] at HDR
              have HUN := Lib.hid (fun W => refUnary_calls D W)
              have hul := unB_le D
              have hpl := putB_le (Rn : Int) (k : Int)
              obtain ⟨B1, hB1⟩ : ∃ B1, unB D = B1 := ⟨_, rfl⟩
              obtain ⟨B2, hB2⟩ : ∃ B2, putB (Rn : Int) (k : Int) = B2 := ⟨_, rfl⟩
              rw [hB1] at hnb HUN hul
              rw [hB2] at hnb HDR hpl
              have haddn : ∀ W, (Op.stringOp .add (dstr B1) (dstr B2)).run Tryd.prog W = .ok (.string (dstr (B1 ++ B2))) W := fun W => run_dstr_add Tryd.prog _ _ (by omega) W
              have hadd : ∀ W, (Op.stringOp .add (dstr S) (dstr (B1 ++ B2))).run Tryd.prog W = .ok (.string (dstr (S ++ (B1 ++ B2)))) W := fun W => run_dstr_add Tryd.prog _ _ (by have := HSL.out; rw [List.length_append]; omega) W
              have HSN : Hid (S ++ (B1 ++ B2) = T2 ++ (d.take (j + 1)).flatMap (numB (k : Int) 0 false)) := by
                show _ = _
                rw [htk, List.flatMap_append, ← List.append_assoc T2, ← HS.out, ← hnb]
                simp
              have HSLN : Hid ((S ++ (B1 ++ B2)).length ≤ 64 + 40000000 * i + 64 + 65600 * (j + 1)) := by
                show _ ≤ _
                have := HSL.out
                rw [← hnb, List.length_append]
                omega
              subst hae
              have hpi := HPI.out
              have hki : (0 : Int) ≤ (k : Int) := by omega
              generalize unE D = PE at *
              clear htk hxe hB1 hB2 hj2 hf hnb hxm hnl hRn hRP hp2 hul hpl hr0 hr1
              go_wp2_with (first
                | (go_at_call 103; go_must (with_reducible refine (HFO.out _).mono ?_); rintro e wh ⟨rfl, rfl⟩)
                | (go_at_call 96; go_must (with_reducible refine (HUN.out _).mono ?_); rintro e wh ⟨rfl, hk13⟩; have HK13 := Lib.hid (HK12.out.new hk13); clear hk13)
                | (go_at_call 41; go_must (with_reducible refine (HDR.out _).mono ?_); rintro e wi ⟨rfl, hk14⟩; have HK14 := Lib.hid (HK13.out.new hk14); clear hk14))
              go_roundg (nd - j)
              case measure => have := HQ2.out; omega
              case rel => exact ⟨j + 1, S ++ (B1 ++ B2), by go_num, rfl, by omega, HSN.out, HSLN.out, (show _ = _ from by have := HQ2.out; omega), HK14.out⟩
            · obtain rfl : j = nd := by omega
              have hs := HS.out
              rw [List.take_of_length_le (by rw [HND.out]; exact Nat.le_refl _)] at hs
              have HSF : Hid (S = Z ++ partsB m (YS.take (i + 1)) (PP.take (i + 1))) := hs.trans HNXT.out
              have HSF2 : Hid (S.length ≤ 64 + 40000000 * (i + 1)) := by show _ ≤ _; rw [hs]; exact HTLN2.out
              clear hs
              go_wp2_with fail
              go_roundg (np - i)
              case measure => have := HQ.out; omega
              case rel => exact ⟨i + 1, S, by go_num, rfl, by omega, HSF.out, HSF2.out, (show _ = _ from by have := HQ.out; omega), HK12.out⟩
      · obtain rfl : i = np := by omega
        have ht := HT.out
        rw [List.take_of_length_le (by rw [HYL.out, HNP.out]; exact Nat.le_refl _), List.take_of_length_le (by rw [HNP.out]; exact Nat.le_refl _), ← HW.out] at ht
        have HTF := Lib.hid ht
        clear ht
        go_wp2_with fail
        go_ret2
        exact ⟨by rw [← HTF.out]; rfl, HK7.out.new HK.out⟩
  · obtain ⟨q1, q2⟩ := rw_no L order he
    rw [q1, ed]
    obtain ⟨E, hE⟩ : ∃ E, rchkE L order = E := ⟨_, rfl⟩
    rw [hE] at HCK he ⊢
    clear hE hnc q1 q2 ed
    go_enter Tryd.func68, Tryd.ntmps68
    go_wp2_with (first
      | (go_at_call 99; go_must (refine HCK.out.mono ?_); rintro e w3 ⟨rfl, hk3⟩; have HK3 := Lib.hid hk3; clear hk3))
    go_ret2
    exact ⟨rfl, HK3.out⟩
end Go.Proofs.YtofkiimaoahfjaaDoor
