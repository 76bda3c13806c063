/-
  Layer 6 (rice), the document's side: best, DocSize, few.
-/
import Derived.Test.YtepbngdoeolepaaRice24
import Derived.Test.YtepbngdoeolepaaRice20
set_option linter.unusedVariables false
set_option linter.unusedSimpArgs false
namespace Go.Proofs.Ytepbngdoeolepaa
open Go.RowKit Go.Proofs.Ytepbngdoeolepaa.Pure

theorem cand_cons (m : Nat) (c : List Int) (cs : List (List Int)) (acc : List T3) (s : Int) : candGo m (c :: cs) acc s = if (bestS c m).2 = true then candGo m cs (acc ++ [(bestS c m).1]) (s + ((4 + m : Nat) + (bestS c m).1.2.2)) else (acc, s, false) := rfl
/-- The document's p, m and count, and choose's plan. -/
def DB (st : PS) (bp bm ls : Int) : Prop := (bp = -1 ∧ bm = 0 ∧ ls = 0 ∧ st = (0, 0, [], -1)) ∨ (0 ≤ bp ∧ 0 ≤ ls ∧ bp = st.2.1 ∧ bm = st.1 ∧ ls = st.2.2.2 ∧ ls ≤ 1000000000000000)
theorem DB.bad {L : List Int} {order p m : Nat} {st : PS} {bp bm ls : Int} (h : DB st bp bm ls) (hc : (candGo m (partsS L order p) [] 6).2.2 = false) : DB (stepM L order p st m) bp bm ls := by
  have e : stepM L order p st m = st := by unfold stepM; rw [if_neg (by simp [hc])]
  rw [e]
  exact h
theorem DB.take {L : List Int} {order p m : Nat} {st : PS} {bp bm ls : Int} {S : Int} (h : DB st bp bm ls) (hc : (candGo m (partsS L order p) [] 6).2.2 = true) (hS : (candGo m (partsS L order p) [] 6).2.1 = S) (h0 : 0 ≤ S) (h1 : S ≤ 1000000000000000) (hs : bp < 0 ∨ S < ls) : DB (stepM L order p st m) p m S := by
  have e : stepM L order p st m = ((m : Int), (p : Int), (candGo m (partsS L order p) [] 6).1, (candGo m (partsS L order p) [] 6).2.1) := by
    unfold stepM
    rw [if_pos]
    refine ⟨hc, ?_⟩
    rcases h with ⟨a1, a2, a3, a4⟩ | ⟨a1, a2, a3, a4, a5, a6⟩
    · left; rw [a4]; show (-1 : Int) < 0; omega
    · right; rw [hS]; omega
  unfold DB
  rw [e]
  exact .inr ⟨by omega, h0, rfl, rfl, hS.symm, h1⟩
theorem DB.keep {L : List Int} {order p m : Nat} {st : PS} {bp bm ls : Int} {S : Int} (h : DB st bp bm ls) (hS : (candGo m (partsS L order p) [] 6).2.1 = S) (hb : 0 ≤ bp) (hs : ¬ S < ls) : DB (stepM L order p st m) bp bm ls := by
  have e : stepM L order p st m = st := by
    unfold stepM
    rw [if_neg]
    intro hc
    rw [hS] at hc
    rcases h with ⟨a1, a2, a3, a4⟩ | ⟨a1, a2, a3, a4, a5, a6⟩
    · omega
    · rcases hc.2 with h3 | h3 <;> omega
  rw [e]
  exact h
theorem DB.range {st : PS} {bp bm ls : Int} (h : DB st bp bm ls) : (bp = -1 ∧ ls = 0) ∨ (0 ≤ bp ∧ 0 ≤ ls ∧ ls ≤ 1000000000000000) := by
  rcases h with ⟨a1, a2, a3, a4⟩ | ⟨a1, a2, a3, a4, a5, a6⟩
  · exact .inl ⟨a1, a3⟩
  · exact .inr ⟨a1, a2, a6⟩

set_option maxHeartbeats 16000000 in
set_option maxRecDepth 100000 in
theorem dbest_calls (L : List Int) (order n : Nat) (hn : n = L.length) (a : Option Addr) (c : Nat) (w : World) (hnc : a = none → c = 0) (hl : L.length ≤ 600) (hc : L.length ≤ c) (ho : order ≤ 8) (hin : ∀ x ∈ L, -2147483648 < x ∧ x < 2147483648) (hx : Hid (Rd w .i64 a L)) :
    Calls Try.prog 33 #[.slice a n c, .int .i64 order] w fun e w' => e = .returned (.tuple #[.int .i64 (chooseS L order).2.1, .int .i64 (chooseS L order).1, .int .i64 (chooseS L order).2.2.2]) ∧ Keeps [] w w' := by
  subst hn
  obtain ⟨ST, hST⟩ : ∃ ST, chooseS L order = ST := ⟨_, rfl⟩
  have hplan := choose_plan (order := order) hl hin (by omega)
  rw [hST] at hplan ⊢
  have hfin : Hid (∀ bp bm ls, DB (loopP L order 5) bp bm ls → bp = ST.2.1 ∧ bm = ST.1 ∧ ls = ST.2.2.2) := by
    intro bp bm ls h
    have e : loopP L order 5 = ST := hST
    rw [e] at h
    obtain ⟨m, p, q1, q2, q3, q4, q5, q6, q7⟩ := hplan
    rcases h with ⟨a1, a2, a3, a4⟩ | ⟨a1, a2, a3, a4, a5, a6⟩
    · rw [a4] at q7
      exact absurd q7 (by decide)
    · exact ⟨a3, a4, a5⟩
  have HIN := Lib.hid hin
  have HFN := Lib.hid hfin.out
  have HNC := Lib.hid hnc
  have HPN := Lib.hid (fun p W (hp : p ≤ 15) (hf : fitsB (L.length + order) order p = false) => refParts_no L order p _ rfl a c W hp hl ho hf)
  have HPY := Lib.hid (fun p W (hp : p ≤ 9) (hf : fitsB (L.length + order) order p = true) (hk : Keeps [] w W) => refParts_calls L order p _ rfl a c W hnc hp hl hc ho hf (Lib.hid (hx.out.new hk)))
  have he0 : ∀ w : World, (binOp .neq 68 (.slice none 0 0) (.slice none 0 0)).run Try.prog w = .ok (.bool false) w := fun _ => rfl
  have he1 : ∀ (g11 len cap : Nat) (w : World), (binOp .neq 68 (.slice (some ⟨g11, 0, none⟩) len cap) (.slice none 0 0)).run Try.prog w = .ok (.bool true) w := fun _ _ _ _ => rfl
  clear hST hplan hfin hin hnc hc
  go_enter Try.func33, Try.ntmps33
  go_wp2_with fail
  go_loopg [7, 8, 9, 10] 6 (fun q v7 v8 v9 v10 wr => ∃ (p : Nat) (bp bm ls : Int), v10 = .int .i64 p ∧ v7 = .int .i64 bp ∧ v8 = .int .i64 bm ∧ v9 = .int .i64 ls ∧ p ≤ 5 ∧ Hid (DB (loopP L order p) bp bm ls) ∧ Hid (p + q = 6) ∧ Hid (Keeps [] w wr))
  case atStart => exact ⟨0, -1, 0, 0, rfl, rfl, rfl, rfl, by omega, .inl ⟨rfl, rfl, rfl, rfl⟩, (show _ = _ from by omega), Keeps.refl _ _⟩
  case round =>
    obtain ⟨p, bp, bm, ls, rfl, rfl, rfl, rfl, hp, HDB, HQ, HK⟩ := hrel
    obtain ⟨q1, rfl⟩ : ∃ g : Nat, g = gk := ⟨_, rfl⟩
    obtain ⟨wa, rfl⟩ : ∃ y : World, y = wr := ⟨_, rfl⟩
    by_cases hlt : p < 5
    · cases hf : fitsB (L.length + order) order p with
      | false =>
        have HC := Lib.hid (HPN.out p wa (by omega) hf)
        have hst : loopP L order (p + 1) = loopP L order p := by rw [loopP_succ]; unfold stepP; rw [if_neg (by simp [hf])]
        have HDN : Hid (DB (loopP L order (p + 1)) bp bm ls) := by show DB _ _ _ _; rw [hst]; exact HDB.out
        clear hf hst
        go_wp2_with (first
          | (go_at_call 35; go_must (refine HC.out.mono ?_); rintro e w3 ⟨rfl, rfl⟩))
        go_loopg [7, 8, 9, 12] 1 (fun q v7 v8 v9 v12 wr => v7 = .int .i64 bp ∧ v8 = .int .i64 bm ∧ v9 = .int .i64 ls ∧ v12 = .int .i64 0 ∧ Hid (wr = wa))
        case atStart => exact ⟨rfl, rfl, rfl, rfl, (show _ = _ from rfl)⟩
        case round =>
          obtain ⟨rfl, rfl, rfl, rfl, HW⟩ := hrel
          obtain rfl := HW.out
          go_wp2_with fail
          go_roundg (5 - p)
          case measure => have := HQ.out; omega
          case rel => exact ⟨p + 1, bp, bm, ls, by go_num, rfl, rfl, rfl, by omega, HDN.out, (show _ = _ from by have := HQ.out; omega), HK.out⟩
      | true =>
        have HC := Lib.hid (HPY.out p wa (by omega) hf HK.out)
        have hst : loopP L order (p + 1) = loopM L order p (loopP L order p) 2 := by rw [loopP_succ]; unfold stepP; rw [if_pos hf]
        have HSTP := Lib.hid hst
        have hpl : (partsS L order p).length ≤ 16 ∧ 0 < (partsS L order p).length := by
          rw [partsS_length]
          exact ⟨Nat.pow_le_pow_right (show 0 < 2 by omega) (show p ≤ 4 by omega), Nat.two_pow_pos p⟩
        have hmem := partsS_mem L order p
        have HBR : Hid (∀ m, m ≤ 1 → ∀ c ∈ partsS L order p, 0 ≤ (bestS c m).1.2.2 ∧ (bestS c m).1.2.2 ≤ 10000000000000) := fun m hm c hcm => bestS_range c m hm (by have := (hmem c hcm).2; omega) (fun x hx => HIN.out x ((hmem c hcm).1 x hx))
        have HMEM := Lib.hid hmem
        have HCG := Lib.hid (fun m (hm : m ≤ 1) => candGe (order := order) hl HIN.out p m hm)
        obtain ⟨PP, hPP⟩ : ∃ PP, partsS L order p = PP := ⟨_, rfl⟩
        have HPP := Lib.hid hPP
        rw [hPP] at HC HBR HMEM hpl HCG
        clear hf hst hmem hPP
        go_wp2_with (first
          | (go_at_call 35; go_must (refine HC.out.mono ?_); rintro e w3 ⟨v, vs, rfl, hrv, -, hpo, hk3⟩; have HK3 := Lib.hid (HK.out.new hk3); have hpo2 := hpo w3 ((hx.out.new HK.out).new hk3); have hvl := hpo2.length; obtain ⟨g11, c11, rfl⟩ := hrv.form (by omega); rw [hvl] at hrv; have HRV := Lib.hid hrv; have HPO := Lib.hid hpo2; rw [hvl]; clear hk3 hpo hpo2 hrv))
        have HVL := Lib.hid hvl
        clear hvl
        go_loopg [7, 8, 9, 12] 3 (fun q v7 v8 v9 v12 wr => ∃ (m : Nat) (bp bm ls : Int), v12 = .int .i64 m ∧ v7 = .int .i64 bp ∧ v8 = .int .i64 bm ∧ v9 = .int .i64 ls ∧ m ≤ 2 ∧ Hid (DB (loopM L order p (loopP L order p) m) bp bm ls) ∧ Hid (m + q = 3) ∧ Hid (Keeps [] w3 wr))
        case atStart => exact ⟨0, bp, bm, ls, rfl, rfl, rfl, rfl, by omega, HDB.out, (show _ = _ from by omega), Keeps.refl _ _⟩
        case round =>
          clear HDB
          obtain ⟨m, bp, bm, ls, rfl, rfl, rfl, rfl, hm, HDB, HQ2, HK4⟩ := hrel
          obtain ⟨q2, rfl⟩ : ∃ g : Nat, g = gk := ⟨_, rfl⟩
          obtain ⟨wb, rfl⟩ : ∃ y : World, y = wr := ⟨_, rfl⟩
          by_cases hlt2 : m < 2
          · have hm1 : m ≤ 1 := by omega
            go_wp2_with fail
            go_loopg [13, 14] (PP.length + 1) (fun q v13 v14 wr => ∃ (i : Nat) (S : Int), v14 = .int .i64 i ∧ v13 = .int .i64 S ∧ i ≤ PP.length ∧ 0 ≤ S ∧ S ≤ 6 + 10000000000100 * i ∧ Hid (∃ acc, candGo m (PP.drop i) acc S = candGo m PP [] 6) ∧ Hid (i + q = PP.length + 1) ∧ Hid (Keeps [] w3 wr))
            case atStart => exact ⟨0, 6, rfl, rfl, by omega, by omega, by omega, ⟨[], rfl⟩, (show _ = _ from by omega), HK4.out⟩
            case round =>
              obtain ⟨i, S, rfl, rfl, hi, hS0, hS1, HCD, HQ3, HK5⟩ := hrel
              obtain ⟨q3, rfl⟩ : ∃ g : Nat, g = gk := ⟨_, rfl⟩
              obtain ⟨wd, rfl⟩ : ∃ y : World, y = wr := ⟨_, rfl⟩
              by_cases hlt3 : i < PP.length
              · have hvi : i < vs.length := by rw [HVL.out]; exact hlt3
                obtain ⟨ai, ci, hve, hrd, -⟩ := HPO.out.at_ i hvi hlt3
                have hcell := HK5.out.cell (HRV.out.cell i hvi) (by simp)
                rw [hve] at hcell
                have hmi := HMEM.out PP[i] (List.getElem_mem _)
                have hbr := HBR.out m hm1 PP[i] (List.getElem_mem _)
                have hdrop : PP.drop i = PP[i] :: PP.drop (i + 1) := List.drop_eq_getElem_cons hlt3
                obtain ⟨acc, hacc⟩ := HCD.out
                rw [hdrop] at hacc
                rw [cand_cons] at hacc
                have hcall := dchoice_calls PP[i] m _ rfl ai ci wd hm1 (by omega) (fun x hx => HIN.out x (hmi.1 x hx)) (Lib.hid (hrd.new HK5.out))
                obtain ⟨pl, hple⟩ : ∃ pl, PP[i].length = pl := ⟨_, rfl⟩
                rw [hple] at hcell hcall
                unfold choiceS at hcall
                cases hbok : (bestS PP[i] m).2 with
                | true =>
                  rw [if_pos hbok] at hacc hcall
                  obtain ⟨⟨b1, b2, b3⟩, hb⟩ : ∃ b, (bestS PP[i] m).1 = b := ⟨_, rfl⟩
                  rw [hb] at hacc hcall hbr
                  have hb1 : 0 ≤ b1 := by
                    have := (bestS_k PP[i] m hm1).1
                    rw [hb] at this
                    exact this
                  have hbr : 0 ≤ b3 ∧ b3 ≤ 10000000000000 := hbr
                  have HCC := Lib.hid hcall
                  have HCN : Hid (∃ acc, candGo m (PP.drop (i + 1)) acc (S + 4 + m + b3) = candGo m PP [] 6) := by
                    refine ⟨acc ++ [(b1, b2, b3)], ?_⟩
                    rw [← hacc]
                    congr 1
                    show S + 4 + m + b3 = S + (((4 + m : Nat) : Int) + b3)
                    omega
                  clear hcall hacc hdrop hve hrd hmi hb hbok HCD hvi hple
                  go_wp2_with (first
                    | (go_at_call 36; go_must (refine HCC.out.mono ?_); rintro e w5 ⟨rfl, hk5⟩; have HK6 := Lib.hid (HK5.out.new hk5); clear hk5))
                  go_roundg (PP.length - i)
                  case measure => have := HQ3.out; omega
                  case rel => exact ⟨i + 1, S + 4 + m + b3, by go_num, rfl, by omega, by omega, by omega, HCN.out, (show _ = _ from by have := HQ3.out; omega), HK6.out⟩
                | false =>
                  rw [if_neg (by simp [hbok])] at hacc hcall
                  have HCC := Lib.hid hcall
                  have hbad : (candGo m (partsS L order p) [] 6).2.2 = false := by rw [HPP.out, ← hacc]
                  have hdn := HDB.out.bad hbad
                  have e2 : loopM L order p (loopP L order p) (m + 1) = stepM L order p (loopM L order p (loopP L order p) m) m := loopM_succ _ _ _ _ _
                  rw [← e2] at hdn
                  have HDN := Lib.hid hdn
                  clear hcall hacc hdrop hve hrd hmi hbok HCD hvi hbad hdn e2 hbr hple
                  go_wp2_with (first
                    | (go_at_call 36; go_must (refine HCC.out.mono ?_); rintro e w5 ⟨rfl, hk5⟩; have HK6 := Lib.hid (HK5.out.new hk5); clear hk5))
                  go_roundg (2 - m)
                  case measure => have := HQ2.out; omega
                  case rel => exact ⟨m + 1, bp, bm, ls, by go_num, rfl, rfl, rfl, by omega, HDN.out, (show _ = _ from by have := HQ2.out; omega), HK6.out⟩
              · obtain rfl : i = PP.length := by omega
                obtain ⟨acc, hacc⟩ := HCD.out
                rw [List.drop_length] at hacc
                have hok : (candGo m (partsS L order p) [] 6).2.2 = true := by rw [HPP.out, ← hacc]; rfl
                have hSS : (candGo m (partsS L order p) [] 6).2.1 = S := by rw [HPP.out, ← hacc]; rfl
                have e2 : loopM L order p (loopP L order p) (m + 1) = stepM L order p (loopM L order p (loopP L order p) m) m := loopM_succ _ _ _ _ _
                have htk := fun h => HDB.out.take hok hSS hS0 (by omega) h
                have hkp := HDB.out.keep hSS
                rw [← e2] at htk hkp
                have hrg := HDB.out.range
                clear hok hSS e2 hacc HCD
                rcases hrg with ⟨hb, hs⟩ | ⟨hb, hs, hs2⟩
                · subst hb hs
                  have HDN := Lib.hid (htk (.inl (by omega)))
                  clear htk hkp
                  go_wp2_with fail
                  go_roundg (2 - m)
                  case measure => have := HQ2.out; omega
                  case rel => exact ⟨m + 1, p, m, S, by go_num, rfl, rfl, rfl, by omega, HDN.out, (show _ = _ from by have := HQ2.out; omega), HK5.out⟩
                · by_cases hlt4 : S < ls
                  · have HDN := Lib.hid (htk (.inr hlt4))
                    clear htk hkp
                    go_wp2_with fail
                    go_roundg (2 - m)
                    case measure => have := HQ2.out; omega
                    case rel => exact ⟨m + 1, p, m, S, by go_num, rfl, rfl, rfl, by omega, HDN.out, (show _ = _ from by have := HQ2.out; omega), HK5.out⟩
                  · have HDN := Lib.hid (hkp hb hlt4)
                    clear htk hkp
                    go_wp2_with fail
                    go_roundg (2 - m)
                    case measure => have := HQ2.out; omega
                    case rel => exact ⟨m + 1, bp, bm, ls, by go_num, rfl, rfl, rfl, by omega, HDN.out, (show _ = _ from by have := HQ2.out; omega), HK5.out⟩
          · obtain rfl : m = 2 := by omega
            have hdn := HDB.out
            rw [← HSTP.out] at hdn
            have HDN := Lib.hid hdn
            clear hdn
            go_wp2_with fail
            go_roundg (5 - p)
            case measure => have := HQ.out; omega
            case rel => exact ⟨p + 1, bp, bm, ls, by go_num, rfl, rfl, rfl, by omega, HDN.out, (show _ = _ from by have := HQ.out; omega), HK3.out.new HK4.out⟩
    · obtain rfl : p = 5 := by omega
      obtain ⟨e1, e2, e3⟩ := HFN.out _ _ _ HDB.out
      subst e1 e2 e3
      go_wp2_with fail
      go_ret3
      exact ⟨rfl, HK.out⟩

set_option maxHeartbeats 2000000 in
theorem docSize_calls (L : List Int) (order : Int) (n : Nat) (hn : n = L.length) (a : Option Addr) (c : Nat) (w : World) (hnc : a = none → c = 0) (hl : L.length ≤ 17592186043904) (hc : L.length ≤ c) (h1 : -9223372036854775808 ≤ order ∧ order ≤ 9223372036854775807) (hx : Hid (Rd w .i64 a L)) :
    Calls Try.prog 17 #[.slice a n c, .int .i64 order] w fun e w' => e = .returned (.tuple #[.int .i64 (rsizeN L order), .int .i64 (rchkE L order)]) ∧ Keeps [] w w' := by
  subst hn
  have HCK := Lib.hid (dcheck_calls L order _ rfl a c w h1 hl hx)
  by_cases he : rchkE L order = 0
  · obtain ⟨⟨g1, g2, g3, g4⟩, hin⟩ := rchk_ok L order he
    obtain ⟨o, rfl⟩ : ∃ o : Nat, order = (o : Int) := ⟨order.toNat, by omega⟩
    have hz : rsizeN L (o : Int) = (chooseS L o).2.2.2 := by unfold rsizeN; rw [if_pos he, Int.toNat_natCast]
    rw [hz, he]
    rw [he] at HCK
    have HB := Lib.hid (fun W (hk : Keeps [] w W) => dbest_calls L o _ rfl a c W hnc (by omega) hc (by omega) hin (Lib.hid (hx.out.new hk)))
    generalize chooseS L o = ST at *
    clear hz he hin g1 g2 g3 g4 hnc
    go_enter Try.func17, Try.ntmps17
    go_wp2_with (first
      | (go_at_call 32; go_must (refine HCK.out.mono ?_); rintro e w3 ⟨rfl, hk3⟩; have HK3 := Lib.hid hk3; clear hk3)
      | (go_at_call 33; go_must (refine (HB.out _ HK3.out).mono ?_); rintro e w4 ⟨rfl, hk4⟩; have HK4 := Lib.hid (HK3.out.new hk4); clear hk4))
    go_ret2
    exact ⟨rfl, HK4.out⟩
  · have hz : rsizeN L order = 0 := by unfold rsizeN; rw [if_neg he]
    rw [hz]
    obtain ⟨E, hE⟩ : ∃ E, rchkE L order = E := ⟨_, rfl⟩
    rw [hE] at HCK he ⊢
    clear hz hE hnc
    go_enter Try.func17, Try.ntmps17
    go_wp2_with (first
      | (go_at_call 32; go_must (refine HCK.out.mono ?_); rintro e w3 ⟨rfl, hk3⟩; have HK3 := Lib.hid hk3; clear hk3))
    go_ret2
    exact ⟨rfl, HK3.out⟩
end Go.Proofs.Ytepbngdoeolepaa
