/-
  The statement BitsBack of layer 3: the walk.
-/
import Derived.Test.YtlnpajnejapckaaLaw3f
set_option linter.unusedVariables false
set_option linter.unusedSimpArgs false
namespace Go.Proofs.Ytlnpajnejapckaa
open Go.RowKit Go.Proofs.Ytlnpajnejapckaa.Pure

/-- What a call leaves that was tried: done, or refused. -/
def Tried (l l' : List Bool) (E : Int) (o : Op3) : Prop := (E = 0 → Good o ∧ l' = l ++ obits l o) ∧ (E ≠ 0 → l' = l)

theorem padN_lt (n : Nat) : padN n < 8 := by unfold padN; omega
theorem tried1 (l : List Bool) (n k : Int) (hr : -9223372036854775808 ≤ n ∧ n ≤ 9223372036854775807) : Tried l (l ++ putB n k) (putE n k) (1, n, k) := by
  refine ⟨fun h => ⟨⟨.inl ⟨rfl, h⟩, hr⟩, rfl⟩, fun h => ?_⟩
  have : putB n k = [] := by unfold putB; rw [if_neg h]
  rw [this, List.append_nil]
theorem tried2 (l : List Bool) (n k : Int) (hr : -9223372036854775808 ≤ n ∧ n ≤ 9223372036854775807) : Tried l (l ++ psB n k) (psE n k) (2, n, k) := by
  refine ⟨fun h => ⟨⟨.inr (.inl ⟨rfl, h⟩), hr⟩, rfl⟩, fun h => ?_⟩
  have : psB n k = [] := by unfold psB; rw [if_neg h]
  rw [this, List.append_nil]
theorem tried3 (l : List Bool) (n k : Int) (hr : -9223372036854775808 ≤ n ∧ n ≤ 9223372036854775807) : Tried l (l ++ unB n) (unE n) (3, n, k) := by
  refine ⟨fun h => ⟨⟨.inr (.inr (.inl ⟨rfl, h⟩)), hr⟩, rfl⟩, fun h => ?_⟩
  have : unB n = [] := by unfold unB; rw [if_neg h]
  rw [this, List.append_nil]
theorem tried4 (l : List Bool) (n k : Int) (hr : -9223372036854775808 ≤ n ∧ n ≤ 9223372036854775807) : Tried l (l ++ List.replicate (padN l.length) false) 0 (4, n, k) := by
  exact ⟨fun h => ⟨⟨.inr (.inr (.inr rfl)), hr⟩, rfl⟩, fun h => absurd rfl h⟩

theorem wbNew (w0 w : World) (hk : Hid (Keeps [] w0 w)) :
    Calls Try.prog 10 #[] w fun e w' => ∃ p, e = .returned (.pointer (some ⟨p, 0, none⟩)) ∧ WB w0 w' p (.slice none 0 0) (.slice none 0 0) (wbits []) [] := by
  refine (newWriter_calls w).mono ?_
  rintro e w' ⟨rfl, h1, h2⟩
  exact ⟨_, rfl, hk.out.new h2, h1, hk.out.size, fun b hb => (by cases hb), World.ownsRow_nil _ _ _ _, fun b hb => (by cases hb), fun b hb => (by cases hb)⟩

set_option maxHeartbeats 8000000 in
set_option maxRecDepth 100000 in
theorem bitsBack_walk (a : Option Addr) (len cap : Nat) (z : List (Int × Int × Int)) (w : World) (hin : InOps w a len cap z) (hsz : cap * 24 ≤ 140737488351232) :
    Calls Try.prog 8 #[.slice a len cap] w fun e w' => e = .returned (.bool true) ∧ Below w.heap.size w w' := by
  obtain ⟨hlc, hat⟩ := hin.at
  have HAT := Lib.hid hat
  have HK : Hid (Keeps [] w w) := Keeps.refl _ _
  have hlr : len ≤ 6000000000000 := by omega
  clear hat hin hsz hlc
  go_enter Try.func8, Try.ntmps8
  go_upto_block 0 with (first
    | (go_at_call 9; go_must (refine (bknown_calls _).mono ?_); rintro e w1 ⟨rfl, hk1⟩; replace HK : Hid (Keeps [] w w1) := HK.out.new hk1; clear hk1)
    | (go_at_call 10; go_must (refine (wbNew w _ HK).mono ?_); rintro e w1 ⟨p, rfl, hW1⟩; have HW1 := Lib.hid hW1; clear hW1))
  go_cut [4, 5, 6, 7] (fun v4 v5 v6 v7 wx => ∃ (ds : List Op3) (sv : Value), Hid (ds.length ≤ 60) ∧ Hid ((wbits ds).length ≤ 30060) ∧ Hid (WB w wx p sv v4 (wbits ds) ds) ∧ Hid (∀ o ∈ ds, Good o))
  case first =>
    go_wp2_with fail
    go_loopg [4, 5] 61 (fun q v4 v5 wr => ∃ (i : Nat) (ds : List Op3) (sv : Value), v5 = .int .i64 i ∧ i ≤ 60 ∧ Hid (i + q = 61) ∧ Hid (ds.length ≤ i) ∧ Hid ((wbits ds).length ≤ 501 * i) ∧ Hid (WB w wr p sv v4 (wbits ds) ds) ∧ Hid (∀ o ∈ ds, Good o))
    case atStart => exact ⟨0, [], _, rfl, by omega, (show _ = _ from by omega), (show _ ≤ _ from by simp), (show _ ≤ _ from by simp [wbits]), HW1.out, (fun o ho => by cases ho)⟩
    case round =>
      obtain ⟨i, ds, sv, rfl, hi, HQ, HDL, HL, HW, HG⟩ := hrel
      obtain ⟨g1, rfl⟩ : ∃ g : Nat, g = gk := ⟨_, rfl⟩
      by_cases hil : i < len
      · by_cases hi60 : i < 60
        · obtain ⟨b, o, kd, n, k, rfl, hop⟩ := HAT.out i hil
          have HO := Lib.hid (hop.new HW.out.keeps)
          have hc0 := HO.out.c0
          have hc1 := HO.out.c1
          have hc2 := HO.out.c2
          have HRN := Lib.hid HO.out.rn
          have hls : (wbits ds).length ≤ 800000000000 := by have := HL.out; omega
          have hgw : w.heap.size ≤ wr.heap.size := HW.out.keeps.size
          clear HAT HK HW1 hop HO
          by_cases hkd : kd = 1 ∨ kd = 2 ∨ kd = 3 ∨ kd = 4
          · go_upto_region 10 with fail
            have HT : Hid (Trio (wr.alloc (.cells #[.int .i64 kd, .int .i64 n, .int .i64 k] 41)) wr.heap.size kd n k) := ⟨heap_alloc_new _ _⟩
            have HKA : Hid (Keeps [] wr (wr.alloc (.cells #[.int .i64 kd, .int .i64 n, .int .i64 k] 41))) := (Keeps.refl _ _).alloc _
            have HAP : Hid (∀ q, wr.heap.size ≤ q → q ∉ p :: fp sv) := fun q hq => HW.out.apart hq
            have HWA := Lib.hid (HW.out.new HKA.out)
            generalize wr.alloc (.cells #[.int .i64 kd, .int .i64 n, .int .i64 k] 41) = wA at *
            have HGP := Lib.hid (HAP.out wr.heap.size (Nat.le_refl _))
            obtain ⟨g, hgr⟩ : ∃ g, wr.heap.size = g := ⟨_, rfl⟩
            have HGR := Lib.hid hgr
            rw [hgr] at HT HGP hgw ⊢
            clear hgr HAP hc0 hc1 hc2
            have hd0 := HT.out.c0
            have hd1 := HT.out.c1
            have hd2 := HT.out.c2
            go_upto_block 2 with fail
            go_cut [7] (fun v7 wx => ∃ (E : Int) (l' : List Bool) (sv' : Value) (n' : Int), v7 = .int .i64 E ∧ Hid (Tried (wbits ds) l' E (kd, n', k)) ∧ Hid (l'.length ≤ 501 * (i + 1)) ∧ Hid (WB w wx p sv' u4 l' ds) ∧ Hid (Trio wx g kd n' k))
            case first =>
              rcases hkd with rfl | rfl | rfl | rfl
              · go_wp2_with (first
                  | (go_at_call 11; go_must (with_reducible refine (wPut_calls p sv _ n k _ (Lib.hid HWA.out.isw) HRN hls).mono ?_); rintro e w4 ⟨rfl, hw4⟩; obtain ⟨sv4, hW4, hk4⟩ := HWA.out.wrote hw4; have HW4 := Lib.hid hW4; have HT4 := Lib.hid (HT.out.keeps hk4 HGP.out); clear hw4 hW4 hk4))
                go_meet
                exact ⟨_, _, _, _, rfl, tried1 _ n k HRN.out, (show _ ≤ _ from by have := HL.out; have := putB_len n k; simp; omega), HW4.out, HT4.out⟩
              · go_wp2_with (first
                  | (go_at_call 12; go_must (with_reducible refine (wPutSigned_calls p sv _ n k _ (Lib.hid HWA.out.isw) HRN hls).mono ?_); rintro e w4 ⟨rfl, hw4⟩; obtain ⟨sv4, hW4, hk4⟩ := HWA.out.wrote hw4; have HW4 := Lib.hid hW4; have HT4 := Lib.hid (HT.out.keeps hk4 HGP.out); clear hw4 hW4 hk4))
                go_meet
                exact ⟨_, _, _, _, rfl, tried2 _ n k HRN.out, (show _ ≤ _ from by have := HL.out; have := psB_len n k; simp; omega), HW4.out, HT4.out⟩
              · by_cases hbig : 500 < n
                · have hf1 := HT.out.frozen 1
                  have HKB : Hid (Keeps [] wr (wA.setCell ⟨g, 1, none⟩ (.int .i64 500))) := HKA.out.setCell (.inr (by show _ ≤ g; rw [← HGR.out]; exact Nat.le_refl _)) _
                  have HWB := Lib.hid (HW.out.new HKB.out)
                  have HTB := Lib.hid (HT.out.set1 500)
                  go_upto_region 18 with fail
                  have hd1b := HTB.out.c1
                  generalize wA.setCell ⟨g, 1, none⟩ (.int .i64 500) = wB at *
                  go_wp2_with (first
                    | (go_at_call 26; go_must (with_reducible refine (wUnary_calls p sv _ 500 _ (Lib.hid HWB.out.isw) hls).mono ?_); rintro e w4 ⟨rfl, hw4⟩; obtain ⟨sv4, hW4, hk4⟩ := HWB.out.wrote hw4; have HW4 := Lib.hid hW4; have HT4 := Lib.hid (HTB.out.keeps hk4 HGP.out); clear hw4 hW4 hk4))
                  go_meet
                  exact ⟨_, _, _, _, rfl, tried3 _ 500 k (by omega), (show _ ≤ _ from by have := HL.out; have := unB_len 500 (by omega); simp; omega), HW4.out, HT4.out⟩
                · go_wp2_with (first
                    | (go_at_call 26; go_must (with_reducible refine (wUnary_calls p sv _ n _ (Lib.hid HWA.out.isw) hls).mono ?_); rintro e w4 ⟨rfl, hw4⟩; obtain ⟨sv4, hW4, hk4⟩ := HWA.out.wrote hw4; have HW4 := Lib.hid hW4; have HT4 := Lib.hid (HT.out.keeps hk4 HGP.out); clear hw4 hW4 hk4))
                  go_meet
                  exact ⟨_, _, _, _, rfl, tried3 _ n k HRN.out, (show _ ≤ _ from by have := HL.out; have := unB_len n (by omega); simp; omega), HW4.out, HT4.out⟩
              · go_wp2_with (first
                  | (go_at_call 22; go_must (with_reducible refine (wAlign_calls p sv _ _ (Lib.hid HWA.out.isw) hls).mono ?_); rintro e w4 ⟨rfl, hw4⟩; obtain ⟨sv4, hW4, hk4⟩ := HWA.out.wrote hw4; have HW4 := Lib.hid hW4; have HT4 := Lib.hid (HT.out.keeps hk4 HGP.out); clear hw4 hW4 hk4))
                go_meet
                exact ⟨_, _, _, _, rfl, tried4 _ n k HRN.out, (show _ ≤ _ from by have := HL.out; have := padN_lt (wbits ds).length; simp; omega), HW4.out, HT4.out⟩
            case rest =>
              clear HW HWA HT HKA HGP HGR hd0 hd1 hd2 HL HRN hls
              obtain ⟨E, l1, sv1, n1, rfl, HTR, HL, HW, HT⟩ := hcut
              obtain ⟨wa, rfl⟩ : ∃ x : World, x = wc := ⟨_, rfl⟩
              by_cases hE : E = 0
              · obtain ⟨hg1, hl1⟩ := HTR.out.1 hE
                subst hE hl1
                have HG1 := Lib.hid hg1
                clear HTR hg1
                have hd0 := HT.out.c0
                have hd1 := HT.out.c1
                have hd2 := HT.out.c2
                have hdl : ds.length ≤ 1000000 := by have := HDL.out; omega
                go_wp2_with (first
                  | (at_builtin; go_must (refine wp_app3 (W := wa) rfl (.tmp 64) (.tmp 66) 39 rfl Try.underlying39 info_Op u4 ds (kd, n1, k) rfl rfl HW.out.row hdl ?_); intro v1 w1 hr1 hk1 hf1; have HW1 := Lib.hid (HW.out.appended hr1 hk1 hf1)))
                go_roundg (g1 - 1)
                case measure => have := HQ.out; omega
                case rel =>
                  refine ⟨i + 1, ds ++ [(kd, n1, k)], sv1, by go_num, by omega, (show _ = _ from by have := HQ.out; omega), (show _ ≤ _ from by have := HDL.out; simp; omega), (show _ ≤ _ from by rw [wbits_snoc]; exact HL.out), ?_, ?_⟩
                  · show WB _ _ _ _ _ _ _
                    rw [wbits_snoc]
                    exact HW1.out
                  · intro o ho
                    rcases List.mem_append.1 ho with h | h
                    · exact HG.out o h
                    · rw [List.mem_singleton] at h
                      rw [h]
                      exact HG1.out
              · have hEb : (E == 0) = false := beq_eq_false_iff_ne.2 hE
                have hl1 := HTR.out.2 hE
                subst hl1
                clear hE HTR
                go_wp2_with fail
                go_roundg (g1 - 1)
                case measure => have := HQ.out; omega
                case rel => exact ⟨i + 1, ds, sv1, by go_num, by omega, (show _ = _ from by have := HQ.out; omega), (show _ ≤ _ from by have := HDL.out; omega), HL.out, HW.out, HG.out⟩
          · have q1 : (kd == 1) = false := beq_eq_false_iff_ne.2 (by omega)
            have q2 : (kd == 2) = false := beq_eq_false_iff_ne.2 (by omega)
            have q3 : (kd == 3) = false := beq_eq_false_iff_ne.2 (by omega)
            have q4 : (kd == 4) = false := beq_eq_false_iff_ne.2 (by omega)
            clear hkd
            have HWN := Lib.hid (HW.out.new ((Keeps.refl _ _).alloc (.cells #[.int .i64 kd, .int .i64 n, .int .i64 k] 41)))
            go_wp2_with fail
            go_roundg (g1 - 1)
            case measure => have := HQ.out; omega
            case rel => exact ⟨i + 1, ds, sv, by go_num, by omega, (show _ = _ from by have := HQ.out; omega), (show _ ≤ _ from by have := HDL.out; omega), (show _ ≤ _ from by have := HL.out; omega), HWN.out, HG.out⟩
        · go_wp2_with fail
          go_meet
          exact ⟨ds, sv, (show _ ≤ _ from by have := HDL.out; omega), (show _ ≤ _ from by have := HL.out; omega), HW.out, HG.out⟩
      · go_wp2_with fail
        go_meet
        exact ⟨ds, sv, (show _ ≤ _ from by have := HDL.out; omega), (show _ ≤ _ from by have := HL.out; omega), HW.out, HG.out⟩
  case rest =>
    clear HAT HK HW1
    obtain ⟨ds, sv, HDL, HL, HW, HG⟩ := hcut
    obtain ⟨wa, rfl⟩ : ∃ x : World, x = wc := ⟨_, rfl⟩
    obtain ⟨a4, c4, rfl⟩ := HW.out.row.slice
    have HPL : Hid ((pack (wbits ds)).length ≤ 1000000000000) := (show _ ≤ _ from by rw [pack_length]; have := HL.out; omega)
    go_upto_region 24 with (first
      | (go_at_call 18; go_must (with_reducible refine (wBytes_calls p sv _ _ (Lib.hid HW.out.isw)).mono ?_); rintro e w2 ⟨v2, rfl, hr2, -, hk2⟩; obtain ⟨a2, c2, rfl, hrd2⟩ := hr2.rd; have HN2 := Lib.hid hr2.noneCapB; have HRD2 := Lib.hid hrd2; have HW2 := Lib.hid (HW.out.new hk2); clear hr2 hk2 hrd2)
      | (go_at_call 15; go_must (with_reducible refine (newReader_calls _ _ rfl a2 c2 _ HN2.out HPL.out (pack_range _) HRD2).mono ?_); rintro e w3 ⟨q, sr, rfl, hi3, -, hq3, hk3⟩; have HI3 := Lib.hid hi3; have HAP3 : Hid (p ≠ q ∧ q ∉ fp sv ∧ q ∉ fp (.slice a4 ds.length c4) ∧ w.heap.size ≤ q) := ⟨(fun h => by have := HW2.out.isw.duo.lt; omega), (fun h => by have := HW2.out.isw.row.lt _ h; omega), (fun h => by have := HW2.out.row.lt _ h; omega), Nat.le_trans HW2.out.keeps.size hq3⟩; have HW3 := Lib.hid (HW2.out.new hk3); clear hi3 hq3 hk3))
    clear HW HW2 HN2 HRD2 HPL
    go_wp2_with fail
    go_loopg [9] (ds.length + 1) (fun q' v9 wr => ∃ i : Nat, v9 = .int .i64 i ∧ i ≤ ds.length ∧ Hid (i + q' = ds.length + 1) ∧ Hid (IsR wr q sr (pack (wbits ds)) (wbits (ds.take i)).length) ∧ Hid (Keeps [q] w3 wr))
    case atStart => exact ⟨0, rfl, by omega, (show _ = _ from by omega), HI3.out, Keeps.refl _ _⟩
    case round =>
      obtain ⟨i, rfl, hi, HQ, HI, HKQ⟩ := hrel
      have hdl : ds.length ≤ 60 := HDL.out
      by_cases hid : i < ds.length
      · obtain ⟨gd, cd, he⟩ := HW3.out.row.form (by omega)
        simp only [Value.slice.injEq] at he
        obtain ⟨rfl, -, rfl⟩ := he
        have hrow := HW3.out.row.keeps HKQ.out (fun b hb hm => by rw [List.mem_singleton] at hm; subst hm; exact HAP3.out.2.2.1 hb)
        obtain ⟨hc0, hc1, hc2⟩ := hrow.cells i hid
        have hgo := HG.out ds[i] (List.getElem_mem hid)
        have HB := Lib.hid (wbits_at ds i hid)
        obtain ⟨⟨kd, n, k⟩, hoe⟩ : ∃ o, ds[i] = o := ⟨_, rfl⟩
        rw [hoe] at hc0 hc1 hc2 hgo HB
        have hc0 : wr.cell? ⟨gd, i * 3, none⟩ = some (.int .i64 kd) := hc0
        have hc1 : wr.cell? ⟨gd, i * 3 + 1, none⟩ = some (.int .i64 n) := hc1
        have hc2 : wr.cell? ⟨gd, i * 3 + 2, none⟩ = some (.int .i64 k) := hc2
        have HGO := Lib.hid hgo
        clear hoe hgo hrow
        have HT : Hid (Trio (wr.alloc (.cells #[.int .i64 kd, .int .i64 n, .int .i64 k] 41)) wr.heap.size kd n k) := ⟨heap_alloc_new _ _⟩
        have HGQ : Hid (wr.heap.size ∉ [q]) := (show _ ∉ _ from by rw [List.mem_singleton]; have := HI.out.duo.lt; omega)
        have HKA : Hid (Keeps [q] w3 (wr.alloc (.cells #[.int .i64 kd, .int .i64 n, .int .i64 k] 41))) := HKQ.out.alloc _
        have HIA := Lib.hid (HI.out.new ((Keeps.refl [] wr).alloc (.cells #[.int .i64 kd, .int .i64 n, .int .i64 k] 41)))
        go_upto_region 28 with fail
        generalize wr.alloc (.cells #[.int .i64 kd, .int .i64 n, .int .i64 k] 41) = wA at *
        generalize wr.heap.size = gT at *
        clear hc0 hc1 hc2 HI HKQ
        have hd0 := HT.out.c0
        have hd1 := HT.out.c1
        have hd2 := HT.out.c2
        have hkd : kd = 1 ∨ kd = 2 ∨ kd = 3 ∨ kd = 4 := by
          rcases HGO.out.1 with ⟨h, _⟩ | ⟨h, _⟩ | ⟨h, _⟩ | h
          · exact .inl h
          · exact .inr (.inl h)
          · exact .inr (.inr (.inl h))
          · exact .inr (.inr (.inr h))
        rcases hkd with rfl | rfl | rfl | rfl
        · have HOB : Hid (obits (wbits (ds.take i)) (1, n, k) = putB n k) := rfl
          rw [HOB.out] at HB
          obtain ⟨R, hb1, hb2, -⟩ := HB.out
          obtain ⟨e1, e2, e3⟩ := back_get n k R (by rcases HGO.out.1 with ⟨_, h⟩ | ⟨h, _⟩ | ⟨h, _⟩ | h <;> first | exact h | (cases h))
          rw [← hb1] at e1 e3 e2
          have E1 := Lib.hid e1
          have E3 := Lib.hid e3
          have E2 := Lib.hid e2
          have HB2 := Lib.hid hb2
          clear hb1 hb2 e1 e3 HOB HB e2
          go_wp2_with (first
            | (go_at_call 17; go_must (with_reducible refine (rGet_calls q sr _ _ k _ HIA).mono ?_); rw [E1.out, E2.out, E3.out, ← HB2.out]; rintro e w5 ⟨rfl, hi5, hk5⟩; have HI5 := Lib.hid hi5; have HK5 := Lib.hid (HKA.out.then_ hk5 (fun b hb _ => hb)); have hx1 := (HT.out.keeps hk5 HGQ.out).c1; clear hi5 hk5))
          go_roundg (ds.length - i)
          case measure => have := HQ.out; omega
          case rel => exact ⟨i + 1, by go_num, by omega, (show _ = _ from by have := HQ.out; omega), HI5.out, HK5.out⟩
        · have HOB : Hid (obits (wbits (ds.take i)) (2, n, k) = psB n k) := rfl
          rw [HOB.out] at HB
          obtain ⟨R, hb1, hb2, -⟩ := HB.out
          obtain ⟨e1, e2, e3⟩ := back_gets n k R (by rcases HGO.out.1 with ⟨h, _⟩ | ⟨_, h⟩ | ⟨h, _⟩ | h <;> first | exact h | (cases h)) HGO.out.2
          rw [← hb1] at e1 e3 e2
          have E1 := Lib.hid e1
          have E3 := Lib.hid e3
          have E2 := Lib.hid e2
          have HB2 := Lib.hid hb2
          clear hb1 hb2 e1 e3 HOB HB e2
          go_wp2_with (first
            | (go_at_call 19; go_must (with_reducible refine (rGetSigned_calls q sr _ _ k _ HIA).mono ?_); rw [E1.out, E2.out, E3.out, ← HB2.out]; rintro e w5 ⟨rfl, hi5, hk5⟩; have HI5 := Lib.hid hi5; have HK5 := Lib.hid (HKA.out.then_ hk5 (fun b hb _ => hb)); have hx1 := (HT.out.keeps hk5 HGQ.out).c1; clear hi5 hk5))
          go_roundg (ds.length - i)
          case measure => have := HQ.out; omega
          case rel => exact ⟨i + 1, by go_num, by omega, (show _ = _ from by have := HQ.out; omega), HI5.out, HK5.out⟩
        · have HOB : Hid (obits (wbits (ds.take i)) (3, n, k) = unB n) := rfl
          rw [HOB.out] at HB
          obtain ⟨R, hb1, hb2, -⟩ := HB.out
          obtain ⟨e1, e2, e3⟩ := back_un n R (by rcases HGO.out.1 with ⟨h, _⟩ | ⟨h, _⟩ | ⟨_, h⟩ | h <;> first | exact h | (cases h))
          rw [← hb1] at e1 e3 e2
          have E1 := Lib.hid e1
          have E3 := Lib.hid e3
          have E2 := Lib.hid e2
          have HB2 := Lib.hid hb2
          clear hb1 hb2 e1 e3 HOB HB e2
          go_wp2_with (first
            | (go_at_call 34; go_must (with_reducible refine (rUnary_calls q sr _ _ _ HIA).mono ?_); rw [E1.out, E2.out, E3.out, ← HB2.out]; rintro e w5 ⟨rfl, hi5, hk5⟩; have HI5 := Lib.hid hi5; have HK5 := Lib.hid (HKA.out.then_ hk5 (fun b hb _ => hb)); have hx1 := (HT.out.keeps hk5 HGQ.out).c1; clear hi5 hk5))
          go_roundg (ds.length - i)
          case measure => have := HQ.out; omega
          case rel => exact ⟨i + 1, by go_num, by omega, (show _ = _ from by have := HQ.out; omega), HI5.out, HK5.out⟩
        · have HOB : Hid (obits (wbits (ds.take i)) (4, n, k) = List.replicate (padN (wbits (ds.take i)).length) false) := rfl
          rw [HOB.out] at HB
          obtain ⟨R, hb1, hb2, -⟩ := HB.out
          obtain ⟨e1, e3'⟩ := back_al (wbits (ds.take i)).length R (padN (wbits (ds.take i)).length) (Nat.le_refl _)
          have e3 : alT (wbits (ds.take i)).length (List.replicate (padN (wbits (ds.take i)).length) false ++ R) = (List.replicate (padN (wbits (ds.take i)).length) false).length := by rw [e3', List.length_replicate]
          clear e3'
          rw [← hb1] at e1 e3
          have E1 := Lib.hid e1
          have E3 := Lib.hid e3
          have HB2 := Lib.hid hb2
          clear hb1 hb2 e1 e3 HOB HB
          go_wp2_with (first
            | (go_at_call 30; go_must (with_reducible refine (rAlign_calls q sr _ _ _ HIA).mono ?_); rw [E1.out, E3.out, ← HB2.out]; rintro e w5 ⟨rfl, hi5, hk5⟩; have HI5 := Lib.hid hi5; have HK5 := Lib.hid (HKA.out.then_ hk5 (fun b hb _ => hb)); have hx1 := (HT.out.keeps hk5 HGQ.out).c1; clear hi5 hk5))
          go_roundg (ds.length - i)
          case measure => have := HQ.out; omega
          case rel => exact ⟨i + 1, by go_num, by omega, (show _ = _ from by have := HQ.out; omega), HI5.out, HK5.out⟩
      · obtain rfl : i = ds.length := by omega
        have hie := HI.out
        rw [List.take_of_length_le (Nat.le_refl _)] at hie
        have HIE := Lib.hid hie
        obtain ⟨e1, e2, e3, e4⟩ := back_end (wbits ds)
        have HIW := Lib.hid (HW3.out.isw.keeps HKQ.out (by rw [List.mem_singleton]; exact HAP3.out.1) (fun b hb hm => by rw [List.mem_singleton] at hm; subst hm; exact HAP3.out.2.1 hb))
        have HKW : Hid (Keeps [] w wr) := HW3.out.keeps.then_ HKQ.out (fun b hb hlt => by rw [List.mem_singleton] at hb; subst hb; have := HAP3.out.2.2.2; omega)
        have HQW := HAP3.out.2.2.2
        have E1 := Lib.hid e1
        have E2 := Lib.hid e2
        have HL8 : Hid (8 * (pack (wbits ds)).length - (wbits ds).length = padN (wbits ds).length) := (show _ = _ from by omega)
        have HL0 : Hid (8 * (pack (wbits ds)).length - ((wbits ds).length + padN (wbits ds).length) = 0) := (show _ = _ from by omega)
        have hp8 : (padN (wbits ds).length : Int) < 8 := by omega
        clear e1 e2 e3 e4 hie HI HW3 HKQ HI3 HAP3
        go_wp2_with (first
          | (go_at_call 20; go_must (with_reducible refine (rAt_calls q sr _ _ _ HIE).mono ?_); rintro e w5 ⟨rfl, rfl⟩)
          | (go_at_call 14; go_must (with_reducible refine (wLen_calls p sv _ _ HIW).mono ?_); rintro e w5 ⟨rfl, rfl⟩)
          | (go_at_call 16; with_reducible refine (rLeft_calls q sr _ _ _ HIE).mono ?_; rw [HL8.out]; rintro e w6 ⟨rfl, hk6⟩; have HI6 := Lib.hid (HIE.out.new hk6); have HK6 := Lib.hid (HKW.out.new hk6))
          | (go_at_call 30; go_must (with_reducible refine (rAlign_calls q sr _ _ _ HI6).mono ?_); rw [E1.out, E2.out]; rintro e w7 ⟨rfl, hi7, hk7⟩; have HI7 := Lib.hid hi7; have HK7 : Hid (Keeps [] w w7) := HK6.out.then_ hk7 (fun b hb hlt => by rw [List.mem_singleton] at hb; subst hb; omega))
          | (go_at_call 16; with_reducible refine (rLeft_calls q sr _ _ _ HI7).mono ?_; rw [HL0.out]; rintro e w8 ⟨rfl, hk8⟩; have HK8 := Lib.hid (HK7.out.new hk8)))
        go_ret
        exact ⟨rfl, HK8.out.below⟩
end Go.Proofs.Ytlnpajnejapckaa
