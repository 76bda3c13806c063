/-
  The statement SubframeApart of layer 9: the walk.
-/
import Derived.Test.YtofkiimaoahfjaaDoorZBk1
import Derived.Test.YtofkiimaoahfjaaDoorZRd9
import Derived.Test.YtofkiimaoahfjaaDoorZSub11
import Derived.Test.YtofkiimaoahfjaaDoorZRice21
import Derived.Test.YtofkiimaoahfjaaDoorZRoom
import Derived.Test.YtofkiimaoahfjaaDoorZIn
set_option linter.unusedVariables false
set_option linter.unusedSimpArgs false
namespace Go.Proofs.YtofkiimaoahfjaaDoor
open Go.RowKit Go.Proofs.YtofkiimaoahfjaaDoor.Pure

set_option maxHeartbeats 8000000 in
set_option maxRecDepth 100000 in
theorem subframeApart_walk (a0 : Option Addr) (len0 cap0 : Nat) (z0 : List Int) (a1 : Int) (w : World) (w0 : InRow .i64 w a0 len0 cap0 z0) (s0 : cap0 * 8 ≤ 140737488351232) (w1 : (Lit.int .i64 a1).wf = true) (hT : Hid (Tab w)) :
    Calls Tryd.prog 7 #[.slice a0 len0 cap0, .int .i64 a1] w fun e w' => e = .returned (.bool true) ∧ Below w.heap.size w w' := by
  obtain ⟨hr, hl, hw, hcap⟩ := w0.rd
  have hn := w0.nil_cap
  have hwf1 := wf_i64 w1
  have HRG0 : Hid (∀ x ∈ z0.take len0, -9223372036854775808 ≤ x ∧ x ≤ 9223372036854775807) := fun x hx => wf_i64 (hw x hx)
  generalize z0.take len0 = xs at *
  subst hl
  have HK : Hid (Keeps [] w w) := Keeps.refl _ _
  have hxl : xs.length ≤ 17592186043904 := by omega
  have hxm : min xs.length 100 = (xs.take 100).length := by rw [List.length_take]; omega
  have HR := Lib.hid (hr.take 100)
  have hL5 : (xs.take 100).length ≤ 100 := by rw [List.length_take]; omega
  have hLc : (xs.take 100).length ≤ cap0 := by rw [List.length_take]; omega
  have HRG : Hid (∀ x ∈ xs.take 100, -9223372036854775808 ≤ x ∧ x ≤ 9223372036854775807) := fun x hx => HRG0.out x (List.mem_of_mem_take hx)
  clear HRG0
  generalize xs.take 100 = L at *
  have HN := Lib.hid hn
  have HO := Lib.hid hwf1
  clear w0 s0 w1 hw hr hn
  have hmk : ∀ W : World, Sem.run Tryd.prog (Instr.makeSlice 22 (.int .i64 0) (.int .i64 ((L.length : Int) + 3))) W = .ok (.slice (some ⟨W.heap.size, 0, none⟩) 0 (L.length + 3)) (W.alloc (.cells (madeCells #[.int .i64 0] (L.length + 3)) 3)) :=
    fun W => run_mk Tryd.prog 22 3 .i64 8 Tryd.underlying22 info_i64r .i64 .i64 0 (L.length + 3) 0 ((L.length : Int) + 3) rfl (by omega) (by omega) (by omega) (by omega) W
  go_enter Tryd.func7, Tryd.ntmps7
  go_upto_region 4 with (first
    | (go_at_call 9; go_must (refine (sknown_calls _ hT).mono ?_); rintro e wk ⟨rfl, hk1⟩; replace HK : Hid (Keeps [] w wk) := HK.out.new hk1; clear hk1)
    | (go_at_call 10; go_must (refine (scut_calls _ _ 100 _ _ (by omega) (by omega) (by omega)).mono ?_); rw [hxm]; rintro e w2 ⟨rfl, rfl⟩))
  have HKV : Hid (Keeps [] wk (wk.alloc (.cells (madeCells #[.int .i64 0] (L.length + 3)) 3))) := (Keeps.refl _ _).alloc _
  have HXV := Lib.hid ((HR.out.new HK.out).new HKV.out)
  go_upto_region 5 with (first
    | (at_builtin; go_must (refine wp_appG (W := wk.alloc (.cells (madeCells #[.int .i64 0] (L.length + 3)) 3)) rfl (.tmp 23) (.tmp 24) 22 3 .i64 8 rfl Tryd.underlying22 info_i64r wk.heap.size (L.length + 3) L rfl a0 cap0 rfl (Row.made wk .i64 3 (L.length + 3) (by omega)) (Row.madeRoom wk .i64 3 (L.length + 3) (by omega)) HXV.out HN.out (by omega) ?_); intro w2 hr2 hk2; have HK2 : Hid (Keeps [] wk w2) := HKV.out.then_ hk2 (fun b hb hlt => by rw [List.mem_singleton] at hb; omega); rw [show L.length + 3 - L.length = 3 by omega] at hr2; have HR2 : Hid (Rd w2 .i64 (some ⟨wk.heap.size, 0, none⟩) (L ++ [0, 0, 0])) := hr2; clear hr2 hk2))
  have HRL := Lib.hid ((HR.out.new HK.out).new HK2.out)
  have HKW := Lib.hid (HK.out.new HK2.out)
  have HRI : Hid (Rd w2 .i64 (some ⟨wk.heap.size, 0, none⟩) L) := by
    have := HR2.out.take L.length
    rwa [List.take_left] at this
  have HGL : Hid (0 < L.length → wk.heap.size < w2.heap.size) := fun h => HRI.out.lt h _ rfl
  generalize wk.heap.size = g5 at *
  clear HR HK HKV HXV HK2 hmk hxm hxl
  have HT2 : Hid (Tab w2) := hT.out.new HKW.out
  have HRW := Lib.hid (fun W1 p (hW : Hid (WS w2 W1 p [])) => wsSub L a1 _ rfl (some ⟨g5, 0, none⟩) (L.length + 3) w2 W1 p [] HRG (Lib.hid (HRI.out.new hW.out.keeps)) (Lib.hid (HT2.out.new hW.out.keeps)) hW (by simp))
  have HSZ := Lib.hid (fun W (hk : Keeps [] w2 W) => skind_calls L a1 _ rfl (some ⟨g5, 0, none⟩) (L.length + 3) W HRG (Lib.hid (HRI.out.new hk)) (Lib.hid (HT2.out.new hk)))
  have HSM := Lib.hid (fun W (hk : Keeps [] w2 W) => rsame_calls L L _ _ rfl rfl (some ⟨g5, 0, none⟩) a0 (L.length + 3) cap0 W (Lib.hid (HRI.out.new hk)) (Lib.hid (HRL.out.new hk)))
  rw [decide_eq_true rfl] at HSM
  simp only [List.nil_append] at HRW
  obtain ⟨E, hE⟩ : ∃ E, schkE L a1 = E := ⟨_, rfl⟩
  have HE := Lib.hid hE
  rw [hE] at HRW HSZ
  obtain ⟨B, hB⟩ : ∃ B, sputB L a1 = B := ⟨_, rfl⟩
  have HB := Lib.hid hB
  rw [hB] at HRW
  generalize skindN L a1 = SZ at *
  clear hE hB
  go_upto_region 10 with (first
    | (go_at_call 11; go_must (refine (wsNew w2 _ (Lib.hid (Keeps.refl [] w2))).mono ?_); rintro e w3 ⟨p, rfl, hW3, -, -⟩; have HW3 := Lib.hid hW3; clear hW3)
    | (go_at_call 13; go_must (with_reducible refine (HRW.out _ _ HW3).mono ?_); rintro e w5 ⟨rfl, hW5⟩; have HW5 := Lib.hid hW5; clear hW5)
    | (go_at_call 14; go_must (with_reducible refine (HSZ.out _ HW5.out.keeps).mono ?_); rintro e w6 ⟨rfl, hk6⟩; have HW6 := Lib.hid (HW5.out.new hk6); clear hk6))
  have HR6 := Lib.hid (HR2.out.new HW6.out.keeps)
  clear HRW HSZ
  go_wp2_with fail
  go_loopg [9] 4 (fun q v9 wr => wr = w6 ∧ ∃ i : Nat, v9 = .int .i64 ((L.length : Int) + (i : Int)) ∧ i ≤ 3 ∧ Hid (i + q = 4))
  case atStart => exact ⟨rfl, 0, by simp, by omega, (show _ = _ from by omega)⟩
  case round =>
    obtain ⟨rfl, i, rfl, hi, HQ⟩ := hrel
    obtain ⟨w6, rfl⟩ : ∃ x : World, x = wr := ⟨_, rfl⟩
    by_cases hi3 : i < 3
    · have hl5 : L.length + i < (L ++ [0, 0, 0]).length := by simp; omega
      obtain ⟨b', o', e5, hc⟩ := HR6.out.at_ (L.length + i) hl5
      cases e5
      have hz : (L ++ [0, 0, 0])[L.length + i] = 0 := by
        rw [List.getElem_append_right (by omega)]
        rcases (show i = 0 ∨ i = 1 ∨ i = 2 by omega) with rfl | rfl | rfl <;> simp
      rw [hz, Nat.zero_add] at hc
      have hix : (0 : Int) ≤ (L.length : Int) + (i : Int) := by omega
      have hix2 : (L.length : Int) + (i : Int) < (L.length : Int) + 3 := by omega
      have hixn : ((L.length : Int) + (i : Int)).toNat = L.length + i := by omega
      clear hz hl5
      go_wp2_with fail
      go_roundg (3 - i)
      case measure => have := HQ.out; omega
      case rel => exact ⟨rfl, i + 1, by rw [show ((i + 1 : Nat) : Int) = (i : Int) + 1 by omega, ← Int.add_assoc], by omega, (show _ = _ from by have := HQ.out; omega)⟩
    · obtain rfl : i = 3 := by omega
      by_cases hE0 : E = 0
      · subst hE0
        have hok := s_ok L a1 HE.out
        have hrb := read_back L a1 hok
        have hle := sw_le L a1 hok
        have hB1 : swB L a1 = B := by rw [← HB.out]; unfold sputB; rw [if_pos HE.out]
        rw [hB1] at hrb hle
        have hbl : B.length ≤ 3000 := by
          have h1 := hok.k
          have h2 := hok.D
          unfold depS at h2
          have h3 : (L.length : Int) * (a1 - (wasS L : Int)) ≤ 100 * 25 := Int.mul_le_mul (by omega) (by omega) (by omega) (by omega)
          omega
        have hD0 : restB (pack B) 0 = B ++ List.replicate (8 * ((B.length + 7) / 8) - B.length) false := by
          rw [restB_pack B 0 (Nat.zero_le _), List.drop_zero]
        have hpl : (pack B).length ≤ 10000 := by rw [pack_length]; omega
        have HRR : Hid (∀ W q, Hid (RS w2 W q (pack B) 0) → Calls Tryd.prog 22 #[.pointer (some ⟨q, 0, none⟩), .int .i64 L.length, .int .i64 a1] W fun e w' => ∃ v, e = .returned (.tuple #[v, .int .i64 0]) ∧ Row w' .i64 3 v L ∧ Keeps [] w2 w' ∧ Keeps [q] W w' ∧ (∀ b, b ∈ fp v → W.heap.size ≤ b)) := by
          intro W q h
          refine (rsSub (L.length : Int) a1 h (by omega)).mono ?_
          rw [hD0, hrb]
          rintro e w' ⟨v, rfl, h1, h2, h3, h4⟩
          exact ⟨v, rfl, h1, h2.keeps, h3, h4⟩
        have HPB : Hid ((pack B).length ≤ 10000) := hpl
        clear hD0 hpl hbl hrb hle hB1 hok HE HB
        go_upto_region 18 with (first
          | (go_at_call 24; go_must (with_reducible refine (HSM.out _ HW6.out.keeps).mono ?_); rintro e w7 ⟨rfl, hk7⟩; have HW7 := Lib.hid (HW6.out.new hk7); clear hk7)
          | (go_at_call 18; go_must (with_reducible refine (wsBytes HW7).mono ?_); rintro e w8 ⟨v8, rfl, hr8, hf8, hk8⟩; have HK8 := Lib.hid (HW7.out.keeps.new hk8); obtain ⟨a8, c8, hv8, hrd8, hnc8, hsp8⟩ := hr8.rdc; subst hv8; have HRD8 := Lib.hid hrd8; have HNC8 := Lib.hid hnc8; have HRW8 := Lib.hid hr8; clear hr8 hf8 hk8 hrd8 hnc8 hsp8)
          | (go_at_call 20; go_must (with_reducible refine (rsNew w2 _ (pack B) _ rfl a8 c8 HK8 HNC8.out ?hl (pack_range B) HRD8).mono ?_); (case hl => have := HPB.out; omega); rintro e w9 ⟨q, rfl, hR9, hk9, hq9⟩; have HR9 := Lib.hid hR9; have HRW9 := Lib.hid (HRW8.out.keeps hk9 (fun _ _ => by simp)); have HQ9 : Hid (q ∉ fp (.slice a8 (pack B).length c8)) := (fun hm => by have := HRW8.out.lt q hm; omega); clear hR9 hk9 hq9)
          | (go_at_call 22; go_must (with_reducible refine (HRR.out _ _ HR9).mono ?_); rintro e w11 ⟨v11, rfl, hr11, hk11, hkq, hf11⟩; have HRW11 := Lib.hid (HRW9.out.keeps hkq (fun b hb hm => HQ9.out (by rw [List.mem_singleton] at hm; rwa [← hm]))); have HD11 : Hid (∀ b, b ∈ fp (.slice a8 (pack B).length c8) → b ∉ fp v11) := (fun b hb hm => by have h1 := HRW9.out.lt b hb; have h2 := hf11 b hm; omega); have HF11 : Hid (∀ b, b ∈ fp v11 → w2.heap.size ≤ b) := (fun b hb => Nat.le_trans HR9.out.keeps.size (hf11 b hb)); obtain ⟨a11, c11, hv11, -, -, -⟩ := hr11.rdc; subst hv11; have HR11 := Lib.hid hr11; have HK11 := Lib.hid hk11; clear hr11 hk11 hkq hf11))
        clear HRD8 HRW8 HR9 HRW9 HQ9 HW7 HW6 HK8
        go_wp2_with fail
        go_loopg [13] (L.length + 1) (fun q v13 wr => ∃ (j : Nat) (zs : List Int), v13 = .int .i64 j ∧ j ≤ L.length ∧ Hid (zs.length = L.length) ∧ Hid (j + q = L.length + 1) ∧
          Hid (Row wr .i64 3 (.slice a11 L.length c11) zs) ∧ Hid (Keeps (fp (.slice a11 L.length c11)) w11 wr))
        case atStart => exact ⟨0, L, rfl, by omega, (show _ = _ from rfl), (show _ = _ from by omega), HR11.out, Keeps.refl _ _⟩
        case round =>
          obtain ⟨j, zs, rfl, hj, HX, HJ, HRj, HKj⟩ := hrel
          obtain ⟨g1, rfl⟩ : ∃ g : Nat, g = gk := ⟨_, rfl⟩
          obtain ⟨wq, rfl⟩ : ∃ x : World, x = wr := ⟨_, rfl⟩
          by_cases hlt : j < L.length
          · obtain ⟨g9, c', he⟩ := HRj.out.form (by have := HX.out; omega)
            simp only [Value.slice.injEq] at he
            obtain ⟨rfl, -, rfl⟩ := he
            obtain ⟨vx, hx⟩ : ∃ v, wq.cell? ⟨g9, j, none⟩ = some v := ⟨_, HRj.out.cell j (by have := HX.out; omega)⟩
            have hc := HRj.out.frozen j
            have HS := Lib.hid (HRj.out.set j 77)
            have HKS : Hid (Keeps [g9] wq (wq.setCell ⟨g9, j, none⟩ (.int .i64 77))) := (Keeps.refl _ _).setCell (.inl (by simp)) _
            go_wp2_with fail
            go_roundg (L.length - j)
            case measure => have := HJ.out; omega
            case rel => exact ⟨j + 1, zs.set j 77, by go_num, by omega, (show _ = _ from by rw [List.length_set]; exact HX.out), (show _ = _ from by have := HJ.out; omega), HS.out, HKj.out.setCell (.inl (by simp [fp_some])) _⟩
          · have HRD12 := Lib.hid ((HRW11.out.keeps HKj.out (fun b hb => HD11.out b hb)).rdAt)
            have HK12 : Hid (Keeps [] w2 wq) := HK11.out.then_ HKj.out (fun b hb hlt => by have := HF11.out b hb; omega)
            go_wp2_with (first
              | (go_at_call 20; go_must (with_reducible refine (rsNew w2 _ (pack B) _ rfl a8 c8 HK12 HNC8.out ?hl (pack_range B) HRD12).mono ?_); (case hl => have := HPB.out; omega); rintro e w13 ⟨q, rfl, hR13, -, -⟩; have HR13 := Lib.hid hR13; clear hR13)
              | (go_at_call 22; go_must (with_reducible refine (HRR.out _ _ HR13).mono ?_); rintro e w14 ⟨v14, rfl, hr14, hk14, -, -⟩; obtain ⟨a14, c14, hv14, hrd14, -, -⟩ := hr14.rdc; subst hv14; have HRD14 := Lib.hid hrd14; have HK14 := Lib.hid hk14; clear hr14 hk14 hrd14)
              | (go_at_call 24; go_must (with_reducible refine (rsame_calls L L _ _ rfl rfl a14 a0 c14 cap0 _ HRD14 (Lib.hid (HRL.out.new HK14.out))).mono ?_); rw [decide_eq_true rfl]; rintro e w15 ⟨rfl, hk15⟩; have HK15 := Lib.hid (HK14.out.new hk15); clear hk15))
            go_ret
            exact ⟨rfl, (HKW.out.new HK15.out).below⟩
      · clear HE HB
        go_wp2_with (first
          | (go_at_call 24; go_must (first | (with_reducible refine (HSM.out _ HW6.out.keeps).mono ?_; rintro e w7 ⟨rfl, hk7⟩; have HW7 := Lib.hid (HW6.out.new hk7); clear hk7) | (with_reducible refine (HSM.out _ HW7.out.keeps).mono ?_; rintro e w8 ⟨rfl, hk8⟩; have HW8 := Lib.hid (HW7.out.new hk8); clear hk8))))
        go_ret
        exact ⟨rfl, (HKW.out.new HW8.out.keeps).below⟩
end Go.Proofs.YtofkiimaoahfjaaDoor
