/-
  The statement BitsWrites of layer 3: the walk.
-/
import Derived.Test.YtlnpajnejapckaaBits9
set_option linter.unusedVariables false
set_option linter.unusedSimpArgs false
namespace Go.Proofs.Ytlnpajnejapckaa
open Go.RowKit Go.Proofs.Ytlnpajnejapckaa.Pure

theorem putB_len (n k : Int) : (putB n k).length ≤ 501 := by
  unfold putB
  split
  · rename_i h
    rw [bitsN_length]
    unfold putE at h
    split at h
    · cases h
    · omega
  · simp
theorem psB_len (n k : Int) : (psB n k).length ≤ 501 := by
  unfold psB
  split
  · rename_i h
    rw [bitsN_length]
    unfold psE at h
    split at h
    · cases h
    · omega
  · simp
theorem unB_len (n : Int) (h : n ≤ 500 ∨ 65536 < n) : (unB n).length ≤ 501 := by
  unfold unB
  split
  · rename_i h1
    simp
    unfold unE at h1
    split at h1
    · cases h1
    · omega
  · simp

set_option maxHeartbeats 4000000 in
set_option maxRecDepth 100000 in
theorem bitsWrites_walk (a : Option Addr) (len cap : Nat) (z : List (Int × Int × Int)) (w : World) (hin : InOps w a len cap z) (hsz : cap * 24 ≤ 140737488351232) :
    Calls Try.prog 6 #[.slice a len cap] w fun e w' => e = .returned (.bool true) ∧ Below w.heap.size w w' := by
  obtain ⟨hlc, hat⟩ := hin.at
  have HAT := Lib.hid hat
  have HK : Hid (Keeps [] w w) := Keeps.refl _ _
  have hlr : len ≤ 6000000000000 := by omega
  clear hat hin hsz hlc
  go_enter Try.func6, Try.ntmps6
  go_upto_region 3 with (first
    | (go_at_call 9; go_must (refine (bknown_calls _).mono ?_); rintro e w1 ⟨rfl, hk1⟩; replace HK : Hid (Keeps [] w w1) := HK.out.new hk1; clear hk1)
    | (go_at_call 21; go_must (refine (bnone_calls _).mono ?_); rintro e w2 ⟨rfl, rfl⟩)
    | (go_at_call 11; go_must (refine (nilPut_calls _ _ _).mono ?_); rintro e w2 ⟨rfl, rfl⟩)
    | (go_at_call 14; go_must (refine (nilLen_calls _).mono ?_); rintro e w2 ⟨rfl, rfl⟩)
    | (go_at_call 22; go_must (refine (nilAlign_calls _).mono ?_); rintro e w2 ⟨rfl, rfl⟩)
    | (go_at_call 18; go_must (refine (nilBytes_calls _).mono ?_); rintro e w2 ⟨rfl, rfl⟩))
  go_wp2_with (first
    | (go_at_call 10; go_must (refine (wsNew w _ HK).mono ?_); rintro e w1 ⟨p, rfl, hW1, -, -⟩; have HW1 := Lib.hid hW1; clear hW1))
  go_loopg [4, 5] 61 (fun q v4 v5 wr => ∃ (i : Nat) (l : List Bool), v4 = .string (dstr l) ∧ v5 = .int .i64 i ∧ i ≤ 60 ∧ Hid (i + q = 61) ∧ Hid (l.length ≤ 501 * i) ∧ Hid (WS w wr p l))
  case atStart => exact ⟨0, [], rfl, rfl, by omega, (show _ = _ from by omega), (show _ ≤ _ from by simp), HW1.out⟩
  case round =>
    obtain ⟨i, l, rfl, rfl, hi, HQ, HL, HW⟩ := hrel
    by_cases hil : i < len
    · by_cases hi60 : i < 60
      · obtain ⟨b, o, kd, n, k, rfl, hop⟩ := HAT.out i hil
        have HO := Lib.hid (hop.new HW.out.keeps)
        have hc0 := HO.out.c0
        have hc1 := HO.out.c1
        have hc2 := HO.out.c2
        have HRN := Lib.hid HO.out.rn
        have hls : l.length ≤ 800000000000 := by have := HL.out; omega
        have HS := Lib.hid (dstr_size l)
        clear HAT HK HW1 hop
        go_upto_block 2 with fail
        go_cut [4, 6, 7, 8, 9, 10, 11, 12, 13] (fun v4 v6 v7 v8 v9 v10 v11 v12 v13 wx => ∃ l', v4 = .string (dstr l') ∧ Hid (l'.length ≤ 501 * (i + 1)) ∧ Hid (WS w wx p l'))
        case first =>
          by_cases k1 : kd = 1
          · subst k1
            have hadd := fun W => run_dstr_add Try.prog l (putB n k) (by have := HL.out; have := putB_len n k; omega) W
            go_wp2_with (first
              | (go_at_call 23; go_must (with_reducible refine (refPut_calls n k _ HRN).mono ?_); rintro e w3 ⟨rfl, hk3⟩; have HW3 := Lib.hid (HW.out.new hk3); have hd2 := (HO.out.new hk3).c2)
              | (go_at_call 11; go_must (with_reducible refine (wsPut n k HW3 HRN hls).mono ?_); rintro e w4 ⟨rfl, hW4⟩; have HW4 := Lib.hid hW4; clear hW4))
            go_meet
            exact ⟨l ++ putB n k, rfl, (show _ ≤ _ from by have := HL.out; have := putB_len n k; simp; omega), HW4.out⟩
          · by_cases k2 : kd = 2
            · subst k2
              have hadd := fun W => run_dstr_add Try.prog l (psB n k) (by have := HL.out; have := psB_len n k; omega) W
              go_wp2_with (first
                | (go_at_call 24; go_must (with_reducible refine (refPutSigned_calls n k _ HRN).mono ?_); rintro e w3 ⟨rfl, hk3⟩; have HW3 := Lib.hid (HW.out.new hk3); have hd2 := (HO.out.new hk3).c2)
                | (go_at_call 12; go_must (with_reducible refine (wsPutSigned n k HW3 HRN hls).mono ?_); rintro e w4 ⟨rfl, hW4⟩; have HW4 := Lib.hid hW4; clear hW4))
              go_meet
              exact ⟨l ++ psB n k, rfl, (show _ ≤ _ from by have := HL.out; have := psB_len n k; simp; omega), HW4.out⟩
            · by_cases k3 : kd = 3
              · subst k3
                have hn3 : (n ≤ 500) ∨ (500 < n ∧ n ≤ 65536) ∨ (500 < n ∧ 65536 < n) := by omega
                rcases hn3 with g1 | ⟨g1, g2⟩ | ⟨g1, g2⟩
                · have HG := Lib.hid (unB_len n (.inl g1))
                  have hadd := fun W => run_dstr_add Try.prog l (unB n) (by have := HL.out; have := HG.out; omega) W
                  go_wp2_with (first
                    | (go_at_call 25; go_must (with_reducible refine (refUnary_calls n _).mono ?_); rintro e w3 ⟨rfl, hk3⟩; have HW3 := Lib.hid (HW.out.new hk3))
                    | (go_at_call 26; go_must (with_reducible refine (wsUnary n HW3 hls).mono ?_); rintro e w4 ⟨rfl, hW4⟩; have HW4 := Lib.hid hW4; clear hW4))
                  go_meet
                  exact ⟨l ++ unB n, rfl, (show _ ≤ _ from by have := HL.out; have := HG.out; simp; omega), HW4.out⟩
                · have HG := Lib.hid (unB_len 500 (.inl (by omega)))
                  have hadd := fun W => run_dstr_add Try.prog l (unB 500) (by have := HL.out; have := HG.out; omega) W
                  go_wp2_with (first
                    | (go_at_call 25; go_must (with_reducible refine (refUnary_calls 500 _).mono ?_); rintro e w3 ⟨rfl, hk3⟩; have HW3 := Lib.hid (HW.out.new hk3))
                    | (go_at_call 26; go_must (with_reducible refine (wsUnary 500 HW3 hls).mono ?_); rintro e w4 ⟨rfl, hW4⟩; have HW4 := Lib.hid hW4; clear hW4))
                  go_meet
                  exact ⟨l ++ unB 500, rfl, (show _ ≤ _ from by have := HL.out; have := HG.out; simp; omega), HW4.out⟩
                · have HG := Lib.hid (unB_len n (.inr g2))
                  have hadd := fun W => run_dstr_add Try.prog l (unB n) (by have := HL.out; have := HG.out; omega) W
                  go_wp2_with (first
                    | (go_at_call 25; go_must (with_reducible refine (refUnary_calls n _).mono ?_); rintro e w3 ⟨rfl, hk3⟩; have HW3 := Lib.hid (HW.out.new hk3))
                    | (go_at_call 26; go_must (with_reducible refine (wsUnary n HW3 hls).mono ?_); rintro e w4 ⟨rfl, hW4⟩; have HW4 := Lib.hid hW4; clear hW4))
                  go_meet
                  exact ⟨l ++ unB n, rfl, (show _ ≤ _ from by have := HL.out; have := HG.out; simp; omega), HW4.out⟩
              · have q1 : (kd == 1) = false := beq_eq_false_iff_ne.2 k1
                have q2 : (kd == 2) = false := beq_eq_false_iff_ne.2 k2
                have q3 : (kd == 3) = false := beq_eq_false_iff_ne.2 k3
                clear k1 k2 k3
                by_cases k4 : kd = 4
                · subst k4
                  go_upto_region 29 with fail
                  have hpd : (8 - ((dstr l).size : Int) % 8) % 8 = (padN l.length : Int) := by rw [HS.out]; unfold padN; omega
                  rw [hpd]
                  clear hpd
                  have HAL := Lib.hid (wsAlign HW hls)
                  have hm7 : padN l.length < 8 := by unfold padN; omega
                  generalize padN l.length = m at *
                  have hadd := fun W => run_dstr_add Try.prog l (List.replicate m false) (by rw [List.length_replicate]; omega) W
                  have HD : Hid (∀ W, Calls Try.prog 27 #[.int .i64 0, .int .i64 m] W fun e w' => e = .returned (.string (dstr (List.replicate m false))) ∧ Keeps [] W w') := by
                    intro W
                    have := digits_callsI 0 m W (by omega) (by omega) (by omega) (by omega)
                    rwa [Int.toNat_natCast, Int.toNat_zero, bitsN_zeroes] at this
                  go_wp2_with (first
                    | (go_at_call 22; go_must (with_reducible refine HAL.out.mono ?_); rintro e w4 ⟨rfl, hW4⟩; have HW4 := Lib.hid hW4; clear hW4)
                    | (go_at_call 27; go_must (with_reducible refine (HD.out _).mono ?_); rintro e w5 ⟨rfl, hk5⟩; have HW5 := Lib.hid (HW4.out.new hk5)))
                  go_meet
                  exact ⟨l ++ List.replicate m false, rfl, (show _ ≤ _ from by have := HL.out; simp; omega), HW5.out⟩
                · have q4 : (kd == 4) = false := beq_eq_false_iff_ne.2 k4
                  clear k4
                  go_wp2_with fail
                  go_meet
                  exact ⟨l, rfl, (show _ ≤ _ from by have := HL.out; omega), HW.out⟩
        case rest =>
          clear HW HL hc0 hc1 hc2 HO HRN hls HS
          obtain ⟨l1, rfl, HL, HW⟩ := hcut
          obtain ⟨wa, rfl⟩ : ∃ x : World, x = wc := ⟨_, rfl⟩
          obtain ⟨g1, rfl⟩ : ∃ g : Nat, g = gk := ⟨_, rfl⟩
          go_upto_region 33 with (first
            | (go_at_call 18; go_must (with_reducible refine (wsBytes HW).mono ?_); rintro e wb ⟨v, rfl, hr, hf, hkb⟩; have HWB := Lib.hid (HW.out.new hkb); have HR := Lib.hid hr; have HF := Lib.hid hf; have HKB := Lib.hid hkb; clear hr hf hkb))
          have hsz1 := dstr_size l1
          have hl1 : l1.length ≤ 1000000000 := by have := HL.out; omega
          go_cut [160] (fun c wx => c = .bool false ∧ Hid (Keeps [] wb wx))
          case first =>
            have hcv0 := (HR.out.drewN 0).textv (P := Try.prog) 22 5 9 Try.underlying22 Try.underlying5 Try.underlying9
            have hkd : Keeps [] wb wb.drew := (Keeps.refl [] wb).drew
            have HKD := Lib.hid hkd
            have hcvd := (HR.out.keeps hkd (fun _ _ => by simp)).textv (P := Try.prog) 22 5 9 Try.underlying22 Try.underlying5 Try.underlying9
            have HWD := Lib.hid (HWB.out.new hkd)
            clear hkd hcv0
            go_region_with (first
              | (go_at_call 14; with_reducible refine (wsLen HWD).mono ?_; rintro e w5 ⟨rfl, rfl⟩)
              | (go_at_call 14; with_reducible refine (wsLen HWE).mono ?_; rintro e w5 ⟨rfl, rfl⟩)
              | (go_at_call 28; with_reducible refine (bytes_calls l1 _ hl1).mono ?_; rintro e w6 ⟨v6, rfl, hr6, -, hk6⟩; have HWE := Lib.hid (HWD.out.new hk6); have HKE := Lib.hid (HKD.out.new hk6); have hcve := (HR.out.keeps HKE.out (fun _ _ => by simp)).textv (P := Try.prog) 22 5 9 Try.underlying22 Try.underlying5 Try.underlying9; have hcv6 := hr6.textv (P := Try.prog) 22 5 9 Try.underlying22 Try.underlying5 Try.underlying9; clear hr6 hk6))
            all_goals
              go_wp2_with fail
              go_meet
              exact ⟨rfl, HKE.out⟩
          case rest =>
            obtain ⟨rfl, HKX⟩ := hcut
            have HR := Lib.hid (HR.out.keeps HKX.out (fun _ _ => by simp))
            have HKC := Lib.hid (HKB.out.new HKX.out)
            have hpl : (pack l1).length ≤ 1000000000 := by rw [pack_length]; omega
            clear HWB HKB HKX hsz1 hl1
            obtain ⟨a2, c2, rfl⟩ := HR.out.slice
            go_wp2_with fail
            go_loopg [15] ((pack l1).length + 1) (fun q v15 w2 => ∃ (j : Nat) (xs : List Int), v15 = .int .i64 j ∧ j ≤ (pack l1).length ∧ Hid (xs.length = (pack l1).length) ∧ Hid (j + q = (pack l1).length + 1) ∧
              Hid (Row w2 .u8 5 (.slice a2 (pack l1).length c2) xs) ∧ Hid (Keeps [] wa w2))
            case atStart => exact ⟨0, _, rfl, by omega, (show _ = _ from rfl), (show _ = _ from by omega), HR.out, HKC.out⟩
            case round =>
              obtain ⟨j, xs, rfl, hj, HX, HJ, HRj, HKj⟩ := hrel
              by_cases hlt : j < (pack l1).length
              · obtain ⟨g, c', he⟩ := HRj.out.form (by have := HX.out; omega)
                simp only [Value.slice.injEq] at he
                obtain ⟨rfl, -, rfl⟩ := he
                obtain ⟨vx, hx⟩ : ∃ v, wr.cell? ⟨g, j, none⟩ = some v := ⟨_, HRj.out.cell j (by have := HX.out; omega)⟩
                have hc := HRj.out.frozen j
                have HS := Lib.hid (HRj.out.set j 170)
                have HG := HF.out g (by simp [fp_some])
                go_wp2_with fail
                go_roundg ((pack l1).length - j)
                case measure => have := HJ.out; omega
                case rel => exact ⟨j + 1, xs.set j 170, by go_num, by omega, (show _ = _ from by rw [List.length_set]; exact HX.out), (show _ = _ from by have := HJ.out; omega), HS.out, HKj.out.setCell (.inr HG) _⟩
              · have HWR := Lib.hid (HW.out.new HKj.out)
                clear HRj HKj HR HKC HF
                go_wp2_with fail
                go_roundg (g1 - 1)
                case measure => have := HQ.out; omega
                case rel => exact ⟨i + 1, l1, rfl, by go_num, by omega, (show _ = _ from by have := HQ.out; omega), (show _ ≤ _ from HL.out), HWR.out⟩
      · go_wp2_with fail
        go_ret
        exact ⟨rfl, HW.out.keeps.below⟩
    · go_wp2_with fail
      go_ret
      exact ⟨rfl, HW.out.keeps.below⟩
end Go.Proofs.Ytlnpajnejapckaa
