/-
  The statement SubframeBack of layer 9: the walk.
-/
import Derived.Test.YtofkiimaoahfjaaDoorZBk1
import Derived.Test.YtofkiimaoahfjaaDoorZRd9
import Derived.Test.YtofkiimaoahfjaaDoorZSub15
import Derived.Test.YtofkiimaoahfjaaDoorZRice21
import Derived.Test.YtofkiimaoahfjaaDoorZIn
set_option maxRecDepth 100000
set_option linter.unusedVariables false
set_option linter.unusedSimpArgs false
namespace Go.Proofs.YtofkiimaoahfjaaDoor
open Go.RowKit Go.Proofs.YtofkiimaoahfjaaDoor.Pure

set_option maxHeartbeats 16000000 in
theorem subframeBack_walk (a0 : Option Addr) (len0 cap0 : Nat) (z0 : List Int) (a1 : Int) (w : World) (w0 : InRow .i64 w a0 len0 cap0 z0) (s0 : cap0 * 8 ≤ 140737488351232) (w1 : (Lit.int .i64 a1).wf = true) (hT : Hid (Tab w)) :
    Calls Tryd.prog 6 #[.slice a0 len0 cap0, .int .i64 a1] w fun e w' => e = .returned (.bool true) ∧ Below w.heap.size w w' := by
  obtain ⟨hr, hl, hw, hcap⟩ := w0.rd
  have hwf1 := wf_i64 w1
  have HRG0 : Hid (∀ x ∈ z0.take len0, -9223372036854775808 ≤ x ∧ x ≤ 9223372036854775807) := fun x hx => wf_i64 (hw x hx)
  generalize z0.take len0 = L at *
  subst hl
  have HK : Hid (Keeps [] w w) := Keeps.refl _ _
  have hxl : L.length ≤ 17592186043904 := by omega
  have hLc : L.length ≤ cap0 := by omega
  have HR0 := Lib.hid hr
  clear w0 s0 w1 hw hr
  have HCT : Hid (∀ W, Calls Tryd.prog 10 #[.slice a0 L.length cap0, .int .i64 513] W fun e w' => e = .returned (.slice a0 (min L.length 513) cap0) ∧ W = w') := fun W => scut_calls L.length cap0 513 a0 W (by omega) hLc (by omega)
  have HLE : (L.take 513).length = min L.length 513 := by rw [List.length_take]; omega
  rw [← HLE] at HCT
  have HR : Hid (Rd w .i64 a0 (L.take 513)) := HR0.out.take 513
  have HRG : Hid (∀ x ∈ L.take 513, -9223372036854775808 ≤ x ∧ x ≤ 9223372036854775807) := fun x hx => HRG0.out x (List.mem_of_mem_take hx)
  have hS5 : (L.take 513).length ≤ 513 := by omega
  generalize L.take 513 = S at *
  clear HLE hLc hxl HRG0 HR0
  have HWR := Lib.hid (fun W1 p (hW : Hid (WS w W1 p [])) => wsSub S a1 _ rfl a0 cap0 w W1 p [] HRG (Lib.hid (HR.out.new hW.out.keeps)) (Lib.hid (hT.out.new hW.out.keeps)) hW (by simp))
  by_cases he : schkE S a1 = 0
  · have hok := s_ok S a1 he
    have HE0 : Hid (sputB S a1 = swB S a1) := by show _ = _; unfold sputB; rw [if_pos he]
    have hle := sw_le S a1 hok
    have hrb := read_back S a1 hok (List.replicate (8 * (((swB S a1).length + 7) / 8) - (swB S a1).length) false)
    rw [he, HE0.out, List.nil_append] at HWR
    obtain ⟨k, hk⟩ : ∃ k, wasS S = k := ⟨_, rfl⟩
    have hkb : k ≤ 24 := by rw [← hk]; exact hok.k
    have hdb := hok.d
    have hnb := hok.n
    have hDb := hok.D
    unfold depS at hDb
    rw [hk] at hle hDb
    have HWAS := Lib.hid hk
    obtain ⟨SB, eSB⟩ : ∃ SB, swB S a1 = SB := ⟨_, rfl⟩
    rw [eSB] at HWR hle hrb
    have hr0 : restB (pack SB) 0 = SB ++ List.replicate (8 * ((SB.length + 7) / 8) - SB.length) false := by
      rw [restB_pack SB 0 (Nat.zero_le _), List.drop_zero]
    rw [← hr0] at hrb
    obtain ⟨nb, hnb2⟩ : ∃ nb, SB.length = nb := ⟨_, rfl⟩
    rw [hnb2] at hle hrb
    obtain ⟨Dp, hDp⟩ : ∃ Dp, a1 - (k : Int) = Dp := ⟨_, rfl⟩
    rw [hDp] at hle hDb
    obtain ⟨M, hM⟩ : ∃ M, (S.length : Int) * Dp = M := ⟨_, rfl⟩
    rw [hM] at hle
    have hMb : 0 ≤ M ∧ M ≤ 20000 := by
      rw [← hM]
      have h1 : (S.length : Int) * Dp ≤ 512 * 25 := Int.mul_le_mul (by omega) (by omega) (by omega) (by omega)
      have h2 : 0 ≤ (S.length : Int) * Dp := Int.mul_nonneg (by omega) (by omega)
      omega
    have hpl : (pack SB).length ≤ 10000 := by rw [pack_length]; omega
    have HPB : Hid ((pack SB).length ≤ 10000) := hpl
    have HRR : Hid (∀ W q, Hid (RS w W q (pack SB) 0) → Calls Tryd.prog 22 #[.pointer (some ⟨q, 0, none⟩), .int .i64 S.length, .int .i64 a1] W fun e w' => ∃ v, e = .returned (.tuple #[v, .int .i64 0]) ∧ Row w' .i64 3 v S ∧ RS w w' q (pack SB) nb ∧ Keeps [q] W w') := by
      intro W q h
      refine (rsSub (S.length : Int) a1 h (by omega)).mono ?_
      rw [hrb]
      rintro e w' ⟨v, rfl, h1, h2, h3, -⟩
      rw [Nat.zero_add] at h2
      exact ⟨v, rfl, h1, h2, h3⟩
    have HND := Lib.hid hnb2
    have HOKd := Lib.hid hdb
    obtain ⟨hMb0, hMb1⟩ := hMb
    obtain ⟨hDb0, hDb1⟩ := hDb
    obtain ⟨hdb0, hdb1⟩ := hdb
    have hn1 : 1 ≤ S.length := hnb.1
    have hn2 : S.length ≤ 512 := hnb.2
    clear he hok hk eSB hr0 hrb hpl HE0 hS5 hwf1 hnb hnb2
    go_enter Tryd.func6, Tryd.ntmps6
    go_wp2_with (first
      | (go_at_call 9; go_must (refine (sknown_calls _ hT).mono ?_); rintro e wk ⟨rfl, hk1⟩; replace HK : Hid (Keeps [] w wk) := HK.out.new hk1; clear hk1)
      | (go_at_call 10; go_must (with_reducible refine (HCT.out _).mono ?_); rintro e wc2 ⟨rfl, rfl⟩)
      | (go_at_call 11; go_must (refine (wsNew w _ HK).mono ?_); rintro e w3 ⟨p, rfl, hW3, -, -⟩; have HWa := Lib.hid hW3; clear hW3)
      | (go_at_call 13; with_reducible refine (HWR.out _ _ HWa).mono ?_; rintro e w6 ⟨rfl, hW6⟩; have HWd := Lib.hid hW6; clear hW6))
    clear HWR HCT HWa
    go_loopg [7, 8] (S.length + 1) (fun u v7 v8 wr => wr = w6 ∧ ∃ (i : Nat) (A : Int), v7 = .int .i64 A ∧ v8 = .int .i64 i ∧ i ≤ S.length ∧ Hid (A = orS (S.take i)) ∧ Hid (i + u = S.length + 1))
    case atStart => exact ⟨rfl, 0, 0, rfl, rfl, by omega, (show _ = _ from rfl), (show _ = _ from by omega)⟩
    case round =>
      obtain ⟨rfl, i, A, rfl, rfl, hi, HA, HQ⟩ := hrel
      by_cases hlt : i < S.length
      · obtain ⟨b1, o1, rfl, hc1⟩ := (HR.out.new HWd.out.keeps).cellAt i hlt
        obtain ⟨x, hx1⟩ : ∃ x, S[i] = x := ⟨_, rfl⟩
        rw [hx1] at hc1
        have HN : Hid (bits .or .i64 A x = orS (S.take (i + 1))) := by
          show _ = _
          rw [List.take_succ_eq_append_getElem hlt, orS_snoc, hx1, HA.out]
        clear hx1
        go_wp2_with fail
        go_roundg (S.length - i)
        case measure => have := HQ.out; omega
        case rel => exact ⟨rfl, i + 1, _, rfl, by go_num, by omega, HN.out, (show _ = _ from by omega)⟩
      · obtain rfl : i = S.length := by omega
        have HAS : Hid (A = orS S) := by show _ = _; rw [HA.out, List.take_length]
        have HAR := Lib.hid (orS_range S)
        obtain ⟨wb, rfl⟩ : ∃ x : World, x = wr := ⟨_, rfl⟩
        clear HA HQ hi hlt
        go_wp2_with fail
        go_loopg [7, 9] 80 (fun u v7 v9 wr => wr = wb ∧ ∃ (j : Nat) (A : Int), v7 = .int .i64 A ∧ v9 = .int .i64 j ∧ Hid (A * 2 ^ j = orS S) ∧ j ≤ 64 ∧ Hid (j + u = 80) ∧ Hid (-9223372036854775808 ≤ A ∧ A ≤ 9223372036854775807) ∧ Hid (orS S = 0 → j = 0))
        case atStart => exact ⟨rfl, 0, A, rfl, rfl, (show _ = _ from by rw [HAS.out]; simp), by omega, (show _ = _ from by omega), (by show _ ∧ _; rw [HAS.out]; exact HAR.out), fun _ => rfl⟩
        case round =>
          clear HAS
          obtain ⟨rfl, j, A, rfl, rfl, HK2, hj, HQ, HRR2, HZ⟩ := hrel
          have hrr := HRR2.out
          by_cases h0 : A = 0
          · subst h0
            have HE : k = j := by
              have h1 : orS S = 0 := by rw [← HK2.out]; simp
              rw [← HWAS.out, HZ.out h1]
              unfold wasS tzS
              rw [if_pos h1]
            subst HE
            clear hj HK2 HQ HRR2 HZ hrr
            go_wp2_with (first
              | (go_at_call 16; with_reducible refine (wsLen HW12).mono ?_; rw [HND.out]; rintro e w7 ⟨rfl, rfl⟩)
              | (go_at_call 16; go_must (with_reducible refine (wsLen HWd).mono ?_); rw [HND.out]; rintro e w7 ⟨rfl, rfl⟩)
              | (go_at_call 18; go_must (with_reducible refine (wsBytes HWd).mono ?_); rintro e w8 ⟨v8, rfl, hr8, hf8, hk8⟩; have HW8 := Lib.hid (HWd.out.new hk8); obtain ⟨a8, c8, hv8, hrd8, hnc8, hsp8⟩ := hr8.rdc; subst hv8; have HRD8 := Lib.hid hrd8; have HNC8 := Lib.hid hnc8; have HP8 := Lib.hid hk8; clear hr8 hf8 hk8 hrd8 hnc8 hsp8)
              | (go_at_call 20; go_must (with_reducible refine (rsNew w _ (pack SB) _ rfl a8 c8 (Lib.hid HW8.out.keeps) HNC8.out ?hl (pack_range SB) HRD8).mono ?_); (case hl => have := HPB.out; omega); rintro e w9 ⟨q, rfl, hR9, hk9, hq9⟩; have HR9 := Lib.hid hR9; have HK9 := Lib.hid hk9; have HQ9 := Lib.hid hq9; clear hR9 hk9 hq9)
              | (go_at_call 22; go_must (with_reducible refine (HRR.out _ _ HR9).mono ?_); rintro e w11 ⟨v11, rfl, hr11, hR11, hk11⟩; have HR11 := Lib.hid hR11; obtain ⟨a11, c11, hv11, hrd11, -, -⟩ := hr11.rdc; subst hv11; have HRD11 := Lib.hid hrd11; have HW11 := Lib.hid (HW8.out.later (((Keeps.refl [q] w8).new HK9.out).then_ hk11 (fun b hb _ => hb)) (.inl HQ9.out)); clear hR11 hr11 hrd11 hk11)
              | (go_at_call 24; go_must (with_reducible refine (rsame_calls S S _ _ rfl rfl a11 a0 c11 cap0 _ HRD11 (Lib.hid (HR.out.new HR11.out.keeps))).mono ?_); rw [decide_eq_true rfl]; rintro e w12 ⟨rfl, hk12⟩; have HR12 := Lib.hid (HR11.out.new hk12); have HW12 := Lib.hid (HW11.out.new hk12); clear hk12)
              | (go_at_call 25; go_must (with_reducible refine (rsAt HR12).mono ?_); rintro e w13 ⟨rfl, rfl⟩))
            go_ret
            exact ⟨rfl, HR12.out.keeps.below⟩
          · have hb : (A == 0) = false := beq_eq_false_iff_ne.2 h0
            have hj63 : j ≤ 63 := tz_small (orS S) A j HAR.out HK2.out h0
            by_cases hev : A % 2 = 0
            · have ht : Int.tmod A 2 = 0 := by
                rw [Int.tmod_eq_emod]
                split <;> omega
              have hd : Int.tdiv A 2 = A / 2 := by
                rw [Int.tdiv_eq_ediv]
                have hdv : (2 : Int) ∣ A := Int.dvd_of_emod_eq_zero hev
                rw [if_pos (.inr hdv)]
                omega
              have HK3 := Lib.hid (tz_half (orS S) A j HK2.out hev)
              have HZ2 : Hid (orS S = 0 → j + 1 = 0) := by
                intro h
                exfalso
                have h1 := HK2.out
                rw [h] at h1
                rcases Int.mul_eq_zero.1 h1 with h2 | h2
                · exact h0 h2
                · have : (0 : Int) < 2 ^ j := Int.pow_pos (by omega)
                  omega
              clear hev
              go_wp2_with fail
              go_roundg (79 - j)
              case measure => have := HQ.out; omega
              case rel => exact ⟨rfl, j + 1, A / 2, rfl, by go_num, HK3.out, by omega, (show _ = _ from by omega), (show _ ∧ _ from by omega), HZ2.out⟩
            · have ht : (Int.tmod A 2 == 0) = false := by
                apply beq_eq_false_iff_ne.2
                rw [Int.tmod_eq_emod]
                split <;> omega
              have HE : k = j := HWAS.out.symm.trans (tz_end (orS S) A j HAR.out HK2.out hev)
              subst HE
              clear hev hj hj63 HK2 HQ HRR2 HZ hrr
              go_wp2_with (first
                | (go_at_call 16; with_reducible refine (wsLen HW12).mono ?_; rw [HND.out]; rintro e w7 ⟨rfl, rfl⟩)
                | (go_at_call 16; go_must (with_reducible refine (wsLen HWd).mono ?_); rw [HND.out]; rintro e w7 ⟨rfl, rfl⟩)
                | (go_at_call 18; go_must (with_reducible refine (wsBytes HWd).mono ?_); rintro e w8 ⟨v8, rfl, hr8, hf8, hk8⟩; have HW8 := Lib.hid (HWd.out.new hk8); obtain ⟨a8, c8, hv8, hrd8, hnc8, hsp8⟩ := hr8.rdc; subst hv8; have HRD8 := Lib.hid hrd8; have HNC8 := Lib.hid hnc8; have HP8 := Lib.hid hk8; clear hr8 hf8 hk8 hrd8 hnc8 hsp8)
                | (go_at_call 20; go_must (with_reducible refine (rsNew w _ (pack SB) _ rfl a8 c8 (Lib.hid HW8.out.keeps) HNC8.out ?hl (pack_range SB) HRD8).mono ?_); (case hl => have := HPB.out; omega); rintro e w9 ⟨q, rfl, hR9, hk9, hq9⟩; have HR9 := Lib.hid hR9; have HK9 := Lib.hid hk9; have HQ9 := Lib.hid hq9; clear hR9 hk9 hq9)
                | (go_at_call 22; go_must (with_reducible refine (HRR.out _ _ HR9).mono ?_); rintro e w11 ⟨v11, rfl, hr11, hR11, hk11⟩; have HR11 := Lib.hid hR11; obtain ⟨a11, c11, hv11, hrd11, -, -⟩ := hr11.rdc; subst hv11; have HRD11 := Lib.hid hrd11; have HW11 := Lib.hid (HW8.out.later (((Keeps.refl [q] w8).new HK9.out).then_ hk11 (fun b hb _ => hb)) (.inl HQ9.out)); clear hR11 hr11 hrd11 hk11)
                | (go_at_call 24; go_must (with_reducible refine (rsame_calls S S _ _ rfl rfl a11 a0 c11 cap0 _ HRD11 (Lib.hid (HR.out.new HR11.out.keeps))).mono ?_); rw [decide_eq_true rfl]; rintro e w12 ⟨rfl, hk12⟩; have HR12 := Lib.hid (HR11.out.new hk12); have HW12 := Lib.hid (HW11.out.new hk12); clear hk12)
                | (go_at_call 25; go_must (with_reducible refine (rsAt HR12).mono ?_); rintro e w13 ⟨rfl, rfl⟩))
              go_ret
              exact ⟨rfl, HR12.out.keeps.below⟩
  · have HE0 : Hid (sputB S a1 = []) := by show _ = _; unfold sputB; rw [if_neg he]
    have hcase : schkE S a1 = 1 ∨ schkE S a1 = 12 := by
      unfold schkE at he ⊢
      split
      · rename_i h1
        rw [if_pos h1] at he
        split
        · rename_i h2
          rw [if_pos h2] at he
          exact absurd rfl he
        · exact .inr rfl
      · exact .inl rfl
    rw [HE0.out] at HWR
    clear he HE0
    rcases hcase with he | he
    all_goals
      rw [he] at HWR
      clear he
      go_enter Tryd.func6, Tryd.ntmps6
      go_wp2_with (first
        | (go_at_call 9; go_must (refine (sknown_calls _ hT).mono ?_); rintro e wk ⟨rfl, hk1⟩; replace HK : Hid (Keeps [] w wk) := HK.out.new hk1; clear hk1)
        | (go_at_call 10; go_must (with_reducible refine (HCT.out _).mono ?_); rintro e wc2 ⟨rfl, rfl⟩)
        | (go_at_call 11; go_must (refine (wsNew w _ HK).mono ?_); rintro e w3 ⟨p, rfl, hW3, -, -⟩; have HWa := Lib.hid hW3; clear hW3)
        | (go_at_call 13; with_reducible refine (HWR.out _ _ HWa).mono ?_; rintro e w6 ⟨rfl, hW6⟩; have HWd := Lib.hid hW6; clear hW6)
        | (go_at_call 16; go_must (with_reducible refine (wsLen HWd).mono ?_); rintro e w7 ⟨rfl, rfl⟩))
      go_ret
      exact ⟨rfl, HWd.out.keeps.below⟩
end Go.Proofs.YtofkiimaoahfjaaDoor
