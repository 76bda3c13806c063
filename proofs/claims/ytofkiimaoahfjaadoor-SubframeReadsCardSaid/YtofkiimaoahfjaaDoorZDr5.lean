/-
  Layer 9 (subframe), the document's reading: body by a model that was searched: the walk.
  Layer 9 (subframe), the document's reading: what a head tells, step by step.
-/
import Derived.Test.YtofkiimaoahfjaaDoorZDr1
set_option maxRecDepth 100000
set_option linter.unusedVariables false
set_option linter.unusedSimpArgs false
namespace Go.Proofs.YtofkiimaoahfjaaDoor
open Go.RowKit Go.Proofs.YtofkiimaoahfjaaDoor.Pure

set_option maxHeartbeats 8000000 in
theorem dbody_sea (g : Nat) (U : List Bool) (t : Nat) (n : Nat) (c : Nat) (D kd : Int) (w : World) (hD : Hid (IsD w g U t)) (hn : n ≤ 512) (hc : 1 ≤ c ∧ c ≤ 8) (hk : kd = 31 + (c : Int)) (hs : U.length ≤ 8000000) :
    Calls Tryd.prog 48 #[.pointer (some ⟨g, 0, none⟩), .int .i64 n, .int .i64 D, .int .i64 kd] w fun e w' => ∃ v, e = .returned (.tuple #[v, .int .i64 (seaS n D c (U.drop t)).2.1]) ∧ Row w' .i64 3 v (okL (seaS n D c (U.drop t)).2.1 (seaS n D c (U.drop t)).1) ∧ (∀ b, b ∈ fp v → w.heap.size ≤ b) ∧
      IsD w' g U (t + (seaS n D c (U.drop t)).2.2) ∧ Keeps [g] w w' := by
  have e0 : (kd == 0) = false := beq_eq_false_iff_ne.2 (by omega)
  have e1 : (kd == 1) = false := beq_eq_false_iff_ne.2 (by omega)
  have e2 : (32 : Int) ≤ kd := by omega
  have e3 : kd - 31 = (c : Int) := by omega
  obtain ⟨z8, e4⟩ : ∃ z, kd - 8 = z := ⟨_, rfl⟩
  have k12 : kd ≤ 39 := by omega
  have hc8 : c ≤ 8 := hc.2
  clear hk
  have hq0 : g < w.heap.size := hD.out.duo.lt
  have HQ0 := Lib.hid hq0
  have hdr : ∀ d, U.drop (t + d) = (U.drop t).drop d := fun d => List.drop_drop.symm
  have HSM := Lib.hid (dsome_calls g U t c D w hD (by omega))
  obtain ⟨R, hR⟩ : ∃ R, U.drop t = R := ⟨_, rfl⟩
  rw [hR] at HSM hdr
  rw [hR]
  by_cases hnc : (n : Int) < (c : Int)
  · have HX : Hid (seaS n D c R = ([], 2, 0)) := by show _ = _; unfold seaS; rw [if_pos hnc]
    clear hdr hR HSM
    go_enter Tryd.func48, Tryd.ntmps48
    go_wp2_with fail
    go_ret2
    rw [HX.out]
    exact ⟨.slice none 0 0, rfl, Row.nil _ _ _, (fun b h => by cases h), hD.out, Keeps.refl _ _⟩
  · have HSS : Hid (seaS n D c R = seaI n c (listI D 0 R c).1 (listI D 0 R c).2.1 (listI D 0 R c).2.2 R) := by show _ = _; unfold seaS; rw [if_neg hnc]
    obtain ⟨m4, hm4⟩ : ∃ m4, min c 4 = m4 := ⟨_, rfl⟩
    have hm44 : m4 ≤ 4 := by omega
    have hmin : min (c : Int) 4 = ((m4 : Nat) : Int) := by omega
    have HFX := Lib.hid (fun W => refFixed_calls m4 W hm44)
    have hwl := listI_length D 0 R c
    obtain ⟨⟨ws, E, T⟩, hX⟩ : ∃ X, listI D 0 R c = X := ⟨_, rfl⟩
    rw [hX] at HSM HSS hwl
    replace HSS : Hid (seaS n D c R = seaI n c ws E T R) := HSS.out
    replace HSM : Hid (Calls Tryd.prog 81 #[.pointer (some ⟨g, 0, none⟩), .int .i64 c, .int .i64 D] w fun e w' => ∃ v, e = .returned (.tuple #[v, .int .i64 E]) ∧ Row w' .i64 3 v (okL E ws) ∧ (∀ b, b ∈ fp v → w.heap.size ≤ b) ∧ IsD w' g U (t + T) ∧ Keeps [g] w w') := HSM.out
    have hwl2 : ws.length ≤ 8 := by
      have h1 : ws.length = c := hwl
      omega
    obtain ⟨cf, hcf⟩ : ∃ cf, fixL m4 = cf := ⟨_, rfl⟩
    rw [hcf] at HFX
    have HDR := Lib.hid hdr
    clear hq0 hdr hR hX hwl hm4 hcf hm44
    by_cases hE : E = 0
    · subst hE
      rw [okL_zero] at HSM
      go_enter Tryd.func48, Tryd.ntmps48
      go_upto_region 23 with (first
        | (go_at_call 81; go_must (with_reducible refine HSM.out.mono ?_); rintro e w2 ⟨v2, rfl, hr2, hf2, hd2, hk2⟩; obtain ⟨a2, c2, rfl, -, hn2, -⟩ := hr2.rdd; have HR2 := Lib.hid hr2; have HF2 := Lib.hid hf2; have HD2 := Lib.hid hd2; have HK2 := Lib.hid hk2; have HN2 := Lib.hid hn2; clear hr2 hf2 hd2 hk2 hn2)
        | (go_at_call 37; go_must (with_reducible refine (HFX.out _).mono ?_); rintro e w3 ⟨v3, rfl, hr3, hf3, hk3⟩; obtain ⟨a3, c3, rfl⟩ := hr3.slice; have HR3 := Lib.hid hr3; have HF3 := Lib.hid hf3; have HK3 := Lib.hid hk3; clear hr3 hf3 hk3))
      have hal : Keeps [] w3 (w3.alloc (.cells #[.slice a3 cf.length c3, .int .i64 0] 71)) := (Keeps.refl _ _).alloc _
      have HDM : Hid (DM w (w3.alloc (.cells #[.slice a3 cf.length c3, .int .i64 0] 71)) g U (t + T) w3.heap.size (.slice a3 cf.length c3) 0 (.slice a2 ws.length c2) ws) := by
        have s2 := HK2.out.size
        have s3 := HK3.out.size
        refine ⟨(HK2.out.new HK3.out).new hal, (HD2.out.new HK3.out).new hal, ⟨heap_alloc_new _ _⟩, by omega, HQ0.out, (HR2.out.keeps HK3.out (fun _ _ => by simp)).keeps hal (fun _ _ => by simp), fun b hb => ?_⟩
        have h1 := HF2.out b hb
        have h2 := HR2.out.lt b hb
        omega
      clear hal HD2 HK2 HK3 HR2 HR3 HF2 HF3 HSM HFX
      generalize w3.alloc (.cells #[.slice a3 cf.length c3, .int .i64 0] 71) = w4 at *
      generalize w3.heap.size = gm at *
      have HG4 := Lib.hid (dGet_calls g U (t + T) 4 w4 (Lib.hid HDM.out.rd))
      rw [HDR.out, Nat.add_assoc] at HG4
      by_cases hE4 : gtE 4 (R.drop T) = 0
      · rw [hE4] at HG4
        by_cases hN4 : gtN 4 (R.drop T) = 11
        · obtain ⟨d1, d2⟩ := md_4 (R.drop T) hE4 hN4
          rw [hN4] at HG4
          obtain ⟨T4, hT4⟩ : ∃ T4, gtT 4 (R.drop T) = T4 := ⟨_, rfl⟩
          rw [hT4] at HG4 d1 d2
          clear hE4 hN4 hT4
          go_upto_region 28 with (first
            | (go_at_call 46; go_must (with_reducible refine HG4.out.mono ?_); rintro e w5 ⟨rfl, hd5, hk5⟩; have HM5 := Lib.hid (HDM.out.step hd5 hk5); clear hd5 hk5))
          have HG5 := Lib.hid (dGet_calls g U (t + (T + T4)) 5 w5 (Lib.hid HM5.out.rd))
          rw [HDR.out, ← List.drop_drop, Nat.add_assoc, Nat.add_assoc] at HG5
          obtain ⟨sh, hsh⟩ : ∃ x, gtN 5 ((R.drop T).drop T4) = x := ⟨_, rfl⟩
          obtain ⟨E5, hE5⟩ : ∃ x, gtE 5 ((R.drop T).drop T4) = x := ⟨_, rfl⟩
          obtain ⟨T5, hT5⟩ : ∃ x, gtT 5 ((R.drop T).drop T4) = x := ⟨_, rfl⟩
          rw [hsh, hE5, hT5] at HG5 d1
          rw [hsh, hE5] at d2
          obtain ⟨T6, hT6⟩ : ∃ x, T4 + T5 = x := ⟨_, rfl⟩
          rw [hT6] at HG5 d1
          have HD1 := Lib.hid d1
          have HD2 := Lib.hid d2
          clear hsh hE5 hT5 hT6 d1 d2 HG4
          by_cases h5 : E5 = 0
          · subst h5
            by_cases h15 : sh ≤ 15
            · rw [decide_eq_true h15] at HD2
              have HCO := Lib.hid (fun W (h : IsD W g U (t + (T + T6))) => dsome_calls g U (t + (T + T6)) c 12 W (Lib.hid h) (by omega))
              rw [HDR.out, ← List.drop_drop] at HCO
              have hcl := listI_length 12 0 ((R.drop T).drop T6) c
              have hsc := fun cs F T3 h => sea_coef n c ws T R (sh := sh) (T2 := T6) (cs := cs) (F := F) (T3 := T3) HD2.out (by rw [HD1.out]) (by rw [HD1.out]) h
              obtain ⟨⟨cs, F, T3⟩, hX⟩ : ∃ X, listI 12 0 ((R.drop T).drop T6) c = X := ⟨_, rfl⟩
              have HSC := Lib.hid (hsc cs F T3 hX)
              rw [hX] at HCO hcl
              replace hcl : cs.length = c := hcl
              obtain ⟨T7, hT7⟩ : ∃ x, T + (T6 + T3) = x := ⟨_, rfl⟩
              replace HCO : Hid (∀ W, IsD W g U (t + (T + T6)) → Calls Tryd.prog 81 #[.pointer (some ⟨g, 0, none⟩), .int .i64 c, .int .i64 12] W fun e w' => ∃ v, e = .returned (.tuple #[v, .int .i64 F]) ∧ Row w' .i64 3 v (okL F cs) ∧ (∀ b, b ∈ fp v → W.heap.size ≤ b) ∧ IsD w' g U (t + T7) ∧ Keeps [g] W w') := by
                have h1 := HCO.out
                have h2 : t + (T + T6) + T3 = t + T7 := by omega
                simp only [h2] at h1
                exact h1
              rw [hT7] at HSC
              have hcl8 : cs.length ≤ 8 := by omega
              clear hsc hX hcl hT7 HD1 HD2
              by_cases hF : F = 0
              · subst hF
                rw [okL_zero] at HCO
                go_upto_region 36 with (first
                  | (go_at_call 46; go_must (with_reducible refine HG5.out.mono ?_); rintro e w6 ⟨rfl, hd6, hk6⟩; have HM6 := Lib.hid (HM5.out.step hd6 hk6); clear hd6 hk6)
                  | (go_at_call 81; go_must (with_reducible refine (HCO.out _ HM6.out.rd).mono ?_); rintro e w7 ⟨v7, rfl, hr7, hf7, hd7, hk7⟩; obtain ⟨a7, c7, rfl, -, -, -⟩ := hr7.rdd; have HM7 := Lib.hid (HM6.out.step hd7 hk7); have HR7 := Lib.hid hr7; have HF7 := Lib.hid hf7; clear hr7 hf7 hd7 hk7))
                have f0 := HM7.out.f0
                have f1 := HM7.out.f1
                have m0 := HM7.out.mb.c0
                have m1 := HM7.out.mb.c1
                go_upto_region 37 with fail
                have hkm : Keeps [gm] w7 ((w7.setCell ⟨gm, 0, none⟩ (.slice a7 cs.length c7)).setCell ⟨gm, 1, none⟩ (.int .i64 sh)) := ((Keeps.refl [gm] w7).setCell (.inl (by simp)) _).setCell (.inl (by simp)) _
                have HM8 := Lib.hid ((HM7.out.set0 (.slice a7 cs.length c7)).set1 sh)
                have HC8 : Hid (Row ((w7.setCell ⟨gm, 0, none⟩ (.slice a7 cs.length c7)).setCell ⟨gm, 1, none⟩ (.int .i64 sh)) .i64 3 (.slice a7 cs.length c7) cs) := HR7.out.keeps hkm (fun b hb hm => by
                  have h1 := HF7.out b hb
                  have h2 : gm < w6.heap.size := (Array.getElem?_eq_some_iff.1 HM6.out.mb.hp).1
                  rw [List.mem_singleton] at hm
                  omega)
                have HFC : Hid (∀ b, b ∈ fp (.slice a7 cs.length c7) → b ∉ [g]) := fun b hb hm => by
                  have h1 := HF7.out b hb
                  have h2 := HM6.out.hk.size
                  have h3 := HQ0.out
                  rw [List.mem_singleton] at hm
                  omega
                clear hkm HM7 HR7 HF7 f0 f1 m0 m1
                generalize (w7.setCell ⟨gm, 0, none⟩ (.slice a7 cs.length c7)).setCell ⟨gm, 1, none⟩ (.int .i64 sh) = w8 at *
                have HRR : Hid (∀ W, IsD W g U (t + T7) → Calls Tryd.prog 82 #[.pointer (some ⟨g, 0, none⟩), .int .i64 n, .int .i64 c] W fun e w' => ∃ v, e = .returned (.tuple #[v, .int .i64 (blockS n c (R.drop T7)).2.1]) ∧ Row w' .i64 3 v (blockS n c (R.drop T7)).1 ∧ IsD w' g U (t + (T7 + (blockS n c (R.drop T7)).2.2)) ∧ Keeps [g] W w' ∧ (∀ b, b ∈ fp v → W.heap.size ≤ b)) := by
                  intro W h
                  have := docRead_calls g U (t + T7) n c W (Lib.hid h) (by omega) (by omega) hs
                  rw [HDR.out, Nat.add_assoc] at this
                  exact this
                have HTS : Hid (tailS n c cs sh ws 0 (R.drop T7) = if (0 : Int) ≠ 0 then ([], 0, 0) else if (blockS n c (R.drop T7)).2.1 ≠ 0 then ([], (blockS n c (R.drop T7)).2.1, (blockS n c (R.drop T7)).2.2) else (rstO cs sh ws (blockS n c (R.drop T7)).1, rstE cs sh ws (blockS n c (R.drop T7)).1, (blockS n c (R.drop T7)).2.2)) := (show _ = _ from rfl)
                have hbl := blockS_len n c (R.drop T7)
                obtain ⟨⟨L, Er, Tr⟩, hB⟩ : ∃ B, blockS n c (R.drop T7) = B := ⟨_, rfl⟩
                rw [hB] at HTS HRR hbl
                have HLL : Hid (L.length ≤ 1000000) := by show _ ≤ _; have h1 : L.length ≤ (n : Int).toNat := hbl; omega
                clear hbl hB
                replace HRR : Hid (∀ W, IsD W g U (t + T7) → Calls Tryd.prog 82 #[.pointer (some ⟨g, 0, none⟩), .int .i64 n, .int .i64 c] W fun e w' => ∃ v, e = .returned (.tuple #[v, .int .i64 Er]) ∧ Row w' .i64 3 v L ∧ IsD w' g U (t + (T7 + Tr)) ∧ Keeps [g] W w' ∧ (∀ b, b ∈ fp v → W.heap.size ≤ b)) := HRR.out
                replace HTS : Hid (tailS n c cs sh ws 0 (R.drop T7) = if Er ≠ 0 then ([], Er, Tr) else (rstO cs sh ws L, rstE cs sh ws L, Tr)) := HTS.out
                by_cases hEr : Er = 0
                · subst hEr
                  have HT2 : Hid (seaS n D c R = (rstO cs sh ws L, rstE cs sh ws L, T7 + Tr)) := by show _ = _; rw [HSS.out, HSC.out, HTS.out, if_neg (by simp)]
                  obtain ⟨RE, eRE⟩ : ∃ e, rstE cs sh ws L = e := ⟨_, rfl⟩
                  have HRE := Lib.hid eRE
                  rw [eRE] at HT2
                  have HOK : Hid (okL RE (rstO cs sh ws L) = rstO cs sh ws L) := by
                    show _ = _
                    unfold okL rstO
                    rw [eRE]
                    split <;> rfl
                  clear HTS HSS HSC HCO eRE
                  go_upto_region 40 with (first
                    | (go_at_call 82; go_must (with_reducible refine (HRR.out _ HM8.out.rd).mono ?_); rintro e w9 ⟨v9, rfl, hr9, hd9, hk9, hf9⟩; obtain ⟨a9, c9, rfl, -, -, -⟩ := hr9.rdd; have HR9 := Lib.hid hr9; have HC9 := Lib.hid (HC8.out.keeps hk9 HFC.out); have HM9 := Lib.hid (HM8.out.step hd9 hk9); clear hr9 hd9 hk9 hf9))
                  have m0 := HM9.out.mb.c0
                  have m1 := HM9.out.mb.c1
                  go_wp2_with (first
                    | (go_at_call 83; go_must (with_reducible refine (docRestore_calls cs ws L sh _ _ _ rfl a7 a2 a9 c7 c2 c9 _ rfl rfl HN2.out (by omega) HLL.out (Lib.hid (row_rd HC9.out)) (Lib.hid (row_rd HM9.out.wr)) (Lib.hid (row_rd HR9.out))).mono ?_); rw [HRE.out]; rintro e w10 ⟨v6, rfl, hr6, hf6, hk6⟩; have HM10 := Lib.hid (HM9.out.new hk6); have HR6 := Lib.hid hr6; have HF6 := Lib.hid hf6; clear hr6 hf6 hk6))
                  go_ret2
                  rw [HT2.out, HOK.out]
                  exact ⟨v6, rfl, HR6.out, (fun b hb => Nat.le_trans HM9.out.hk.size (HF6.out b hb)), HM10.out.rd, HM10.out.hk⟩
                · have hEb : (Er != 0) = true := by simpa using hEr
                  have HT2 : Hid (seaS n D c R = ([], Er, T7 + Tr)) := by show _ = _; rw [HSS.out, HSC.out, HTS.out, if_pos hEr]
                  clear HTS HSS HSC HCO
                  go_wp2_with (first
                    | (go_at_call 82; go_must (with_reducible refine (HRR.out _ HM8.out.rd).mono ?_); rintro e w9 ⟨v9, rfl, hr9, hd9, hk9, hf9⟩; obtain ⟨a9, c9, rfl, -, -, -⟩ := hr9.rdd; have HM9 := Lib.hid (HM8.out.step hd9 hk9); clear hr9 hd9 hk9 hf9))
                  go_ret2
                  rw [HT2.out]
                  exact ⟨.slice none 0 0, rfl, by rw [okL_err hEr]; exact Row.nil _ _ _, (fun b h => by cases h), HM9.out.rd, HM9.out.hk⟩
              · have hFb : (F != 0) = true := by simpa using hF
                have HT2 : Hid (seaS n D c R = ([], F, T7 + 0)) := by
                  show _ = _
                  rw [HSS.out, HSC.out]
                  unfold tailS
                  rw [if_pos hF]
                clear HSS HSC
                go_wp2_with (first
                  | (go_at_call 46; go_must (with_reducible refine HG5.out.mono ?_); rintro e w6 ⟨rfl, hd6, hk6⟩; have HM6 := Lib.hid (HM5.out.step hd6 hk6); clear hd6 hk6)
                  | (go_at_call 81; go_must (with_reducible refine (HCO.out _ HM6.out.rd).mono ?_); rintro e w7 ⟨v7, rfl, hr7, hf7, hd7, hk7⟩; have HM7 := Lib.hid (HM6.out.step hd7 hk7); clear hr7 hf7 hd7 hk7))
                go_ret2
                rw [HT2.out]
                exact ⟨.slice none 0 0, rfl, by rw [okL_err hF]; exact Row.nil _ _ _, (fun b h => by cases h), HM7.out.rd, HM7.out.hk⟩
            · have HT2 : Hid (seaS n D c R = ([], 2, T + T6)) := by
                show _ = _
                rw [HSS.out]
                exact sea_err n c ws 0 T R (by omega) (by rw [HD2.out, decide_eq_false h15]; rfl) (by rw [HD1.out])
              clear HSS HD1 HD2
              go_wp2_with (first
                | (go_at_call 46; go_must (with_reducible refine HG5.out.mono ?_); rintro e w6 ⟨rfl, hd6, hk6⟩; have HM6 := Lib.hid (HM5.out.step hd6 hk6); clear hd6 hk6))
              go_ret2
              rw [HT2.out]
              exact ⟨.slice none 0 0, rfl, Row.nil _ _ _, (fun b h => by cases h), HM6.out.rd, HM6.out.hk⟩
          · have hEb : (E5 != 0) = true := by simpa using h5
            have HT2 : Hid (seaS n D c R = ([], E5, T + T6)) := by
              show _ = _
              rw [HSS.out]
              exact sea_err n c ws 0 T R h5 (by rw [HD2.out]; unfold mE; rw [if_neg (fun h => h5 h.1)]) (by rw [HD1.out])
            clear HSS HD1 HD2
            go_wp2_with (first
              | (go_at_call 46; go_must (with_reducible refine HG5.out.mono ?_); rintro e w6 ⟨rfl, hd6, hk6⟩; have HM6 := Lib.hid (HM5.out.step hd6 hk6); clear hd6 hk6))
            go_ret2
            rw [HT2.out]
            exact ⟨.slice none 0 0, rfl, by rw [okL_err h5]; exact Row.nil _ _ _, (fun b h => by cases h), HM6.out.rd, HM6.out.hk⟩
        · obtain ⟨d1, d2⟩ := md_3 (R.drop T) hE4 hN4
          have HT2 : Hid (seaS n D c R = ([], 2, T + gtT 4 (R.drop T))) := by
            show _ = _
            rw [HSS.out]
            exact sea_err n c ws 0 T R (by omega) d1 d2
          obtain ⟨N4, hN⟩ : ∃ x, gtN 4 (R.drop T) = x := ⟨_, rfl⟩
          rw [hN] at HG4 hN4
          have hNb : (N4 != 11) = true := by simpa using hN4
          clear HSS d1 d2 hN hE4
          go_wp2_with (first
            | (go_at_call 46; go_must (with_reducible refine HG4.out.mono ?_); rintro e w5 ⟨rfl, hd5, hk5⟩; have HM5 := Lib.hid (HDM.out.step hd5 hk5); clear hd5 hk5))
          go_ret2
          rw [HT2.out]
          exact ⟨.slice none 0 0, rfl, Row.nil _ _ _, (fun b h => by cases h), HM5.out.rd, HM5.out.hk⟩
      · obtain ⟨d1, d2⟩ := md_2 (R.drop T) hE4
        have HT2 : Hid (seaS n D c R = ([], gtE 4 (R.drop T), T + gtT 4 (R.drop T))) := by
          show _ = _
          rw [HSS.out]
          exact sea_err n c ws 0 T R hE4 d1 d2
        obtain ⟨E4, hN⟩ : ∃ x, gtE 4 (R.drop T) = x := ⟨_, rfl⟩
        rw [hN] at HG4 hE4 HT2
        have hNb : (E4 != 0) = true := by simpa using hE4
        clear HSS d1 d2 hN
        go_wp2_with (first
          | (go_at_call 46; go_must (with_reducible refine HG4.out.mono ?_); rintro e w5 ⟨rfl, hd5, hk5⟩; have HM5 := Lib.hid (HDM.out.step hd5 hk5); clear hd5 hk5))
        go_ret2
        rw [HT2.out]
        exact ⟨.slice none 0 0, rfl, by rw [okL_err hE4]; exact Row.nil _ _ _, (fun b h => by cases h), HM5.out.rd, HM5.out.hk⟩
    · have hEb : (E != 0) = true := by simpa using hE
      have HT2 : Hid (seaS n D c R = ([], E, T + 0)) := by
        show _ = _
        rw [HSS.out]
        obtain ⟨d1, d2⟩ := md_1 (R.drop T) hE
        exact sea_err n c ws E T R hE d1 d2
      clear HSS HFX
      go_enter Tryd.func48, Tryd.ntmps48
      go_wp2_with (first
        | (go_at_call 81; go_must (with_reducible refine HSM.out.mono ?_); rintro e w2 ⟨v2, rfl, hr2, hf2, hd2, hk2⟩))
      go_ret2
      rw [HT2.out]
      exact ⟨.slice none 0 0, rfl, by rw [okL_err hE]; exact Row.nil _ _ _, (fun b h => by cases h), hd2, hk2⟩

theorem dbody_calls (g : Nat) (U : List Bool) (t : Nat) (n : Nat) (kd D : Int) (w : World) (hD : Hid (IsD w g U t)) (hn : 1 ≤ n ∧ n ≤ 512) (hk : kindB kd = true) (hs : U.length ≤ 8000000) :
    Calls Tryd.prog 48 #[.pointer (some ⟨g, 0, none⟩), .int .i64 n, .int .i64 D, .int .i64 kd] w fun e w' => ∃ v, e = .returned (.tuple #[v, .int .i64 (bodyS kd n D (U.drop t)).2.1]) ∧ Row w' .i64 3 v (okL (bodyS kd n D (U.drop t)).2.1 (bodyS kd n D (U.drop t)).1) ∧ (∀ b, b ∈ fp v → w.heap.size ≤ b) ∧
      IsD w' g U (t + (bodyS kd n D (U.drop t)).2.2) ∧ Keeps [g] w w' := by
  have h := of_decide_eq_true hk
  rcases h with rfl | rfl | h | h
  · exact dbody_one g U t n D w hD hn.2
  · exact dbody_all g U t n D w hD hn.2
  · obtain ⟨c, hc⟩ : ∃ c : Nat, kd = 8 + (c : Int) := ⟨(kd - 8).toNat, by omega⟩
    have e : bodyS kd n D (U.drop t) = fixS n D c (U.drop t) := by
      unfold bodyS
      rw [if_neg (by omega), if_neg (by omega), if_pos (by omega), show (kd - 8).toNat = c by omega]
    rw [e]
    exact dbody_fix g U t n c D kd w hD hn.2 (by omega) hc hs
  · obtain ⟨c, hc⟩ : ∃ c : Nat, kd = 31 + (c : Int) := ⟨(kd - 31).toNat, by omega⟩
    have e : bodyS kd n D (U.drop t) = seaS n D c (U.drop t) := by
      unfold bodyS
      rw [if_neg (by omega), if_neg (by omega), if_neg (by omega), show (kd - 31).toNat = c by omega]
    rw [e]
    exact dbody_sea g U t n c D kd w hD hn.2 (by omega) hc hs
end Go.Proofs.YtofkiimaoahfjaaDoor

set_option maxRecDepth 100000
set_option linter.unusedVariables false
set_option linter.unusedSimpArgs false
namespace Go.Proofs.YtofkiimaoahfjaaDoor
open Go.RowKit Go.Proofs.YtofkiimaoahfjaaDoor.Pure

theorem mE_err {E : Int} (h : E ≠ 0) (ok : Bool) : mE E ok = E := by unfold mE; rw [if_neg (fun e => h e.1)]
theorem mE_ok (E : Int) : mE E true = E := by unfold mE; rw [if_neg (fun e => by simp at e)]
theorem mE_no : mE 0 false = 2 := rfl
theorem iE_err {E k : Int} (h : E ≠ 0) (R : List Bool) : iE k E R = E := if_neg h
theorem iN_err {E k : Int} (h : E ≠ 0) (R : List Bool) : iN k E R = 0 := if_neg h
theorem iE_ok (k : Int) (R : List Bool) : iE k 0 R = gtE k R := rfl
theorem iN_ok (k : Int) (R : List Bool) : iN k 0 R = gtN k R := rfl
theorem iT_ok (k : Int) (R : List Bool) : iT k 0 R = gtT k R := rfl
/-- An error stays. -/
theorem head_e3 (depth : Int) (R : List Bool) {F : Int} (hF : F ≠ 0) (h : (hd3 R).2.1 = F) : headE depth R = F := by
  unfold headE hd4
  rw [h, if_neg (fun e => hF e.2)]
  exact mE_err hF _
theorem head_e2 (depth : Int) (R : List Bool) {F : Int} (hF : F ≠ 0) (h : (hd2 R).2.1 = F) : headE depth R = F := by
  refine head_e3 depth R hF ?_
  show iE 1 (hd2 R).2.1 _ = F
  rw [h]
  exact iE_err hF _
theorem head_e1 (depth : Int) (R : List Bool) {F : Int} (hF : F ≠ 0) (h : (hd1 R).1 = F) : headE depth R = F := by
  refine head_e2 depth R hF ?_
  show mE (iE 6 (hd1 R).1 _) _ = F
  rw [h, iE_err hF]
  exact mE_err hF _
theorem bit_01 (R : List Bool) : gtN 1 R = 0 ∨ gtN 1 R = 1 := by
  unfold gtN
  split
  · have h := val_take_lt R 1
    show ((val (R.take 1) : Nat) : Int) = 0 ∨ ((val (R.take 1) : Nat) : Int) = 1
    omega
  · exact .inl rfl
/-- The first bit has an error, or is no nought. -/
theorem head_s1 (depth : Int) (R : List Bool) (h : gtE 1 R ≠ 0) : headE depth R = gtE 1 R :=
  head_e1 depth R h (by show mE (gtE 1 R) _ = _; exact mE_err h _)
theorem head_s1b (depth : Int) (R : List Bool) (h : gtE 1 R = 0) (hn : gtN 1 R = 1) : headE depth R = 2 := by
  refine head_e1 depth R (by omega) ?_
  show mE (gtE 1 R) (gtN 1 R == 0) = 2
  rw [h, hn]
  rfl
theorem hd1_ok (R : List Bool) (h : gtE 1 R = 0) (hn : gtN 1 R = 0) : hd1 R = (0, gtT 1 R) := by
  show (mE (gtE 1 R) (gtN 1 R == 0), gtT 1 R) = _
  rw [h, hn]
  rfl
theorem hd2_of (R : List Bool) {T : Nat} (h : hd1 R = (0, T)) : hd2 R = (gtN 6 (R.drop T), mE (gtE 6 (R.drop T)) (kindB (gtN 6 (R.drop T))), T + gtT 6 (R.drop T)) := by
  unfold hd2
  rw [h]
  rfl
theorem hd3_of (R : List Bool) {N : Int} {T : Nat} (h : hd2 R = (N, 0, T)) : hd3 R = (gtN 1 (R.drop T), gtE 1 (R.drop T), T + gtT 1 (R.drop T)) := by
  unfold hd3
  rw [h]
  rfl
theorem hd4_yes (R : List Bool) {T : Nat} (h : hd3 R = (1, 0, T)) : hd4 R = (unRN (R.drop T) + 1, unRE (R.drop T), T + unRT (R.drop T)) := by
  unfold hd4
  rw [h]
  exact if_pos ⟨rfl, rfl⟩
theorem hd4_no (R : List Bool) {E : Int} {T : Nat} (h : hd3 R = (0, E, T)) : hd4 R = (0, E, T) := by
  unfold hd4
  rw [h]
  exact if_neg (fun e => by simp at e)
theorem headE_of (depth : Int) (R : List Bool) {k E : Int} {T : Nat} (h : hd4 R = (k, E, T)) : headE depth R = mE E (decide (k < depth)) := by
  unfold headE
  rw [h]
/-- No kind. -/
theorem kind_no {N : Int} (h0 : 0 ≤ N) (h : kindB N = false) : 1 < N ∧ (N < 8 ∨ 12 < N) ∧ (N < 32 ∨ 39 < N) := by
  have := of_decide_eq_false h
  omega
end Go.Proofs.YtofkiimaoahfjaaDoor
