/-
  Layer 9 (subframe), the document's reading: DocRead.
-/
import Derived.Test.YtofkiimaoahfjaaDoorZDr5
import Derived.Test.YtofkiimaoahfjaaDoorZSub11
import Derived.StillTailTactics
set_option maxRecDepth 100000
set_option linter.unusedVariables false
set_option linter.unusedSimpArgs false
namespace Go.Proofs.YtofkiimaoahfjaaDoor
open Go.RowKit Go.Proofs.YtofkiimaoahfjaaDoor.Pure

/-- The first i turned by f, the others as they were. -/
def halfS (f : Int → Int) (xs : List Int) (i : Nat) : List Int := (xs.map f).take i ++ xs.drop i
theorem half_length (f : Int → Int) (xs : List Int) (i : Nat) : (halfS f xs i).length = xs.length := by simp [halfS]; omega
theorem half_zero (f : Int → Int) (xs : List Int) : halfS f xs 0 = xs := by simp [halfS]
theorem half_end (f : Int → Int) (xs : List Int) : halfS f xs xs.length = xs.map f := by simp [halfS, List.take_of_length_le]
theorem half_get (f : Int → Int) (xs : List Int) (i : Nat) (h : i < xs.length) (h2 : i < (halfS f xs i).length) : (halfS f xs i)[i] = xs[i] := by
  have hl : ((xs.map f).take i).length = i := by simp; omega
  have e : (halfS f xs i)[i]? = some xs[i] := by
    unfold halfS
    rw [List.getElem?_append_right (by omega), hl, Nat.sub_self, List.getElem?_drop]
    simp [h]
  exact Option.some.inj ((List.getElem?_eq_getElem h2).symm.trans e)
theorem half_set (f : Int → Int) (xs : List Int) (i : Nat) (h : i < xs.length) : (halfS f xs i).set i (f xs[i]) = halfS f xs (i + 1) := by
  have hl : ((xs.map f).take i).length = i := by simp; omega
  unfold halfS
  rw [List.set_append, if_neg (by omega), hl, Nat.sub_self, List.drop_eq_getElem_cons h, List.set_cons_zero]
  rw [List.take_succ_eq_append_getElem (by simpa using h), List.getElem_map, List.append_assoc]
  rfl
/-- Where the Reader stands behind it; told where there is no error. -/
def EndD (w : World) (g : Nat) (U : List Bool) (E : Int) (T : Nat) : Prop := ∃ T', IsD w g U T' ∧ (E = 0 → T' = T)
theorem readB_err {m : Nat} {depth : Int} {R : List Bool} {F : Int} (h : headE depth R = F) (hF : F ≠ 0) : ∃ T, readB m depth R = ([], F, T) := by
  unfold readB
  rw [h, if_pos hF]
  exact ⟨_, rfl⟩

set_option maxHeartbeats 16000000 in
theorem docSRead_calls (g : Nat) (U : List Bool) (t : Nat) (n depth : Int) (w : World) (hD : Hid (IsD w g U t)) (hs : U.length ≤ 8000000) :
    Calls Tryd.prog 23 #[.pointer (some ⟨g, 0, none⟩), .int .i64 n, .int .i64 depth] w fun e w' => ∃ v, e = .returned (.tuple #[v, .int .i64 (readX n depth (U.drop t)).2.1]) ∧ Row w' .i64 3 v (readX n depth (U.drop t)).1 ∧
      EndD w' g U (readX n depth (U.drop t)).2.1 (t + (readX n depth (U.drop t)).2.2) ∧ Keeps [g] w w' := by
  have hq0 : g < w.heap.size := hD.out.duo.lt
  cases hsb : sbrB n depth
  · have hX : readX n depth (U.drop t) = ([], 1, 0) := by unfold readX; rw [hsb]; rfl
    rw [hX]
    have hb' : ¬ (1 ≤ n ∧ n ≤ 512 ∧ 4 ≤ depth ∧ depth ≤ 25) := of_decide_eq_false hsb
    clear hX hsb
    by_cases g1 : n < 1
    · go_enter Tryd.func23, Tryd.ntmps23
      go_wp2
      go_ret2
      exact ⟨.slice none 0 0, rfl, Row.nil _ _ _, ⟨t, hD.out, fun h => absurd h (show ¬ ((1 : Int) = 0) by decide)⟩, Keeps.refl _ _⟩
    · by_cases g2 : 512 < n
      · go_enter Tryd.func23, Tryd.ntmps23
        go_wp2
        go_ret2
        exact ⟨.slice none 0 0, rfl, Row.nil _ _ _, ⟨t, hD.out, fun h => absurd h (show ¬ ((1 : Int) = 0) by decide)⟩, Keeps.refl _ _⟩
      · by_cases g3 : depth < 4
        · go_enter Tryd.func23, Tryd.ntmps23
          go_wp2
          go_ret2
          exact ⟨.slice none 0 0, rfl, Row.nil _ _ _, ⟨t, hD.out, fun h => absurd h (show ¬ ((1 : Int) = 0) by decide)⟩, Keeps.refl _ _⟩
        · have g4 : 25 < depth := by omega
          clear hb'
          go_enter Tryd.func23, Tryd.ntmps23
          go_wp2
          go_ret2
          exact ⟨.slice none 0 0, rfl, Row.nil _ _ _, ⟨t, hD.out, fun h => absurd h (show ¬ ((1 : Int) = 0) by decide)⟩, Keeps.refl _ _⟩
  · obtain ⟨hn1, hn2, hd1, hd2⟩ := sbr_facts hsb
    obtain ⟨m, rfl⟩ : ∃ m : Nat, n = m := ⟨n.toNat, by omega⟩
    obtain ⟨R, hR⟩ : ∃ R, U.drop t = R := ⟨_, rfl⟩
    rw [hR]
    have HX : Hid (readX m depth R = readB m depth R) := by show _ = _; unfold readX; rw [hsb, Int.toNat_natCast]; rfl
    have hdr : ∀ d, U.drop (t + d) = R.drop d := fun d => by rw [← hR, List.drop_drop]
    have hRl : R.length ≤ 8000000 := by rw [← hR, List.length_drop]; omega
    have HG : Hid (∀ d (k : Int) W, IsD W g U (t + d) → Calls Tryd.prog 46 #[.pointer (some ⟨g, 0, none⟩), .int .i64 k] W fun e w' => e = .returned (.tuple #[.int .i64 (gtN k (R.drop d)), .int .i64 (gtE k (R.drop d))]) ∧ IsD w' g U (t + (d + gtT k (R.drop d))) ∧ Keeps [g] W w') := fun d k W h => by
      have := dGet_calls g U (t + d) k W (Lib.hid h)
      rw [hdr, Nat.add_assoc] at this
      exact this
    have HUN : Hid (∀ d W, IsD W g U (t + d) → Calls Tryd.prog 47 #[.pointer (some ⟨g, 0, none⟩)] W fun e w' => e = .returned (.tuple #[.int .i64 (unRN (R.drop d)), .int .i64 (unRE (R.drop d))]) ∧ IsD w' g U (t + (d + unRT (R.drop d))) ∧ Keeps [g] W w') := fun d W h => by
      have := dUnary_calls g U (t + d) W (Lib.hid h)
      rw [hdr, Nat.add_assoc] at this
      exact this
    have HB : Hid (∀ d kd D W, kindB kd = true → IsD W g U (t + d) → Calls Tryd.prog 48 #[.pointer (some ⟨g, 0, none⟩), .int .i64 m, .int .i64 D, .int .i64 kd] W fun e w' => ∃ v, e = .returned (.tuple #[v, .int .i64 (bodyS kd m D (R.drop d)).2.1]) ∧ Row w' .i64 3 v (okL (bodyS kd m D (R.drop d)).2.1 (bodyS kd m D (R.drop d)).1) ∧ (∀ b, b ∈ fp v → W.heap.size ≤ b) ∧
        IsD w' g U (t + (d + (bodyS kd m D (R.drop d)).2.2)) ∧ Keeps [g] W w') := fun d kd D W hk h => by
      have := dbody_calls g U (t + d) m kd D W (Lib.hid h) (by omega) hk hs
      rw [hdr, Nat.add_assoc] at this
      exact this
    have HGa := Lib.hid (HG.out 0 1)
    simp only [Nat.zero_add, List.drop_zero, Nat.add_zero] at HGa
    have s1 := head_s1 depth R
    have s1b := head_s1b depth R
    have s1c := hd1_ok R
    have hb1 := bit_01 R
    obtain ⟨N1, hN1⟩ : ∃ x, gtN 1 R = x := ⟨_, rfl⟩
    obtain ⟨E1, hE1⟩ : ∃ x, gtE 1 R = x := ⟨_, rfl⟩
    obtain ⟨T1, hT1⟩ : ∃ x, gtT 1 R = x := ⟨_, rfl⟩
    rw [hN1, hE1, hT1] at HGa
    rw [hE1] at s1
    rw [hE1, hN1] at s1b
    rw [hE1, hN1, hT1] at s1c
    rw [hN1] at hb1
    clear hN1 hE1 hT1 hsb hdr hR
    by_cases h1 : E1 = 0
    · subst h1
      rcases hb1 with rfl | rfl
      · have e1 := s1c rfl rfl
        have e2 := hd2_of R e1
        have HGb := Lib.hid (HG.out T1 6)
        have hb2 := (gtN_range 6 (R.drop T1)).1
        obtain ⟨N2, hN2⟩ : ∃ x, gtN 6 (R.drop T1) = x := ⟨_, rfl⟩
        obtain ⟨E2, hE2⟩ : ∃ x, gtE 6 (R.drop T1) = x := ⟨_, rfl⟩
        obtain ⟨T2, hT2⟩ : ∃ x, T1 + gtT 6 (R.drop T1) = x := ⟨_, rfl⟩
        rw [hN2, hE2, hT2] at HGb e2
        rw [hN2] at hb2
        clear hN2 hE2 hT2 s1 s1b s1c e1
        by_cases h2 : E2 = 0
        · subst h2
          cases hkd : kindB N2
          · obtain ⟨T, hT⟩ := readB_err (m := m) (head_e2 depth R (F := 2) (by omega) (by rw [e2, hkd]; rfl)) (by omega)
            have HX2 : Hid (readX m depth R = ([], 2, T)) := by show _ = _; rw [HX.out, hT]
            obtain ⟨k1, k2, k3⟩ := kind_no hb2 hkd
            clear hT e2 hkd HX HUN HB HG
            rcases k2 with k2 | k2
            · have k3' : N2 < 32 := by omega
              clear k3
              go_enter Tryd.func23, Tryd.ntmps23
              go_wp2_with (first
                | (go_at_call 46; with_reducible refine (HGa.out _ hD.out).mono ?_; rintro e w1 ⟨rfl, d1, q1⟩)
                | (go_at_call 46; with_reducible refine (HGb.out _ d1).mono ?_; rintro e w2 ⟨rfl, d2, q2⟩))
              go_ret2
              rw [HX2.out]
              exact ⟨.slice none 0 0, rfl, Row.nil _ _ _, ⟨_, d2, fun h => absurd h (show ¬ ((2 : Int) = 0) by decide)⟩, q1.then_ q2 (fun b hb _ => hb)⟩
            · have k2' : ¬ N2 < 8 := by omega
              rcases k3 with k3 | k3
              · go_enter Tryd.func23, Tryd.ntmps23
                go_wp2_with (first
                  | (go_at_call 46; with_reducible refine (HGa.out _ hD.out).mono ?_; rintro e w1 ⟨rfl, d1, q1⟩)
                  | (go_at_call 46; with_reducible refine (HGb.out _ d1).mono ?_; rintro e w2 ⟨rfl, d2, q2⟩))
                go_ret2
                rw [HX2.out]
                exact ⟨.slice none 0 0, rfl, Row.nil _ _ _, ⟨_, d2, fun h => absurd h (show ¬ ((2 : Int) = 0) by decide)⟩, q1.then_ q2 (fun b hb _ => hb)⟩
              · have k3' : ¬ N2 < 32 := by omega
                go_enter Tryd.func23, Tryd.ntmps23
                go_wp2_with (first
                  | (go_at_call 46; with_reducible refine (HGa.out _ hD.out).mono ?_; rintro e w1 ⟨rfl, d1, q1⟩)
                  | (go_at_call 46; with_reducible refine (HGb.out _ d1).mono ?_; rintro e w2 ⟨rfl, d2, q2⟩))
                go_ret2
                rw [HX2.out]
                exact ⟨.slice none 0 0, rfl, Row.nil _ _ _, ⟨_, d2, fun h => absurd h (show ¬ ((2 : Int) = 0) by decide)⟩, q1.then_ q2 (fun b hb _ => hb)⟩
          · rw [hkd, mE_ok] at e2
            have e3 := hd3_of R e2
            have HGc := Lib.hid (HG.out T2 1)
            have hb3 := bit_01 (R.drop T2)
            obtain ⟨N3, hN3⟩ : ∃ x, gtN 1 (R.drop T2) = x := ⟨_, rfl⟩
            obtain ⟨E3, hE3⟩ : ∃ x, gtE 1 (R.drop T2) = x := ⟨_, rfl⟩
            obtain ⟨T3, hT3⟩ : ∃ x, T2 + gtT 1 (R.drop T2) = x := ⟨_, rfl⟩
            rw [hN3, hE3, hT3] at HGc e3
            rw [hN3] at hb3
            clear hN3 hE3 hT3
            go_enter Tryd.func23, Tryd.ntmps23
            go_upto_region 11 with (first
              | (go_at_call 46; with_reducible refine (HGa.out _ hD.out).mono ?_; rintro e w1 ⟨rfl, d1, q1⟩)
              | (go_at_call 46; with_reducible refine (HGb.out _ d1).mono ?_; rintro e w2 ⟨rfl, d2, q2⟩))
            have HD2 := Lib.hid d2
            have HK2 : Hid (Keeps [g] w w2) := q1.then_ q2 (fun b hb _ => hb)
            clear d1 d2 q1 q2 HGa HGb
            go_cut [64] (fun c wx => c = .bool false ∧ wx = w2)
            case first =>
              have hkk := of_decide_eq_true hkd
              rcases hkk with rfl | rfl | ⟨h8, h12⟩ | ⟨h31, h39⟩
              · go_wp2_with fail
                go_meet
                exact ⟨rfl, rfl⟩
              · go_wp2_with fail
                go_meet
                exact ⟨rfl, rfl⟩
              · have a1 : ¬ N2 < 8 := by omega
                have a2 : ¬ 12 < N2 := by omega
                go_wp2_with fail
                go_meet
                exact ⟨rfl, rfl⟩
              · have a1 : ¬ N2 < 8 := by omega
                have a2 : 12 < N2 := by omega
                have a3 : ¬ N2 < 32 := by omega
                have a4 : ¬ 39 < N2 := by omega
                go_wp2_with fail
                go_meet
                exact ⟨rfl, rfl⟩
            case rest =>
              obtain ⟨wa, rfl⟩ : ∃ x : World, x = wc := ⟨_, rfl⟩
              obtain ⟨rfl, rfl⟩ := hcut
              by_cases h3 : E3 = 0
              · subst h3
                go_upto_if 75 with (first
                  | (go_at_call 46; with_reducible refine (HGc.out _ HD2.out).mono ?_; rintro e w3 ⟨rfl, d3, q3⟩))
                have HD3 := Lib.hid d3
                have HK3 : Hid (Keeps [g] w w3) := HK2.out.then_ q3 (fun b hb _ => hb)
                clear d3 q3 HK2 HD2 HGc
                go_cut [9, 12] (fun v9 v12 wx => ∃ (k E : Int) (T : Nat), v9 = .int .i64 E ∧ v12 = .int .i64 k ∧ Hid (hd4 R = (k, E, T)) ∧ Hid (IsD wx g U (t + T)) ∧ Hid (Keeps [g] w wx) ∧ 0 ≤ k)
                case first =>
                  rcases hb3 with rfl | rfl
                  · have e4 := hd4_no R e3
                    go_wp2_with fail
                    go_meet
                    exact ⟨0, 0, T3, rfl, rfl, e4, HD3.out, HK3.out, by omega⟩
                  · have e4 := hd4_yes R e3
                    have HU := Lib.hid (HUN.out T3)
                    have hur := unRN_range (R.drop T3)
                    have hul : (R.drop T3).length ≤ 8000000 := by rw [List.length_drop]; omega
                    obtain ⟨UN, eUN⟩ : ∃ x, unRN (R.drop T3) = x := ⟨_, rfl⟩
                    obtain ⟨UE, eUE⟩ : ∃ x, unRE (R.drop T3) = x := ⟨_, rfl⟩
                    obtain ⟨UT, eUT⟩ : ∃ x, T3 + unRT (R.drop T3) = x := ⟨_, rfl⟩
                    rw [eUN, eUE, eUT] at HU e4
                    rw [eUN] at hur
                    have hw1 : IntKind.i64.wrap (UN + 1) = UN + 1 := IntWalk.i64_in _ (by omega)
                    have hk0 : 0 ≤ UN + 1 := by omega
                    have HE4 := Lib.hid e4
                    clear eUN eUE eUT e4 hul hur
                    go_wp2_with (first
                      | (go_at_call 47; with_reducible refine (HU.out _ HD3.out).mono ?_; rintro e w4 ⟨rfl, d4, q4⟩))
                    go_meet
                    exact ⟨UN + 1, UE, _, rfl, rfl, HE4.out, d4, HK3.out.then_ q4 (fun b hb _ => hb), hk0⟩
                case rest =>
                  obtain ⟨wb, rfl⟩ : ∃ x : World, x = wc := ⟨_, rfl⟩
                  clear HD3 HK3 HUN e3 hb3
                  obtain ⟨k, E, T4, rfl, rfl, HE4, HD4, HK4, hk0⟩ := hcut
                  have hhe := headE_of depth R HE4.out
                  by_cases h4 : E = 0
                  · subst h4
                    by_cases h5 : k < depth
                    · rw [decide_eq_true h5] at hhe
                      replace hhe : headE depth R = 0 := hhe
                      obtain ⟨kk, rfl⟩ : ∃ kk : Nat, k = kk := ⟨k.toNat, by omega⟩
                      obtain ⟨D, hDe⟩ : ∃ D, depth - (kk : Int) = D := ⟨_, rfl⟩
                      have HBD := Lib.hid (fun W h => HB.out T4 N2 D W hkd h)
                      have HRB : Hid (readB m depth R = if (bodyS N2 m D (R.drop T4)).2.1 ≠ 0 then ([], (bodyS N2 m D (R.drop T4)).2.1, T4 + (bodyS N2 m D (R.drop T4)).2.2) else if (bodyS N2 m D (R.drop T4)).1.all (fun x => fitB x (D.toNat - 1)) = false then ([], 12, T4 + (bodyS N2 m D (R.drop T4)).2.2) else ((bodyS N2 m D (R.drop T4)).1.map (fun x => x * 2 ^ kk), 0, T4 + (bodyS N2 m D (R.drop T4)).2.2)) := by
                        show _ = _
                        unfold readB
                        rw [hhe, if_neg (by simp), e2, HE4.out]
                        show (if (bodyS N2 m (depth - (kk : Int)) (R.drop T4)).2.1 ≠ 0 then _ else _) = _
                        rw [hDe]
                        rfl
                      have hll := (bodyS_range N2 m D (R.drop T4) (by omega)).2
                      have hrg := (bodyS_range N2 m D (R.drop T4) (by omega)).1
                      obtain ⟨⟨xs, F, T⟩, eX⟩ : ∃ z, bodyS N2 m D (R.drop T4) = z := ⟨_, rfl⟩
                      rw [eX] at HBD HRB hll hrg
                      replace HBD : Hid (∀ W, IsD W g U (t + T4) → Calls Tryd.prog 48 #[.pointer (some ⟨g, 0, none⟩), .int .i64 m, .int .i64 D, .int .i64 N2] W fun e w' => ∃ v, e = .returned (.tuple #[v, .int .i64 F]) ∧ Row w' .i64 3 v (okL F xs) ∧ (∀ b, b ∈ fp v → W.heap.size ≤ b) ∧ IsD w' g U (t + (T4 + T)) ∧ Keeps [g] W w') := HBD.out
                      replace HRB : Hid (readB m depth R = if F ≠ 0 then ([], F, T4 + T) else if xs.all (fun x => fitB x (D.toNat - 1)) = false then ([], 12, T4 + T) else (xs.map (fun x => x * 2 ^ kk), 0, T4 + T)) := HRB.out
                      replace hll : xs.length ≤ 1000000 := hll
                      have HRG : Hid (∀ x ∈ xs, -9223372036854775808 ≤ x ∧ x ≤ 9223372036854775807) := hrg
                      have hD1 : 1 ≤ D := by omega
                      have hD2 : D ≤ 25 := by omega
                      have hwD : IntKind.i64.wrap (depth - (kk : Int)) = D := by rw [hDe]; exact IntWalk.i64_in _ (by omega)
                      have hkk24 : kk ≤ 24 := by omega
                      clear eX HB hrg e2 hkd hhe hDe HE4 HG
                      by_cases hF : F = 0
                      · subst hF
                        rw [okL_zero] at HBD
                        go_wp2_with (first
                          | (go_at_call 48; with_reducible refine (HBD.out _ HD4.out).mono ?_; rintro e w3 ⟨v3, rfl, hr3, hf3, hi3, hk3⟩; obtain ⟨a3, c3, rfl, -, -, -⟩ := hr3.rdd; have HR3 := Lib.hid hr3; have HF3 := Lib.hid hf3; have HI3 := Lib.hid hi3; have HK3 := Lib.hid (HK4.out.then_ hk3 (fun b hb _ => hb)); clear hr3 hf3 hi3 hk3))
                        replace HRB : Hid (readB m depth R = if xs.all (fun x => fitB x (D.toNat - 1)) = false then ([], 12, T4 + T) else (xs.map (fun x => x * 2 ^ kk), 0, T4 + T)) := by
                          show _ = _
                          rw [HRB.out, if_neg (by simp)]
                        obtain ⟨dd, hdd⟩ : ∃ dd : Nat, D = ((dd + 1 : Nat) : Int) := ⟨D.toNat - 1, by omega⟩
                        rw [show D.toNat - 1 = dd by omega] at HRB
                        obtain ⟨p, hp⟩ : ∃ p : Int → Bool, (fun x => fitB x dd) = p := ⟨_, rfl⟩
                        have HPX : Hid (∀ x, fitB x dd = p x) := fun x => by rw [← hp]
                        have HSG : Hid (∀ x W, Calls Tryd.prog 33 #[.int .i64 x, .int .i64 D] W fun e w' => e = .returned (.bool (p x)) ∧ W = w') := fun x W => by
                          have := refSigned_calls x (dd + 1) W (by omega)
                          rw [fit_sgn x (dd + 1) (by omega), show dd + 1 - 1 = dd by omega, HPX.out, ← hdd] at this
                          exact this
                        rw [hp] at HRB
                        obtain ⟨P, hP⟩ : ∃ P : Int, (2 : Int) ^ kk = P := ⟨_, rfl⟩
                        have hPb : 1 ≤ P ∧ P ≤ 16777216 := by
                          have h1 : (2 : Nat) ^ kk ≤ 2 ^ 24 := Nat.pow_le_pow_right (by omega) hkk24
                          have h2 : (2 : Nat) ^ 24 = 16777216 := rfl
                          have h3 : ((2 ^ kk : Nat) : Int) = (2 : Int) ^ kk := by simp
                          have h4 := Nat.two_pow_pos kk
                          omega
                        have hdd24 : dd ≤ 24 := by omega
                        have HPB := Lib.hid hPb
                        rw [hP] at HRB
                        obtain ⟨f, hf⟩ : ∃ f : Int → Int, (fun x => x * P) = f := ⟨_, rfl⟩
                        have HFX : Hid (∀ x, f x = x * P) := fun x => by rw [← hf]
                        rw [hf] at HRB
                        have hmin : min kk 64 = kk := by omega
                        have hwP : IntKind.i64.wrap P = P := IntWalk.i64_in _ (by omega)
                        clear hp hf hdd hPb HBD hD1
                        go_wp2_with fail
                        go_loopg [14] (xs.length + 1) (fun u v14 wr => ∃ (i : Nat), v14 = .int .i64 i ∧ i ≤ xs.length ∧ Hid (Row wr .i64 3 (.slice a3 xs.length c3) (halfS f xs i)) ∧ Hid (Keeps (fp (.slice a3 xs.length c3)) w3 wr) ∧ Hid ((xs.drop i).all p = xs.all p) ∧ Hid (i + u = xs.length + 1))
                        case atStart => exact ⟨0, rfl, by omega, (by show Row _ _ _ _ _; rw [half_zero]; exact HR3.out), Keeps.refl _ _, (show _ = _ from by simp), (show _ = _ from by omega)⟩
                        case round =>
                          obtain ⟨i, rfl, hi, HROW, HKF, HALL, HQ5⟩ := hrel
                          obtain ⟨q1, rfl⟩ : ∃ g : Nat, g = gk := ⟨_, rfl⟩
                          obtain ⟨wa, rfl⟩ : ∃ y : World, y = wr := ⟨_, rfl⟩
                          have HKE : Hid (∀ W, Keeps (fp (.slice a3 xs.length c3)) w3 W → Keeps [g] w W ∧ IsD W g U (t + (T4 + T))) := fun W hk => by
                            have hg1 : ∀ b, b ∈ fp (.slice a3 xs.length c3) → b ≠ g := fun b hb => by
                              have h1 := HF3.out b hb
                              have h2 := HK4.out.size
                              omega
                            exact ⟨HK3.out.then_ hk (fun b hb hlt => by have h1 := HF3.out b hb; have h2 := HK4.out.size; omega), HI3.out.keeps hk (fun hm => hg1 g hm rfl)⟩
                          by_cases hlt : i < xs.length
                          · obtain ⟨x, hx1⟩ : ∃ x, xs[i] = x := ⟨_, rfl⟩
                            have hc1 : ∀ h, (halfS f xs i)[i]'h = x := fun h => by rw [half_get f xs i hlt h, hx1]
                            have hst := half_set f xs i hlt
                            rw [hx1, HFX.out] at hst
                            obtain ⟨g9, c', he⟩ := HROW.out.form (by rw [half_length]; omega)
                            simp only [Value.slice.injEq] at he
                            obtain ⟨rfl, -, rfl⟩ := he
                            have hcl := HROW.out.cell i (by rw [half_length]; exact hlt)
                            rw [hc1] at hcl
                            have hfz := HROW.out.frozen i
                            have HS := Lib.hid (all_step p xs i hlt x hx1 HALL.out)
                            have HN := Lib.hid (all_no p xs i hlt x hx1 HALL.out)
                            have HXR := Lib.hid (HRG.out x (by rw [← hx1]; exact List.getElem_mem _))
                            have HSGx := Lib.hid (HSG.out x)
                            clear hx1 hc1
                            cases hpx : p x
                            · have HA : Hid (xs.all p = false) := HN.out hpx
                              rw [hpx] at HSGx
                              have HX2 : Hid (readX m depth R = ([], 12, T4 + T)) := by show _ = _; rw [HX.out, HRB.out, if_pos HA.out]
                              clear hpx HRB hst
                              go_wp2_with (first
                                | (go_at_call 33; go_must (with_reducible refine (HSGx.out _).mono ?_); rintro e w9 ⟨rfl, hw9⟩; rw [← hw9]; clear hw9 w9))
                              go_ret2
                              rw [HX2.out]
                              obtain ⟨z1, z2⟩ := HKE.out _ HKF.out
                              exact ⟨.slice none 0 0, rfl, Row.nil _ _ _, ⟨_, z2, fun h => absurd h (show ¬ ((12 : Int) = 0) by decide)⟩, z1⟩
                            · have HPXX := Lib.hid hpx
                              rw [hpx] at HSGx
                              have hfx := of_decide_eq_true (show fitB x dd = true by rw [HPX.out]; exact hpx)
                              obtain ⟨Y, hY⟩ : ∃ Y, x * P = Y := ⟨_, rfl⟩
                              have hYb : -9223372036854775808 ≤ Y ∧ Y ≤ 9223372036854775807 := by
                                have h1 : (2 : Nat) ^ dd ≤ 2 ^ 24 := Nat.pow_le_pow_right (by omega) hdd24
                                have h2 : (2 : Nat) ^ 24 = 16777216 := rfl
                                have h3 : ((2 ^ dd : Nat) : Int) = (2 : Int) ^ dd := by simp
                                have h4 := HPB.out
                                have h5 : (x * P).natAbs ≤ 16777216 * 16777216 := by
                                  rw [Int.natAbs_mul]
                                  exact Nat.mul_le_mul (by omega) (by omega)
                                rw [hY] at h5
                                omega
                              have hwY : IntKind.i64.wrap Y = Y := IntWalk.i64_in _ hYb
                              rw [hY] at hst
                              have HST := Lib.hid hst
                              clear hpx hfx hYb hst
                              go_upto_region 30 with (first
                                | (go_at_call 33; go_must (with_reducible refine (HSGx.out _).mono ?_); rintro e w9 ⟨rfl, hw9⟩; rw [← hw9]; clear hw9 w9))
                              have HRD : Hid (Row wa.drew .i64 3 (.slice (some ⟨g9, 0, none⟩) xs.length c3) (halfS f xs i)) := HROW.out.keeps (Keeps.refl [] wa).drew (fun _ _ => by simp)
                              have HKD : Hid (Keeps (fp (.slice (some ⟨g9, 0, none⟩) xs.length c3)) w3 wa.drew) := HKF.out.drew
                              have hcl2 : wa.drew.cell? ⟨g9, i, none⟩ = some (.int .i64 x) := hcl
                              have hfz2 : wa.drew.frozen? ⟨g9, i, none⟩ = false := hfz
                              go_still_tail 10, (by kernel_rfl)
                              change wpList _ _ _ _ _ wa.drew
                              generalize wa.drew = W7 at *
                              clear hcl hfz
                              go_wp2_with fail
                              go_roundg (xs.length - i)
                              case measure => have := HQ5.out; omega
                              case rel =>
                                refine ⟨i + 1, by go_num, by omega, ?_, HKD.out.setCell (.inl (by simp [fp_some])) _, HS.out HPXX.out, (show _ = _ from by have := HQ5.out; omega)⟩
                                show Row _ _ _ _ _
                                rw [← HST.out]
                                exact HRD.out.set i Y
                          · have hin : i = xs.length := by omega
                            subst hin
                            have HA : Hid (xs.all p = true) := all_end p xs HALL.out
                            have HX2 : Hid (readX m depth R = (xs.map f, 0, T4 + T)) := by show _ = _; rw [HX.out, HRB.out, if_neg (by rw [HA.out]; simp)]
                            have HROW' : Hid (Row wa .i64 3 (.slice a3 xs.length c3) (xs.map f)) := by
                              show Row _ _ _ _ _
                              have := HROW.out
                              rwa [half_end] at this
                            clear HRB HROW
                            go_wp2_with fail
                            go_ret2
                            rw [HX2.out]
                            obtain ⟨z1, z2⟩ := HKE.out _ HKF.out
                            exact ⟨_, rfl, HROW'.out, ⟨_, z2, fun _ => rfl⟩, z1⟩
                      · have hFb : (F != 0) = true := by simpa using hF
                        have HX2 : Hid (readX m depth R = ([], F, T4 + T)) := by show _ = _; rw [HX.out, HRB.out, if_pos hF]
                        go_wp2_with (first
                          | (go_at_call 48; with_reducible refine (HBD.out _ HD4.out).mono ?_; rintro e w3 ⟨v3, rfl, hr3, hf3, hi3, hk3⟩))
                        go_ret2
                        rw [HX2.out]
                        exact ⟨.slice none 0 0, rfl, Row.nil _ _ _, ⟨_, hi3, fun h => absurd h hF⟩, HK4.out.then_ hk3 (fun b hb _ => hb)⟩
                    · have h5' : depth ≤ k := by omega
                      rw [decide_eq_false h5] at hhe
                      obtain ⟨T, hT⟩ := readB_err (m := m) (F := 2) hhe (by omega)
                      have HX2 : Hid (readX m depth R = ([], 2, T)) := by show _ = _; rw [HX.out, hT]
                      clear hT hhe HB HG HX
                      go_wp2_with fail
                      go_ret2
                      rw [HX2.out]
                      exact ⟨.slice none 0 0, rfl, Row.nil _ _ _, ⟨_, HD4.out, fun h => absurd h (show ¬ ((2 : Int) = 0) by decide)⟩, HK4.out⟩
                  · have hEb : (E != 0) = true := by simpa using h4
                    rw [mE_err h4] at hhe
                    obtain ⟨T, hT⟩ := readB_err (m := m) hhe h4
                    have HX2 : Hid (readX m depth R = ([], E, T)) := by show _ = _; rw [HX.out, hT]
                    clear hT hhe HB HG HX
                    go_wp2_with fail
                    go_ret2
                    rw [HX2.out]
                    exact ⟨.slice none 0 0, rfl, Row.nil _ _ _, ⟨_, HD4.out, fun h => absurd h h4⟩, HK4.out⟩
              · have hEb : (E3 != 0) = true := by simpa using h3
                have hEb2 : (E3 == 0) = false := by simpa using h3
                obtain ⟨T, hT⟩ := readB_err (m := m) (head_e3 depth R h3 (by rw [e3])) h3
                have HX2 : Hid (readX m depth R = ([], E3, T)) := by show _ = _; rw [HX.out, hT]
                clear hT e2 e3 HX HUN HB HG
                go_wp2_with (first
                  | (go_at_call 46; with_reducible refine (HGc.out _ HD2.out).mono ?_; rintro e w3 ⟨rfl, d3, q3⟩))
                go_ret2
                rw [HX2.out]
                exact ⟨.slice none 0 0, rfl, Row.nil _ _ _, ⟨_, d3, fun h => absurd h h3⟩, HK2.out.then_ q3 (fun b hb _ => hb)⟩
        · obtain ⟨T, hT⟩ := readB_err (m := m) (head_e2 depth R h2 (by rw [e2]; exact mE_err h2 _)) h2
          have HX2 : Hid (readX m depth R = ([], E2, T)) := by show _ = _; rw [HX.out, hT]
          have hEb : (E2 != 0) = true := by simpa using h2
          clear hT e2 HX HUN HB HG
          go_enter Tryd.func23, Tryd.ntmps23
          go_wp2_with (first
            | (go_at_call 46; with_reducible refine (HGa.out _ hD.out).mono ?_; rintro e w1 ⟨rfl, d1, q1⟩)
            | (go_at_call 46; with_reducible refine (HGb.out _ d1).mono ?_; rintro e w2 ⟨rfl, d2, q2⟩))
          go_ret2
          rw [HX2.out]
          exact ⟨.slice none 0 0, rfl, Row.nil _ _ _, ⟨_, d2, fun h => absurd h h2⟩, q1.then_ q2 (fun b hb _ => hb)⟩
      · obtain ⟨T, hT⟩ := readB_err (m := m) (s1b rfl rfl) (by omega)
        have HX2 : Hid (readX m depth R = ([], 2, T)) := by show _ = _; rw [HX.out, hT]
        clear hT s1 s1b s1c HX HUN HB HG
        go_enter Tryd.func23, Tryd.ntmps23
        go_wp2_with (first
          | (go_at_call 46; with_reducible refine (HGa.out _ hD.out).mono ?_; rintro e w1 ⟨rfl, d1, q1⟩))
        go_ret2
        rw [HX2.out]
        exact ⟨.slice none 0 0, rfl, Row.nil _ _ _, ⟨_, d1, fun h => absurd h (show ¬ ((2 : Int) = 0) by decide)⟩, q1⟩
    · obtain ⟨T, hT⟩ := readB_err (m := m) (s1 h1) h1
      have HX2 : Hid (readX m depth R = ([], E1, T)) := by show _ = _; rw [HX.out, hT]
      have hEb : (E1 != 0) = true := by simpa using h1
      clear hT s1 s1b s1c HX HUN HB HG
      go_enter Tryd.func23, Tryd.ntmps23
      go_wp2_with (first
        | (go_at_call 46; with_reducible refine (HGa.out _ hD.out).mono ?_; rintro e w1 ⟨rfl, d1, q1⟩))
      go_ret2
      rw [HX2.out]
      exact ⟨.slice none 0 0, rfl, Row.nil _ _ _, ⟨_, d1, fun h => absurd h h1⟩, q1⟩
end Go.Proofs.YtofkiimaoahfjaaDoor
