/-
  Layer 9 (subframe): Read.
  Layer 9 (subframe): Read on a Reader that the run has made; Read of no Reader.
-/
import Derived.Test.YtofkiimaoahfjaaDoorZRd7
set_option maxRecDepth 100000
set_option linter.unusedVariables false
set_option linter.unusedSimpArgs false
namespace Go.Proofs.YtofkiimaoahfjaaDoor
open Go.RowKit Go.Proofs.YtofkiimaoahfjaaDoor.Pure

set_option maxHeartbeats 8000000 in
theorem sread_calls (q : Nat) (sv : Value) (bs : List Int) (t : Nat) (n depth : Int) (w : World) (hR : Hid (IsR w q sv bs t)) (hb : bs.length ≤ 1000000) :
    Calls Tryd.prog 22 #[.pointer (some ⟨q, 0, none⟩), .int .i64 n, .int .i64 depth] w fun e w' => ∃ v, e = .returned (.tuple #[v, .int .i64 (readX n depth (restB bs t)).2.1]) ∧ Row w' .i64 3 v (readX n depth (restB bs t)).1 ∧ (∀ b, b ∈ fp v → w.heap.size ≤ b) ∧
      IsR w' q sv bs (t + (readX n depth (restB bs t)).2.2) ∧ Keeps [q] w w' := by
  have hsl := hR.out.row.lt
  have hq := hR.out.duo.lt
  have HRT := Lib.hid (fun W => (sright_calls n depth W).mono (R' := fun e w' => e = .returned (.bool (sbrB n depth)) ∧ W = w') (fun e w' h => ⟨h.1, h.2.symm⟩))
  cases hsb : sbrB n depth
  · have HX : Hid (readX n depth (restB bs t) = ([], 1, 0)) := by show _ = _; unfold readX; rw [hsb]; rfl
    rw [hsb] at HRT
    clear hsb
    go_enter Tryd.func22, Tryd.ntmps22
    go_wp2_with (first
      | (go_at_call 42; go_must (with_reducible refine (HRT.out _).mono ?_); rintro e w1 ⟨rfl, rfl⟩))
    go_ret2
    rw [HX.out]
    exact ⟨.slice none 0 0, rfl, Row.nil _ _ _, (fun b h => by cases h), hR.out, Keeps.refl _ _⟩
  · obtain ⟨hn1, hn2, hd1, hd2'⟩ := sbr_facts hsb
    obtain ⟨m, rfl⟩ : ∃ m : Nat, n = m := ⟨n.toNat, by omega⟩
    have HX : Hid (readX m depth (restB bs t) = readB m depth (restB bs t)) := by show _ = _; unfold readX; rw [hsb, Int.toNat_natCast]; rfl
    rw [hsb] at HRT
    have hlen := fun kd D R => (bodyS_range kd m D R (by omega)).2
    have hrng := fun kd D R => (bodyS_range kd m D R (by omega)).1
    obtain ⟨R, hRR⟩ : ∃ R, restB bs t = R := ⟨_, rfl⟩
    rw [hRR] at HX
    have HI0 : Hid (IsI (w.alloc (.cells #[.pointer (some ⟨q, 0, none⟩), .int .i64 0] 83)) w.heap.size q sv bs t 0) := by
      have hal : Keeps [] w (w.alloc (.cells #[.pointer (some ⟨q, 0, none⟩), .int .i64 0] 83)) := (Keeps.refl _ _).alloc _
      exact ⟨⟨heap_alloc_new _ _⟩, hR.out.new hal, by omega, fun b hb e => by have := hsl b hb; omega⟩
    have HK0 : Hid (Keeps [q] w (w.alloc (.cells #[.pointer (some ⟨q, 0, none⟩), .int .i64 0] 83))) := (Keeps.refl _ _).alloc _
    have HH := Lib.hid (fun W (h : IsI W w.heap.size q sv bs t 0) => ihead_calls w.heap.size q sv bs t depth W (Lib.hid h))
    rw [hRR] at HH
    have HBB : Hid (∀ W kd D, kindB kd = true → IsI W w.heap.size q sv bs (t + (hd4 R).2.2) 0 → Calls Tryd.prog 44 #[.pointer (some ⟨w.heap.size, 0, none⟩), .int .i64 kd, .int .i64 m, .int .i64 D] W fun e w' => ∃ v, e = .returned v ∧ Row w' .i64 3 v (bodyS kd m D (R.drop (hd4 R).2.2)).1 ∧ (∀ b, b ∈ fp v → W.heap.size ≤ b) ∧
        IsI w' w.heap.size q sv bs (t + ((hd4 R).2.2 + (bodyS kd m D (R.drop (hd4 R).2.2)).2.2)) (bodyS kd m D (R.drop (hd4 R).2.2)).2.1 ∧ Keeps [w.heap.size, q] W w') := by
      intro W kd D hk h
      have := ibody_calls w.heap.size q sv bs _ m kd D W (Lib.hid h) (by omega) hk hb
      rw [restB_add, hRR, Nat.add_assoc] at this
      exact this
    have HOK := Lib.hid (head_ok depth R)
    have HRB : Hid (readB m depth R = if headE depth R ≠ 0 then ([], headE depth R, (hd4 R).2.2)
      else if (bodyS (hd2 R).1 m (depth - (hd4 R).1) (R.drop (hd4 R).2.2)).2.1 ≠ 0 then ([], (bodyS (hd2 R).1 m (depth - (hd4 R).1) (R.drop (hd4 R).2.2)).2.1, (hd4 R).2.2 + (bodyS (hd2 R).1 m (depth - (hd4 R).1) (R.drop (hd4 R).2.2)).2.2)
      else if (bodyS (hd2 R).1 m (depth - (hd4 R).1) (R.drop (hd4 R).2.2)).1.all (fun x => fitB x ((depth - (hd4 R).1).toNat - 1)) = false then ([], 12, (hd4 R).2.2 + (bodyS (hd2 R).1 m (depth - (hd4 R).1) (R.drop (hd4 R).2.2)).2.2)
      else ((bodyS (hd2 R).1 m (depth - (hd4 R).1) (R.drop (hd4 R).2.2)).1.map (fun x => x * 2 ^ (hd4 R).1.toNat), 0, (hd4 R).2.2 + (bodyS (hd2 R).1 m (depth - (hd4 R).1) (R.drop (hd4 R).2.2)).2.2)) := (show _ = _ from rfl)
    rw [hRR]
    obtain ⟨⟨kd, B2, B3⟩, eB⟩ : ∃ z, hd2 R = z := ⟨_, rfl⟩
    obtain ⟨⟨k, C2, C3⟩, eC⟩ : ∃ z, hd4 R = z := ⟨_, rfl⟩
    obtain ⟨E, eE⟩ : ∃ z, headE depth R = z := ⟨_, rfl⟩
    rw [eB, eC, eE] at HH HRB HOK
    rw [eC] at HBB
    clear hsb hRR eB eC eE
    have HSZ : Hid (w.heap.size ≠ q) := by show _ ≠ _; omega
    clear hsl hq
    go_enter Tryd.func22, Tryd.ntmps22
    go_upto_region 5 with (first
      | (go_at_call 42; go_must (with_reducible refine (HRT.out _).mono ?_); rintro e w1 ⟨rfl, rfl⟩)
      | (go_at_call 43; go_must (with_reducible refine (HH.out _ HI0.out).mono ?_); rintro e w2 ⟨rfl, hi, hk⟩; have HI2 := Lib.hid hi; have HK2 := Lib.hid hk; clear hi hk))
    have d0 := HI2.out.c0
    have d1 := HI2.out.c1
    by_cases hE : E = 0
    · subst hE
      obtain ⟨hkb, hk0, hk1⟩ := HOK.out rfl
      obtain ⟨kk, rfl⟩ : ∃ kk : Nat, k = kk := ⟨k.toNat, by omega⟩
      obtain ⟨D, hD⟩ : ∃ D, depth - (kk : Int) = D := ⟨_, rfl⟩
      have hD1 : 1 ≤ D ∧ D ≤ 25 := by omega
      have HD := Lib.hid hD
      have HBD := Lib.hid (fun W (h : IsI W w.heap.size q sv bs (t + C3) 0) => HBB.out W kd D hkb h)
      have hll := hlen kd D (R.drop C3)
      have hrg := hrng kd D (R.drop C3)
      rw [hD] at HRB
      obtain ⟨⟨xs, F, T⟩, eX⟩ : ∃ z, bodyS kd m D (R.drop C3) = z := ⟨_, rfl⟩
      rw [eX] at HBD HRB hll hrg
      replace HBD : Hid (∀ W, IsI W w.heap.size q sv bs (t + C3) 0 → Calls Tryd.prog 44 #[.pointer (some ⟨w.heap.size, 0, none⟩), .int .i64 kd, .int .i64 m, .int .i64 D] W fun e w' => ∃ v, e = .returned v ∧ Row w' .i64 3 v xs ∧ (∀ b, b ∈ fp v → W.heap.size ≤ b) ∧ IsI w' w.heap.size q sv bs (t + (C3 + T)) F ∧ Keeps [w.heap.size, q] W w') := HBD.out
      replace HRB : Hid (readB m depth R = if F ≠ 0 then ([], F, C3 + T) else if xs.all (fun x => fitB x (D.toNat - 1)) = false then ([], 12, C3 + T) else (xs.map (fun x => x * 2 ^ kk), 0, C3 + T)) := by
        show _ = _
        rw [HRB.out, if_neg (by simp), Int.toNat_natCast]
      replace hll : xs.length ≤ 1000000 := hll
      have HRG : Hid (∀ x ∈ xs, -9223372036854775808 ≤ x ∧ x ≤ 9223372036854775807) := hrg
      obtain ⟨hD2, hD3⟩ := hD1
      clear eX HBB HOK HH HRT hlen hkb hrng hrg
      go_upto_region 8 with (first
        | (go_at_call 44; go_must (with_reducible refine (HBD.out _ HI2.out).mono ?_); rintro e w3 ⟨v3, rfl, hr3, hf3, hi3, hk3⟩; obtain ⟨a3, c3, rfl, -, -, -⟩ := hr3.rdd; have HR3 := Lib.hid hr3; have HF3 := Lib.hid hf3; have HI3 := Lib.hid hi3; have HK3 := Lib.hid (HK2.out.then_ hk3 (fun b hb hlt => hb)); clear hr3 hf3 hi3 hk3 d0 d1))
      have d1 := HI3.out.c1
      have HKQ : Hid (Keeps [q] w w3) := HK0.out.then_ HK3.out (fun b hb hlt => by simp at hb; rcases hb with rfl | rfl <;> simp_all)
      by_cases hF : F = 0
      · subst hF
        replace HRB : Hid (readB m depth R = if xs.all (fun x => fitB x (D.toNat - 1)) = false then ([], 12, C3 + T) else (xs.map (fun x => x * 2 ^ kk), 0, C3 + T)) := by
          show _ = _
          rw [HRB.out, if_neg (by simp)]
        obtain ⟨dd, hdd⟩ : ∃ dd : Nat, D = dd + 1 := ⟨D.toNat - 1, by omega⟩
        have HDD := Lib.hid hdd
        rw [show D.toNat - 1 = dd by omega] at HRB
        obtain ⟨p, hp⟩ : ∃ p : Int → Bool, (fun x => fitB x dd) = p := ⟨_, rfl⟩
        have HPX : Hid (∀ x, fitB x dd = p x) := fun x => by rw [← hp]
        rw [hp] at HRB
        obtain ⟨P, hP⟩ : ∃ P : Int, (2 : Int) ^ kk = P := ⟨_, rfl⟩
        have hPb : 1 ≤ P ∧ P ≤ 16777216 := by
          have h1 : (2 : Nat) ^ kk ≤ 2 ^ 24 := Nat.pow_le_pow_right (by omega) (by omega)
          have h2 : (2 : Nat) ^ 24 = 16777216 := rfl
          have h3 : ((2 ^ kk : Nat) : Int) = (2 : Int) ^ kk := by simp
          have h4 := Nat.two_pow_pos kk
          omega
        have HPB := Lib.hid hPb
        rw [hP] at HRB
        have hmin : min kk 64 = kk := by omega
        have hkki : (0 : Int) ≤ (kk : Int) := by omega
        have hdd24 : dd ≤ 24 := by omega
        have h3lt := HR3.out.lt
        have H3LT := Lib.hid h3lt
        clear hp hdd hPb h3lt
        go_wp2_with fail
        go_loopg [12, 59] (xs.length + 1) (fun u v12 v59 wr => ∃ (i : Nat), v59 = .int .i64 i ∧ i ≤ xs.length ∧ Hid (Row wr .i64 3 v12 ((xs.map (fun x => x * P)).take i)) ∧ Hid (∀ b, b ∈ fp v12 → w3.heap.size ≤ b) ∧ Hid (Keeps [] w3 wr) ∧ Hid ((xs.drop i).all p = xs.all p) ∧ Hid (i + u = xs.length + 1))
        case atStart => exact ⟨0, rfl, by omega, Row.nil _ _ _, (fun b h => by cases h), Keeps.refl _ _, (show _ = _ from by simp), (show _ = _ from by omega)⟩
        case round =>
          obtain ⟨i, rfl, hi, HROW, HF5, HK5, HALL, HQ5⟩ := hrel
          obtain ⟨q1, rfl⟩ : ∃ g : Nat, g = gk := ⟨_, rfl⟩
          obtain ⟨wa, rfl⟩ : ∃ y : World, y = wr := ⟨_, rfl⟩
          obtain ⟨u12, rfl⟩ : ∃ y : Value, y = u12 := ⟨_, rfl⟩
          by_cases hlt : i < xs.length
          · obtain ⟨b1, o1, rfl, hc1⟩ := (row_rd (HR3.out.keeps HK5.out (fun _ _ => by simp))).cellAt i hlt
            obtain ⟨x, hx1⟩ : ∃ x, xs[i] = x := ⟨_, rfl⟩
            have HS := Lib.hid (all_step p xs i hlt x hx1 HALL.out)
            have HN := Lib.hid (all_no p xs i hlt x hx1 HALL.out)
            have HTK : Hid ((xs.map (fun x => x * P)).take (i + 1) = (xs.map (fun x => x * P)).take i ++ [x * P]) := by
              show _ = _
              rw [List.take_succ_eq_append_getElem (by rw [List.length_map]; exact hlt), List.getElem_map, hx1]
            rw [hx1] at hc1
            have HXR := Lib.hid (HRG.out x (by rw [← hx1]; exact List.getElem_mem _))
            have hll2 : ((xs.map (fun x => x * P)).take i).length = i := by rw [List.length_take, List.length_map]; omega
            obtain ⟨l, hl⟩ : ∃ l, (xs.map (fun x => x * P)).take i = l := ⟨_, rfl⟩
            rw [hl] at HROW HTK hll2
            have HBD8 : Hid ((l.length + 1) * 8 ≤ 140737488355328) := by show _ ≤ _; omega
            have HFC := Lib.hid (sfits_calls x dd D HDD.out wa HXR.out (by omega))
            rw [HPX.out] at HFC
            clear hx1 hl hll2
            cases hpx : p x
            · have HA : Hid (xs.all p = false) := HN.out hpx
              rw [hpx] at HFC
              have HE : Hid (readB m depth R = ([], 12, C3 + T)) := by show _ = _; rw [HRB.out, if_pos HA.out]
              clear hpx HRB
              go_wp2_with (first
                | (go_at_call 45; go_must (with_reducible refine HFC.out.mono ?_); rintro e w9 ⟨rfl, hw9⟩; rw [hw9]; clear hw9 w9))
              go_ret2
              rw [HX.out, HE.out]
              exact ⟨.slice none 0 0, rfl, Row.nil _ _ _, (fun b h => by cases h), HI3.out.rd.new HK5.out, HKQ.out.new HK5.out⟩
            · have HPXX := Lib.hid hpx
              rw [hpx] at HFC
              have hfx := of_decide_eq_true (show fitB x dd = true by rw [HPX.out]; exact hpx)
              obtain ⟨Y, hY⟩ : ∃ Y, x * P = Y := ⟨_, rfl⟩
              have hYb : -9223372036854775808 ≤ Y ∧ Y ≤ 9223372036854775807 := by
                have h1 : (2 : Nat) ^ dd ≤ 2 ^ 24 := Nat.pow_le_pow_right (by omega) hdd24
                have h2 : (2 : Nat) ^ 24 = 16777216 := rfl
                have h3 : ((2 ^ dd : Nat) : Int) = (2 : Int) ^ dd := by simp
                have h4 := HPB.out
                have h5 : (x * P).natAbs ≤ 16777216 * 16777216 := by
                  rw [Int.natAbs_mul]
                  exact Nat.mul_le_mul (by omega) (by omega)
                rw [hY] at h5
                omega
              have hwY : IntKind.i64.wrap Y = Y := IntWalk.i64_in _ hYb
              rw [hY] at HTK
              clear hpx hfx hYb
              go_wp2_with (first
                | (go_at_call 45; go_must (with_reducible refine HFC.out.mono ?_); rintro e w9 ⟨rfl, hw9⟩; rw [hw9]; clear hw9 w9)
                | (at_builtin; refine wp_app1 (W := wa) rfl (.tmp 69) (.tmp 73) 22 3 .i64 8 rfl Tryd.underlying22 info_i64 (by decide) u12 l Y rfl rfl HROW.out HBD8.out ?_; intro v5 w5 hr5 hk5 hf5))
              go_roundg (xs.length - i)
              case measure => have := HQ5.out; omega
              case rel =>
                refine ⟨i + 1, by go_num, by omega, ?_, ?_, ?_, HS.out HPXX.out, (show _ = _ from by have := HQ5.out; omega)⟩
                · show Row _ _ _ _ _
                  rw [HTK.out]
                  exact hr5
                · intro b hb
                  rcases hf5 b hb with h | h
                  · exact HF5.out b h
                  · exact Nat.le_trans HK5.out.size h
                · exact HK5.out.then_ hk5 (fun b hb hlt => by have := HF5.out b hb; omega)
          · have hin : i = xs.length := by omega
            subst hin
            have HA : Hid (xs.all p = true) := all_end p xs HALL.out
            have HE : Hid (readB m depth R = (xs.map (fun x => x * P), 0, C3 + T)) := by show _ = _; rw [HRB.out, if_neg (by rw [HA.out]; simp)]
            have HTK : Hid ((xs.map (fun x => x * P)).take xs.length = xs.map (fun x => x * P)) := by show _ = _; rw [List.take_of_length_le (by simp)]
            rw [HTK.out] at HROW
            clear HRB
            go_wp2_with fail
            go_ret2
            rw [HX.out, HE.out]
            exact ⟨_, rfl, HROW.out, fun b hb => Nat.le_trans HKQ.out.size (HF5.out b hb), HI3.out.rd.new HK5.out, HKQ.out.new HK5.out⟩
      · have hFb : (F != 0) = true := by simpa using hF
        have HE : Hid (readB m depth R = ([], F, C3 + T)) := by show _ = _; rw [HRB.out, if_pos hF]
        clear HRB
        go_upto_region 9 with fail
        go_quiet (fail)
        go_wp2_with fail
        go_ret2
        rw [HX.out, HE.out]
        exact ⟨.slice none 0 0, rfl, Row.nil _ _ _, (fun b h => by cases h), HI3.out.rd.new ((Keeps.refl [] w3).drewN _), HKQ.out.new ((Keeps.refl [] w3).drewN _)⟩
    · have hEb : (E != 0) = true := by simpa using hE
      have HE : Hid (readB m depth R = ([], E, C3)) := by show _ = _; rw [HRB.out, if_pos hE]
      have HKQ : Hid (Keeps [q] w w2) := HK0.out.then_ HK2.out (fun b hb hlt => by simp at hb; rcases hb with rfl | rfl <;> simp_all)
      clear HRB HOK HBB HH HRT
      go_upto_region 6 with fail
      go_quiet (fail)
      go_wp2_with fail
      go_ret2
      rw [HX.out, HE.out]
      exact ⟨.slice none 0 0, rfl, Row.nil _ _ _, (fun b h => by cases h), HI2.out.rd.new ((Keeps.refl [] w2).drewN _), HKQ.out.new ((Keeps.refl [] w2).drewN _)⟩
end Go.Proofs.YtofkiimaoahfjaaDoor

set_option maxRecDepth 100000
set_option linter.unusedVariables false
set_option linter.unusedSimpArgs false
namespace Go.Proofs.YtofkiimaoahfjaaDoor
open Go.RowKit Go.Proofs.YtofkiimaoahfjaaDoor.Pure

theorem rsSub (n depth : Int) {w0 w : World} {q : Nat} {bs : List Int} {t : Nat} (hR : Hid (RS w0 w q bs t)) (hs : bs.length ≤ 1000000) :
    Calls Tryd.prog 22 #[.pointer (some ⟨q, 0, none⟩), .int .i64 n, .int .i64 depth] w fun e w' => ∃ v, e = .returned (.tuple #[v, .int .i64 (readX n depth (restB bs t)).2.1]) ∧ Row w' .i64 3 v (readX n depth (restB bs t)).1 ∧ RS w0 w' q bs (t + (readX n depth (restB bs t)).2.2) ∧ Keeps [q] w w' ∧ (∀ b, b ∈ fp v → w.heap.size ≤ b) := by
  obtain ⟨k1, sv, k2, k3⟩ := hR.out
  refine (sread_calls q sv bs t n depth w (Lib.hid k2) hs).mono ?_
  rintro e w' ⟨v, rfl, r1, r2, r3, r4⟩
  exact ⟨v, rfl, r1, RS.read k1 k3 r3 r4, r4, r2⟩
theorem sread_nil (n depth : Int) (w : World) :
    Calls Tryd.prog 22 #[.pointer none, .int .i64 n, .int .i64 depth] w fun e w' => e = .returned (.tuple #[.slice none 0 0, .int .i64 1]) ∧ w = w' := by
  go_enter Tryd.func22, Tryd.ntmps22
  go_wp2
  go_ret2
  exact ⟨rfl, rfl⟩
end Go.Proofs.YtofkiimaoahfjaaDoor
