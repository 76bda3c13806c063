/-
  Layer 6 (rice): best, the walk.
-/
import Derived.Test.YtepbngdoeolepaaRice2
set_option linter.unusedVariables false
set_option linter.unusedSimpArgs false
namespace Go.Proofs.Ytepbngdoeolepaa
open Go.RowKit

theorem fold_set (L : List Int) (i n : Nat) (x y : Int) (hi : i < L.length) (hx : L[i] = x) (hn : n = L.length) :
    ((L.take i).map foldS ++ List.replicate (n - i) 0).set i (foldS x) = (L.take (i + 1)).map foldS ++ List.replicate (n - (i + 1)) 0 := by
  subst hn
  rw [List.set_append_right _ _ (by simp; omega)]
  rw [show L.length - i = (L.length - (i + 1)) + 1 by omega, List.replicate_succ]
  rw [show i - ((L.take i).map foldS).length = 0 by simp; omega, List.set_cons_zero, List.take_succ_eq_append_getElem hi, List.map_append, List.append_assoc, hx]
  rfl

set_option maxHeartbeats 8000000 in
set_option maxRecDepth 100000 in
theorem best_calls (L : List Int) (m n : Nat) (hn : n = L.length) (a : Option Addr) (c : Nat) (w : World) (hm : m ≤ 1) (hl : L.length ≤ 600) (hin : Hid (∀ n ∈ L, -2147483648 < n ∧ n < 2147483648)) (hx : Hid (Rd w .i64 a L)) :
    Calls Try.prog 57 #[.slice a n c, .int .i64 m] w fun e w' => e = .returned (.tuple #[.agg #[.int .i64 (bestS L m).1.1, .int .i64 (bestS L m).1.2.1, .int .i64 (bestS L m).1.2.2], .bool (bestS L m).2]) ∧ Keeps [] w w' := by
  subst hn
  have hmk : ∀ W : World, Sem.run Try.prog (Instr.makeSlice 22 (.int .i64 (L.length : Int)) (.int .i64 (L.length : Int))) W = .ok (.slice (some ⟨W.heap.size, 0, none⟩) L.length L.length) (W.alloc (.cells (madeCells #[.int .i64 0] L.length) 3)) :=
    fun W => run_mk Try.prog 22 3 .i64 8 Try.underlying22 info_i64 .i64 .i64 L.length L.length (L.length : Int) (L.length : Int) rfl rfl (by omega) (by omega) (by omega) W
  go_enter Try.func57, Try.ntmps57
  go_wp2_with fail
  have HK : Hid (Keeps [] w (((w.alloc (.cells #[.int .i64 0, .int .i64 0, .int .i64 0] 74)).alloc (.cells #[.int .i64 0, .int .i64 0, .int .i64 0] 74)).alloc (.cells (madeCells #[.int .i64 0] L.length) 3))) := (((Keeps.refl _ _).alloc _).alloc _).alloc _
  have HT4 : Hid (Tri3 (((w.alloc (.cells #[.int .i64 0, .int .i64 0, .int .i64 0] 74)).alloc (.cells #[.int .i64 0, .int .i64 0, .int .i64 0] 74)).alloc (.cells (madeCells #[.int .i64 0] L.length) 3)) w.heap.size 74 0 0 0) := ((⟨heap_alloc_new w _⟩ : Tri3 (w.alloc (.cells #[.int .i64 0, .int .i64 0, .int .i64 0] 74)) w.heap.size 74 0 0 0).keeps ((Keeps.refl [] _).alloc _) (by simp)).keeps ((Keeps.refl [] _).alloc _) (by simp)
  have HT6 : Hid (Tri3 (((w.alloc (.cells #[.int .i64 0, .int .i64 0, .int .i64 0] 74)).alloc (.cells #[.int .i64 0, .int .i64 0, .int .i64 0] 74)).alloc (.cells (madeCells #[.int .i64 0] L.length) 3)) (w.heap.size + 1) 74 0 0 0) := by
    have h1 : Tri3 ((w.alloc (.cells #[.int .i64 0, .int .i64 0, .int .i64 0] 74)).alloc (.cells #[.int .i64 0, .int .i64 0, .int .i64 0] 74)) (w.alloc (.cells #[.int .i64 0, .int .i64 0, .int .i64 0] 74)).heap.size 74 0 0 0 := ⟨heap_alloc_new _ _⟩
    rw [World.size_alloc] at h1
    exact h1.keeps ((Keeps.refl [] _).alloc _) (by simp)
  have HR : Hid (Row (((w.alloc (.cells #[.int .i64 0, .int .i64 0, .int .i64 0] 74)).alloc (.cells #[.int .i64 0, .int .i64 0, .int .i64 0] 74)).alloc (.cells (madeCells #[.int .i64 0] L.length) 3)) .i64 3 (.slice (some ⟨w.heap.size + 1 + 1, 0, none⟩) L.length L.length) (List.replicate L.length 0)) := by
    have := Row.made ((w.alloc (.cells #[.int .i64 0, .int .i64 0, .int .i64 0] 74)).alloc (.cells #[.int .i64 0, .int .i64 0, .int .i64 0] 74)) .i64 3 L.length (by omega)
    rw [World.size_alloc, World.size_alloc] at this
    exact this
  clear hmk
  generalize (((w.alloc (.cells #[.int .i64 0, .int .i64 0, .int .i64 0] 74)).alloc (.cells #[.int .i64 0, .int .i64 0, .int .i64 0] 74)).alloc (.cells (madeCells #[.int .i64 0] L.length) 3)) = w1 at *
  have HG : Hid (w.heap.size ≤ w.heap.size ∧ w.heap.size < w.heap.size + 1 ∧ w.heap.size + 1 < w.heap.size + 1 + 1) := (show _ ∧ _ from by omega)
  obtain ⟨g4, hg4⟩ : ∃ g, w.heap.size = g := ⟨_, rfl⟩
  obtain ⟨g6, hg6⟩ : ∃ g, w.heap.size + 1 = g := ⟨_, rfl⟩
  obtain ⟨g8, hg8⟩ : ∃ g, w.heap.size + 1 + 1 = g := ⟨_, rfl⟩
  have HGG : Hid (w.heap.size ≤ g4 ∧ g4 < g6 ∧ g6 < g8) := (show _ ∧ _ from by omega)
  rw [hg8] at HR
  rw [hg6] at HT6
  rw [hg4] at HT4
  rw [hg8, hg6, hg4]
  clear hg4 hg6 hg8 HG
  go_loopg [9, 24] (L.length + 1) (fun q v9 v24 wr => ∃ (i : Nat) (wd : Int), v24 = .int .i64 i ∧ v9 = .int .i64 wd ∧ i ≤ L.length ∧ Hid (wd = widthS (L.take i)) ∧ 0 ≤ wd ∧ wd ≤ 65 ∧ Hid (i + q = L.length + 1) ∧
    Hid (Row wr .i64 3 (.slice (some ⟨g8, 0, none⟩) L.length L.length) ((L.take i).map foldS ++ List.replicate (L.length - i) 0)) ∧ Hid (Keeps [g8] w1 wr))
  case atStart => exact ⟨0, 0, rfl, rfl, by omega, (show _ = _ from rfl), by omega, by omega, (show _ = _ from by omega), (show Row _ _ _ _ _ from by simpa using HR.out), Keeps.refl _ _⟩
  case round =>
    obtain ⟨i, wd, rfl, rfl, hi, HW, hw0, hw1, HQ, HRi, HKi⟩ := hrel
    obtain ⟨q1, rfl⟩ : ∃ g : Nat, g = gk := ⟨_, rfl⟩
    obtain ⟨wa, rfl⟩ : ∃ x : World, x = wr := ⟨_, rfl⟩
    by_cases hlt : i < L.length
    · obtain ⟨b0, o0, rfl, hcells⟩ := hx.out.form (by omega)
      obtain ⟨x, hxe⟩ : ∃ x, L[i] = x := ⟨_, rfl⟩
      have hxr := hin.out x (by rw [← hxe]; exact List.getElem_mem _)
      have hxlt := World.block_lt_of_cell? w _ (hcells i hlt)
      have hc := HKi.out.cell (HK.out.cell (hcells i hlt) (by simp)) (by rw [List.mem_singleton]; have := HGG.out; have : b0 < w.heap.size := hxlt; show b0 ≠ g8; omega)
      rw [hxe] at hc
      have HS := Lib.hid (HRi.out.set i (foldS x))
      rw [fold_set L i L.length x 0 hlt hxe rfl] at HS
      have hlen : ((L.take i).map foldS ++ List.replicate (L.length - i) (0 : Int)).length = L.length := by simp; omega
      obtain ⟨vx, hcx⟩ : ∃ v, wa.cell? ⟨g8, i, none⟩ = some v := ⟨_, HRi.out.cell i (by rw [hlen]; exact hlt)⟩
      have hfx := HRi.out.frozen i
      have HKS : Hid (Keeps [g8] w1 (wa.setCell ⟨g8, i, none⟩ (.int .i64 (foldS x)))) := HKi.out.setCell (.inl (by simp)) _
      have HWN : Hid (widthS (L.take (i + 1)) = wdS wd x) := by show _ = _; rw [List.take_succ_eq_append_getElem hlt, widthS_snoc, hxe, HW.out]
      have HWR := Lib.hid (wdS_range wd x ⟨hw0, hw1⟩)
      have HBR := Lib.hid (bitsS_range x)
      clear hcells hxe hlen hxlt
      by_cases hx0 : x = 0
      · have hxb : (x != 0) = false := by simp [hx0]
        have HWE : Hid (wdS wd x = wd) := by show _ = _; unfold wdS; rw [if_pos hx0]
        clear hx0
        go_wp2_with (first
          | (go_at_call 44; go_must (refine (fold_calls x _ (by omega) (by omega)).mono ?_); rintro e w3 ⟨rfl, rfl⟩))
        go_roundg (L.length - i)
        case measure => have := HQ.out; omega
        case rel => exact ⟨i + 1, wd, by go_num, rfl, by omega, (HWN.out.trans HWE.out).symm, hw0, hw1, (show _ = _ from by omega), HS.out, HKS.out⟩
      · have hxb : (x != 0) = true := by simp [hx0]
        have HWE : Hid (wdS wd x = max wd (bitsS x)) := by show _ = _; unfold wdS; rw [if_neg hx0]
        clear hx0
        go_wp2_with (first
          | (go_at_call 44; go_must (refine (fold_calls x _ (by omega) (by omega)).mono ?_); rintro e w3 ⟨rfl, rfl⟩)
          | (go_at_call 68; go_must (refine (bits_calls x _ (Lib.hid (by omega))).mono ?_); rintro e w3 ⟨rfl, rfl⟩))
        go_roundg (L.length - i)
        case measure => have := HQ.out; omega
        case rel =>
          have hwr := HWR.out
          rw [HWE.out] at hwr
          exact ⟨i + 1, max wd (bitsS x), by go_num, rfl, by omega, (HWN.out.trans HWE.out).symm, hwr.1, hwr.2, (show _ = _ from by omega), HS.out, HKS.out⟩
    · obtain rfl : i = L.length := by omega
      obtain ⟨F, hF⟩ : ∃ F, L.map foldS = F := ⟨_, rfl⟩
      have hFl : F.length = L.length := by rw [← hF, List.length_map]
      have hrow := HRi.out
      rw [List.take_of_length_le (Nat.le_refl _), Nat.sub_self, List.replicate_zero, List.append_nil, hF] at hrow
      have HROW := Lib.hid hrow
      have hwl := HW.out
      rw [List.take_of_length_le (Nat.le_refl _)] at hwl
      have HWL := Lib.hid hwl
      have HFR : Hid (∀ f ∈ F, 0 ≤ f ∧ f ≤ 4294967296) := by
        intro f hf
        rw [← hF] at hf
        exact folds_range L hin.out f hf
      have HF := Lib.hid hF
      have HT4a := Lib.hid (HT4.out.keeps HKi.out (by rw [List.mem_singleton]; have := HGG.out; omega))
      have HT6a := Lib.hid (HT6.out.keeps HKi.out (by rw [List.mem_singleton]; have := HGG.out; omega))
      have HKA : Hid (Keeps [] w wa) := HK.out.then_ HKi.out (fun b hb hlt => by rw [List.mem_singleton] at hb; have := HGG.out; omega)
      obtain ⟨E, hE⟩ : ∃ E, escS m = E := ⟨_, rfl⟩
      have hE31 : E ≤ 31 := by rw [← hE]; rcases (show m = 0 ∨ m = 1 by omega) with rfl | rfl <;> decide
      have HE := Lib.hid hE
      have HES := Lib.hid (fun W => escape_calls m W hm)
      rw [hE] at HES
      have HFL := Lib.hid hFl
      clear hrow hwl hF hE hFl HRi HKi HT4 HT6 HR HK HW hi hlt HQ
      obtain ⟨N, hN⟩ : ∃ N, L.length = N := ⟨_, rfl⟩
      have HN := Lib.hid hN
      rw [hN] at HROW hl HFL ⊢
      clear hN
      go_wp2_with (first
        | (go_at_call 42; go_must (refine (HES.out _).mono ?_; rintro e w3 ⟨rfl, rfl⟩)))
      go_loopg [7, 46] (E + 1) (fun q v7 v46 wr => ∃ (k : Nat) (b0 b1 b2 : Int) (ok : Bool), v46 = .int .i64 k ∧ v7 = .bool ok ∧ k ≤ E ∧ Hid (k + q = E + 1) ∧ Hid (loopK F k = ((b0, b1, b2), ok)) ∧ Hid (Tri3 wr g6 74 b0 b1 b2) ∧ Hid (Keeps [g6] wa wr))
      case atStart => exact ⟨0, 0, 0, 0, false, rfl, rfl, by omega, (show _ = _ from by omega), (show _ = _ from loopK_zero F), HT6a.out, Keeps.refl _ _⟩
      case round =>
        obtain ⟨k, b0, b1, b2, ok, rfl, rfl, hk, HQ, HLK, HT6k, HKk⟩ := hrel
        obtain ⟨q2, rfl⟩ : ∃ g : Nat, g = gk := ⟨_, rfl⟩
        obtain ⟨wb, rfl⟩ : ∃ x : World, x = wr := ⟨_, rfl⟩
        have HROWk := Lib.hid (HROW.out.keeps HKk.out (fun b hb h => by rw [fp_some, List.mem_singleton] at hb; rw [List.mem_singleton] at h; have := HGG.out; omega))
        by_cases hkE : k < E
        · obtain ⟨M, hM⟩ : ∃ M : Nat, (k + 1) * N = M := ⟨_, rfl⟩
          have hMl : M ≤ 41 * 600 := by rw [← hM]; exact Nat.mul_le_mul (by omega) hl
          have hMi : ((k : Int) + 1) * (N : Int) = (M : Int) := by rw [← hM]; simp
          have HMI := Lib.hid hMi
          clear hM
          go_wp2_with fail
          clear hMi
          go_loopg [13, 14, 56] (N + 1) (fun q v13 v14 v56 w3 => w3 = wb ∧ ∃ (j : Nat) (S : Int) (fr : Bool), v56 = .int .i64 j ∧ v13 = .int .i64 S ∧ v14 = .bool fr ∧ j ≤ N ∧ 0 ≤ S ∧ S ≤ (M : Int) + 4294967296 * (j : Int) ∧ Hid (S = (M : Int) + sumK k (F.take j)) ∧ Hid (fr = farB k (F.take j)) ∧ Hid (j + q = N + 1))
          case atStart => exact ⟨rfl, 0, M, false, rfl, rfl, rfl, by omega, by omega, by omega, (show _ = _ from by simp [sumK]), (show _ = _ from by simp [farB]), (show _ = _ from by omega)⟩
          case round =>
            obtain ⟨rfl, j, S, fr, rfl, rfl, rfl, hj, hS0, hS1, HS, HFR2, HQ3⟩ := hrel
            obtain ⟨wb, rfl⟩ : ∃ x : World, x = wr := ⟨_, rfl⟩
            obtain ⟨q3, rfl⟩ : ∃ g : Nat, g = gk := ⟨_, rfl⟩
            by_cases hlt : j < N
            · obtain ⟨f, hfe⟩ : ∃ f, F[j]'(by rw [HFL.out]; exact hlt) = f := ⟨_, rfl⟩
              have hc := HROWk.out.cell j (by rw [HFL.out]; exact hlt)
              rw [hfe] at hc
              obtain ⟨f0, f1⟩ := HFR.out f (by rw [← hfe]; exact List.getElem_mem _)
              obtain ⟨D, hD⟩ : ∃ D, f / 2 ^ k = D := ⟨_, rfl⟩
              obtain ⟨d0, d1⟩ := div_pow_range f k f0 f1
              rw [hD] at d0 d1
              have HTK : Hid (F.take (j + 1) = F.take j ++ [f]) := by show _ = _; rw [List.take_succ_eq_append_getElem (by rw [HFL.out]; exact hlt), hfe]
              have HSN : Hid (sumK k (F.take (j + 1)) = sumK k (F.take j) + D) := by show _ = _; rw [HTK.out, sumK_snoc, hD]
              have HFN : Hid (farB k (F.take (j + 1)) = (fr || decide (65536 < D))) := by show _ = _; rw [HTK.out, farB_snoc, hD, HFR2.out]
              have hki : (0 : Int) ≤ (k : Int) := by omega
              clear hfe HTK
              cases fr
              · go_wp2_with fail
                go_roundg (N - j)
                case measure => have := HQ3.out; omega
                case rel => exact ⟨rfl, j + 1, S + D, decide (65536 < D), by go_num, rfl, rfl, by omega, by omega, by omega, (show _ = _ from by rw [HSN.out, HS.out]; omega), (show _ = _ from by rw [HFN.out]; simp), (show _ = _ from by omega)⟩
              · go_wp2_with fail
                go_roundg (N - j)
                case measure => have := HQ3.out; omega
                case rel => exact ⟨rfl, j + 1, S + D, true, by go_num, rfl, rfl, by omega, by omega, by omega, (show _ = _ from by rw [HSN.out, HS.out]; omega), (show _ = _ from by rw [HFN.out]; simp), (show _ = _ from by omega)⟩
            · obtain rfl : j = N := by omega
              have hsz : szK k F = S := by
                have h1 := HS.out
                rw [List.take_of_length_le (by rw [HFL.out]; exact Nat.le_refl _)] at h1
                unfold szK
                rw [HFL.out, HMI.out, h1]
              have hfb : farB k F = fr := by
                have h1 := HFR2.out
                rw [List.take_of_length_le (by rw [HFL.out]; exact Nat.le_refl _)] at h1
                exact h1.symm
              have HSZ := Lib.hid hsz
              have HFB := Lib.hid hfb
              clear hsz hfb HS HFR2 HQ3 hj
              cases fr
              · cases ok
                · have HLN : Hid (loopK F (k + 1) = (((k : Int), 0, S), true)) := by
                    show _ = _
                    rw [loopK_succ, HLK.out]
                    unfold stepK
                    rw [if_pos ⟨HFB.out, .inl rfl⟩, HSZ.out]
                  have hd0 := HT6k.out.c0
                  have hd1 := HT6k.out.c1
                  have hd2 := HT6k.out.c2
                  have hz0 := HT6k.out.frozen 0
                  have hz1 := HT6k.out.frozen 1
                  have hz2 := HT6k.out.frozen 2
                  have HTN := Lib.hid (HT6k.out.set k 0 S)
                  have HKN : Hid (Keeps [g6] wa (((wb.setCell ⟨g6, 0, none⟩ (.int .i64 k)).setCell ⟨g6, 1, none⟩ (.int .i64 0)).setCell ⟨g6, 2, none⟩ (.int .i64 S))) := ((HKk.out.setCell (a := ⟨g6, 0, none⟩) (.inl (by simp)) _).setCell (a := ⟨g6, 1, none⟩) (.inl (by simp)) _).setCell (a := ⟨g6, 2, none⟩) (.inl (by simp)) _
                  go_wp2_with fail
                  go_roundg (E - k)
                  case measure => have := HQ.out; omega
                  case rel => exact ⟨k + 1, k, 0, S, true, by go_num, rfl, by omega, (show _ = _ from by have := HQ.out; omega), HLN.out, HTN.out, HKN.out⟩
                · by_cases hSb : S < b2
                  · have HLN : Hid (loopK F (k + 1) = (((k : Int), 0, S), true)) := by
                      show _ = _
                      rw [loopK_succ, HLK.out]
                      unfold stepK
                      rw [if_pos ⟨HFB.out, .inr (by rw [HSZ.out]; exact hSb)⟩, HSZ.out]
                    have hd0 := HT6k.out.c0
                    have hd1 := HT6k.out.c1
                    have hd2 := HT6k.out.c2
                    have hz0 := HT6k.out.frozen 0
                    have hz1 := HT6k.out.frozen 1
                    have hz2 := HT6k.out.frozen 2
                    have HTN := Lib.hid (HT6k.out.set k 0 S)
                    have HKN : Hid (Keeps [g6] wa (((wb.setCell ⟨g6, 0, none⟩ (.int .i64 k)).setCell ⟨g6, 1, none⟩ (.int .i64 0)).setCell ⟨g6, 2, none⟩ (.int .i64 S))) := ((HKk.out.setCell (a := ⟨g6, 0, none⟩) (.inl (by simp)) _).setCell (a := ⟨g6, 1, none⟩) (.inl (by simp)) _).setCell (a := ⟨g6, 2, none⟩) (.inl (by simp)) _
                    go_wp2_with fail
                    go_roundg (E - k)
                    case measure => have := HQ.out; omega
                    case rel => exact ⟨k + 1, k, 0, S, true, by go_num, rfl, by omega, (show _ = _ from by have := HQ.out; omega), HLN.out, HTN.out, HKN.out⟩
                  · have HLN : Hid (loopK F (k + 1) = ((b0, b1, b2), true)) := by
                      show _ = _
                      rw [loopK_succ, HLK.out]
                      unfold stepK
                      rw [if_neg]
                      rintro ⟨_, h | h⟩
                      · cases h
                      · rw [HSZ.out] at h; exact hSb h
                    have hd2 := HT6k.out.c2
                    go_wp2_with fail
                    go_roundg (E - k)
                    case measure => have := HQ.out; omega
                    case rel => exact ⟨k + 1, b0, b1, b2, true, by go_num, rfl, by omega, (show _ = _ from by have := HQ.out; omega), HLN.out, HT6k.out, HKk.out⟩
              · have HLN : Hid (loopK F (k + 1) = ((b0, b1, b2), ok)) := by
                  show _ = _
                  rw [loopK_succ, HLK.out]
                  unfold stepK
                  rw [if_neg]
                  rintro ⟨h, _⟩
                  rw [HFB.out] at h
                  cases h
                go_wp2_with fail
                go_roundg (E - k)
                case measure => have := HQ.out; omega
                case rel => exact ⟨k + 1, b0, b1, b2, ok, by go_num, rfl, by omega, (show _ = _ from by have := HQ.out; omega), HLN.out, HT6k.out, HKk.out⟩
        · obtain rfl : k = E := by omega
          obtain ⟨X, hX⟩ : ∃ X, wd * (N : Int) = X := ⟨_, rfl⟩
          have hX0 : 0 ≤ X := by rw [← hX]; exact Int.mul_nonneg hw0 (by omega)
          have hX1 : X ≤ 65 * 600 := by
            rw [← hX]
            exact Int.mul_le_mul hw1 (by omega) (by omega) (by omega)
          have HB0 : Hid (bestS L m = if wd ≤ 31 ∧ (ok = false ∨ 5 + X < b2) then (((k : Int), wd, 5 + X), true) else ((b0, b1, b2), ok)) := by
            show _ = _
            unfold bestS
            rw [HE.out, HF.out, HLK.out, ← HWL.out, HN.out, hX]
          have HT4k := Lib.hid (HT4a.out.keeps HKk.out (by rw [List.mem_singleton]; have := HGG.out; omega))
          have HKB : Hid (Keeps [] w wb) := HKA.out.then_ HKk.out (fun b hb hlt => by rw [List.mem_singleton] at hb; have := HGG.out; omega)
          have HG4 : Hid (w.heap.size ≤ g4) := HGG.out.1
          have hd2 := HT6k.out.c2
          have hd0 := HT6k.out.c0
          have hd1 := HT6k.out.c1
          have hf0 := HT4k.out.c0
          have hf1 := HT4k.out.c1
          have hf2 := HT4k.out.c2
          have hz0 := HT4k.out.frozen 0
          have hz1 := HT4k.out.frozen 1
          have hz2 := HT4k.out.frozen 2
          clear HROW HROWk HKk HT4a HT6a HQ hin hx HLK HWL HFR HF HE HGG HFL HN HKA
          by_cases hw31 : wd ≤ 31
          · cases ok
            · go_wp2_with (first
                | (go_at_call 42; go_must (refine (HES.out _).mono ?_; rintro e w3 ⟨rfl, rfl⟩)))
              refine bodyPost_ret (results_cell2 rfl _ _ g4 74 #[.int .i64 k, .int .i64 wd, .int .i64 (5 + X)] (0, 0) _ rfl (HT4k.out.set k wd (5 + X)).hp Try.underlying74 rfl (by kernel_rfl)) rfl ?_
              refine ⟨?_, ((HKB.out.setCell (a := ⟨g4, 0, none⟩) (.inr HG4.out) _).setCell (a := ⟨g4, 1, none⟩) (.inr HG4.out) _).setCell (a := ⟨g4, 2, none⟩) (.inr HG4.out) _⟩
              have hb := HB0.out
              rw [if_pos ⟨hw31, by first | exact .inl rfl | exact .inl trivial⟩] at hb
              rw [hb]
              rfl
            · by_cases hX2 : 5 + X < b2
              · go_wp2_with (first
                  | (go_at_call 42; go_must (refine (HES.out _).mono ?_; rintro e w3 ⟨rfl, rfl⟩)))
                refine bodyPost_ret (results_cell2 rfl _ _ g4 74 #[.int .i64 k, .int .i64 wd, .int .i64 (5 + X)] (0, 0) _ rfl (HT4k.out.set k wd (5 + X)).hp Try.underlying74 rfl (by kernel_rfl)) rfl ?_
                refine ⟨?_, ((HKB.out.setCell (a := ⟨g4, 0, none⟩) (.inr HG4.out) _).setCell (a := ⟨g4, 1, none⟩) (.inr HG4.out) _).setCell (a := ⟨g4, 2, none⟩) (.inr HG4.out) _⟩
                have hb := HB0.out
                rw [if_pos ⟨hw31, .inr hX2⟩] at hb
                rw [hb]
                rfl
              · go_wp2_with fail
                refine bodyPost_ret (results_cell2 rfl _ _ g4 74 #[.int .i64 b0, .int .i64 b1, .int .i64 b2] (0, 0) _ rfl (HT4k.out.set b0 b1 b2).hp Try.underlying74 rfl (by kernel_rfl)) rfl ?_
                refine ⟨?_, ((HKB.out.setCell (a := ⟨g4, 0, none⟩) (.inr HG4.out) _).setCell (a := ⟨g4, 1, none⟩) (.inr HG4.out) _).setCell (a := ⟨g4, 2, none⟩) (.inr HG4.out) _⟩
                have hb := HB0.out
                rw [if_neg (by rintro ⟨_, h | h⟩ <;> first | (cases h; done) | omega)] at hb
                rw [hb]
                rfl
          · go_wp2_with fail
            refine bodyPost_ret (results_cell2 rfl _ _ g4 74 #[.int .i64 b0, .int .i64 b1, .int .i64 b2] (0, 0) _ rfl (HT4k.out.set b0 b1 b2).hp Try.underlying74 rfl (by kernel_rfl)) rfl ?_
            refine ⟨?_, ((HKB.out.setCell (a := ⟨g4, 0, none⟩) (.inr HG4.out) _).setCell (a := ⟨g4, 1, none⟩) (.inr HG4.out) _).setCell (a := ⟨g4, 2, none⟩) (.inr HG4.out) _⟩
            have hb := HB0.out
            rw [if_neg (fun h => by have := h.1; omega)] at hb
            rw [hb]
            rfl
end Go.Proofs.Ytepbngdoeolepaa
