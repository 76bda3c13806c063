/-
  Layer 6 (rice), the document's side: DocRead. (Written by gen_rice27.py.)
-/
import Derived.Test.YtofkiimaoahfjaaDoorZRice19
import Derived.Test.YtofkiimaoahfjaaDoorZRice17
import Derived.Test.YtofkiimaoahfjaaDoorZRice21
set_option maxRecDepth 100000
set_option linter.unusedVariables false
set_option linter.unusedSimpArgs false
namespace Go.Proofs.YtofkiimaoahfjaaDoor
open Go.RowKit Go.Proofs.YtofkiimaoahfjaaDoor.Pure

section
variable {w0 w w' : World} {g : Nat} {U : List Bool} {t t' : Nat} {v v' : Value} {acc acc' : List Int}
/-- The document's Reader, and what has been read. -/
structure DD6 (w0 w : World) (g : Nat) (U : List Bool) (t : Nat) (v : Value) (acc : List Int) : Prop where
  rd : IsD w g U t
  row : Row w .i64 3 v acc
  keep : Keeps [g] w0 w
  newv : ∀ b, b ∈ fp v → w0.heap.size ≤ b
  old : g < w0.heap.size
theorem DD6.read (h : DD6 w0 w g U t v acc) (hr : IsD w' g U t') (hk : Keeps [g] w w') : DD6 w0 w' g U t' v acc :=
  have hq := h.old
  ⟨hr, h.row.keeps hk (fun b hb hm => by have := h.newv b hb; have : b = g := by simpa using hm
                                         omega), h.keep.then_ hk (fun b hb _ => hb), h.newv, h.old⟩
theorem DD6.new (h : DD6 w0 w g U t v acc) (hk : Keeps [] w w') : DD6 w0 w' g U t v acc :=
  ⟨h.rd.new hk, h.row.keeps hk (fun _ _ => by simp), h.keep.new hk, h.newv, h.old⟩
theorem DD6.app (h : DD6 w0 w g U t v acc) (hr : Row w' .i64 3 v' acc') (hk : Keeps (fp v) w w') (hf : ∀ b, b ∈ fp v' → b ∈ fp v ∨ w.heap.size ≤ b) : DD6 w0 w' g U t v' acc' := by
  have hq := h.old
  have hs0 := h.keep.size
  refine ⟨h.rd.keeps hk (fun hm => by have := h.newv _ hm; omega), hr, h.keep.then_ hk (fun b hb hlt => by have := h.newv b hb; omega), ?_, h.old⟩
  intro b hb
  rcases hf b hb with h1 | h1
  · exact h.newv b h1
  · omega
end
theorem lit2_cell (T : TypeId) (m : Nat) (hm : m ≤ 1) (W : World) : (W.alloc (.cells #[.int .i64 15, .int .i64 31] T)).cell? ⟨W.heap.size, m, none⟩ = some (.int .i64 (escS m : Int)) := by
  rcases (show m = 0 ∨ m = 1 by omega) with rfl | rfl
  · have e : ((escS 0 : Nat) : Int) = 15 := by decide
    rw [e]
    go_simp
  · have e : ((escS 1 : Nat) : Int) = 31 := by decide
    rw [e]
    go_simp
theorem parts_len (L : List Int) (order p : Nat) (hf : fitsB (L.length + order) order p = true) {w : World} {vs : List Value} (h : PartsOK w vs (partsS L order p)) (size : Nat) (hs : (L.length + order) / 2 ^ p = size) :
    vs.length = 2 ^ p ∧ ∀ i, i < 2 ^ p → ∃ a c, vs[i]? = some (.slice a (if i = 0 then size - order else size) c) := by
  obtain ⟨-, hl⟩ := partsS_flat L order p hf
  have hvl : vs.length = 2 ^ p := by rw [h.length, partsS_length]
  refine ⟨hvl, fun i hi => ?_⟩
  have h2 : i < (partsS L order p).length := by rw [partsS_length]; exact hi
  obtain ⟨a, c, e, -, -⟩ := h.at_ i (by omega) h2
  have h3 : (partsS L order p)[i].length = if i = 0 then size - order else size := by
    have h4 : ((partsS L order p).map List.length)[i]? = some (partsS L order p)[i].length := by simp [h2]
    rw [hl] at h4
    unfold cntsS at h4
    rw [hs] at h4
    cases i with
    | zero => simpa using h4.symm
    | succ j =>
      rw [List.getElem?_cons_succ, List.getElem?_replicate, if_pos (by omega)] at h4
      rw [if_neg (Nat.succ_ne_zero j)]
      simpa using h4.symm
  exact ⟨a, c, by rw [List.getElem?_eq_getElem (by omega), e, h3]⟩

set_option maxHeartbeats 16000000 in
set_option maxRecDepth 100000 in
theorem docRead_calls (g : Nat) (U : List Bool) (t : Nat) (n order : Int) (w : World) (hD : Hid (IsD w g U t)) (h1 : -9223372036854775808 ≤ n ∧ n ≤ 9223372036854775807) (h2 : -9223372036854775808 ≤ order ∧ order ≤ 9223372036854775807) (hs : U.length ≤ 8000000) :
    Calls Tryd.prog 82 #[.pointer (some ⟨g, 0, none⟩), .int .i64 n, .int .i64 order] w fun e w' => ∃ v, e = .returned (.tuple #[v, .int .i64 (blockS n order (U.drop t)).2.1]) ∧ Row w' .i64 3 v (blockS n order (U.drop t)).1 ∧ IsD w' g U (t + (blockS n order (U.drop t)).2.2) ∧ Keeps [g] w w' ∧ (∀ b, b ∈ fp v → w.heap.size ≤ b) := by
  have hq0 : g < w.heap.size := hD.out.duo.lt
  have HB0 : Hid (DD6 w w g U t (.slice none 0 0) []) := ⟨hD.out, Row.nil _ _ _, Keeps.refl _ _, fun b hb => (by cases hb), hq0⟩
  have HQ0 := Lib.hid hq0
  clear hq0
  obtain ⟨R, hRe⟩ : ∃ R, U.drop t = R := ⟨_, rfl⟩
  have HRE := Lib.hid hRe
  rw [hRe]
  cases hb : rblockB n order with
  | false =>
    have HRB := Lib.hid hb
    have hX : blockS n order R = ([], 1, 0) := by unfold blockS; rw [if_pos hb]
    rw [hX]
    clear hX hb hRe
    go_enter Tryd.func82, Tryd.ntmps82
    go_wp2_with (first
      | (go_at_call 112; go_must (refine (dblock_calls _ _ _).mono ?_); rw [HRB.out]; rintro e w1 ⟨rfl, rfl⟩))
    go_ret2
    exact ⟨_, rfl, Row.nil _ _ _, HB0.out.rd, HB0.out.keep, fun b hb => by cases hb⟩
  | true =>
    have HRB := Lib.hid hb
    have hrb := of_decide_eq_true hb
    obtain ⟨nN, rfl⟩ : ∃ nN : Nat, n = nN := ⟨n.toNat, by omega⟩
    obtain ⟨oN, rfl⟩ : ∃ oN : Nat, order = oN := ⟨order.toNat, by omega⟩
    have hnN : 1 ≤ nN ∧ nN ≤ 512 := by omega
    have hoN : oN ≤ 8 := by omega
    have HG2 := Lib.hid (dGet_calls g U t 2 w hD)
    rw [hRe] at HG2
    have hblk : blockS (nN : Int) (oN : Int) R = if gtE 2 R ≠ 0 then ([], gtE 2 R, 0)
        else if 1 < gtN 2 R then ([], 2, 2)
        else if gtE 4 (R.drop 2) ≠ 0 then ([], gtE 4 (R.drop 2), 2)
        else if fitsB nN oN (gtN 4 (R.drop 2)).toNat = false then ([], 2, 6)
        else ((partsR (gtN 2 R).toNat (cntsS nN oN (gtN 4 (R.drop 2)).toNat) (R.drop 6)).1, (partsR (gtN 2 R).toNat (cntsS nN oN (gtN 4 (R.drop 2)).toNat) (R.drop 6)).2.1, 6 + (partsR (gtN 2 R).toNat (cntsS nN oN (gtN 4 (R.drop 2)).toNat) (R.drop 6)).2.2) := by
      unfold blockS
      rw [hb, if_neg (by simp), Int.toNat_natCast, Int.toNat_natCast]
    rw [hblk]
    clear hblk hb h1 h2
    by_cases hE : gtE 2 R = 0
    · have hT : gtT 2 R = 2 := by unfold gtT; rw [if_pos hE]; rfl
      have hMr : 0 ≤ gtN 2 R := by unfold gtN; rw [if_pos hE]; exact Int.natCast_nonneg _
      rw [hE, hT] at HG2
      rw [if_neg (by simp [hE])]
      have HG4 := Lib.hid (fun W (h : Hid (IsD W g U (t + 2))) => dGet_calls g U (t + 2) 4 W h)
      have hRt : U.drop (t + 2) = R.drop 2 := by rw [← List.drop_drop, hRe]
      rw [hRt] at HG4
      clear hRt hT
      obtain ⟨m, hm⟩ : ∃ m : Nat, gtN 2 R = m := ⟨(gtN 2 R).toNat, by omega⟩
      rw [hm] at HG2 ⊢
      clear hMr hE hm
      by_cases hm1 : 1 < m
      · rw [if_pos (by omega)]
        have hm1i : (1 : Int) < (m : Int) := by omega
        clear hRe
        go_enter Tryd.func82, Tryd.ntmps82
        go_wp2_with (first   | (go_at_call 112; go_must (refine (dblock_calls _ _ _).mono ?_); rw [HRB.out]; rintro e w1 ⟨rfl, rfl⟩)   | (go_at_call 46; go_must (first | (with_reducible refine HG2.out.mono ?_; rintro e w2 ⟨rfl, hr1, hk1⟩; have HB2 := Lib.hid (HB0.out.read hr1 hk1); clear hr1 hk1) | (with_reducible refine (HG4.out _ (Lib.hid HB2.out.rd)).mono ?_; rintro e w3 ⟨rfl, hr1, hk1⟩; have HB3 := Lib.hid (HB2.out.read hr1 hk1); clear hr1 hk1))))
        go_ret2
        exact ⟨_, rfl, Row.nil _ _ _, HB2.out.rd, HB2.out.keep, fun b hb => by cases hb⟩
      · rw [if_neg (by omega)]
        have hm1 : m ≤ 1 := by omega
        have hm1i : ¬ (1 : Int) < (m : Int) := by omega
        by_cases hE4 : gtE 4 (R.drop 2) = 0
        · have hT : gtT 4 (R.drop 2) = 4 := by unfold gtT; rw [if_pos hE4]; rfl
          have hPr : 0 ≤ gtN 4 (R.drop 2) ∧ gtN 4 (R.drop 2) ≤ 15 := by
            have h1 := val_take_lt (R.drop 2) 4
            unfold gtN
            rw [if_pos hE4]
            show (0 : Int) ≤ ((val ((R.drop 2).take 4) : Nat) : Int) ∧ ((val ((R.drop 2).take 4) : Nat) : Int) ≤ 15
            omega
          rw [hE4, hT] at HG4
          rw [if_neg (by simp [hE4])]
          obtain ⟨p, hp⟩ : ∃ p : Nat, gtN 4 (R.drop 2) = p := ⟨(gtN 4 (R.drop 2)).toNat, by omega⟩
          rw [hp] at HG4 hPr ⊢
          clear hT hE4 hp
          rw [Int.toNat_natCast, Int.toNat_natCast]
          have hp15 : p ≤ 15 := by omega
          obtain ⟨z, hz⟩ : ∃ z : Nat, nN - oN = z := ⟨_, rfl⟩
          have hzi : (nN : Int) - (oN : Int) = (z : Int) := by omega
          have hzn : z + oN = nN := by omega
          have hz6 : z ≤ 600 := by omega
          have hmk : ∀ W : World, Sem.run Tryd.prog (Instr.makeSlice 22 (.int .i64 (z : Int)) (.int .i64 (z : Int))) W = .ok (.slice (some ⟨W.heap.size, 0, none⟩) z z) (W.alloc (.cells (madeCells #[.int .i64 0] z) 3)) :=
            fun W => run_mk Tryd.prog 22 3 .i64 8 Tryd.underlying22 info_i64r .i64 .i64 z z (z : Int) (z : Int) rfl rfl (by omega) (by omega) (by omega) W
          have hrep : (List.replicate z (0 : Int)).length = z := List.length_replicate
          clear hPr hz
          cases hf : fitsB nN oN p with
          | false =>
            have HF : Hid (∀ W : World, Calls Tryd.prog 101 #[.slice (some ⟨W.heap.size, 0, none⟩) z z, .int .i64 oN, .int .i64 p] (W.alloc (.cells (madeCells #[.int .i64 0] z) 3)) fun e w' => e = .returned (.slice none 0 0) ∧ (W.alloc (.cells (madeCells #[.int .i64 0] z) 3)) = w') :=
              fun W => refParts_no (List.replicate z 0) oN p z hrep.symm _ z _ hp15 (by rw [hrep]; exact hz6) hoN (by rw [hrep, hzn]; exact hf)
            have he : ∀ w : World, (binOp .eql 104 (.slice none 0 0) (.slice none 0 0)).run Tryd.prog w = .ok (.bool true) w := fun _ => rfl
            rw [if_pos rfl]
            clear hf hRe hrep hzn
            go_enter Tryd.func82, Tryd.ntmps82
            go_upto_region 11 with (first   | (go_at_call 112; go_must (refine (dblock_calls _ _ _).mono ?_); rw [HRB.out]; rintro e w1 ⟨rfl, rfl⟩)   | (go_at_call 46; go_must (first | (with_reducible refine HG2.out.mono ?_; rintro e w2 ⟨rfl, hr1, hk1⟩; have HB2 := Lib.hid (HB0.out.read hr1 hk1); clear hr1 hk1) | (with_reducible refine (HG4.out _ (Lib.hid HB2.out.rd)).mono ?_; rintro e w3 ⟨rfl, hr1, hk1⟩; have HB3 := Lib.hid (HB2.out.read hr1 hk1); clear hr1 hk1))))
            have HB4 := Lib.hid (HB3.out.new ((Keeps.refl [] w3).alloc (.cells (madeCells #[.int .i64 0] z) 3)))
            go_wp2_with (first
              | (go_at_call 101; go_must (with_reducible refine (HF.out _).mono ?_); rintro e w4 ⟨rfl, rfl⟩))
            go_ret2
            exact ⟨_, rfl, Row.nil _ _ _, HB4.out.rd, HB4.out.keep, fun b hb => by cases hb⟩
          | true =>
            rw [if_neg (by simp)]
            obtain ⟨size, hs1, hs2, hs3⟩ := fits_facts _ _ _ hf
            have HST := Lib.hid (RestP.start m (cntsS nN oN p) (R.drop 6))
            obtain ⟨Y, hY⟩ : ∃ Y, partsR m (cntsS nN oN p) (R.drop 6) = Y := ⟨_, rfl⟩
            rw [hY] at HST ⊢
            clear hY
            obtain ⟨P, hP⟩ : ∃ P : Nat, 2 ^ p = P := ⟨_, rfl⟩
            have HCD : Hid (∀ i, i < P → (cntsS nN oN p).drop i = (if i = 0 then size - oN else size) :: (cntsS nN oN p).drop (i + 1)) := by
              intro i hi
              have := cnts_drop nN oN p i (by rw [hP]; exact hi)
              rw [hs1] at this
              exact this
            have HCE : Hid ((cntsS nN oN p).drop P = []) := by show _ = _; rw [← hP]; exact cnts_end nN oN p
            obtain ⟨C, hC⟩ : ∃ C, cntsS nN oN p = C := ⟨_, rfl⟩
            rw [hC] at HST HCD HCE
            have hsz : size ≤ 512 := by rw [← hs1]; exact Nat.le_trans (Nat.div_le_self _ _) hnN.2
            have hPn : P ≤ 512 := by
              rw [hP] at hs2
              have : 1 ≤ size := by
                rcases Nat.eq_zero_or_pos size with h | h
                · rw [h] at hs2; omega
                · exact h
              have : P ≤ P * size := Nat.le_mul_of_pos_right _ this
              omega
            have hp9 : p ≤ 9 := by
              rcases Nat.lt_or_ge 9 p with h | h
              · have : 2 ^ 10 ≤ 2 ^ p := Nat.pow_le_pow_right (by omega) h
                omega
              · exact h
            have hP0 : 0 < P := by rw [← hP]; exact Nat.two_pow_pos _
            have hfz : fitsB ((List.replicate z (0 : Int)).length + oN) oN p = true := by rw [hrep, hzn]; exact hf
            have HF : Hid (∀ W : World, Calls Tryd.prog 101 #[.slice (some ⟨W.heap.size, 0, none⟩) z z, .int .i64 oN, .int .i64 p] (W.alloc (.cells (madeCells #[.int .i64 0] z) 3)) fun e w' => ∃ g11 cap vs, e = .returned (.slice (some ⟨g11, 0, none⟩) P cap) ∧ RowV w' 22 (.slice (some ⟨g11, 0, none⟩) P cap) vs ∧ W.heap.size ≤ g11 ∧ (∀ i, i < P → ∃ a c, vs[i]? = some (.slice a (if i = 0 then size - oN else size) c)) ∧ Keeps [] W w') := by
              intro W
              have hrd : Rd (W.alloc (.cells (madeCells #[.int .i64 0] z) 3)) .i64 (some ⟨W.heap.size, 0, none⟩) (List.replicate z 0) := (Row.made W .i64 3 z (by omega)).rdAt
              refine (refParts_calls (List.replicate z 0) oN p z hrep.symm _ z _ (fun h => by cases h) hp9 (by rw [hrep]; exact hz6) (by rw [hrep]; exact Nat.le_refl _) hoN hfz (Lib.hid hrd)).mono ?_
              rintro e w' ⟨v, vs, rfl, r1, r2, r3, r4⟩
              obtain ⟨q1, q2⟩ := parts_len _ oN p hfz (r3 _ hrd) size (by rw [hrep, hzn]; exact hs1)
              rw [hP] at q1 q2
              obtain ⟨g11, cap, rfl⟩ := r1.form (by omega)
              rw [q1] at r1 r2 ⊢
              have hk : Keeps [] W w' := ((Keeps.refl [] W).alloc (.cells (madeCells #[.int .i64 0] z) 3)).new r4
              exact ⟨g11, cap, vs, rfl, r1, by have := r2 g11 (by rw [fp_some]; exact List.mem_singleton.2 rfl); simp at this; omega, q2, hk⟩
            have he : ∀ (g11 cap : Nat) (w : World), (binOp .eql 104 (.slice (some ⟨g11, 0, none⟩) P cap) (.slice none 0 0)).run Tryd.prog w = .ok (.bool false) w := fun _ _ _ => rfl
            have hf5 : size - oN ≤ 512 := by omega
            obtain ⟨EE, hEE⟩ : ∃ EE : Int, (escS m : Int) = EE := ⟨_, rfl⟩
            have HEE := Lib.hid hEE
            have HL2 : Hid (∀ W : World, (W.alloc (.cells #[.int .i64 15, .int .i64 31] 3)).cell? ⟨W.heap.size, m, none⟩ = some (.int .i64 EE)) := by
              intro W
              have := lit2_cell 3 m hm1 W
              rwa [hEE] at this
            obtain ⟨M4, hM4⟩ : ∃ M4 : Int, ((4 + m : Nat) : Int) = M4 := ⟨_, rfl⟩
            have HM4 := Lib.hid hM4
            have hm4 : (4 : Int) + (m : Int) = M4 := by omega
            have HSN := Lib.hid hs
            clear hs1 hs2 hs3 hP hC hRe hrb hf hfz hrep hzn hEE hM4
            go_enter Tryd.func82, Tryd.ntmps82
            go_upto_region 11 with (first   | (go_at_call 112; go_must (refine (dblock_calls _ _ _).mono ?_); rw [HRB.out]; rintro e w1 ⟨rfl, rfl⟩)   | (go_at_call 46; go_must (first | (with_reducible refine HG2.out.mono ?_; rintro e w2 ⟨rfl, hr1, hk1⟩; have HB2 := Lib.hid (HB0.out.read hr1 hk1); clear hr1 hk1) | (with_reducible refine (HG4.out _ (Lib.hid HB2.out.rd)).mono ?_; rintro e w3 ⟨rfl, hr1, hk1⟩; have HB3 := Lib.hid (HB2.out.read hr1 hk1); clear hr1 hk1))))
            go_upto_region 12 with (first
              | (go_at_call 101; go_must (with_reducible refine (HF.out _).mono ?_); rintro e w4 ⟨g11, cap11, vs, rfl, hrv, hg11, hvs, hk4⟩; have HB4 := Lib.hid (HB3.out.new hk4); have HRV := Lib.hid hrv; have HG11 := Lib.hid hg11; have HVS := Lib.hid hvs; have HB3S := Lib.hid hk4.size; clear hrv hg11 hvs hk4))
            have HKB : Hid (Keeps [g] w w4) := HB4.out.keep
            have HDB : Hid (DD6 w4 w4 g U (t + 2 + 4) (.slice none 0 0) []) := ⟨HB4.out.rd, Row.nil _ _ _, Keeps.refl _ _, fun b hb => (by cases hb), Nat.lt_of_lt_of_le HQ0.out HB4.out.keep.size⟩
            have HCELL : Hid (∀ W, Keeps [g] w4 W → ∀ i, i < P → ∃ a c, W.cell? ⟨g11, i, none⟩ = some (.slice a (if i = 0 then size - oN else size) c)) := by
              intro W hk i hi
              obtain ⟨a, c, hv⟩ := HVS.out i hi
              obtain ⟨hi2, hv⟩ := List.getElem?_eq_some_iff.1 hv
              have h1 := HRV.out.cell i hi2
              rw [hv] at h1
              refine ⟨a, c, hk.cell h1 ?_⟩
              have h3 := HG11.out
              have h4 := HB3.out.keep.size
              have h5 := HQ0.out
              simp
              omega
            clear HRV HG11 HVS HB4 HB3 HB2 HB0 HF HB3S
            obtain ⟨wB, rfl⟩ : ∃ x : World, x = w4 := ⟨_, rfl⟩
            go_wp2_with fail
            clear hm1i hzi hmk he
            go_loopg [12, 13] (P + 1) (fun u v12 v13 wr => ∃ (i : Nat) (acc : List Int) (tt : Nat), v13 = .int .i64 i ∧ i ≤ P ∧ Hid (acc.length ≤ i * 512) ∧ Hid (i + u = P + 1) ∧ Hid (DD6 wB wr g U (t + 6 + tt) v12 acc) ∧ Hid (RestP m acc (C.drop i) (R.drop (6 + tt)) tt Y))
            case atStart => exact ⟨0, [], 0, by go_num, by omega, (show _ ≤ _ from Nat.zero_le _), (show _ = _ from by omega), HDB.out, HST.out⟩
            case round =>
              obtain ⟨i, acc, tt, rfl, hi, HAL, HQ, HDi, HRS⟩ := hrel
              obtain ⟨q1, rfl⟩ : ∃ g : Nat, g = gk := ⟨_, rfl⟩
              obtain ⟨wi, rfl⟩ : ∃ x : World, x = wr := ⟨_, rfl⟩
              by_cases hlt : i < P
              · have hrs := HRS.out
                rw [HCD.out i hlt] at hrs
                obtain ⟨cnt, hcnt⟩ : ∃ cnt, (if i = 0 then size - oN else size) = cnt := ⟨_, rfl⟩
                have hcn5 : cnt ≤ 512 := by rw [← hcnt]; split <;> omega
                rw [hcnt] at hrs
                have herr := fun h => RestP.err hrs h
                have hok := fun h => RestP.ok hrs h
                rw [List.drop_drop, Nat.add_assoc] at hok
                obtain ⟨Rc, hRc⟩ : ∃ Rc, R.drop (6 + tt) = Rc := ⟨_, rfl⟩
                have HRC : Hid (U.drop (t + 6 + tt) = Rc) := by show _ = _; rw [← hRc, ← HRE.out, List.drop_drop, Nat.add_assoc]
                rw [hRc] at herr hok
                have HERR := Lib.hid herr
                have HOK := Lib.hid hok
                clear hrs herr hok hRc
                have HGM := Lib.hid (dGet_calls g U (t + 6 + tt) M4 wi (Lib.hid HDi.out.rd))
                rw [HRC.out] at HGM
                obtain ⟨K, hK⟩ : ∃ K, gtN M4 Rc = K := ⟨_, rfl⟩
                obtain ⟨E, hE⟩ : ∃ E, gtE M4 Rc = E := ⟨_, rfl⟩
                obtain ⟨T, hT⟩ : ∃ T, gtT M4 Rc = T := ⟨_, rfl⟩
                rw [hK, hE, hT] at HGM
                by_cases hE0 : E = 0
                · subst hE0
                  have hT4 : T = 4 + m := by rw [← hT]; unfold gtT; rw [if_pos hE, ← HM4.out]; rfl
                  subst hT4
                  have hKr : 0 ≤ K ∧ K ≤ 31 := by
                    have h1 := val_take_lt Rc M4.toNat
                    have h2 : M4.toNat ≤ 5 := by have := HM4.out; omega
                    have h3 : 2 ^ M4.toNat ≤ 2 ^ 5 := Nat.pow_le_pow_right (by omega) h2
                    have h4 := hK
                    unfold gtN at h4
                    rw [if_pos hE] at h4
                    omega
                  obtain ⟨hK0, hK31⟩ := hKr
                  by_cases hKE : K = EE
                  · have hKEb : (K == EE) = true := by rw [hKE]; exact beq_self_eq_true EE
                    have HG5 := Lib.hid (fun W (h : Hid (IsD W g U (t + 6 + tt + (4 + m)))) => dGet_calls g U (t + 6 + tt + (4 + m)) 5 W h)
                    have hRt : U.drop (t + 6 + tt + (4 + m)) = Rc.drop (4 + m) := by rw [← HRC.out, List.drop_drop]
                    rw [hRt] at HG5
                    obtain ⟨D, hD⟩ : ∃ D, gtN 5 (Rc.drop (4 + m)) = D := ⟨_, rfl⟩
                    obtain ⟨F, hF⟩ : ∃ F, gtE 5 (Rc.drop (4 + m)) = F := ⟨_, rfl⟩
                    obtain ⟨V, hV⟩ : ∃ V, gtT 5 (Rc.drop (4 + m)) = V := ⟨_, rfl⟩
                    rw [hD, hF, hV] at HG5
                    by_cases hF0 : F = 0
                    · subst hF0
                      have hV5 : V = 5 := by rw [← hV]; unfold gtT; rw [if_pos hF]; rfl
                      subst hV5
                      have HRL := Lib.hid (RestS.start (oneS true 0 D) cnt (Rc.drop (4 + m + 5)))
                      obtain ⟨Yl, hYl⟩ : ∃ Y, listS (oneS true 0 D) cnt (Rc.drop (4 + m + 5)) = Y := ⟨_, rfl⟩
                      have HRSE : Hid (readS m cnt Rc = (Yl.1, Yl.2.1, 4 + m + 5 + Yl.2.2)) := by
                        show _ = _
                        unfold readS
                        rw [HM4.out, hE, hK, HEE.out, hF, hD, hYl, if_neg (by simp), if_pos hKE, if_neg (by simp)]
                      rw [hYl] at HRL
                      clear hYl hD hF hV hRt hE hK hT hKE
                      go_upto_region 20 with (first
                        | (go_at_call 46; go_must (with_reducible refine HGM.out.mono ?_); rintro e wx ⟨rfl, hr1, hk1⟩; have HDx := Lib.hid (HDi.out.read hr1 hk1); clear hr1 hk1))
                      have hl2 := HL2.out wx
                      have HDy := Lib.hid (HDx.out.new ((Keeps.refl [] wx).alloc (.cells #[.int .i64 15, .int .i64 31] 3)))
                      go_upto_region 21 with fail
                      generalize wx.alloc (.cells #[.int .i64 15, .int .i64 31] 3) = wy at *
                      clear hl2
                      go_upto_region 25 with (first
                        | (go_at_call 46; go_must (with_reducible refine (HG5.out _ (Lib.hid HDy.out.rd)).mono ?_); rintro e wz ⟨rfl, hr1, hk1⟩; have HDs := Lib.hid (HDy.out.read hr1 hk1); clear hr1 hk1))
                      clear hKEb
                      go_wp2_with fail
                      go_loopg [12, 18] (cnt + 1) (fun u2 v12 v18 wr => ∃ (j : Nat) (acc2 : List Int) (t2 : Nat), v18 = .int .i64 j ∧ j ≤ cnt ∧ Hid (acc2.length = j) ∧ Hid (j + u2 = cnt + 1) ∧ Hid (DD6 wB wr g U (t + 6 + tt + (4 + m + 5) + t2) v12 (acc ++ acc2)) ∧ Hid (RestS (oneS true 0 D) acc2 (cnt - j) (Rc.drop (4 + m + 5 + t2)) t2 Yl))
                      case atStart => exact ⟨0, [], 0, by go_num, by omega, (show _ = _ from rfl), (show _ = _ from by omega), by rw [List.append_nil]; exact HDs.out, HRL.out⟩
                      case round =>
                        obtain ⟨j, acc2, t2, rfl, hj, HAL2, HQ2, HDj, HRS2⟩ := hrel
                        obtain ⟨q2, rfl⟩ : ∃ g : Nat, g = gk := ⟨_, rfl⟩
                        obtain ⟨wj, rfl⟩ : ∃ x : World, x = wr := ⟨_, rfl⟩
                        obtain ⟨aj, cj, hcj⟩ := HCELL.out wj HDj.out.keep i hlt
                        rw [hcnt] at hcj
                        by_cases hlt2 : j < cnt
                        · obtain ⟨n2, hn2⟩ : ∃ n, cnt - j = n + 1 := ⟨cnt - j - 1, by omega⟩
                          have hrs := HRS2.out
                          rw [hn2] at hrs
                          have hRt : U.drop (t + 6 + tt + (4 + m + 5) + t2) = Rc.drop (4 + m + 5 + t2) := by rw [← HRC.out, List.drop_drop]; congr 1; omega
                          have hcall := dnum_esc g U (t + 6 + tt + (4 + m + 5) + t2) K D wj (Lib.hid HDj.out.rd)
                          rw [hRt] at hcall
                          have hdd : (Rc.drop (4 + m + 5 + t2)).drop ((oneS true 0 D) (Rc.drop (4 + m + 5 + t2))).2.2 = Rc.drop (4 + m + 5 + (t2 + ((oneS true 0 D) (Rc.drop (4 + m + 5 + t2))).2.2)) := by rw [List.drop_drop, Nat.add_assoc]
                          have herr2 := fun h => RestS.err hrs h
                          have hok2 := fun h => RestS.ok hrs h
                          rw [hdd] at hok2
                          clear hdd hrs hRt
                          obtain ⟨o1, o2, o3, ho⟩ : ∃ o1 o2 o3, (oneS true 0 D) (Rc.drop (4 + m + 5 + t2)) = (o1, o2, o3) := ⟨_, _, _, rfl⟩
                          rw [ho] at herr2 hok2 hcall
                          have HC := Lib.hid hcall
                          have hnn : n2 = cnt - (j + 1) := by omega
                          subst hnn
                          clear hcall ho hn2
                          by_cases ho2 : o2 = 0
                          · subst ho2
                            have HOK2 := Lib.hid (hok2 rfl)
                            have HLA : Hid (((acc ++ acc2).length + 1) * 8 ≤ 140737488355328) := (show _ ≤ _ from by rw [List.length_append, HAL2.out]; have := HAL.out; omega)
                            clear herr2 hok2
                            go_wp2_with (first
                              | (go_at_call 113; go_must (refine HC.out.mono ?_); rintro e wk ⟨rfl, hr1, hk1⟩; have HDk := Lib.hid (HDj.out.read hr1 hk1); clear hr1 hk1)
                              | (at_builtin; go_must (refine wp_app1 (W := wk) rfl (.tmp 104) (.tmp 106) 22 3 .i64 8 rfl Tryd.underlying22 info_i64r (by decide) _ (acc ++ acc2) o1 rfl rfl HDk.out.row HLA.out ?_); intro v1 w1 hr1 hk1 hf1; have HD1 := Lib.hid (HDk.out.app hr1 hk1 hf1); clear hr1 hk1 hf1))
                            go_roundg (cnt - j)
                            case measure => have := HQ2.out; omega
                            case rel => exact ⟨j + 1, acc2 ++ [o1], t2 + o3, by go_num, by omega, (show _ = _ from by rw [List.length_append, HAL2.out]; rfl), (show _ = _ from by have := HQ2.out; omega), by rw [← Nat.add_assoc, ← List.append_assoc]; exact HD1.out, HOK2.out⟩
                          · have hYl := herr2 ho2
                            subst hYl
                            have hY := HERR.out (by rw [HRSE.out]; exact ho2)
                            rw [HRSE.out] at hY
                            subst hY
                            clear herr2 hok2
                            go_wp2_with (first
                              | (go_at_call 113; go_must (refine HC.out.mono ?_); rintro e wk ⟨rfl, hr1, hk1⟩; have HDk := Lib.hid (HDj.out.read hr1 hk1); clear hr1 hk1))
                            go_ret2
                            refine ⟨_, rfl, Row.nil _ _ _, ?_, HKB.out.then_ HDk.out.keep (fun b hb _ => hb), fun b hb => by cases hb⟩
                            have h9 := HDk.out.rd
                            rw [show t + 6 + tt + (4 + m + 5) + t2 + o3 = t + (6 + (tt + (4 + m + 5 + (t2 + o3)))) by omega] at h9
                            exact h9
                        · obtain rfl : j = cnt := by omega
                          have hYl := RestS.fin (by have := HRS2.out; rwa [Nat.sub_self] at this)
                          subst hYl
                          have hpn := HOK.out (by rw [HRSE.out])
                          rw [HRSE.out] at hpn
                          have HPN : Hid (RestP m (acc ++ acc2) (C.drop (i + 1)) (R.drop (6 + (tt + (4 + m + 5 + t2)))) (tt + (4 + m + 5 + t2)) Y) := hpn
                          have HLN : Hid ((acc ++ acc2).length ≤ (i + 1) * 512) := (show _ ≤ _ from by rw [List.length_append, HAL2.out]; have := HAL.out; omega)
                          have hde := HDj.out
                          rw [show t + 6 + tt + (4 + m + 5) + t2 = t + 6 + (tt + (4 + m + 5 + t2)) by omega] at hde
                          have HDe := Lib.hid hde
                          clear hde
                          clear hpn
                          go_wp2_with fail
                          go_roundg (P - i)
                          case measure => have := HQ.out; omega
                          case rel => exact ⟨i + 1, acc ++ acc2, tt + (4 + m + 5 + t2), by go_num, by omega, HLN.out, (show _ = _ from by have := HQ.out; omega), HDe.out, HPN.out⟩
                    · have hrse : readS m cnt Rc = ([], F, 4 + m + V) := by
                        unfold readS
                        rw [HM4.out, hE, hK, HEE.out, hF, hV, if_neg (by simp), if_pos hKE, if_pos hF0]
                      have hY := HERR.out (by rw [hrse]; exact hF0)
                      rw [hrse] at hY
                      subst hY
                      clear hD hF hV hRt hE hK hT hKE hrse
                      go_upto_region 20 with (first
                        | (go_at_call 46; go_must (with_reducible refine HGM.out.mono ?_); rintro e wx ⟨rfl, hr1, hk1⟩; have HDx := Lib.hid (HDi.out.read hr1 hk1); clear hr1 hk1))
                      have hl2 := HL2.out wx
                      have HDy := Lib.hid (HDx.out.new ((Keeps.refl [] wx).alloc (.cells #[.int .i64 15, .int .i64 31] 3)))
                      go_upto_region 21 with fail
                      generalize wx.alloc (.cells #[.int .i64 15, .int .i64 31] 3) = wy at *
                      clear hl2
                      go_wp2_with (first
                        | (go_at_call 46; go_must (with_reducible refine (HG5.out _ (Lib.hid HDy.out.rd)).mono ?_); rintro e wz ⟨rfl, hr1, hk1⟩; have HDs := Lib.hid (HDy.out.read hr1 hk1); clear hr1 hk1))
                      go_ret2
                      refine ⟨_, rfl, Row.nil _ _ _, ?_, HKB.out.then_ HDs.out.keep (fun b hb _ => hb), fun b hb => by cases hb⟩
                      have h9 := HDs.out.rd
                      rw [show t + 6 + tt + (4 + m) + V = t + (6 + (tt + (4 + m + V))) by omega] at h9
                      exact h9
                  · have hKEb : (K == EE) = false := beq_eq_false_iff_ne.2 hKE
                    have HRL := Lib.hid (RestS.start (oneS false K 0) cnt (Rc.drop (4 + m)))
                    obtain ⟨Yl, hYl⟩ : ∃ Y, listS (oneS false K 0) cnt (Rc.drop (4 + m)) = Y := ⟨_, rfl⟩
                    have HRSE : Hid (readS m cnt Rc = (Yl.1, Yl.2.1, 4 + m + Yl.2.2)) := by
                      show _ = _
                      unfold readS
                      rw [HM4.out, hE, hK, HEE.out, hYl, if_neg (by simp), if_neg hKE]
                    rw [hYl] at HRL
                    clear hYl hE hK hT
                    go_upto_region 20 with (first
                      | (go_at_call 46; go_must (with_reducible refine HGM.out.mono ?_); rintro e wx ⟨rfl, hr1, hk1⟩; have HDx := Lib.hid (HDi.out.read hr1 hk1); clear hr1 hk1))
                    have hl2 := HL2.out wx
                    have HDs := Lib.hid (HDx.out.new ((Keeps.refl [] wx).alloc (.cells #[.int .i64 15, .int .i64 31] 3)))
                    go_upto_region 21 with fail
                    generalize wx.alloc (.cells #[.int .i64 15, .int .i64 31] 3) = wy at *
                    clear hl2
                    go_upto_region 25 with fail
                    clear hKEb hKE
                    go_wp2_with fail
                    go_loopg [12, 18] (cnt + 1) (fun u2 v12 v18 wr => ∃ (j : Nat) (acc2 : List Int) (t2 : Nat), v18 = .int .i64 j ∧ j ≤ cnt ∧ Hid (acc2.length = j) ∧ Hid (j + u2 = cnt + 1) ∧ Hid (DD6 wB wr g U (t + 6 + tt + (4 + m) + t2) v12 (acc ++ acc2)) ∧ Hid (RestS (oneS false K 0) acc2 (cnt - j) (Rc.drop (4 + m + t2)) t2 Yl))
                    case atStart => exact ⟨0, [], 0, by go_num, by omega, (show _ = _ from rfl), (show _ = _ from by omega), by rw [List.append_nil]; exact HDs.out, HRL.out⟩
                    case round =>
                      obtain ⟨j, acc2, t2, rfl, hj, HAL2, HQ2, HDj, HRS2⟩ := hrel
                      obtain ⟨q2, rfl⟩ : ∃ g : Nat, g = gk := ⟨_, rfl⟩
                      obtain ⟨wj, rfl⟩ : ∃ x : World, x = wr := ⟨_, rfl⟩
                      obtain ⟨aj, cj, hcj⟩ := HCELL.out wj HDj.out.keep i hlt
                      rw [hcnt] at hcj
                      by_cases hlt2 : j < cnt
                      · obtain ⟨n2, hn2⟩ : ∃ n, cnt - j = n + 1 := ⟨cnt - j - 1, by omega⟩
                        have hrs := HRS2.out
                        rw [hn2] at hrs
                        have hRt : U.drop (t + 6 + tt + (4 + m) + t2) = Rc.drop (4 + m + t2) := by rw [← HRC.out, List.drop_drop]; congr 1; omega
                        have hcall := dnum_plain g U (t + 6 + tt + (4 + m) + t2) K 0 wj (Lib.hid HDj.out.rd) hK0 hK31 HSN.out
                        rw [hRt] at hcall
                        have hdd : (Rc.drop (4 + m + t2)).drop ((oneS false K 0) (Rc.drop (4 + m + t2))).2.2 = Rc.drop (4 + m + (t2 + ((oneS false K 0) (Rc.drop (4 + m + t2))).2.2)) := by rw [List.drop_drop, Nat.add_assoc]
                        have herr2 := fun h => RestS.err hrs h
                        have hok2 := fun h => RestS.ok hrs h
                        rw [hdd] at hok2
                        clear hdd hrs hRt
                        obtain ⟨o1, o2, o3, ho⟩ : ∃ o1 o2 o3, (oneS false K 0) (Rc.drop (4 + m + t2)) = (o1, o2, o3) := ⟨_, _, _, rfl⟩
                        rw [ho] at herr2 hok2 hcall
                        have HC := Lib.hid hcall
                        have hnn : n2 = cnt - (j + 1) := by omega
                        subst hnn
                        clear hcall ho hn2
                        by_cases ho2 : o2 = 0
                        · subst ho2
                          have HOK2 := Lib.hid (hok2 rfl)
                          have HLA : Hid (((acc ++ acc2).length + 1) * 8 ≤ 140737488355328) := (show _ ≤ _ from by rw [List.length_append, HAL2.out]; have := HAL.out; omega)
                          clear herr2 hok2
                          go_wp2_with (first
                            | (go_at_call 113; go_must (refine HC.out.mono ?_); rintro e wk ⟨rfl, hr1, hk1⟩; have HDk := Lib.hid (HDj.out.read hr1 hk1); clear hr1 hk1)
                            | (at_builtin; go_must (refine wp_app1 (W := wk) rfl (.tmp 104) (.tmp 106) 22 3 .i64 8 rfl Tryd.underlying22 info_i64r (by decide) _ (acc ++ acc2) o1 rfl rfl HDk.out.row HLA.out ?_); intro v1 w1 hr1 hk1 hf1; have HD1 := Lib.hid (HDk.out.app hr1 hk1 hf1); clear hr1 hk1 hf1))
                          go_roundg (cnt - j)
                          case measure => have := HQ2.out; omega
                          case rel => exact ⟨j + 1, acc2 ++ [o1], t2 + o3, by go_num, by omega, (show _ = _ from by rw [List.length_append, HAL2.out]; rfl), (show _ = _ from by have := HQ2.out; omega), by rw [← Nat.add_assoc, ← List.append_assoc]; exact HD1.out, HOK2.out⟩
                        · have hYl := herr2 ho2
                          subst hYl
                          have hY := HERR.out (by rw [HRSE.out]; exact ho2)
                          rw [HRSE.out] at hY
                          subst hY
                          clear herr2 hok2
                          go_wp2_with (first
                            | (go_at_call 113; go_must (refine HC.out.mono ?_); rintro e wk ⟨rfl, hr1, hk1⟩; have HDk := Lib.hid (HDj.out.read hr1 hk1); clear hr1 hk1))
                          go_ret2
                          refine ⟨_, rfl, Row.nil _ _ _, ?_, HKB.out.then_ HDk.out.keep (fun b hb _ => hb), fun b hb => by cases hb⟩
                          have h9 := HDk.out.rd
                          rw [show t + 6 + tt + (4 + m) + t2 + o3 = t + (6 + (tt + (4 + m + (t2 + o3)))) by omega] at h9
                          exact h9
                      · obtain rfl : j = cnt := by omega
                        have hYl := RestS.fin (by have := HRS2.out; rwa [Nat.sub_self] at this)
                        subst hYl
                        have hpn := HOK.out (by rw [HRSE.out])
                        rw [HRSE.out] at hpn
                        have HPN : Hid (RestP m (acc ++ acc2) (C.drop (i + 1)) (R.drop (6 + (tt + (4 + m + t2)))) (tt + (4 + m + t2)) Y) := hpn
                        have HLN : Hid ((acc ++ acc2).length ≤ (i + 1) * 512) := (show _ ≤ _ from by rw [List.length_append, HAL2.out]; have := HAL.out; omega)
                        have hde := HDj.out
                        rw [show t + 6 + tt + (4 + m) + t2 = t + 6 + (tt + (4 + m + t2)) by omega] at hde
                        have HDe := Lib.hid hde
                        clear hde
                        clear hpn
                        go_wp2_with fail
                        go_roundg (P - i)
                        case measure => have := HQ.out; omega
                        case rel => exact ⟨i + 1, acc ++ acc2, tt + (4 + m + t2), by go_num, by omega, HLN.out, (show _ = _ from by have := HQ.out; omega), HDe.out, HPN.out⟩
                · have hrse : readS m cnt Rc = ([], E, T) := by
                    unfold readS
                    rw [HM4.out, hE, hT, if_pos hE0]
                  have hY := HERR.out (by rw [hrse]; exact hE0)
                  rw [hrse] at hY
                  subst hY
                  obtain ⟨bb, hbb⟩ : ∃ bb, (K == EE) = bb := ⟨_, rfl⟩
                  clear hE hK hT hrse
                  go_upto_region 20 with (first
                    | (go_at_call 46; go_must (with_reducible refine HGM.out.mono ?_); rintro e wx ⟨rfl, hr1, hk1⟩; have HDx := Lib.hid (HDi.out.read hr1 hk1); clear hr1 hk1))
                  have hl2 := HL2.out wx
                  have HDs := Lib.hid (HDx.out.new ((Keeps.refl [] wx).alloc (.cells #[.int .i64 15, .int .i64 31] 3)))
                  go_upto_region 21 with fail
                  generalize wx.alloc (.cells #[.int .i64 15, .int .i64 31] 3) = wy at *
                  clear hl2
                  go_wp2_with fail
                  go_ret2
                  refine ⟨_, rfl, Row.nil _ _ _, ?_, HKB.out.then_ HDs.out.keep (fun b hb _ => hb), fun b hb => by cases hb⟩
                  have h9 := HDs.out.rd
                  rw [show t + 6 + tt + T = t + (6 + (tt + T)) by omega] at h9
                  exact h9
              · obtain rfl : i = P := by omega
                have hY := RestP.fin (by have := HRS.out; rwa [HCE.out] at this)
                subst hY
                go_wp2_with fail
                go_ret2
                refine ⟨_, rfl, HDi.out.row, ?_, HKB.out.then_ HDi.out.keep (fun b hb _ => hb), fun b hb => Nat.le_trans HKB.out.size (HDi.out.newv b hb)⟩
                have h9 := HDi.out.rd
                rw [show t + 6 + tt = t + (6 + tt) by omega] at h9
                exact h9
        · rw [if_pos hE4]
          have hT : gtT 4 (R.drop 2) = 0 := by unfold gtT; rw [if_neg hE4]
          rw [hT] at HG4
          obtain ⟨E, hE⟩ : ∃ E, gtE 4 (R.drop 2) = E := ⟨_, rfl⟩
          rw [hE] at HG4 hE4 ⊢
          generalize gtN 4 (R.drop 2) = D at *
          clear hE hT hRe
          go_enter Tryd.func82, Tryd.ntmps82
          go_wp2_with (first   | (go_at_call 112; go_must (refine (dblock_calls _ _ _).mono ?_); rw [HRB.out]; rintro e w1 ⟨rfl, rfl⟩)   | (go_at_call 46; go_must (first | (with_reducible refine HG2.out.mono ?_; rintro e w2 ⟨rfl, hr1, hk1⟩; have HB2 := Lib.hid (HB0.out.read hr1 hk1); clear hr1 hk1) | (with_reducible refine (HG4.out _ (Lib.hid HB2.out.rd)).mono ?_; rintro e w3 ⟨rfl, hr1, hk1⟩; have HB3 := Lib.hid (HB2.out.read hr1 hk1); clear hr1 hk1))))
          go_ret2
          exact ⟨_, rfl, Row.nil _ _ _, HB3.out.rd, HB3.out.keep, fun b hb => by cases hb⟩
    · rw [if_pos hE]
      have hT : gtT 2 R = 0 := by unfold gtT; rw [if_neg hE]
      rw [hT] at HG2
      obtain ⟨E, hEe⟩ : ∃ E, gtE 2 R = E := ⟨_, rfl⟩
      rw [hEe] at HG2 hE ⊢
      generalize gtN 2 R = D at *
      clear hEe hT hRe
      go_enter Tryd.func82, Tryd.ntmps82
      go_wp2_with (first
        | (go_at_call 112; go_must (refine (dblock_calls _ _ _).mono ?_); rw [HRB.out]; rintro e w1 ⟨rfl, rfl⟩)
        | (go_at_call 46; go_must (with_reducible refine HG2.out.mono ?_); rintro e w2 ⟨rfl, hr1, hk1⟩; have HB2 := Lib.hid (HB0.out.read hr1 hk1); clear hr1 hk1))
      go_ret2
      exact ⟨_, rfl, Row.nil _ _ _, HB2.out.rd, HB2.out.keep, fun b hb => by cases hb⟩
end Go.Proofs.YtofkiimaoahfjaaDoor
