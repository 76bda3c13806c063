/-
  Layer 6 (rice): Read. (Written by gen_rice19.py.)
  Layer 6 (rice), the document's side: parts.
-/
import Derived.Test.YtofkiimaoahfjaaDoorZRice18
import Derived.Test.YtofkiimaoahfjaaDoorZRice4
set_option maxRecDepth 100000
set_option linter.unusedVariables false
set_option linter.unusedSimpArgs false
namespace Go.Proofs.YtofkiimaoahfjaaDoor
open Go.RowKit Go.Proofs.YtofkiimaoahfjaaDoor.Pure

section
variable {w0 w w' : World} {q : Nat} {sv : Value} {bs : List Int} {t t' : Nat} {v v' : Value} {acc acc' : List Int}
/-- The reader, and what has been read. -/
structure RD6 (w0 w : World) (q : Nat) (sv : Value) (bs : List Int) (t : Nat) (v : Value) (acc : List Int) : Prop where
  rd : IsR w q sv bs t
  row : Row w .i64 3 v acc
  keep : Keeps [q] w0 w
  newv : ∀ b, b ∈ fp v → w0.heap.size ≤ b
  old : q < w0.heap.size
  olds : ∀ b, b ∈ fp sv → b < w0.heap.size
theorem RD6.read (h : RD6 w0 w q sv bs t v acc) (hr : IsR w' q sv bs t') (hk : Keeps [q] w w') : RD6 w0 w' q sv bs t' v acc :=
  have hq := h.old
  ⟨hr, h.row.keeps hk (fun b hb hm => by have := h.newv b hb; have : b = q := by simpa using hm
                                         omega), h.keep.then_ hk (fun b hb _ => hb), h.newv, h.old, h.olds⟩
theorem RD6.app (h : RD6 w0 w q sv bs t v acc) (hr : Row w' .i64 3 v' acc') (hk : Keeps (fp v) w w') (hf : ∀ b, b ∈ fp v' → b ∈ fp v ∨ w.heap.size ≤ b) : RD6 w0 w' q sv bs t v' acc' := by
  have hq := h.old
  have hs0 := h.keep.size
  refine ⟨h.rd.keeps hk (fun hm => by have := h.newv _ hm; omega) (fun b hb hm => by have := h.newv _ hm; have := h.olds b hb; omega), hr, h.keep.then_ hk (fun b hb hlt => by have := h.newv b hb; omega), ?_, h.old, h.olds⟩
  intro b hb
  rcases hf b hb with h1 | h1
  · exact h.newv b h1
  · omega
end
theorem Row.rdc {w : World} {k : IntKind} {e : TypeId} {v : Value} {xs : List Int} (h : Row w k e v xs) : ∃ a cap, v = .slice a xs.length cap ∧ Rd w k a xs ∧ (a = none → cap = 0) ∧ (∀ ad, a = some ad → ad.spot = none ∨ xs.length = 0) := by
  obtain ⟨a, c, e1, hr⟩ := h.rd
  refine ⟨a, c, e1, hr, ?_, hr.spot⟩
  rcases h.2 with ⟨h1, h2⟩ | ⟨g, cap, cur, h1, _⟩
  · rw [h1] at e1; simp only [Value.slice.injEq] at e1; intro _; exact e1.2.2.symm
  · rw [h1] at e1; cases e1; intro hh; cases hh
theorem listS_len (one : List Bool → Int × Int × Nat) : ∀ n R, (listS one n R).1.length ≤ n := by
  intro n
  induction n with
  | zero => intro R; exact Nat.le_refl _
  | succ n ih =>
    intro R
    rw [listS]
    split
    · simp
    · split
      · simp
      · have := ih (R.drop (one R).2.2)
        simp only [List.length_cons]
        omega
theorem readS_len (m c : Nat) (R : List Bool) : (readS m c R).1.length ≤ c := by
  unfold readS
  split
  · simp
  · split
    · split
      · simp
      · exact listS_len _ _ _
    · exact listS_len _ _ _
theorem cnts_drop (n order p i : Nat) (h : i < 2 ^ p) : (cntsS n order p).drop i = (if i = 0 then n / 2 ^ p - order else n / 2 ^ p) :: (cntsS n order p).drop (i + 1) := by
  unfold cntsS
  cases i with
  | zero => rw [if_pos rfl]; rfl
  | succ i =>
    rw [if_neg (Nat.succ_ne_zero i), List.drop_succ_cons, List.drop_succ_cons]
    obtain ⟨j, hj⟩ : ∃ j, 2 ^ p - 1 = i + 1 + j := ⟨2 ^ p - 1 - (i + 1), by omega⟩
    rw [hj, List.drop_replicate, List.drop_replicate, show i + 1 + j - i = (i + 1 + j - (i + 1)) + 1 by omega, List.replicate_succ]
theorem cnts_end (n order p : Nat) : (cntsS n order p).drop (2 ^ p) = [] := by
  apply List.drop_of_length_le
  unfold cntsS
  have := Nat.two_pow_pos p
  simp
  omega

set_option maxHeartbeats 2000000 in
theorem rread_nil (n order : Int) (w : World) :
    Calls Tryd.prog 78 #[.pointer none, .int .i64 n, .int .i64 order] w fun e w' => e = .returned (.tuple #[.slice none 0 0, .int .i64 1]) ∧ w = w' := by
  go_enter Tryd.func78, Tryd.ntmps78
  go_wp2
  go_ret2
  exact ⟨rfl, rfl⟩

set_option maxHeartbeats 8000000 in
set_option maxRecDepth 100000 in
theorem rread_calls (q : Nat) (sv : Value) (bs : List Int) (t : Nat) (n order : Int) (w : World) (hR : Hid (IsR w q sv bs t)) (h1 : -9223372036854775808 ≤ n ∧ n ≤ 9223372036854775807) (h2 : -9223372036854775808 ≤ order ∧ order ≤ 9223372036854775807) (hs : bs.length ≤ 1000000) :
    Calls Tryd.prog 78 #[.pointer (some ⟨q, 0, none⟩), .int .i64 n, .int .i64 order] w fun e w' => ∃ v, e = .returned (.tuple #[v, .int .i64 (blockS n order (restB bs t)).2.1]) ∧ Row w' .i64 3 v (blockS n order (restB bs t)).1 ∧ IsR w' q sv bs (t + (blockS n order (restB bs t)).2.2) ∧ Keeps [q] w w' ∧ (∀ b, b ∈ fp v → w.heap.size ≤ b) := by
  have HRT := Lib.hid (fun W => rright_calls n order W h1 h2)
  have hq0 : q < w.heap.size := World.block_lt_of_cell? w ⟨q, 0, none⟩ hR.out.duo.c0
  have HB0 : Hid (RD6 w w q sv bs t (.slice none 0 0) []) := ⟨hR.out, Row.nil _ _ _, Keeps.refl _ _, fun b hb => (by cases hb), hq0, hR.out.row.lt⟩
  clear hq0
  obtain ⟨R, hRe⟩ : ∃ R, restB bs t = R := ⟨_, rfl⟩
  have HRE := Lib.hid hRe
  rw [hRe]
  cases hb : rblockB n order with
  | false =>
    rw [hb] at HRT
    have hX : blockS n order R = ([], 1, 0) := by unfold blockS; rw [if_pos hb]
    rw [hX]
    clear hX hb hRe
    go_enter Tryd.func78, Tryd.ntmps78
    go_wp2_with (first
      | (go_at_call 92; go_must (refine (HRT.out _).mono ?_); rintro e w1 ⟨rfl, rfl⟩))
    go_ret2
    exact ⟨_, rfl, Row.nil _ _ _, HB0.out.rd, HB0.out.keep, fun b hb => by cases hb⟩
  | true =>
    rw [hb] at HRT
    have hrb := of_decide_eq_true hb
    obtain ⟨nN, rfl⟩ : ∃ nN : Nat, n = nN := ⟨n.toNat, by omega⟩
    obtain ⟨oN, rfl⟩ : ∃ oN : Nat, order = oN := ⟨order.toNat, by omega⟩
    have hnN : 1 ≤ nN ∧ nN ≤ 512 := by omega
    have hoN : oN ≤ 8 := by omega
    have HG2 := Lib.hid (rGet_calls q sv bs t 2 w hR)
    rw [hRe] at HG2
    have hblk : blockS (nN : Int) (oN : Int) R = if gtE 2 R ≠ 0 then ([], gtE 2 R, 0)
        else if 1 < gtN 2 R then ([], 2, 2)
        else if gtE 4 (R.drop 2) ≠ 0 then ([], gtE 4 (R.drop 2), 2)
        else if fitsB nN oN (gtN 4 (R.drop 2)).toNat = false then ([], 2, 6)
        else ((partsR (gtN 2 R).toNat (cntsS nN oN (gtN 4 (R.drop 2)).toNat) (R.drop 6)).1, (partsR (gtN 2 R).toNat (cntsS nN oN (gtN 4 (R.drop 2)).toNat) (R.drop 6)).2.1, 6 + (partsR (gtN 2 R).toNat (cntsS nN oN (gtN 4 (R.drop 2)).toNat) (R.drop 6)).2.2) := by
      unfold blockS
      rw [hb, if_neg (by simp), Int.toNat_natCast, Int.toNat_natCast]
    rw [hblk]
    clear hblk hb h1 h2
    by_cases hE : gtE 2 R = 0
    · have hT : gtT 2 R = 2 := by unfold gtT; rw [if_pos hE]; rfl
      have hMr : 0 ≤ gtN 2 R := by unfold gtN; rw [if_pos hE]; exact Int.natCast_nonneg _
      rw [hE, hT] at HG2
      rw [if_neg (by simp [hE])]
      have HG4 := Lib.hid (fun W (h : Hid (IsR W q sv bs (t + 2))) => rGet_calls q sv bs (t + 2) 4 W h)
      have hRt : restB bs (t + 2) = R.drop 2 := by rw [restB_add, hRe]
      rw [hRt] at HG4
      clear hRt hT
      obtain ⟨m, hm⟩ : ∃ m : Nat, gtN 2 R = m := ⟨(gtN 2 R).toNat, by omega⟩
      rw [hm] at HG2 ⊢
      clear hMr hE hm
      by_cases hm1 : 1 < m
      · rw [if_pos (by omega)]
        have hm1i : (1 : Int) < (m : Int) := by omega
        clear hRe
        go_enter Tryd.func78, Tryd.ntmps78
        go_wp2_with (first
          | (go_at_call 92; go_must (refine (HRT.out _).mono ?_); rintro e w1 ⟨rfl, rfl⟩)
          | (go_at_call 105; go_must (refine HG2.out.mono ?_); rintro e w2 ⟨rfl, hr1, hk1⟩; have HB2 := Lib.hid (HB0.out.read hr1 hk1); clear hr1 hk1))
        go_ret2
        exact ⟨_, rfl, Row.nil _ _ _, HB2.out.rd, HB2.out.keep, fun b hb => by cases hb⟩
      · rw [if_neg (by omega)]
        have hm1 : m ≤ 1 := by omega
        have hm1i : ¬ (1 : Int) < (m : Int) := by omega
        by_cases hE4 : gtE 4 (R.drop 2) = 0
        · have hT : gtT 4 (R.drop 2) = 4 := by unfold gtT; rw [if_pos hE4]; rfl
          have hPr : 0 ≤ gtN 4 (R.drop 2) ∧ gtN 4 (R.drop 2) ≤ 15 := by
            have h1 := val_take_lt (R.drop 2) 4
            unfold gtN
            rw [if_pos hE4]
            show (0 : Int) ≤ ((val ((R.drop 2).take 4) : Nat) : Int) ∧ ((val ((R.drop 2).take 4) : Nat) : Int) ≤ 15
            omega
          rw [hE4, hT] at HG4
          rw [if_neg (by simp [hE4])]
          obtain ⟨p, hp⟩ : ∃ p : Nat, gtN 4 (R.drop 2) = p := ⟨(gtN 4 (R.drop 2)).toNat, by omega⟩
          rw [hp] at HG4 hPr ⊢
          clear hT hE4 hp
          rw [Int.toNat_natCast, Int.toNat_natCast]
          have hp15 : p ≤ 15 := by omega
          have HF := Lib.hid (fun W => fits_calls nN oN p W hp15 (by omega) (by omega))
          clear hPr
          cases hf : fitsB nN oN p with
          | false =>
            rw [hf] at HF
            rw [if_pos rfl]
            clear hf hRe
            go_enter Tryd.func78, Tryd.ntmps78
            go_wp2_with (first
              | (go_at_call 92; go_must (refine (HRT.out _).mono ?_); rintro e w1 ⟨rfl, rfl⟩)
              | (go_at_call 105; go_must (first | (with_reducible refine HG2.out.mono ?_; rintro e w2 ⟨rfl, hr1, hk1⟩; have HB2 := Lib.hid (HB0.out.read hr1 hk1); clear hr1 hk1) | (with_reducible refine (HG4.out _ (Lib.hid HB2.out.rd)).mono ?_; rintro e w3 ⟨rfl, hr1, hk1⟩; have HB3 := Lib.hid (HB2.out.read hr1 hk1); clear hr1 hk1)))
              | (go_at_call 94; go_must (refine (HF.out _).mono ?_); rintro e w1 ⟨rfl, rfl⟩))
            go_ret2
            exact ⟨_, rfl, Row.nil _ _ _, HB3.out.rd, HB3.out.keep, fun b hb => by cases hb⟩
          | true =>
            rw [hf] at HF
            rw [if_neg (by simp)]
            obtain ⟨size, hs1, hs2, hs3⟩ := fits_facts _ _ _ hf
            have HST := Lib.hid (RestP.start m (cntsS nN oN p) (R.drop 6))
            obtain ⟨Y, hY⟩ : ∃ Y, partsR m (cntsS nN oN p) (R.drop 6) = Y := ⟨_, rfl⟩
            rw [hY] at HST ⊢
            clear hY hf
            obtain ⟨P, hP⟩ : ∃ P : Nat, 2 ^ p = P := ⟨_, rfl⟩
            have hPi : (2 : Int) ^ p = (P : Int) := by rw [← hP]; simp
            have HCD : Hid (∀ i, i < P → (cntsS nN oN p).drop i = (if i = 0 then size - oN else size) :: (cntsS nN oN p).drop (i + 1)) := by
              intro i hi
              have := cnts_drop nN oN p i (by rw [hP]; exact hi)
              rw [hs1] at this
              exact this
            have HCE : Hid ((cntsS nN oN p).drop P = []) := by show _ = _; rw [← hP]; exact cnts_end nN oN p
            obtain ⟨C, hC⟩ : ∃ C, cntsS nN oN p = C := ⟨_, rfl⟩
            rw [hC] at HST HCD HCE
            rw [hP] at hs1 hs2
            have hPn : P ≤ 512 := by
              have : 1 ≤ size := by
                rcases Nat.eq_zero_or_pos size with h | h
                · rw [h] at hs2; omega
                · exact h
              have : P ≤ P * size := Nat.le_mul_of_pos_right _ this
              omega
            have hP0 : 0 < P := by rw [← hP]; exact Nat.two_pow_pos _
            have hsz : size ≤ 512 := by rw [← hs1]; exact Nat.le_trans (Nat.div_le_self _ _) hnN.2
            have hdiv : (nN : Int) / (P : Int) = (size : Int) := by rw [← hs1]; simp
            obtain ⟨f, hfe⟩ : ∃ f, size - oN = f := ⟨_, rfl⟩
            have hsub : (size : Int) - (oN : Int) = (f : Int) := by omega
            have hf5 : f ≤ 512 := by omega
            rw [hfe] at HCD
            have hpi : (0 : Int) ≤ (p : Int) := by omega
            clear hs1 hs2 hs3 hP hfe hC hRe hrb
            go_enter Tryd.func78, Tryd.ntmps78
            go_wp2_with (first
              | (go_at_call 92; go_must (refine (HRT.out _).mono ?_); rintro e w1 ⟨rfl, rfl⟩)
              | (go_at_call 105; go_must (first | (with_reducible refine HG2.out.mono ?_; rintro e w2 ⟨rfl, hr1, hk1⟩; have HB2 := Lib.hid (HB0.out.read hr1 hk1); clear hr1 hk1) | (with_reducible refine (HG4.out _ (Lib.hid HB2.out.rd)).mono ?_; rintro e w3 ⟨rfl, hr1, hk1⟩; have HB3 := Lib.hid (HB2.out.read hr1 hk1); clear hr1 hk1)))
              | (go_at_call 94; go_must (refine (HF.out _).mono ?_); rintro e w1 ⟨rfl, rfl⟩))
            clear hm1i
            go_loopg [11, 53] (P + 1) (fun u v11 v53 wr => ∃ (i : Nat) (acc : List Int) (tt : Nat), v53 = .int .i64 i ∧ i ≤ P ∧ Hid (acc.length ≤ i * 512) ∧ Hid (i + u = P + 1) ∧ Hid (RD6 w wr q sv bs (t + 6 + tt) v11 acc) ∧ Hid (RestP m acc (C.drop i) (R.drop (6 + tt)) tt Y))
            case atStart => exact ⟨0, [], 0, by go_num, by omega, (show _ ≤ _ from Nat.zero_le _), (show _ = _ from by omega), HB3.out, HST.out⟩
            case round =>
              obtain ⟨i, acc, tt, rfl, hi, HAL, HQ, HBi, HRS⟩ := hrel
              obtain ⟨q1, rfl⟩ : ∃ g : Nat, g = gk := ⟨_, rfl⟩
              obtain ⟨wi, rfl⟩ : ∃ x : World, x = wr := ⟨_, rfl⟩
              by_cases hlt : i < P
              · have hrs := HRS.out
                rw [HCD.out i hlt] at hrs
                have hRt : restB bs (t + 6 + tt) = R.drop (6 + tt) := by rw [Nat.add_assoc, restB_add, HRE.out]
                have herr := fun h => RestP.err hrs h
                have hok := fun h => RestP.ok hrs h
                rw [List.drop_drop, Nat.add_assoc] at hok
                clear hrs
                by_cases hi0 : i = 0
                · subst hi0
                  rw [if_pos rfl] at hok herr
                  have hcall := readM_calls q sv bs (t + 6 + tt) m f wi (Lib.hid HBi.out.rd) hm1 (by omega) hs
                  rw [hRt] at hcall
                  have HC := Lib.hid hcall
                  have hYl := readS_len m f (R.drop (6 + tt))
                  clear hcall hRt
                  obtain ⟨o1, o2, o3, ho⟩ : ∃ o1 o2 o3, readS m f (R.drop (6 + tt)) = (o1, o2, o3) := ⟨_, _, _, rfl⟩
                  rw [ho] at herr hok HC hYl
                  have hYl : o1.length ≤ f := hYl
                  clear ho
                  by_cases ho2 : o2 = 0
                  · subst ho2
                    have HOK := Lib.hid (hok rfl)
                    have HLA : Hid ((acc.length + o1.length) * 8 ≤ 140737488355328) := (show _ ≤ _ from by have := HAL.out; omega)
                    have HLN : Hid ((acc ++ o1).length ≤ (0 + 1) * 512) := (show _ ≤ _ from by rw [List.length_append]; have := HAL.out; omega)
                    clear herr hok hYl
                    go_wp2_with (first
                      | (go_at_call 109; go_must (refine HC.out.mono ?_); rintro e wj ⟨v2, rfl, hr2, hr1, hk1, hf2⟩; have HBj := Lib.hid (HBi.out.read hr1 hk1); obtain ⟨a2, c2, hv2, hrd2, hnc2, hsp2⟩ := hr2.rdc; subst hv2; have HRD2 := Lib.hid hrd2; have HNC2 := Lib.hid hnc2; have HSP2 := Lib.hid hsp2; clear hr1 hk1 hr2 hf2 hrd2 hnc2 hsp2)
                      | (at_builtin; go_must (refine wp_appR (W := wj) rfl (.tmp 74) (.tmp 75) 22 3 .i64 8 rfl Tryd.underlying22 info_i64r (by decide) _ acc o1 rfl a2 c2 rfl HBj.out.row HRD2.out HNC2.out HSP2.out HLA.out ?_); intro v1 w1 hr1 hk1 hf1; have HB1 := Lib.hid (HBj.out.app hr1 hk1 hf1); clear hr1 hk1 hf1))
                    go_roundg (P - 0)
                    case measure => have := HQ.out; omega
                    case rel => exact ⟨0 + 1, acc ++ o1, tt + o3, by go_num, by omega, HLN.out, (show _ = _ from by have := HQ.out; omega), by rw [← Nat.add_assoc]; exact HB1.out, HOK.out⟩
                  · have hY := herr ho2
                    subst hY
                    clear herr hok
                    go_wp2_with (first
                      | (go_at_call 109; go_must (refine HC.out.mono ?_); rintro e wj ⟨v2, rfl, hr2, hr1, hk1, hf2⟩; have HBj := Lib.hid (HBi.out.read hr1 hk1); clear hr1 hk1 hr2 hf2))
                    go_ret2
                    refine ⟨_, rfl, Row.nil _ _ _, ?_, HBj.out.keep, fun b hb => by cases hb⟩
                    have h9 := HBj.out.rd
                    rw [show t + 6 + tt + o3 = t + (6 + (tt + o3)) by omega] at h9
                    exact h9
                · rw [if_neg hi0] at hok herr
                  have hib : ((i : Int) == 0) = false := beq_eq_false_iff_ne.2 (by omega)
                  have hcall := readM_calls q sv bs (t + 6 + tt) m size wi (Lib.hid HBi.out.rd) hm1 (by omega) hs
                  rw [hRt] at hcall
                  have HC := Lib.hid hcall
                  have hYl := readS_len m size (R.drop (6 + tt))
                  clear hcall hRt
                  obtain ⟨o1, o2, o3, ho⟩ : ∃ o1 o2 o3, readS m size (R.drop (6 + tt)) = (o1, o2, o3) := ⟨_, _, _, rfl⟩
                  rw [ho] at herr hok HC hYl
                  have hYl : o1.length ≤ size := hYl
                  clear ho
                  by_cases ho2 : o2 = 0
                  · subst ho2
                    have HOK := Lib.hid (hok rfl)
                    have HLA : Hid ((acc.length + o1.length) * 8 ≤ 140737488355328) := (show _ ≤ _ from by have := HAL.out; omega)
                    have HLN : Hid ((acc ++ o1).length ≤ (i + 1) * 512) := (show _ ≤ _ from by rw [List.length_append]; have := HAL.out; omega)
                    clear herr hok hYl
                    go_wp2_with (first
                      | (go_at_call 109; go_must (refine HC.out.mono ?_); rintro e wj ⟨v2, rfl, hr2, hr1, hk1, hf2⟩; have HBj := Lib.hid (HBi.out.read hr1 hk1); obtain ⟨a2, c2, hv2, hrd2, hnc2, hsp2⟩ := hr2.rdc; subst hv2; have HRD2 := Lib.hid hrd2; have HNC2 := Lib.hid hnc2; have HSP2 := Lib.hid hsp2; clear hr1 hk1 hr2 hf2 hrd2 hnc2 hsp2)
                      | (at_builtin; go_must (refine wp_appR (W := wj) rfl (.tmp 74) (.tmp 75) 22 3 .i64 8 rfl Tryd.underlying22 info_i64r (by decide) _ acc o1 rfl a2 c2 rfl HBj.out.row HRD2.out HNC2.out HSP2.out HLA.out ?_); intro v1 w1 hr1 hk1 hf1; have HB1 := Lib.hid (HBj.out.app hr1 hk1 hf1); clear hr1 hk1 hf1))
                    go_roundg (P - i)
                    case measure => have := HQ.out; omega
                    case rel => exact ⟨i + 1, acc ++ o1, tt + o3, by go_num, by omega, HLN.out, (show _ = _ from by have := HQ.out; omega), by rw [← Nat.add_assoc]; exact HB1.out, HOK.out⟩
                  · have hY := herr ho2
                    subst hY
                    clear herr hok
                    go_wp2_with (first
                      | (go_at_call 109; go_must (refine HC.out.mono ?_); rintro e wj ⟨v2, rfl, hr2, hr1, hk1, hf2⟩; have HBj := Lib.hid (HBi.out.read hr1 hk1); clear hr1 hk1 hr2 hf2))
                    go_ret2
                    refine ⟨_, rfl, Row.nil _ _ _, ?_, HBj.out.keep, fun b hb => by cases hb⟩
                    have h9 := HBj.out.rd
                    rw [show t + 6 + tt + o3 = t + (6 + (tt + o3)) by omega] at h9
                    exact h9
              · obtain rfl : i = P := by omega
                have hY := RestP.fin (by have := HRS.out; rwa [HCE.out] at this)
                subst hY
                go_wp2_with fail
                go_ret2
                refine ⟨_, rfl, HBi.out.row, ?_, HBi.out.keep, HBi.out.newv⟩
                have h9 := HBi.out.rd
                rw [show t + 6 + tt = t + (6 + tt) by omega] at h9
                exact h9
        · rw [if_pos hE4]
          have hT : gtT 4 (R.drop 2) = 0 := by unfold gtT; rw [if_neg hE4]
          rw [hT] at HG4
          obtain ⟨E, hE⟩ : ∃ E, gtE 4 (R.drop 2) = E := ⟨_, rfl⟩
          rw [hE] at HG4 hE4 ⊢
          generalize gtN 4 (R.drop 2) = D at *
          clear hE hT hRe
          go_enter Tryd.func78, Tryd.ntmps78
          go_wp2_with (first
            | (go_at_call 92; go_must (refine (HRT.out _).mono ?_); rintro e w1 ⟨rfl, rfl⟩)
            | (go_at_call 105; go_must (first | (with_reducible refine HG2.out.mono ?_; rintro e w2 ⟨rfl, hr1, hk1⟩; have HB2 := Lib.hid (HB0.out.read hr1 hk1); clear hr1 hk1) | (with_reducible refine (HG4.out _ (Lib.hid HB2.out.rd)).mono ?_; rintro e w3 ⟨rfl, hr1, hk1⟩; have HB3 := Lib.hid (HB2.out.read hr1 hk1); clear hr1 hk1))))
          go_ret2
          exact ⟨_, rfl, Row.nil _ _ _, HB3.out.rd, HB3.out.keep, fun b hb => by cases hb⟩
    · rw [if_pos hE]
      have hT : gtT 2 R = 0 := by unfold gtT; rw [if_neg hE]
      rw [hT] at HG2
      obtain ⟨E, hEe⟩ : ∃ E, gtE 2 R = E := ⟨_, rfl⟩
      rw [hEe] at HG2 hE ⊢
      generalize gtN 2 R = D at *
      clear hEe hT hRe
      go_enter Tryd.func78, Tryd.ntmps78
      go_wp2_with (first
        | (go_at_call 92; go_must (refine (HRT.out _).mono ?_); rintro e w1 ⟨rfl, rfl⟩)
        | (go_at_call 105; go_must (refine HG2.out.mono ?_); rintro e w2 ⟨rfl, hr1, hk1⟩; have HB2 := Lib.hid (HB0.out.read hr1 hk1); clear hr1 hk1))
      go_ret2
      exact ⟨_, rfl, Row.nil _ _ _, HB2.out.rd, HB2.out.keep, fun b hb => by cases hb⟩
end Go.Proofs.YtofkiimaoahfjaaDoor

set_option maxRecDepth 100000
set_option linter.unusedVariables false
set_option linter.unusedSimpArgs false
namespace Go.Proofs.YtofkiimaoahfjaaDoor
open Go.RowKit

theorem RowV.nil (w : World) (e : TypeId) : RowV w e (.slice none 0 0) [] := World.ownsRow_nil w 0 e 1

set_option maxHeartbeats 8000000 in
set_option maxRecDepth 100000 in
theorem refParts_no (L : List Int) (order p n : Nat) (hn : n = L.length) (a : Option Addr) (c : Nat) (w : World) (hp : p ≤ 15) (hl : L.length ≤ 600) (ho : order ≤ 8) (hf : fitsB (L.length + order) order p = false) :
    Calls Tryd.prog 101 #[.slice a n c, .int .i64 order, .int .i64 p] w fun e w' => e = .returned (.slice none 0 0) ∧ w = w' := by
  subst hn
  obtain ⟨P, hP⟩ : ∃ P : Nat, 2 ^ p = P := ⟨_, rfl⟩
  have hPi : (2 : Int) ^ p = (P : Int) := by rw [← hP]; simp
  have hP16 : P ≤ 32768 := by rw [← hP]; exact Nat.pow_le_pow_right (show 0 < 2 by omega) hp
  have hP0 : 0 < P := by rw [← hP]; exact Nat.pow_pos (by omega)
  obtain ⟨N, hN⟩ : ∃ N, L.length + order = N := ⟨_, rfl⟩
  obtain ⟨R, hR⟩ : ∃ R, N % P = R := ⟨_, rfl⟩
  obtain ⟨S, hS⟩ : ∃ S, N / P = S := ⟨_, rfl⟩
  have hf2 : ¬ (R = 0 ∧ order ≤ S) := by
    have := of_decide_eq_false hf
    rw [hP, hN, hR, hS] at this
    exact this
  have hNi : (L.length : Int) + (order : Int) = (N : Int) := by omega
  have hmod : Int.tmod (N : Int) (P : Int) = (R : Int) := by rw [← hR]; simp [Int.tmod_eq_emod_of_nonneg]
  have hdiv : (N : Int) / (P : Int) = (S : Int) := by rw [← hS]; simp
  have hRP : R < P := by rw [← hR]; exact Nat.mod_lt _ hP0
  have hpi : (0 : Int) ≤ (p : Int) := by omega
  have hSN : S ≤ N := by rw [← hS]; exact Nat.div_le_self _ _
  have hN6 : N ≤ 608 := by omega
  clear hP hR hS hN hf
  by_cases hR0 : R = 0
  · subst hR0
    have hlt : (S : Int) < (order : Int) := by omega
    clear hf2
    go_enter Tryd.func101, Tryd.ntmps101
    go_wp2
    go_ret
    exact ⟨rfl, rfl⟩
  · have hne : ¬ (R : Int) = 0 := by omega
    have hnb : ((R : Int) == 0) = false := beq_eq_false_iff_ne.2 hne
    clear hf2
    go_enter Tryd.func101, Tryd.ntmps101
    go_wp2
    go_ret
    exact ⟨rfl, rfl⟩

--GEN
/-- How many numbers are left when i parts are cut. -/
def leftN (f size P i : Nat) : Nat := if i = 0 then f + (P - 1) * size else (P - i) * size
/-- The parts that are left. -/
def leftC (f size P i : Nat) (rest : List Int) : List (List Int) := if i = 0 then rest.take f :: chunks size (P - 1) (rest.drop f) else chunks size (P - i) rest

set_option maxHeartbeats 8000000 in
set_option maxRecDepth 100000 in
theorem refParts_calls (L : List Int) (order p n : Nat) (hn : n = L.length) (a : Option Addr) (c : Nat) (w : World) (hnc : a = none → c = 0) (hp : p ≤ 9) (hl : L.length ≤ 600) (hc : L.length ≤ c) (ho : order ≤ 8) (hf : fitsB (L.length + order) order p = true) (hx : Hid (Rd w .i64 a L)) :
    Calls Tryd.prog 101 #[.slice a n c, .int .i64 order, .int .i64 p] w fun e w' => ∃ v vs, e = .returned v ∧ RowV w' 22 v vs ∧ (∀ b, b ∈ fp v → w.heap.size ≤ b) ∧ (∀ w0, Rd w0 .i64 a L → PartsOK w0 vs (partsS L order p)) ∧ Keeps [] w w' := by
  subst hn
  obtain ⟨size, hs1, hs2, hs3⟩ := fits_facts _ _ _ hf
  obtain ⟨P, hP⟩ : ∃ P : Nat, 2 ^ p = P := ⟨_, rfl⟩
  have hPi : (2 : Int) ^ p = (P : Int) := by rw [← hP]; simp
  have hP16 : P ≤ 512 := by rw [← hP]; exact Nat.pow_le_pow_right (show 0 < 2 by omega) hp
  have hP0 : 0 < P := by rw [← hP]; exact Nat.pow_pos (by omega)
  have HPS : Hid (partsS L order p = L.take (size - order) :: chunks size (P - 1) (L.drop (size - order))) := by show _ = _; unfold partsS; rw [hs1, hP]
  rw [hP] at hs1 hs2
  obtain ⟨N, hN⟩ : ∃ N, L.length + order = N := ⟨_, rfl⟩
  have hNi : (L.length : Int) + (order : Int) = (N : Int) := by omega
  have hN6 : N ≤ 608 := by omega
  have hmod0 : N % P = 0 := by rw [← hN, ← hs2]; exact Nat.mul_mod_right _ _
  have hmod : Int.tmod (N : Int) (P : Int) = ((0 : Nat) : Int) := by rw [Int.tmod_eq_emod_of_nonneg (by omega)]; omega
  rw [hN] at hs1 hs2
  have hdiv : (N : Int) / (P : Int) = (size : Int) := by rw [← hs1]; simp
  have hsl : size ≤ N := by rw [← hs2]; exact Nat.le_mul_of_pos_left _ hP0
  have hsoi : ¬ ((size : Int) < (order : Int)) := by omega
  obtain ⟨T, hT⟩ : ∃ T, (P - 1) * size = T := ⟨_, rfl⟩
  have hT2 : T + size = N := by
    rw [← hT, ← hs2]
    obtain ⟨P', rfl⟩ : ∃ P', P = P' + 1 := ⟨P - 1, by omega⟩
    rw [Nat.add_sub_cancel, Nat.add_mul, Nat.one_mul]
  have hpi : (0 : Int) ≤ (p : Int) := by omega
  have hfi : size - order ≤ L.length := by omega
  obtain ⟨f, hfe⟩ : ∃ f, size - order = f := ⟨_, rfl⟩
  have hsub : (size : Int) - (order : Int) = (f : Int) := by omega
  rw [hfe] at HPS hfi
  have hfc : f ≤ c := by omega
  have hTf : T + f = L.length := by omega
  have HT := Lib.hid hT
  have hTP : size ≤ T ∨ P = 1 := by
    rcases (show P = 1 ∨ 2 ≤ P by omega) with h | h
    · exact .inr h
    · left
      rw [← hT]
      exact Nat.le_mul_of_pos_left _ (by omega)
  have HTP := Lib.hid hTP
  have HSUB := Lib.hid hsub
  have HTF := Lib.hid hTf
  have HFI := Lib.hid hfi
  have HFC := Lib.hid hfc
  have HHC := Lib.hid hc
  have HSL := Lib.hid hsl
  have HS3 := Lib.hid hs3
  clear hs1 hs2 hf hP hT hfe hT2 hN hmod0 hTP hsub hTf hfi hfc hc hsl hs3
  go_enter Tryd.func101, Tryd.ntmps101
  go_wp2_with fail
  clear hmod hsoi
  have hsub := HSUB.out
  have hTf := HTF.out
  have hfi := HFI.out
  have hfc := HFC.out
  have hc := HHC.out
  have hsl := HSL.out
  have hs3 := HS3.out
  go_loopg [0, 8, 9] (P + 1) (fun q v0 v8 v9 wr => ∃ (i R : Nat) (dn : List (List Int)) (vs : List Value) (rest : List Int) (X : Option Addr) (C : Nat), v9 = .int .i64 i ∧ v0 = .slice X R C ∧ R ≤ C ∧ R ≤ 600 ∧ i ≤ P ∧ Hid (R = leftN f size P i) ∧ Hid (rest.length = R) ∧ Hid (vs.length = i) ∧ Hid (i + q = P + 1) ∧
      Hid (dn ++ leftC f size P i rest = partsS L order p) ∧ Hid (RowV wr 22 v8 vs) ∧ Hid (∀ b, b ∈ fp v8 → w.heap.size ≤ b) ∧ Hid (∀ w0, Rd w0 .i64 a L → PartsOK w0 vs dn) ∧ Hid (∀ w0, Rd w0 .i64 a L → Rd w0 .i64 X rest) ∧ Hid (X = none → C = 0) ∧ Hid (Keeps [] w wr))
  case atStart => exact ⟨0, L.length, [], [], L, a, c, rfl, rfl, hc, by omega, by omega, (show _ = _ from by unfold leftN; rw [if_pos rfl, HT.out]; omega), (show _ = _ from rfl), (show _ = _ from rfl), (show _ = _ from by omega), (show _ = _ from HPS.out.symm), RowV.nil _ _, (fun b hb => by cases hb), (fun w0 hr => trivial), (fun w0 hr => hr), hnc, Keeps.refl _ _⟩
  case round =>
    obtain ⟨i, R, dn, vs, rest, X, C, rfl, rfl, hRC, hR6, hiP, HRt, HRL, HVL, HTQ, HCH, HRow, HFp, HPs, HXd, HXn, HKr⟩ := hrel
    obtain ⟨q1, rfl⟩ : ∃ g : Nat, g = gk := ⟨_, rfl⟩
    obtain ⟨wb, rfl⟩ : ∃ x : World, x = wr := ⟨_, rfl⟩
    obtain ⟨a8, c8, he8⟩ := HRow.out.slice
    subst he8
    have hvl := HVL.out
    rw [hvl] at HRow HFp ⊢
    clear hvl
    by_cases hi : i < P
    · obtain ⟨κ, hκ⟩ : ∃ κ, (if i = 0 then f else size) = κ := ⟨_, rfl⟩
      obtain ⟨R', hR'⟩ : ∃ R', leftN f size P (i + 1) = R' := ⟨_, rfl⟩
      have hR2 : R = R' + κ := by
        rw [HRt.out, ← hR', ← hκ]
        unfold leftN
        rw [if_neg (Nat.succ_ne_zero i)]
        split
        · rename_i h; subst h; rw [Nat.zero_add]; omega
        · obtain ⟨z, hz⟩ : ∃ z, P - i = z + 1 := ⟨P - i - 1, by omega⟩
          rw [hz, show P - (i + 1) = z by omega, Nat.succ_mul]
      have hsR : κ ≤ R := by omega
      have hsC : κ ≤ C := by omega
      have hRs : R - κ = R' := by omega
      have hRi : (R : Int) - (κ : Int) = (R' : Int) := by omega
      have htl : (rest.take κ).length = κ := by rw [List.length_take, HRL.out]; omega
      have HR' := Lib.hid hR'
      have HPN : Hid (∀ w0, Rd w0 .i64 a L → PartsOK w0 (vs ++ [.slice X κ C]) (dn ++ [rest.take κ])) := fun w0 hr => PartsOK.snoc ⟨X, C, by rw [htl], (HXd.out w0 hr).take κ, by rw [htl]; exact hsC⟩ (HPs.out w0 hr)
      have HDL : Hid ((rest.drop κ).length = R') := (show _ = _ from by rw [List.length_drop, HRL.out]; omega)
      have HVB : Hid ((vs.length + 1) * 24 ≤ 140737488355328 ∧ vs.length ≤ 1000000000) := (show _ ∧ _ from by rw [HVL.out]; omega)
      have hQ := HTQ.out
      clear hR' htl
      by_cases hi0 : i = 0
      · subst hi0
        rw [if_pos rfl] at hκ
        subst hκ
        have HCN : Hid ((dn ++ [rest.take f]) ++ leftC f size P (0 + 1) (rest.drop f) = partsS L order p) := by
          show _ = _
          rw [← HCH.out, List.append_assoc]
          unfold leftC
          rw [if_neg (by omega), if_pos rfl]
          rfl
        clear hQ
        cases X with
        | none =>
          have hr0 := Rd.none_nil (HXd.out w hx.out)
          have hc0 := HXn.out rfl
          subst hr0 hc0
          obtain rfl : R = 0 := by have := HRL.out; simpa using this.symm
          obtain rfl : f = 0 := by omega
          obtain rfl : R' = 0 := by omega
          clear hR2 hRs hRi hsR hsC hNi hTf hfi hfc hsl hs3 hN6 hc
          go_wp2_with (first
            | (at_builtin; go_must (refine wp_appV (W := wb) rfl (.tmp 41) (.tmp 45) 104 22 (.slice none 0 0) 24 rfl Tryd.underlying104 info_sl rfl (.slice a8 0 c8) vs (.slice none 0 0) rfl rfl rfl HRow.out HVB.out.1 HVB.out.2 ?_); intro v1 w1 hr1 hk1 hf1; have HR1 := Lib.hid hr1; have HK1 : Hid (Keeps [] w w1) := HKr.out.then_ hk1 (fun b hb hlt => by have := HFp.out b hb; omega); have HF1 : Hid (∀ b, b ∈ fp v1 → w.heap.size ≤ b) := (fun b hb => by rcases hf1 b hb with h | h; (exact HFp.out b h); (exact Nat.le_trans HKr.out.size h)); clear hr1 hk1 hf1))
          go_roundg (P - 0)
          case measure => have := HTQ.out; omega
          case rel => exact ⟨0 + 1, 0, _, _, _, none, 0, by go_num, rfl, by omega, by omega, by omega, HR'.out.symm, HDL.out, (show _ = _ from by rw [List.length_append, HVL.out]; rfl), (show _ = _ from by omega), HCN.out, HR1.out, HF1.out, HPN.out, HXd.out, (fun _ => rfl), HK1.out⟩
        | some ad =>
          have HXT : Hid (∀ w0, Rd w0 .i64 a L → Rd w0 .i64 (some (ad.add f)) (rest.drop f)) := fun w0 hr => Rd.tailAdd (HXd.out w0 hr) f
          go_wp2_with (first
            | (at_builtin; go_must (refine wp_appV (W := wb) rfl (.tmp 41) (.tmp 45) 104 22 (.slice none 0 0) 24 rfl Tryd.underlying104 info_sl rfl (.slice a8 0 c8) vs (.slice (some ad) f C) rfl rfl rfl HRow.out HVB.out.1 HVB.out.2 ?_); intro v1 w1 hr1 hk1 hf1; have HR1 := Lib.hid hr1; have HK1 : Hid (Keeps [] w w1) := HKr.out.then_ hk1 (fun b hb hlt => by have := HFp.out b hb; omega); have HF1 : Hid (∀ b, b ∈ fp v1 → w.heap.size ≤ b) := (fun b hb => by rcases hf1 b hb with h | h; (exact HFp.out b h); (exact Nat.le_trans HKr.out.size h)); clear hr1 hk1 hf1))
          · obtain rfl : C = f := by assumption
            have hR0 : R' = 0 := by omega
            have hnil : rest.drop C = [] := List.eq_nil_of_length_eq_zero (by rw [HDL.out]; exact hR0)
            have HNIL : Hid (∀ w0, Rd w0 .i64 a L → Rd w0 .i64 (some ad) (rest.drop C)) := by
              intro w0 hr
              rw [hnil]
              exact Rd.nil _ _ _
            clear hnil
            go_roundg (P - 0)
            case measure => have := HTQ.out; omega
            case rel => exact ⟨0 + 1, R', _, _, _, some ad, 0, by go_num, (by first | rfl | (congr 1; omega)), by omega, by omega, by omega, HR'.out.symm, HDL.out, (show _ = _ from by rw [List.length_append, HVL.out]; rfl), (show _ = _ from by omega), HCN.out, HR1.out, HF1.out, HPN.out, HNIL.out, (fun _ => rfl), HK1.out⟩
          · go_roundg (P - 0)
            case measure => have := HTQ.out; omega
            case rel => exact ⟨0 + 1, R', _, _, _, some (ad.add f), C - f, by go_num, (by first | rfl | (congr 1; omega)), by omega, by omega, by omega, HR'.out.symm, HDL.out, (show _ = _ from by rw [List.length_append, HVL.out]; rfl), (show _ = _ from by omega), HCN.out, HR1.out, HF1.out, HPN.out, HXT.out, (fun h => by cases h), HK1.out⟩
      · rw [if_neg hi0] at hκ
        subst hκ
        have HCN : Hid ((dn ++ [rest.take size]) ++ leftC f size P (i + 1) (rest.drop size) = partsS L order p) := by
          show _ = _
          rw [← HCH.out, List.append_assoc]
          unfold leftC
          rw [if_neg (by omega), if_neg hi0]
          obtain ⟨z, hz⟩ : ∃ z, P - i = z + 1 := ⟨P - i - 1, by omega⟩
          rw [hz, show P - (i + 1) = z by omega]
          rfl
        have hib : ((i : Int) == 0) = false := beq_eq_false_iff_ne.2 (by omega)
        clear hQ
        cases X with
        | none =>
          have hr0 := Rd.none_nil (HXd.out w hx.out)
          have hc0 := HXn.out rfl
          subst hr0 hc0
          obtain rfl : R = 0 := by have := HRL.out; simpa using this.symm
          obtain rfl : size = 0 := by omega
          obtain rfl : R' = 0 := by omega
          clear hR2 hRs hRi hsR hsC hNi hTf hfi hfc hsl hs3 hN6 hc
          go_wp2_with (first
            | (at_builtin; go_must (refine wp_appV (W := wb) rfl (.tmp 41) (.tmp 45) 104 22 (.slice none 0 0) 24 rfl Tryd.underlying104 info_sl rfl (.slice a8 i c8) vs (.slice none 0 0) rfl rfl rfl HRow.out HVB.out.1 HVB.out.2 ?_); intro v1 w1 hr1 hk1 hf1; have HR1 := Lib.hid hr1; have HK1 : Hid (Keeps [] w w1) := HKr.out.then_ hk1 (fun b hb hlt => by have := HFp.out b hb; omega); have HF1 : Hid (∀ b, b ∈ fp v1 → w.heap.size ≤ b) := (fun b hb => by rcases hf1 b hb with h | h; (exact HFp.out b h); (exact Nat.le_trans HKr.out.size h)); clear hr1 hk1 hf1))
          go_roundg (P - i)
          case measure => have := HTQ.out; omega
          case rel => exact ⟨i + 1, 0, _, _, _, none, 0, by go_num, rfl, by omega, by omega, by omega, HR'.out.symm, HDL.out, (show _ = _ from by rw [List.length_append, HVL.out]; rfl), (show _ = _ from by omega), HCN.out, HR1.out, HF1.out, HPN.out, HXd.out, (fun _ => rfl), HK1.out⟩
        | some ad =>
          have HXT : Hid (∀ w0, Rd w0 .i64 a L → Rd w0 .i64 (some (ad.add size)) (rest.drop size)) := fun w0 hr => Rd.tailAdd (HXd.out w0 hr) size
          go_wp2_with (first
            | (at_builtin; go_must (refine wp_appV (W := wb) rfl (.tmp 41) (.tmp 45) 104 22 (.slice none 0 0) 24 rfl Tryd.underlying104 info_sl rfl (.slice a8 i c8) vs (.slice (some ad) size C) rfl rfl rfl HRow.out HVB.out.1 HVB.out.2 ?_); intro v1 w1 hr1 hk1 hf1; have HR1 := Lib.hid hr1; have HK1 : Hid (Keeps [] w w1) := HKr.out.then_ hk1 (fun b hb hlt => by have := HFp.out b hb; omega); have HF1 : Hid (∀ b, b ∈ fp v1 → w.heap.size ≤ b) := (fun b hb => by rcases hf1 b hb with h | h; (exact HFp.out b h); (exact Nat.le_trans HKr.out.size h)); clear hr1 hk1 hf1))
          · obtain rfl : C = size := by assumption
            have hR0 : R' = 0 := by omega
            have hnil : rest.drop C = [] := List.eq_nil_of_length_eq_zero (by rw [HDL.out]; exact hR0)
            have HNIL : Hid (∀ w0, Rd w0 .i64 a L → Rd w0 .i64 (some ad) (rest.drop C)) := by
              intro w0 hr
              rw [hnil]
              exact Rd.nil _ _ _
            clear hnil
            go_roundg (P - i)
            case measure => have := HTQ.out; omega
            case rel => exact ⟨i + 1, R', _, _, _, some ad, 0, by go_num, (by first | rfl | (congr 1; omega)), by omega, by omega, by omega, HR'.out.symm, HDL.out, (show _ = _ from by rw [List.length_append, HVL.out]; rfl), (show _ = _ from by omega), HCN.out, HR1.out, HF1.out, HPN.out, HNIL.out, (fun _ => rfl), HK1.out⟩
          · go_roundg (P - i)
            case measure => have := HTQ.out; omega
            case rel => exact ⟨i + 1, R', _, _, _, some (ad.add size), C - size, by go_num, (by first | rfl | (congr 1; omega)), by omega, by omega, by omega, HR'.out.symm, HDL.out, (show _ = _ from by rw [List.length_append, HVL.out]; rfl), (show _ = _ from by omega), HCN.out, HR1.out, HF1.out, HPN.out, HXT.out, (fun h => by cases h), HK1.out⟩
    · obtain rfl : i = P := by omega
      have hch := HCH.out
      have hdn : dn = partsS L order p := by
        rw [← hch]
        unfold leftC
        rw [if_neg (by omega), Nat.sub_self]
        simp [chunks]
      subst hdn
      clear hch
      go_wp2_with fail
      go_ret
      exact ⟨_, vs, rfl, HRow.out, HFp.out, HPs.out, HKr.out⟩
end Go.Proofs.YtofkiimaoahfjaaDoor
