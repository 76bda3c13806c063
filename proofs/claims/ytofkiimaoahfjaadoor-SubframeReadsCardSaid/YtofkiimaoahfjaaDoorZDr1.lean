/-
  Layer 9 (subframe), the document's reading: some.
  Layer 9 (subframe), the document's reading: body of one sample, of all, by a fixed model.
  Layer 9 (subframe), the document's reading: body by a fixed model.
  Layer 9 (subframe), the document's reading: body by a model that was searched.
-/
import Derived.Test.YtofkiimaoahfjaaDoorZRd7
import Derived.Test.YtofkiimaoahfjaaDoorZRice27
import Derived.Test.YtofkiimaoahfjaaDoorZPred14
set_option maxRecDepth 100000
set_option linter.unusedVariables false
set_option linter.unusedSimpArgs false
namespace Go.Proofs.YtofkiimaoahfjaaDoor
open Go.RowKit Go.Proofs.YtofkiimaoahfjaaDoor.Pure

/-- The numbers, where there is no error. -/
def okL (E : Int) (l : List Int) : List Int := if E = 0 then l else []
theorem okL_zero (l : List Int) : okL 0 l = l := rfl
theorem okL_err {E : Int} (h : E ≠ 0) (l : List Int) : okL E l = [] := if_neg h
theorem listI_stop (D E : Int) (R : List Bool) (i : Nat) (h : (listI D E R i).2.1 ≠ 0) : ∀ d, (listI D E R (i + d)).2 = (listI D E R i).2 := by
  intro d
  induction d with
  | zero => rfl
  | succ d ih =>
    have e : listI D E R (i + (d + 1)) = if (listI D E R (i + d)).2.1 = 0 then ((listI D E R (i + d)).1 ++ [gsN D (R.drop (listI D E R (i + d)).2.2)], gtE D (R.drop (listI D E R (i + d)).2.2), (listI D E R (i + d)).2.2 + gtT D (R.drop (listI D E R (i + d)).2.2)) else ((listI D E R (i + d)).1 ++ [0], (listI D E R (i + d)).2.1, (listI D E R (i + d)).2.2) := rfl
    rw [e, ih, if_neg h]

set_option maxHeartbeats 4000000 in
theorem dsome_calls (g : Nat) (U : List Bool) (t : Nat) (n : Nat) (D : Int) (w : World) (hD : Hid (IsD w g U t)) (hn : n ≤ 1000000) :
    Calls Tryd.prog 81 #[.pointer (some ⟨g, 0, none⟩), .int .i64 n, .int .i64 D] w fun e w' => ∃ v, e = .returned (.tuple #[v, .int .i64 (listI D 0 (U.drop t) n).2.1]) ∧ Row w' .i64 3 v (okL (listI D 0 (U.drop t) n).2.1 (listI D 0 (U.drop t) n).1) ∧ (∀ b, b ∈ fp v → w.heap.size ≤ b) ∧
      IsD w' g U (t + (listI D 0 (U.drop t) n).2.2) ∧ Keeps [g] w w' := by
  have hq0 : g < w.heap.size := hD.out.duo.lt
  have HB0 : Hid (DD6 w w g U t (.slice none 0 0) []) := ⟨hD.out, Row.nil _ _ _, Keeps.refl _ _, fun b hb => (by cases hb), hq0⟩
  obtain ⟨R, hRe⟩ : ∃ R, U.drop t = R := ⟨_, rfl⟩
  have HRE := Lib.hid hRe
  rw [hRe]
  clear hRe hq0
  go_enter Tryd.func81, Tryd.ntmps81
  go_wp2_with fail
  go_loopg [8, 9] (n + 1) (fun p v8 v9 wr => ∃ (i : Nat), v9 = .int .i64 i ∧ i ≤ n ∧ Hid ((listI D 0 R i).2.1 = 0) ∧ Hid (DD6 w wr g U (t + (listI D 0 R i).2.2) v8 (listI D 0 R i).1) ∧ Hid (i + p = n + 1))
  case atStart => exact ⟨0, rfl, by omega, (show _ = _ from rfl), HB0.out, (show _ = _ from by omega)⟩
  case round =>
    obtain ⟨i, rfl, hi, HE, HD, HQ⟩ := hrel
    obtain ⟨v, rfl⟩ : ∃ y : Value, y = u8 := ⟨_, rfl⟩
    obtain ⟨q1, rfl⟩ : ∃ g : Nat, g = gk := ⟨_, rfl⟩
    obtain ⟨wa, rfl⟩ : ∃ y : World, y = wr := ⟨_, rfl⟩
    by_cases hlt : i < n
    · have HLN : Hid (listI D 0 R (i + 1) = ((listI D 0 R i).1 ++ [gsN D (R.drop (listI D 0 R i).2.2)], gtE D (R.drop (listI D 0 R i).2.2), (listI D 0 R i).2.2 + gtT D (R.drop (listI D 0 R i).2.2))) := by
        have : listI D 0 R (i + 1) = if (listI D 0 R i).2.1 = 0 then ((listI D 0 R i).1 ++ [gsN D (R.drop (listI D 0 R i).2.2)], gtE D (R.drop (listI D 0 R i).2.2), (listI D 0 R i).2.2 + gtT D (R.drop (listI D 0 R i).2.2)) else ((listI D 0 R i).1 ++ [0], (listI D 0 R i).2.1, (listI D 0 R i).2.2) := rfl
        show _ = _
        rw [this, if_pos HE.out]
      have hst := listI_stop D 0 R (i + 1)
      have hll := listI_length D 0 R i
      obtain ⟨X, hX⟩ : ∃ X, listI D 0 R i = X := ⟨_, rfl⟩
      obtain ⟨l, F, d⟩ := X
      rw [hX] at HLN HD hll
      replace hll : l.length = i := hll
      have HD' : Hid (DD6 w wa g U (t + d) v l) := HD.out
      have HBD : Hid ((l.length + 1) * 8 ≤ 140737488355328) := by show _ ≤ _; omega
      have HGS := Lib.hid (dGetSigned_calls g U (t + d) D wa (Lib.hid HD'.out.rd))
      rw [show U.drop (t + d) = R.drop d by rw [← List.drop_drop, HRE.out]] at HGS
      obtain ⟨x, hx⟩ : ∃ x, gsN D (R.drop d) = x := ⟨_, rfl⟩
      obtain ⟨E1, hE1⟩ : ∃ x, gtE D (R.drop d) = x := ⟨_, rfl⟩
      obtain ⟨T1, hT1⟩ : ∃ x, gtT D (R.drop d) = x := ⟨_, rfl⟩
      have HLN' : Hid (listI D 0 R (i + 1) = (l ++ [x], E1, d + T1)) := by
        show _ = _
        rw [HLN.out]
        show (l ++ [gsN D (R.drop d)], gtE D (R.drop d), d + gtT D (R.drop d)) = _
        rw [hx, hE1, hT1]
      rw [hx, hE1, hT1] at HGS
      have HT1 : Hid (t + d + T1 = t + (d + T1)) := (show _ = _ from by omega)
      rw [HT1.out] at HGS
      rw [HLN'.out] at hst
      have HST := Lib.hid hst
      clear hX HD hll HLN hx hE1 hT1 hst
      by_cases h0 : E1 = 0
      · subst h0
        go_wp2_with (first
          | (go_at_call 80; go_must (with_reducible refine HGS.out.mono ?_); rintro e w1 ⟨rfl, hR1, hk1⟩; have HD1 := Lib.hid (HD'.out.read hR1 hk1); clear hR1 hk1)
          | (at_builtin; refine wp_app1 (W := w1) rfl (.tmp 26) (.tmp 28) 22 3 .i64 8 rfl Tryd.underlying22 info_i64 (by decide) v l x rfl rfl HD1.out.row HBD.out ?_; intro v5 w5 hr5 hk5 hf5; have HD5 := Lib.hid (HD1.out.app hr5 hk5 hf5); clear hr5 hk5 hf5))
        go_roundg (n - i)
        case measure => have := HQ.out; omega
        case rel =>
          refine ⟨i + 1, by go_num, by omega, ?_, ?_, (show _ = _ from by have := HQ.out; omega)⟩
          · show _ = _
            rw [HLN'.out]
          · show DD6 _ _ _ _ _ _ _
            rw [HLN'.out]
            exact HD5.out
      · have hEb : (E1 != 0) = true := by simpa using h0
        have HEN : Hid ((listI D 0 R n).2 = (E1, d + T1)) := by
          have := HST.out h0 (n - (i + 1))
          rw [show i + 1 + (n - (i + 1)) = n by omega] at this
          exact this
        go_wp2_with (first
          | (go_at_call 80; go_must (with_reducible refine HGS.out.mono ?_); rintro e w1 ⟨rfl, hR1, hk1⟩; have HD1 := Lib.hid (HD'.out.read hR1 hk1); clear hR1 hk1))
        go_ret2
        rw [HEN.out]
        exact ⟨.slice none 0 0, rfl, by rw [okL_err h0]; exact Row.nil _ _ _, (fun b h => by cases h), HD1.out.rd, HD1.out.keep⟩
    · obtain rfl : i = n := by omega
      go_wp2_with fail
      go_ret2
      rw [HE.out, okL_zero]
      exact ⟨v, rfl, HD.out.row, HD.out.newv, HD.out.rd, HD.out.keep⟩
end Go.Proofs.YtofkiimaoahfjaaDoor

set_option maxRecDepth 100000
set_option linter.unusedVariables false
set_option linter.unusedSimpArgs false
namespace Go.Proofs.YtofkiimaoahfjaaDoor
open Go.RowKit Go.Proofs.YtofkiimaoahfjaaDoor.Pure

theorem okL_rep (i : Nat) (A : Int) : List.replicate (i + 1) A = List.replicate i A ++ [A] := by rw [List.replicate_succ']
set_option maxHeartbeats 4000000 in
theorem dbody_one (g : Nat) (U : List Bool) (t : Nat) (n : Nat) (D : Int) (w : World) (hD : Hid (IsD w g U t)) (hn : n ≤ 512) :
    Calls Tryd.prog 48 #[.pointer (some ⟨g, 0, none⟩), .int .i64 n, .int .i64 D, .int .i64 0] w fun e w' => ∃ v, e = .returned (.tuple #[v, .int .i64 (bodyS 0 n D (U.drop t)).2.1]) ∧ Row w' .i64 3 v (okL (bodyS 0 n D (U.drop t)).2.1 (bodyS 0 n D (U.drop t)).1) ∧ (∀ b, b ∈ fp v → w.heap.size ≤ b) ∧
      IsD w' g U (t + (bodyS 0 n D (U.drop t)).2.2) ∧ Keeps [g] w w' := by
  have hq0 : g < w.heap.size := hD.out.duo.lt
  have HB0 : Hid (DD6 w w g U t (.slice none 0 0) []) := ⟨hD.out, Row.nil _ _ _, Keeps.refl _ _, fun b hb => (by cases hb), hq0⟩
  have HGS := Lib.hid (dGetSigned_calls g U t D w hD)
  obtain ⟨R, hRe⟩ : ∃ R, U.drop t = R := ⟨_, rfl⟩
  rw [hRe] at HGS ⊢
  have HX : Hid (bodyS 0 n D R = (List.replicate n (gsN D R), gtE D R, 0 + gtT D R)) := (show _ = _ from rfl)
  obtain ⟨x, hx⟩ : ∃ x, gsN D R = x := ⟨_, rfl⟩
  obtain ⟨E1, hE1⟩ : ∃ x, gtE D R = x := ⟨_, rfl⟩
  obtain ⟨T1, hT1⟩ : ∃ x, gtT D R = x := ⟨_, rfl⟩
  rw [hx, hE1, hT1] at HGS HX
  clear hRe hq0 hx hE1 hT1
  by_cases h0 : E1 = 0
  · subst h0
    go_enter Tryd.func48, Tryd.ntmps48
    go_wp2_with (first
      | (go_at_call 80; go_must (with_reducible refine HGS.out.mono ?_); rintro e w1 ⟨rfl, hR1, hk1⟩; have HD1 := Lib.hid (HB0.out.read hR1 hk1); clear hR1 hk1))
    go_loopg [12, 13] (n + 1) (fun p v12 v13 wr => ∃ (i : Nat), v13 = .int .i64 i ∧ i ≤ n ∧ Hid (DD6 w wr g U (t + T1) v12 (List.replicate i x)) ∧ Hid (i + p = n + 1))
    case atStart => exact ⟨0, rfl, by omega, HD1.out, (show _ = _ from by omega)⟩
    case round =>
      obtain ⟨i, rfl, hi, HD, HQ⟩ := hrel
      obtain ⟨v, rfl⟩ : ∃ y : Value, y = u12 := ⟨_, rfl⟩
      obtain ⟨q1, rfl⟩ : ∃ g : Nat, g = gk := ⟨_, rfl⟩
      obtain ⟨wa, rfl⟩ : ∃ y : World, y = wr := ⟨_, rfl⟩
      by_cases hlt : i < n
      · have HN := Lib.hid (okL_rep i x)
        have hll : (List.replicate i x).length = i := List.length_replicate
        obtain ⟨l, hl⟩ : ∃ l, List.replicate i x = l := ⟨_, rfl⟩
        rw [hl] at HD HN hll
        have HBD : Hid ((l.length + 1) * 8 ≤ 140737488355328) := by show _ ≤ _; omega
        clear hl hll
        go_wp2_with (first
          | (at_builtin; refine wp_app1 (W := wa) rfl (.tmp 40) (.tmp 42) 22 3 .i64 8 rfl Tryd.underlying22 info_i64 (by decide) v l x rfl rfl HD.out.row HBD.out ?_; intro v5 w5 hr5 hk5 hf5; have HD5 := Lib.hid (HD.out.app hr5 hk5 hf5); clear hr5 hk5 hf5))
        go_roundg (n - i)
        case measure => have := HQ.out; omega
        case rel =>
          refine ⟨i + 1, by go_num, by omega, ?_, (show _ = _ from by have := HQ.out; omega)⟩
          show DD6 _ _ _ _ _ _ _
          rw [HN.out]
          exact HD5.out
      · obtain rfl : i = n := by omega
        go_wp2_with fail
        go_ret2
        rw [HX.out, okL_zero, Nat.zero_add]
        exact ⟨v, rfl, HD.out.row, HD.out.newv, HD.out.rd, HD.out.keep⟩
  · have hEb : (E1 != 0) = true := by simpa using h0
    go_enter Tryd.func48, Tryd.ntmps48
    go_wp2_with (first
      | (go_at_call 80; go_must (with_reducible refine HGS.out.mono ?_); rintro e w1 ⟨rfl, hR1, hk1⟩; have HD1 := Lib.hid (HB0.out.read hR1 hk1); clear hR1 hk1))
    go_ret2
    rw [HX.out, Nat.zero_add]
    exact ⟨.slice none 0 0, rfl, by rw [okL_err h0]; exact Row.nil _ _ _, (fun b h => by cases h), HD1.out.rd, HD1.out.keep⟩

set_option maxHeartbeats 4000000 in
theorem dbody_all (g : Nat) (U : List Bool) (t : Nat) (n : Nat) (D : Int) (w : World) (hD : Hid (IsD w g U t)) (hn : n ≤ 512) :
    Calls Tryd.prog 48 #[.pointer (some ⟨g, 0, none⟩), .int .i64 n, .int .i64 D, .int .i64 1] w fun e w' => ∃ v, e = .returned (.tuple #[v, .int .i64 (bodyS 1 n D (U.drop t)).2.1]) ∧ Row w' .i64 3 v (okL (bodyS 1 n D (U.drop t)).2.1 (bodyS 1 n D (U.drop t)).1) ∧ (∀ b, b ∈ fp v → w.heap.size ≤ b) ∧
      IsD w' g U (t + (bodyS 1 n D (U.drop t)).2.2) ∧ Keeps [g] w w' := by
  have HS := Lib.hid (dsome_calls g U t n D w hD (by omega))
  have HX : Hid (bodyS 1 n D (U.drop t) = listI D 0 (U.drop t) n) := (show _ = _ from rfl)
  rw [HX.out]
  generalize U.drop t = R at *
  go_enter Tryd.func48, Tryd.ntmps48
  go_wp2_with (first
    | (go_at_call 81; go_must (with_reducible refine HS.out.mono ?_); rintro e w1 ⟨v1, rfl, hr1, hf1, hd1, hk1⟩))
  go_ret2
  exact ⟨v1, rfl, hr1, hf1, hd1, hk1⟩
end Go.Proofs.YtofkiimaoahfjaaDoor

set_option maxRecDepth 100000
set_option linter.unusedVariables false
set_option linter.unusedSimpArgs false
namespace Go.Proofs.YtofkiimaoahfjaaDoor
open Go.RowKit Go.Proofs.YtofkiimaoahfjaaDoor.Pure

/-- The document's body on its way by a model: the Reader, the model's block, the warm samples. -/
structure DM (w0 w : World) (g : Nat) (U : List Bool) (t : Nat) (gm : Nat) (cv : Value) (sh : Int) (wv : Value) (ws : List Int) : Prop where
  hk : Keeps [g] w0 w
  rd : IsD w g U t
  mb : Cell2 w gm 71 cv (.int .i64 sh)
  lm : w0.heap.size ≤ gm
  lg : g < w0.heap.size
  wr : Row w .i64 3 wv ws
  wf : ∀ b, b ∈ fp wv → w0.heap.size ≤ b ∧ b ≠ gm
namespace DM
variable {w0 w w' : World} {g gm : Nat} {U : List Bool} {cv wv : Value} {ws : List Int} {t t' : Nat} {sh : Int}
theorem step (h : DM w0 w g U t gm cv sh wv ws) (hi : IsD w' g U t') (hk : Keeps [g] w w') : DM w0 w' g U t' gm cv sh wv ws := by
  have h1 := h.lm
  have h2 := h.lg
  refine ⟨h.hk.then_ hk (fun b hb _ => hb), hi, h.mb.keeps hk (by simp; omega), h1, h2, h.wr.keeps hk (fun b hb hm => ?_), h.wf⟩
  have h4 := (h.wf b hb).1
  simp at hm
  omega
theorem new (h : DM w0 w g U t gm cv sh wv ws) (hk : Keeps [] w w') : DM w0 w' g U t gm cv sh wv ws :=
  ⟨h.hk.new hk, h.rd.new hk, h.mb.keeps hk (by simp), h.lm, h.lg, h.wr.keeps hk (fun _ _ => by simp), h.wf⟩
theorem keep_m (h : DM w0 w g U t gm cv sh wv ws) (hk : Keeps [gm] w w') : Keeps [g] w0 w' ∧ IsD w' g U t ∧ Row w' .i64 3 wv ws := by
  have h1 := h.lm
  have h2 := h.lg
  refine ⟨h.hk.then_ hk (fun b hb hlt => by rw [List.mem_singleton] at hb; omega), h.rd.keeps hk (by simp; omega), h.wr.keeps hk (fun b hb hm => (h.wf b hb).2 (List.mem_singleton.1 hm))⟩
theorem set1 (h : DM w0 w g U t gm cv sh wv ws) (sh' : Int) : DM w0 (w.setCell ⟨gm, 1, none⟩ (.int .i64 sh')) g U t gm cv sh' wv ws := by
  obtain ⟨a, b, c⟩ := h.keep_m ((Keeps.refl [gm] w).setCell (.inl (by simp)) (a := ⟨gm, 1, none⟩) (.int .i64 sh'))
  exact ⟨a, b, ⟨blk_set h.mb.hp 1 _⟩, h.lm, h.lg, c, h.wf⟩
theorem set0 (h : DM w0 w g U t gm cv sh wv ws) (cv' : Value) : DM w0 (w.setCell ⟨gm, 0, none⟩ cv') g U t gm cv' sh wv ws := by
  obtain ⟨a, b, c⟩ := h.keep_m ((Keeps.refl [gm] w).setCell (.inl (by simp)) (a := ⟨gm, 0, none⟩) cv')
  exact ⟨a, b, ⟨blk_set h.mb.hp 0 _⟩, h.lm, h.lg, c, h.wf⟩
theorem f0 (h : DM w0 w g U t gm cv sh wv ws) : w.frozen? ⟨gm, 0, none⟩ = false := frozen_of_row w gm 0 _ _ h.mb.hp
theorem f1 (h : DM w0 w g U t gm cv sh wv ws) : w.frozen? ⟨gm, 1, none⟩ = false := frozen_of_row w gm 1 _ _ h.mb.hp
end DM

set_option maxHeartbeats 8000000 in
theorem dbody_fix (g : Nat) (U : List Bool) (t : Nat) (n : Nat) (c : Nat) (D kd : Int) (w : World) (hD : Hid (IsD w g U t)) (hn : n ≤ 512) (hc : c ≤ 4) (hk : kd = 8 + (c : Int)) (hs : U.length ≤ 8000000) :
    Calls Tryd.prog 48 #[.pointer (some ⟨g, 0, none⟩), .int .i64 n, .int .i64 D, .int .i64 kd] w fun e w' => ∃ v, e = .returned (.tuple #[v, .int .i64 (fixS n D c (U.drop t)).2.1]) ∧ Row w' .i64 3 v (okL (fixS n D c (U.drop t)).2.1 (fixS n D c (U.drop t)).1) ∧ (∀ b, b ∈ fp v → w.heap.size ≤ b) ∧
      IsD w' g U (t + (fixS n D c (U.drop t)).2.2) ∧ Keeps [g] w w' := by
  have e0 : (kd == 0) = false := beq_eq_false_iff_ne.2 (by omega)
  have e1 : (kd == 1) = false := beq_eq_false_iff_ne.2 (by omega)
  have e2 : ¬ (32 : Int) ≤ kd := by omega
  have e3 : kd - 8 = (c : Int) := by omega
  have k12 : kd ≤ 12 := by omega
  have k8 : 8 ≤ kd := by omega
  clear hk
  have hq0 : g < w.heap.size := hD.out.duo.lt
  have HQ0 := Lib.hid hq0
  have hdr : ∀ d, U.drop (t + d) = (U.drop t).drop d := fun d => List.drop_drop.symm
  have HSM := Lib.hid (dsome_calls g U t c D w hD (by omega))
  obtain ⟨R, hR⟩ : ∃ R, U.drop t = R := ⟨_, rfl⟩
  rw [hR] at HSM hdr
  rw [hR]
  by_cases hnc : (n : Int) < (c : Int)
  · have HX : Hid (fixS n D c R = ([], 2, 0)) := by show _ = _; unfold fixS; rw [if_pos hnc]
    clear hdr hR HSM
    go_enter Tryd.func48, Tryd.ntmps48
    go_wp2_with fail
    go_ret2
    rw [HX.out]
    exact ⟨.slice none 0 0, rfl, Row.nil _ _ _, (fun b h => by cases h), hD.out, Keeps.refl _ _⟩
  · have HFS : Hid (fixS n D c R = ((tailS n c (fixL (min c 4)) 0 (listI D 0 R c).1 (listI D 0 R c).2.1 (R.drop (listI D 0 R c).2.2)).1, (tailS n c (fixL (min c 4)) 0 (listI D 0 R c).1 (listI D 0 R c).2.1 (R.drop (listI D 0 R c).2.2)).2.1,
        (listI D 0 R c).2.2 + (tailS n c (fixL (min c 4)) 0 (listI D 0 R c).1 (listI D 0 R c).2.1 (R.drop (listI D 0 R c).2.2)).2.2)) := by show _ = _; unfold fixS; rw [if_neg hnc]
    have hmin : min (c : Int) 4 = ((c : Nat) : Int) := by omega
    have hmn : min c 4 = c := by omega
    rw [hmn] at HFS
    have HFX := Lib.hid (fun W => refFixed_calls c W hc)
    have hwl := listI_length D 0 R c
    obtain ⟨⟨ws, E, T⟩, hX⟩ : ∃ X, listI D 0 R c = X := ⟨_, rfl⟩
    rw [hX] at HSM HFS hwl
    replace HFS : Hid (fixS n D c R = ((tailS n c (fixL c) 0 ws E (R.drop T)).1, (tailS n c (fixL c) 0 ws E (R.drop T)).2.1, T + (tailS n c (fixL c) 0 ws E (R.drop T)).2.2)) := HFS.out
    replace HSM : Hid (Calls Tryd.prog 81 #[.pointer (some ⟨g, 0, none⟩), .int .i64 c, .int .i64 D] w fun e w' => ∃ v, e = .returned (.tuple #[v, .int .i64 E]) ∧ Row w' .i64 3 v (okL E ws) ∧ (∀ b, b ∈ fp v → w.heap.size ≤ b) ∧ IsD w' g U (t + T) ∧ Keeps [g] w w') := HSM.out
    have hwl2 : ws.length ≤ 4 := by
      have h1 : ws.length = c := hwl
      omega
    have HTS : Hid (tailS n c (fixL c) 0 ws E (R.drop T) = if E ≠ 0 then ([], E, 0) else if (blockS n c (R.drop T)).2.1 ≠ 0 then ([], (blockS n c (R.drop T)).2.1, (blockS n c (R.drop T)).2.2) else (rstO (fixL c) 0 ws (blockS n c (R.drop T)).1, rstE (fixL c) 0 ws (blockS n c (R.drop T)).1, (blockS n c (R.drop T)).2.2)) := (show _ = _ from rfl)
    have HRR : Hid (∀ W, IsD W g U (t + T) → Calls Tryd.prog 82 #[.pointer (some ⟨g, 0, none⟩), .int .i64 n, .int .i64 c] W fun e w' => ∃ v, e = .returned (.tuple #[v, .int .i64 (blockS n c (R.drop T)).2.1]) ∧ Row w' .i64 3 v (blockS n c (R.drop T)).1 ∧ IsD w' g U (t + (T + (blockS n c (R.drop T)).2.2)) ∧ Keeps [g] W w' ∧ (∀ b, b ∈ fp v → W.heap.size ≤ b)) := by
      intro W h
      have := docRead_calls g U (t + T) n c W (Lib.hid h) (by omega) (by omega) hs
      rw [hdr, Nat.add_assoc] at this
      exact this
    obtain ⟨cf, hcf⟩ : ∃ cf, fixL c = cf := ⟨_, rfl⟩
    rw [hcf] at HFX HFS HTS
    clear hq0 hdr hR hX hwl hmn hcf
    by_cases hE : E = 0
    · subst hE
      rw [okL_zero] at HSM
      go_enter Tryd.func48, Tryd.ntmps48
      go_upto_region 22 with (first
        | (go_at_call 81; go_must (with_reducible refine HSM.out.mono ?_); rintro e w2 ⟨v2, rfl, hr2, hf2, hd2, hk2⟩; obtain ⟨a2, c2, rfl, -, hn2, -⟩ := hr2.rdd; have HR2 := Lib.hid hr2; have HF2 := Lib.hid hf2; have HD2 := Lib.hid hd2; have HK2 := Lib.hid hk2; have HN2 := Lib.hid hn2; clear hr2 hf2 hd2 hk2 hn2)
        | (go_at_call 37; go_must (with_reducible refine (HFX.out _).mono ?_); rintro e w3 ⟨v3, rfl, hr3, hf3, hk3⟩; obtain ⟨a3, c3, rfl⟩ := hr3.slice; have HR3 := Lib.hid hr3; have HF3 := Lib.hid hf3; have HK3 := Lib.hid hk3; clear hr3 hf3 hk3))
      have hal : Keeps [] w3 (w3.alloc (.cells #[.slice a3 cf.length c3, .int .i64 0] 71)) := (Keeps.refl _ _).alloc _
      have HDM : Hid (DM w (w3.alloc (.cells #[.slice a3 cf.length c3, .int .i64 0] 71)) g U (t + T) w3.heap.size (.slice a3 cf.length c3) 0 (.slice a2 ws.length c2) ws) := by
        have s2 := HK2.out.size
        have s3 := HK3.out.size
        refine ⟨(HK2.out.new HK3.out).new hal, (HD2.out.new HK3.out).new hal, ⟨heap_alloc_new _ _⟩, by omega, HQ0.out, (HR2.out.keeps HK3.out (fun _ _ => by simp)).keeps hal (fun _ _ => by simp), fun b hb => ?_⟩
        have h1 := HF2.out b hb
        have h2 := HR2.out.lt b hb
        omega
      have HC4 : Hid (Row (w3.alloc (.cells #[.slice a3 cf.length c3, .int .i64 0] 71)) .i64 3 (.slice a3 cf.length c3) cf) := HR3.out.keeps hal (fun _ _ => by simp)
      have HFC : Hid (∀ b, b ∈ fp (.slice a3 cf.length c3) → b ∉ [g]) := fun b hb hm => by
        have h1 := HF3.out b hb
        have h2 := HK2.out.size
        have h3 := HQ0.out
        rw [List.mem_singleton] at hm
        omega
      clear hal HD2 HK2 HK3 HR2 HR3 HF2 HF3
      generalize w3.alloc (.cells #[.slice a3 cf.length c3, .int .i64 0] 71) = w4 at *
      generalize w3.heap.size = gm at *
      have hbl := blockS_len n c (R.drop T)
      obtain ⟨⟨L, Er, Tr⟩, hB⟩ : ∃ B, blockS n c (R.drop T) = B := ⟨_, rfl⟩
      rw [hB] at HTS HRR hbl
      have HLL : Hid (L.length ≤ 1000000) := by show _ ≤ _; have h1 : L.length ≤ (n : Int).toNat := hbl; omega
      clear hbl hB
      replace HRR : Hid (∀ W, IsD W g U (t + T) → Calls Tryd.prog 82 #[.pointer (some ⟨g, 0, none⟩), .int .i64 n, .int .i64 c] W fun e w' => ∃ v, e = .returned (.tuple #[v, .int .i64 Er]) ∧ Row w' .i64 3 v L ∧ IsD w' g U (t + (T + Tr)) ∧ Keeps [g] W w' ∧ (∀ b, b ∈ fp v → W.heap.size ≤ b)) := HRR.out
      replace HTS : Hid (tailS n c cf 0 ws 0 (R.drop T) = if Er ≠ 0 then ([], Er, Tr) else (rstO cf 0 ws L, rstE cf 0 ws L, Tr)) := HTS.out
      by_cases hEr : Er = 0
      · subst hEr
        have HT2 : Hid (fixS n D c R = (rstO cf 0 ws L, rstE cf 0 ws L, T + Tr)) := by show _ = _; rw [HFS.out, HTS.out, if_neg (by simp)]
        obtain ⟨RE, eRE⟩ : ∃ e, rstE cf 0 ws L = e := ⟨_, rfl⟩
        have HRE := Lib.hid eRE
        rw [eRE] at HT2
        have HOK : Hid (okL RE (rstO cf 0 ws L) = rstO cf 0 ws L) := by
          show _ = _
          unfold okL rstO
          rw [eRE]
          split <;> rfl
        clear HTS HFS eRE
        go_upto_region 40 with (first
          | (go_at_call 82; go_must (with_reducible refine (HRR.out _ HDM.out.rd).mono ?_); rintro e w5 ⟨v5, rfl, hr5, hd5, hk5, hf5⟩; obtain ⟨a5, c5, rfl, -, -, -⟩ := hr5.rdd; have HR5 := Lib.hid hr5; have HC5 := Lib.hid (HC4.out.keeps hk5 HFC.out); have HM5 := Lib.hid (HDM.out.step hd5 hk5); clear hr5 hd5 hk5 hf5))
        have m0 := HM5.out.mb.c0
        have m1 := HM5.out.mb.c1
        go_wp2_with (first
          | (go_at_call 83; go_must (with_reducible refine (docRestore_calls cf ws L 0 _ _ _ rfl a3 a2 a5 c3 c2 c5 _ rfl rfl HN2.out (by omega) HLL.out (Lib.hid (row_rd HC5.out)) (Lib.hid (row_rd HM5.out.wr)) (Lib.hid (row_rd HR5.out))).mono ?_); rw [HRE.out]; rintro e w6 ⟨v6, rfl, hr6, hf6, hk6⟩; have HM6 := Lib.hid (HM5.out.new hk6); have HR6 := Lib.hid hr6; have HF6 := Lib.hid hf6; clear hr6 hf6 hk6))
        go_ret2
        rw [HT2.out, HOK.out]
        exact ⟨v6, rfl, HR6.out, (fun b hb => Nat.le_trans HM5.out.hk.size (HF6.out b hb)), HM6.out.rd, HM6.out.hk⟩
      · have hEb : (Er != 0) = true := by simpa using hEr
        have HT2 : Hid (fixS n D c R = ([], Er, T + Tr)) := by show _ = _; rw [HFS.out, HTS.out, if_pos hEr]
        clear HTS HFS
        go_wp2_with (first
          | (go_at_call 82; go_must (with_reducible refine (HRR.out _ HDM.out.rd).mono ?_); rintro e w5 ⟨v5, rfl, hr5, hd5, hk5, hf5⟩; obtain ⟨a5, c5, rfl, -, -, -⟩ := hr5.rdd; have HM5 := Lib.hid (HDM.out.step hd5 hk5); clear hr5 hd5 hk5 hf5))
        go_ret2
        rw [HT2.out]
        exact ⟨.slice none 0 0, rfl, by rw [okL_err hEr]; exact Row.nil _ _ _, (fun b h => by cases h), HM5.out.rd, HM5.out.hk⟩
    · have hEb : (E != 0) = true := by simpa using hE
      have HT2 : Hid (fixS n D c R = ([], E, T + 0)) := by show _ = _; rw [HFS.out, HTS.out, if_pos hE]
      clear HTS HFS HRR HFX
      go_enter Tryd.func48, Tryd.ntmps48
      go_wp2_with (first
        | (go_at_call 81; go_must (with_reducible refine HSM.out.mono ?_); rintro e w2 ⟨v2, rfl, hr2, hf2, hd2, hk2⟩))
      go_ret2
      rw [HT2.out]
      exact ⟨.slice none 0 0, rfl, by rw [okL_err hE]; exact Row.nil _ _ _, (fun b h => by cases h), hd2, hk2⟩
end Go.Proofs.YtofkiimaoahfjaaDoor

set_option maxRecDepth 100000
set_option linter.unusedVariables false
set_option linter.unusedSimpArgs false
namespace Go.Proofs.YtofkiimaoahfjaaDoor
open Go.RowKit Go.Proofs.YtofkiimaoahfjaaDoor.Pure

theorem listI_err (D : Int) {E : Int} (R : List Bool) (n : Nat) (h : E ≠ 0) : (listI D E R n).2 = (E, 0) := by
  have := listI_stop D E R 0 h n
  rw [Nat.zero_add] at this
  exact this
theorem md_1 {E : Int} (R : List Bool) (h : E ≠ 0) : md3 E R = E ∧ (md2 E R).2.2 = 0 := by
  have a1 : md1 E R = (E, 0) := by unfold md1 mE iE iT; simp [h]
  have a2 : md2 E R = (0, E, 0) := by unfold md2; rw [a1]; unfold iE iT iN; simp [h]
  unfold md3
  rw [a2]
  exact ⟨by unfold mE; simp [h], rfl⟩
theorem md_2 (R : List Bool) (h : gtE 4 R ≠ 0) : md3 0 R = gtE 4 R ∧ (md2 0 R).2.2 = gtT 4 R := by
  have a1 : md1 0 R = (gtE 4 R, gtT 4 R) := by unfold md1 mE iE iT; simp [h]
  have a2 : md2 0 R = (0, gtE 4 R, gtT 4 R + 0) := by unfold md2; rw [a1]; unfold iE iT iN; simp [h]
  unfold md3
  rw [a2]
  exact ⟨by unfold mE; simp [h], rfl⟩
theorem md_3 (R : List Bool) (h : gtE 4 R = 0) (h2 : gtN 4 R ≠ 11) : md3 0 R = 2 ∧ (md2 0 R).2.2 = gtT 4 R := by
  have a1 : md1 0 R = (2, gtT 4 R) := by unfold md1 mE iE iT iN; simp [h, h2]
  have a2 : md2 0 R = (0, 2, gtT 4 R + 0) := by unfold md2; rw [a1]; unfold iE iT iN; simp
  unfold md3
  rw [a2]
  exact ⟨by unfold mE; simp, rfl⟩
theorem md_4 (R : List Bool) (h : gtE 4 R = 0) (h2 : gtN 4 R = 11) : md2 0 R = (gtN 5 (R.drop (gtT 4 R)), gtE 5 (R.drop (gtT 4 R)), gtT 4 R + gtT 5 (R.drop (gtT 4 R))) ∧ md3 0 R = mE (gtE 5 (R.drop (gtT 4 R))) (decide (gtN 5 (R.drop (gtT 4 R)) ≤ 15)) := by
  have a1 : md1 0 R = (0, gtT 4 R) := by unfold md1 mE iE iT iN; simp [h, h2]
  have a2 : md2 0 R = (gtN 5 (R.drop (gtT 4 R)), gtE 5 (R.drop (gtT 4 R)), gtT 4 R + gtT 5 (R.drop (gtT 4 R))) := by unfold md2; rw [a1]; unfold iE iT iN; simp
  refine ⟨a2, ?_⟩
  unfold md3
  rw [a2]
theorem sea_err (n : Int) (c : Nat) (ws : List Int) (E : Int) (T : Nat) (R : List Bool) {F : Int} {T2 : Nat} (h : F ≠ 0) (h3 : md3 E (R.drop T) = F) (h2 : (md2 E (R.drop T)).2.2 = T2) : seaI n c ws E T R = ([], F, T + T2) := by
  have h4 : (md4 c E (R.drop T)).2 = (F, 0) := by unfold md4; rw [h3]; exact listI_err 12 _ c h
  unfold seaI
  rw [h4, h2]
  simp only
  unfold tailS
  rw [if_pos h]
  rfl
theorem sea_coef (n : Int) (c : Nat) (ws : List Int) (T : Nat) (R : List Bool) {sh : Int} {T2 : Nat} {cs : List Int} {F : Int} {T3 : Nat} (h3 : md3 0 (R.drop T) = 0) (h2 : (md2 0 (R.drop T)).1 = sh) (h22 : (md2 0 (R.drop T)).2.2 = T2) (h4 : listI 12 0 ((R.drop T).drop T2) c = (cs, F, T3)) :
    seaI n c ws 0 T R = ((tailS n c cs sh ws F (R.drop (T + (T2 + T3)))).1, (tailS n c cs sh ws F (R.drop (T + (T2 + T3)))).2.1, T + (T2 + T3) + (tailS n c cs sh ws F (R.drop (T + (T2 + T3)))).2.2) := by
  have h5 : md4 c 0 (R.drop T) = (cs, F, T3) := by unfold md4; rw [h3, h22]; exact h4
  unfold seaI
  rw [h5, h2, h22]
end Go.Proofs.YtofkiimaoahfjaaDoor
