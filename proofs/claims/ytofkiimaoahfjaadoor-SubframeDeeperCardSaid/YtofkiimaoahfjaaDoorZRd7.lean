/-
  Layer 9 (subframe): body, by a model that was searched.
  Layer 9 (subframe): body; what a head that is right tells.
-/
import Derived.Test.YtofkiimaoahfjaaDoorZRd4
set_option maxRecDepth 100000
set_option linter.unusedVariables false
set_option linter.unusedSimpArgs false
namespace Go.Proofs.YtofkiimaoahfjaaDoor
open Go.RowKit Go.Proofs.YtofkiimaoahfjaaDoor.Pure

/-- The model's numbers: the precision; the shift; the error; the coefficients. -/
def md1 (E : Int) (R : List Bool) : Int × Nat := (mE (iE 4 E R) (iN 4 E R == 11), iT 4 E R)
def md2 (E : Int) (R : List Bool) : Int × Int × Nat := (iN 5 (md1 E R).1 (R.drop (md1 E R).2), iE 5 (md1 E R).1 (R.drop (md1 E R).2), (md1 E R).2 + iT 5 (md1 E R).1 (R.drop (md1 E R).2))
def md3 (E : Int) (R : List Bool) : Int := mE (md2 E R).2.1 (decide ((md2 E R).1 ≤ 15))
def md4 (c : Nat) (E : Int) (R : List Bool) : List Int × Int × Nat := listI 12 (md3 E R) (R.drop (md2 E R).2.2) c
/-- body by a searched model, behind the warm samples. -/
def seaI (n : Int) (c : Nat) (ws : List Int) (E : Int) (T : Nat) (R : List Bool) : List Int × Int × Nat :=
  ((tailS n c (md4 c E (R.drop T)).1 (md2 E (R.drop T)).1 ws (md4 c E (R.drop T)).2.1 (R.drop (T + ((md2 E (R.drop T)).2.2 + (md4 c E (R.drop T)).2.2)))).1,
    (tailS n c (md4 c E (R.drop T)).1 (md2 E (R.drop T)).1 ws (md4 c E (R.drop T)).2.1 (R.drop (T + ((md2 E (R.drop T)).2.2 + (md4 c E (R.drop T)).2.2)))).2.1,
    T + ((md2 E (R.drop T)).2.2 + (md4 c E (R.drop T)).2.2) + (tailS n c (md4 c E (R.drop T)).1 (md2 E (R.drop T)).1 ws (md4 c E (R.drop T)).2.1 (R.drop (T + ((md2 E (R.drop T)).2.2 + (md4 c E (R.drop T)).2.2)))).2.2)
/-- body by a searched model of order c. -/
def seaS (n : Int) (D : Int) (c : Nat) (R : List Bool) : List Int × Int × Nat := if n < c then ([], 2, 0) else seaI n c (listI D 0 R c).1 (listI D 0 R c).2.1 (listI D 0 R c).2.2 R

/-- body on its way by a model: the input, the model's block, the warm samples. -/
structure BM (w0 w : World) (g q : Nat) (sv : Value) (bs : List Int) (t : Nat) (E : Int) (gm : Nat) (cv : Value) (sh : Int) (wv : Value) (ws : List Int) : Prop where
  hk : Keeps [g, q] w0 w
  ii : IsI w g q sv bs t E
  mb : Cell2 w gm 59 cv (.int .i64 sh)
  lm : w0.heap.size ≤ gm
  lg : g < w0.heap.size
  lq : q < w0.heap.size
  ls : ∀ b, b ∈ fp sv → b < w0.heap.size
  wr : Row w .i64 3 wv ws
  wf : ∀ b, b ∈ fp wv → w0.heap.size ≤ b ∧ b ≠ gm
namespace BM
variable {w0 w w' : World} {g q gm : Nat} {sv cv wv : Value} {bs ws : List Int} {t t' : Nat} {E E' sh : Int}
theorem step (h : BM w0 w g q sv bs t E gm cv sh wv ws) (hi : IsI w' g q sv bs t' E') (hk : Keeps [g, q] w w') : BM w0 w' g q sv bs t' E' gm cv sh wv ws := by
  have h1 := h.lm
  have h2 := h.lg
  have h3 := h.lq
  refine ⟨h.hk.then_ hk (fun b hb _ => hb), hi, h.mb.keeps hk (by simp; omega), h1, h2, h3, h.ls, h.wr.keeps hk (fun b hb hm => ?_), h.wf⟩
  have h4 := (h.wf b hb).1
  simp at hm
  omega
theorem keep_m (h : BM w0 w g q sv bs t E gm cv sh wv ws) (hk : Keeps [gm] w w') : Keeps [g, q] w0 w' ∧ IsI w' g q sv bs t E ∧ Row w' .i64 3 wv ws := by
  have h1 := h.lm
  have h2 := h.lg
  have h3 := h.lq
  refine ⟨h.hk.then_ hk (fun b hb hlt => by rw [List.mem_singleton] at hb; omega), h.ii.keeps hk (by simp; omega) (by simp; omega) (fun b hb hm => ?_), h.wr.keeps hk (fun b hb hm => (h.wf b hb).2 (List.mem_singleton.1 hm))⟩
  have h4 := h.ls b hb
  rw [List.mem_singleton] at hm
  omega
theorem set1 (h : BM w0 w g q sv bs t E gm cv sh wv ws) (sh' : Int) : BM w0 (w.setCell ⟨gm, 1, none⟩ (.int .i64 sh')) g q sv bs t E gm cv sh' wv ws := by
  obtain ⟨a, b, c⟩ := h.keep_m ((Keeps.refl [gm] w).setCell (.inl (by simp)) (a := ⟨gm, 1, none⟩) (.int .i64 sh'))
  exact ⟨a, b, ⟨blk_set h.mb.hp 1 _⟩, h.lm, h.lg, h.lq, h.ls, c, h.wf⟩
theorem set0 (h : BM w0 w g q sv bs t E gm cv sh wv ws) (cv' : Value) : BM w0 (w.setCell ⟨gm, 0, none⟩ cv') g q sv bs t E gm cv' sh wv ws := by
  obtain ⟨a, b, c⟩ := h.keep_m ((Keeps.refl [gm] w).setCell (.inl (by simp)) (a := ⟨gm, 0, none⟩) cv')
  exact ⟨a, b, ⟨blk_set h.mb.hp 0 _⟩, h.lm, h.lg, h.lq, h.ls, c, h.wf⟩
theorem f0 (h : BM w0 w g q sv bs t E gm cv sh wv ws) : w.frozen? ⟨gm, 0, none⟩ = false := frozen_of_row w gm 0 _ _ h.mb.hp
theorem f1 (h : BM w0 w g q sv bs t E gm cv sh wv ws) : w.frozen? ⟨gm, 1, none⟩ = false := frozen_of_row w gm 1 _ _ h.mb.hp
end BM

set_option maxHeartbeats 8000000 in
theorem ibody_sea (g q : Nat) (sv : Value) (bs : List Int) (t : Nat) (n : Nat) (c : Nat) (D kd : Int) (w : World) (hI : Hid (IsI w g q sv bs t 0)) (hn : n ≤ 512) (hc : 1 ≤ c ∧ c ≤ 8) (hk : kd = 31 + (c : Int)) (hb : bs.length ≤ 1000000) :
    Calls Tryd.prog 44 #[.pointer (some ⟨g, 0, none⟩), .int .i64 kd, .int .i64 n, .int .i64 D] w fun e w' => ∃ v, e = .returned v ∧ Row w' .i64 3 v (seaS n D c (restB bs t)).1 ∧ (∀ b, b ∈ fp v → w.heap.size ≤ b) ∧
      IsI w' g q sv bs (t + (seaS n D c (restB bs t)).2.2) (seaS n D c (restB bs t)).2.1 ∧ Keeps [g, q] w w' := by
  have e0 : (kd == 0) = false := beq_eq_false_iff_ne.2 (by omega)
  have e1 : (kd == 1) = false := beq_eq_false_iff_ne.2 (by omega)
  have e2 : (31 : Int) < kd := by omega
  have e3 : kd - 31 = (c : Int) := by omega
  have k12 : kd ≤ 39 := by omega
  have hc8 : c ≤ 8 := hc.2
  clear hk
  have hg : g < w.heap.size := (Array.getElem?_eq_some_iff.1 hI.out.inp.hp).1
  have hq : q < w.heap.size := hI.out.rd.duo.lt
  have hsl := hI.out.rd.row.lt
  have HG := Lib.hid hg
  have HQ := Lib.hid hq
  have HSL := Lib.hid hsl
  have HM := Lib.hid (fun W ok (h : IsI W g q sv bs t 0) => imust_calls g q sv bs t 0 ok W (Lib.hid h))
  obtain ⟨R, hR⟩ : ∃ R, restB bs t = R := ⟨_, rfl⟩
  have hdr : ∀ d, restB bs (t + d) = R.drop d := fun d => by rw [restB_add, hR]
  rw [hR]
  by_cases hnc : (n : Int) < (c : Int)
  · have HF : Hid (seaS n D c R = ([], 2, 0)) := by show _ = _; unfold seaS; rw [if_pos hnc]
    have hle : decide (c ≤ n) = false := decide_eq_false (by omega)
    have HM1 : Hid (∀ W, IsI W g q sv bs t 0 → Calls Tryd.prog 72 #[.pointer (some ⟨g, 0, none⟩), .bool false] W fun e w' => e = .returned (.tuple #[]) ∧ IsI w' g q sv bs t 2 ∧ Keeps [g, q] W w') := fun W h => HM.out W false h
    clear hg hq hsl hdr hR HM
    go_enter Tryd.func44, Tryd.ntmps44
    go_wp2_with (first
      | (go_at_call 72; go_must (with_reducible refine (HM1.out _ hI.out).mono ?_); rintro e w1 ⟨rfl, hi1, hk1⟩; have HI1 := Lib.hid hi1; have HK1 := Lib.hid hk1; have d1 := HI1.out.c1; clear hi1 hk1))
    go_ret
    rw [HF.out]
    exact ⟨.slice none 0 0, rfl, Row.nil _ _ _, (fun b h => by cases h), HI1.out, HK1.out⟩
  · have hle : decide (c ≤ n) = true := decide_eq_true (by omega)
    have HM1 : Hid (∀ W, IsI W g q sv bs t 0 → Calls Tryd.prog 72 #[.pointer (some ⟨g, 0, none⟩), .bool true] W fun e w' => e = .returned (.tuple #[]) ∧ IsI w' g q sv bs t 0 ∧ Keeps [g, q] W w') := fun W h => HM.out W true h
    have HL := Lib.hid (fun W (h : IsI W g q sv bs t 0) => ilist_calls g q sv bs t 0 D c W (Lib.hid h) (by omega))
    rw [hR] at HL
    have hmin : min (c : Int) 4 = ((min c 4 : Nat) : Int) := by omega
    have HFX := Lib.hid (fun W => fixed_calls (min c 4) W (by omega))
    obtain ⟨cx, hcx⟩ : ∃ cx, fixL (min c 4) = cx := ⟨_, rfl⟩
    rw [hcx] at HFX
    clear hcx
    have HSS : Hid (seaS n D c R = seaI n c (listI D 0 R c).1 (listI D 0 R c).2.1 (listI D 0 R c).2.2 R) := by show _ = _; unfold seaS; rw [if_neg hnc]
    have hwl := listI_length D 0 R c
    obtain ⟨X, hX⟩ : ∃ X, listI D 0 R c = X := ⟨_, rfl⟩
    rw [hX] at HL HSS hwl
    obtain ⟨ws, E, T⟩ := X
    replace hwl : ws.length = c := hwl
    have hwl2 : ws.length ≤ 8 := by omega
    obtain ⟨R1, hR1⟩ : ∃ R1, R.drop T = R1 := ⟨_, rfl⟩
    have hdr1 : ∀ d, restB bs (t + T + d) = R1.drop d := fun d => by rw [Nat.add_assoc, hdr, ← hR1, List.drop_drop]
    replace HSS : Hid (seaS n D c R = ((tailS n c (md4 c E (R.drop T)).1 (md2 E (R.drop T)).1 ws (md4 c E (R.drop T)).2.1 (R.drop (T + ((md2 E (R.drop T)).2.2 + (md4 c E (R.drop T)).2.2)))).1, (tailS n c (md4 c E (R.drop T)).1 (md2 E (R.drop T)).1 ws (md4 c E (R.drop T)).2.1 (R.drop (T + ((md2 E (R.drop T)).2.2 + (md4 c E (R.drop T)).2.2)))).2.1,
      T + ((md2 E (R.drop T)).2.2 + (md4 c E (R.drop T)).2.2) + (tailS n c (md4 c E (R.drop T)).1 (md2 E (R.drop T)).1 ws (md4 c E (R.drop T)).2.1 (R.drop (T + ((md2 E (R.drop T)).2.2 + (md4 c E (R.drop T)).2.2)))).2.2)) := HSS.out
    replace HL : Hid (∀ W, IsI W g q sv bs t 0 → Calls Tryd.prog 77 #[.pointer (some ⟨g, 0, none⟩), .int .i64 c, .int .i64 D] W fun e w' => ∃ v, e = .returned v ∧ Row w' .i64 3 v ws ∧ (∀ b, b ∈ fp v → W.heap.size ≤ b) ∧ IsI w' g q sv bs (t + T) E ∧ Keeps [g, q] W w') := HL.out
    rw [hR1] at HSS
    have HG4 : Hid (∀ W, IsI W g q sv bs (t + T) E → Calls Tryd.prog 73 #[.pointer (some ⟨g, 0, none⟩), .int .i64 4] W fun e w' => e = .returned (.int .i64 (iN 4 E R1)) ∧ IsI w' g q sv bs (t + T + (md1 E R1).2) (iE 4 E R1) ∧ Keeps [g, q] W w') := by
      intro W h
      have := iget_calls g q sv bs _ _ 4 W (Lib.hid h)
      rw [hdr, hR1] at this
      exact this
    have HM4 : Hid (∀ W, IsI W g q sv bs (t + T + (md1 E R1).2) (iE 4 E R1) → Calls Tryd.prog 72 #[.pointer (some ⟨g, 0, none⟩), .bool (iN 4 E R1 == 11)] W fun e w' => e = .returned (.tuple #[]) ∧ IsI w' g q sv bs (t + T + (md1 E R1).2) (md1 E R1).1 ∧ Keeps [g, q] W w') :=
      fun W h => imust_calls g q sv bs _ _ _ W (Lib.hid h)
    have HG5 : Hid (∀ W, IsI W g q sv bs (t + T + (md1 E R1).2) (md1 E R1).1 → Calls Tryd.prog 73 #[.pointer (some ⟨g, 0, none⟩), .int .i64 5] W fun e w' => e = .returned (.int .i64 (md2 E R1).1) ∧ IsI w' g q sv bs (t + T + (md2 E R1).2.2) (md2 E R1).2.1 ∧ Keeps [g, q] W w') := by
      intro W h
      have := iget_calls g q sv bs _ _ 5 W (Lib.hid h)
      rw [hdr1, Nat.add_assoc] at this
      exact this
    have HM5 : Hid (∀ W, IsI W g q sv bs (t + T + (md2 E R1).2.2) (md2 E R1).2.1 → Calls Tryd.prog 72 #[.pointer (some ⟨g, 0, none⟩), .bool (decide ((md2 E R1).1 ≤ 15))] W fun e w' => e = .returned (.tuple #[]) ∧ IsI w' g q sv bs (t + T + (md2 E R1).2.2) (md3 E R1) ∧ Keeps [g, q] W w') :=
      fun W h => imust_calls g q sv bs _ _ _ W (Lib.hid h)
    have HL5 : Hid (∀ W, IsI W g q sv bs (t + T + (md2 E R1).2.2) (md3 E R1) → Calls Tryd.prog 77 #[.pointer (some ⟨g, 0, none⟩), .int .i64 c, .int .i64 12] W fun e w' => ∃ v, e = .returned v ∧ Row w' .i64 3 v (md4 c E R1).1 ∧ (∀ b, b ∈ fp v → W.heap.size ≤ b) ∧ IsI w' g q sv bs (t + T + ((md2 E R1).2.2 + (md4 c E R1).2.2)) (md4 c E R1).2.1 ∧ Keeps [g, q] W w') := by
      intro W h
      have := ilist_calls g q sv bs _ _ 12 c W (Lib.hid h) (by omega)
      rw [hdr1, Nat.add_assoc] at this
      exact this
    have hcl := listI_length 12 (md3 E R1) (R1.drop (md2 E R1).2.2) c
    replace hcl : (md4 c E R1).1.length = c := hcl
    obtain ⟨z, ez⟩ : ∃ z, iN 4 E R1 = z := ⟨_, rfl⟩
    obtain ⟨z2, ez2⟩ : ∃ z, iE 4 E R1 = z := ⟨_, rfl⟩
    obtain ⟨z3, ez3⟩ : ∃ z, md3 E R1 = z := ⟨_, rfl⟩
    obtain ⟨⟨A1, A2⟩, eA⟩ : ∃ z, md1 E R1 = z := ⟨_, rfl⟩
    obtain ⟨⟨s, B2, B3⟩, eB⟩ : ∃ z, md2 E R1 = z := ⟨_, rfl⟩
    obtain ⟨⟨cf, C2, C3⟩, eC⟩ : ∃ z, md4 c E R1 = z := ⟨_, rfl⟩
    rw [ez, ez2, eA] at HM4
    rw [ez, ez2, eA] at HG4
    rw [eA, eB] at HG5
    rw [eB, ez3] at HM5
    rw [eB, ez3, eC] at HL5
    rw [eC] at hcl
    rw [eB, eC] at HSS
    have hcfl : cf.length ≤ 8 := by have h1 : cf.length = c := hcl; omega
    obtain ⟨TT, eTT⟩ : ∃ k, T + (B3 + C3) = k := ⟨_, rfl⟩
    have HTT := Lib.hid eTT
    have HRR : Hid (∀ W, IsI W g q sv bs (t + TT) 0 → Calls Tryd.prog 78 #[.pointer (some ⟨q, 0, none⟩), .int .i64 n, .int .i64 c] W fun e w' => ∃ v, e = .returned (.tuple #[v, .int .i64 (blockS n c (R.drop TT)).2.1]) ∧ Row w' .i64 3 v (blockS n c (R.drop TT)).1 ∧ IsI w' g q sv bs (t + (TT + (blockS n c (R.drop TT)).2.2)) 0 ∧ Keeps [q] W w' ∧ (∀ b, b ∈ fp v → W.heap.size ≤ b)) := by
      intro W h
      have := rread_calls q sv bs (t + TT) n c W (Lib.hid h.rd) (by omega) (by omega) hb
      rw [hdr, Nat.add_assoc] at this
      exact this.mono (fun e w' ⟨v, h1, h2, h3, h4, h5⟩ => ⟨v, h1, h2, h.read h3 h4, h4, h5⟩)
    replace HSS : Hid (seaS n D c R = ((tailS n c cf s ws C2 (R.drop TT)).1, (tailS n c cf s ws C2 (R.drop TT)).2.1, TT + (tailS n c cf s ws C2 (R.drop TT)).2.2)) := by rw [← eTT]; exact HSS.out
    clear hg hq hsl hdr hdr1 hR HM hX hwl hcl ez ez2 ez3 eA eB eC eTT hR1
    go_enter Tryd.func44, Tryd.ntmps44
    go_upto_region 14 with (first
      | (go_at_call 72; go_must (with_reducible refine (HM1.out _ hI.out).mono ?_); rintro e w1 ⟨rfl, hi1, hk1⟩; have HI1 := Lib.hid hi1; have HK1 := Lib.hid hk1; have d1 := HI1.out.c1; clear hi1 hk1)
      | (go_at_call 77; go_must (with_reducible refine (HL.out _ HI1.out).mono ?_); rintro e w2 ⟨v2, rfl, hr2, hf2, hi2, hk2⟩; obtain ⟨a2, c2, rfl, -, hn2, -⟩ := hr2.rdd; have HR2 := Lib.hid hr2; have HF2 := Lib.hid hf2; have HI2 := Lib.hid hi2; have HK2 := Lib.hid hk2; have HN2 := Lib.hid hn2; clear hr2 hf2 hi2 hk2 hn2 d1)
      | (go_at_call 55; go_must (with_reducible refine (HFX.out _).mono ?_); rintro e w3 ⟨v3, rfl, hr3, hf3, hk3⟩; obtain ⟨a3, c3, rfl⟩ := hr3.slice; have HK3 := Lib.hid hk3; clear hr3 hf3 hk3))
    have hal : Keeps [] w3 (w3.alloc (.cells #[.slice a3 cx.length c3, .int .i64 0] 59)) := (Keeps.refl _ _).alloc _
    have HB4 : Hid (BM w (w3.alloc (.cells #[.slice a3 cx.length c3, .int .i64 0] 59)) g q sv bs (t + T) E w3.heap.size (.slice a3 cx.length c3) 0 (.slice a2 ws.length c2) ws) := by
      have hk := ((HK1.out.then_ HK2.out (fun b hb _ => hb)).new HK3.out)
      refine ⟨hk.new hal, (HI2.out.new HK3.out).new hal, ⟨heap_alloc_new _ _⟩, hk.size, HG.out, HQ.out, HSL.out, (HR2.out.keeps HK3.out (fun _ _ => by simp)).keeps hal (fun _ _ => by simp), fun b hb => ?_⟩
      have h1 := HF2.out b hb
      have h2 := HK1.out.size
      have h3 := HR2.out.lt b hb
      have h4 := HK3.out.size
      omega
    clear HI1 HI2 HK1 HK2 HK3 HR2 hal HF2 HM1 HL HFX
    generalize w3.alloc (.cells #[.slice a3 cx.length c3, .int .i64 0] 59) = w4 at *
    generalize w3.heap.size = gm at *
    go_upto_region 17 with (first
      | (go_at_call 73; with_reducible refine (HG5.out _ HB6.out.ii).mono ?_; rintro e w7 ⟨rfl, hi, hk⟩; have HB7 := Lib.hid (HB6.out.step hi hk); have m1 := HB7.out.mb.c1; have f1 := HB7.out.f1; clear hi hk)
      | (go_at_call 73; with_reducible refine (HG4.out _ HB4.out.ii).mono ?_; rintro e w5 ⟨rfl, hi, hk⟩; have HB5 := Lib.hid (HB4.out.step hi hk); clear hi hk)
      | (go_at_call 72; go_must (with_reducible refine (HM4.out _ HB5.out.ii).mono ?_); rintro e w6 ⟨rfl, hi, hk⟩; have HB6 := Lib.hid (HB5.out.step hi hk); clear hi hk))
    have HB8 := Lib.hid (HB7.out.set1 s)
    clear HB4 HB5 HB6 HB7 m1 f1 HG4 HM4 HG5
    generalize w7.setCell ⟨gm, 1, none⟩ (.int .i64 s) = w8 at *
    have m1 := HB8.out.mb.c1
    go_upto_region 19 with (first
      | (go_at_call 72; go_must (with_reducible refine (HM5.out _ HB8.out.ii).mono ?_); rintro e w9 ⟨rfl, hi, hk⟩; have HB9 := Lib.hid (HB8.out.step hi hk); clear hi hk m1)
      | (go_at_call 77; go_must (with_reducible refine (HL5.out _ HB9.out.ii).mono ?_); rintro e w10 ⟨v10, rfl, hr10, hf10, hi, hk⟩; have HB10 := Lib.hid (HB9.out.step hi hk); obtain ⟨a10, c10, rfl, -, -, -⟩ := hr10.rdd; have HR10 := Lib.hid hr10; have HF10 := Lib.hid hf10; have HK10 := Lib.hid hk; have m0 := HB10.out.mb.c0; have f0 := HB10.out.f0; clear hi hk hr10 hf10))
    have HB11 := Lib.hid (HB10.out.set0 (.slice a10 cf.length c10))
    have HKX : Hid (Keeps [gm] w10 (w10.setCell ⟨gm, 0, none⟩ (.slice a10 cf.length c10))) := (Keeps.refl [gm] w10).setCell (.inl (by simp)) _
    have HFR : Hid (∀ b, b ∈ fp (.slice a10 cf.length c10) → w.heap.size ≤ b ∧ b ≠ gm ∧ b ≠ q) := fun b hb => by
      have h1 := HF10.out b hb
      have h2 := HB9.out.hk.size
      have h3 := (Array.getElem?_eq_some_iff.1 HB9.out.mb.hp).1
      have h4 := HQ.out
      omega
    have HC11 : Hid (Row (w10.setCell ⟨gm, 0, none⟩ (.slice a10 cf.length c10)) .i64 3 (.slice a10 cf.length c10) cf) := HR10.out.keeps HKX.out (fun b hb hm => (HFR.out b hb).2.1 (List.mem_singleton.1 hm))
    clear HB8 HB9 HB10 HR10 HF10 HK10 HKX m0 f0 HM5 HL5
    generalize w10.setCell ⟨gm, 0, none⟩ (.slice a10 cf.length c10) = w11 at *
    have HI11 : Hid (IsI w11 g q sv bs (t + TT) C2) := by
      have h := HB11.out.ii
      rw [Nat.add_assoc, HTT.out] at h
      exact h
    have d0 := HI11.out.c0
    have d1 := HI11.out.c1
    by_cases hE : C2 = 0
    · subst hE
      have hbl := blockS_len n c (R.drop TT)
      have HTS : Hid (tailS n c cf s ws 0 (R.drop TT) = if (blockS n c (R.drop TT)).2.1 ≠ 0 then ([], (blockS n c (R.drop TT)).2.1, (blockS n c (R.drop TT)).2.2) else (rstO cf s ws (blockS n c (R.drop TT)).1, rstE cf s ws (blockS n c (R.drop TT)).1, (blockS n c (R.drop TT)).2.2)) := (show _ = _ from rfl)
      obtain ⟨⟨L, Er, Tr⟩, hB⟩ : ∃ B, blockS n c (R.drop TT) = B := ⟨_, rfl⟩
      rw [hB] at HTS HRR hbl
      have HLL : Hid (L.length ≤ 1000000) := by show _ ≤ _; have h1 : L.length ≤ (n : Int).toNat := hbl; omega
      clear hbl hB
      replace HRR : Hid (∀ W, IsI W g q sv bs (t + TT) 0 → Calls Tryd.prog 78 #[.pointer (some ⟨q, 0, none⟩), .int .i64 n, .int .i64 c] W fun e w' => ∃ v, e = .returned (.tuple #[v, .int .i64 Er]) ∧ Row w' .i64 3 v L ∧ IsI w' g q sv bs (t + (TT + Tr)) 0 ∧ Keeps [q] W w' ∧ (∀ b, b ∈ fp v → W.heap.size ≤ b)) := HRR.out
      replace HTS : Hid (tailS n c cf s ws 0 (R.drop TT) = if Er ≠ 0 then ([], Er, Tr) else (rstO cf s ws L, rstE cf s ws L, Tr)) := HTS.out
      by_cases hEr : Er = 0
      · subst hEr
        have HT2 : Hid (seaS n D c R = (rstO cf s ws L, rstE cf s ws L, TT + Tr)) := by show _ = _; rw [HSS.out, HTS.out, if_neg (by simp)]
        obtain ⟨RE, eRE⟩ : ∃ e, rstE cf s ws L = e := ⟨_, rfl⟩
        have HRE := Lib.hid eRE
        rw [eRE] at HT2
        clear HTS HSS eRE
        go_upto_region 25 with (first
          | (go_at_call 78; go_must (with_reducible refine (HRR.out _ HI11.out).mono ?_); rintro e w15 ⟨v5, rfl, hr5, hi5, hk5, hf5⟩; obtain ⟨a5, c5, rfl, -, -, -⟩ := hr5.rdd; have HR5 := Lib.hid hr5; have HI5 := Lib.hid hi5; have HK5 := Lib.hid hk5; clear hr5 hi5 hk5 hf5 d0 d1))
        have HKG : Hid (Keeps [g, q] w11 w15) := HK5.out.mono (fun b hb _ => by simp at hb; simp [hb])
        have HB15 := Lib.hid (HB11.out.step HI5.out HKG.out)
        have m0 := HB15.out.mb.c0
        have m1 := HB15.out.mb.c1
        have HC5 := Lib.hid (HC11.out.keeps HK5.out (fun b hb hm => (HFR.out b hb).2.2 (List.mem_singleton.1 hm)))
        go_upto_region 26 with (first
          | (go_at_call 79; go_must (with_reducible refine (restore_calls cf ws L s _ _ _ rfl a10 a2 a5 c10 c2 c5 _ rfl rfl HN2.out (by omega) HLL.out (Lib.hid (row_rd HC5.out)) (Lib.hid (row_rd HB15.out.wr)) (Lib.hid (row_rd HR5.out))).mono ?_); rw [HRE.out]; rintro e w6 ⟨v6, rfl, hr6, hf6, hk6⟩; have HI6 := Lib.hid (HI5.out.new hk6); have HK6 := Lib.hid hk6; have HR6 := Lib.hid hr6; have HF6 := Lib.hid hf6; clear hr6 hf6 hk6))
        have d1 := HI6.out.c1
        have f1 := HI6.out.f1
        go_wp2_with fail
        go_ret
        rw [HT2.out]
        have hk7 : Keeps [g] w6 (w6.setCell ⟨g, 1, none⟩ (.int .i64 RE)) := (Keeps.refl _ w6).setCell (.inl (by simp)) _
        have hk8 := HB15.out.hk
        refine ⟨v6, rfl, HR6.out.keeps hk7 (fun b hb hm => ?_), fun b hb => ?_, HI6.out.setE RE, ?_⟩
        · have h1 := HF6.out b hb
          have h2 := hk8.size
          have h3 := HG.out
          rw [List.mem_singleton] at hm
          omega
        · exact Nat.le_trans hk8.size (HF6.out b hb)
        · exact (hk8.new HK6.out).then_ hk7 (fun b hb _ => by simp at hb; simp [hb])
      · have hEb : (Er != 0) = true := by simpa using hEr
        have HT2 : Hid (seaS n D c R = ([], Er, TT + Tr)) := by show _ = _; rw [HSS.out, HTS.out, if_pos hEr]
        clear HTS HSS
        go_upto_region 22 with (first
          | (go_at_call 78; go_must (with_reducible refine (HRR.out _ HI11.out).mono ?_); rintro e w15 ⟨v5, rfl, hr5, hi5, hk5, hf5⟩; have HI5 := Lib.hid hi5; have HK5 := Lib.hid hk5; clear hr5 hi5 hk5 hf5 d0 d1))
        have d1 := HI5.out.c1
        have f1 := HI5.out.f1
        go_wp2_with fail
        go_ret
        rw [HT2.out]
        exact ⟨.slice none 0 0, rfl, Row.nil _ _ _, (fun b h => by cases h), HI5.out.setE Er, HB11.out.hk.then_ (keeps_gq (g := g) HK5.out (.int .i64 Er)) (fun b hb _ => hb)⟩
    · have hEb : (C2 != 0) = true := by simpa using hE
      have HT2 : Hid (seaS n D c R = ([], C2, TT + 0)) := by
        show _ = _
        rw [HSS.out]
        unfold tailS
        rw [if_pos hE]
      clear HSS HRR
      go_wp2_with fail
      go_ret
      rw [HT2.out]
      exact ⟨.slice none 0 0, rfl, Row.nil _ _ _, (fun b h => by cases h), HI11.out, HB11.out.hk⟩
end Go.Proofs.YtofkiimaoahfjaaDoor

set_option maxRecDepth 100000
set_option linter.unusedVariables false
set_option linter.unusedSimpArgs false
namespace Go.Proofs.YtofkiimaoahfjaaDoor
open Go.RowKit Go.Proofs.YtofkiimaoahfjaaDoor.Pure

/-- body: the samples, the error, how many bits it took. -/
def bodyS (kd : Int) (n : Nat) (D : Int) (R : List Bool) : List Int × Int × Nat :=
  if kd = 0 then (List.replicate n ((listI D 0 R 1).1.headD 0), (listI D 0 R 1).2.1, (listI D 0 R 1).2.2)
  else if kd = 1 then listI D 0 R n
  else if kd ≤ 12 then fixS n D (kd - 8).toNat R
  else seaS n D (kd - 31).toNat R
theorem ibody_calls (g q : Nat) (sv : Value) (bs : List Int) (t : Nat) (n : Nat) (kd D : Int) (w : World) (hI : Hid (IsI w g q sv bs t 0)) (hn : 1 ≤ n ∧ n ≤ 512) (hk : kindB kd = true) (hb : bs.length ≤ 1000000) :
    Calls Tryd.prog 44 #[.pointer (some ⟨g, 0, none⟩), .int .i64 kd, .int .i64 n, .int .i64 D] w fun e w' => ∃ v, e = .returned v ∧ Row w' .i64 3 v (bodyS kd n D (restB bs t)).1 ∧ (∀ b, b ∈ fp v → w.heap.size ≤ b) ∧
      IsI w' g q sv bs (t + (bodyS kd n D (restB bs t)).2.2) (bodyS kd n D (restB bs t)).2.1 ∧ Keeps [g, q] w w' := by
  have h := of_decide_eq_true hk
  rcases h with rfl | rfl | h | h
  · exact ibody_one g q sv bs t n D w hI hn
  · exact ibody_all g q sv bs t n D w hI hn.2
  · obtain ⟨c, hc⟩ : ∃ c : Nat, kd = 8 + (c : Int) := ⟨(kd - 8).toNat, by omega⟩
    have e : bodyS kd n D (restB bs t) = fixS n D c (restB bs t) := by
      unfold bodyS
      rw [if_neg (by omega), if_neg (by omega), if_pos (by omega), show (kd - 8).toNat = c by omega]
    rw [e]
    exact ibody_fix g q sv bs t n c D kd w hI hn.2 (by omega) hc hb
  · obtain ⟨c, hc⟩ : ∃ c : Nat, kd = 31 + (c : Int) := ⟨(kd - 31).toNat, by omega⟩
    have e : bodyS kd n D (restB bs t) = seaS n D c (restB bs t) := by
      unfold bodyS
      rw [if_neg (by omega), if_neg (by omega), if_neg (by omega), show (kd - 31).toNat = c by omega]
    rw [e]
    exact ibody_sea g q sv bs t n c D kd w hI hn.2 (by omega) hc hb
theorem mE_zero {E : Int} {ok : Bool} (h : mE E ok = 0) : E = 0 ∧ ok = true := by
  unfold mE at h
  split at h
  · cases h
  · rename_i h1
    refine ⟨h, ?_⟩
    cases ok
    · exact absurd ⟨h, rfl⟩ h1
    · rfl
theorem iE_zero {k E : Int} {R : List Bool} (h : iE k E R = 0) : E = 0 := by
  unfold iE at h
  split at h
  · assumption
  · exact h
/-- A head without an error: its kind is one, and fewer bits are wasted than there are. -/
theorem head_ok (depth : Int) (R : List Bool) (h : headE depth R = 0) : kindB (hd2 R).1 = true ∧ 0 ≤ (hd4 R).1 ∧ (hd4 R).1 < depth := by
  obtain ⟨h1, h2⟩ := mE_zero h
  have h3 : (hd3 R).2.1 = 0 := by
    unfold hd4 at h1
    split at h1
    · rename_i h4
      exact h4.2
    · exact h1
  have h4 : (hd2 R).2.1 = 0 := iE_zero h3
  have h5 := (mE_zero h4).2
  refine ⟨h5, ?_, of_decide_eq_true h2⟩
  unfold hd4
  split
  · have := (unRN_range (R.drop (hd3 R).2.2)).1
    show 0 ≤ unRN (R.drop (hd3 R).2.2) + 1
    omega
  · exact Int.le_refl _
/-- Read: the samples, the error, how many bits it took. -/
def readB (n : Nat) (depth : Int) (R : List Bool) : List Int × Int × Nat :=
  if headE depth R ≠ 0 then ([], headE depth R, (hd4 R).2.2)
  else if (bodyS (hd2 R).1 n (depth - (hd4 R).1) (R.drop (hd4 R).2.2)).2.1 ≠ 0 then ([], (bodyS (hd2 R).1 n (depth - (hd4 R).1) (R.drop (hd4 R).2.2)).2.1, (hd4 R).2.2 + (bodyS (hd2 R).1 n (depth - (hd4 R).1) (R.drop (hd4 R).2.2)).2.2)
  else if (bodyS (hd2 R).1 n (depth - (hd4 R).1) (R.drop (hd4 R).2.2)).1.all (fun x => fitB x ((depth - (hd4 R).1).toNat - 1)) = false then ([], 12, (hd4 R).2.2 + (bodyS (hd2 R).1 n (depth - (hd4 R).1) (R.drop (hd4 R).2.2)).2.2)
  else ((bodyS (hd2 R).1 n (depth - (hd4 R).1) (R.drop (hd4 R).2.2)).1.map (fun x => x * 2 ^ (hd4 R).1.toNat), 0, (hd4 R).2.2 + (bodyS (hd2 R).1 n (depth - (hd4 R).1) (R.drop (hd4 R).2.2)).2.2)
def readX (n depth : Int) (R : List Bool) : List Int × Int × Nat := if sbrB n depth then readB n.toNat depth R else ([], 1, 0)

theorem gtN_range (k : Int) (R : List Bool) : 0 ≤ gtN k R ∧ gtN k R ≤ 4294967296 := by
  unfold gtN
  split
  · rename_i h
    have hk : k.toNat ≤ 32 := by
      unfold gtE at h
      split at h
      · cases h
      · omega
    have h1 := val_take_lt R k.toNat
    have h2 : (2 : Nat) ^ k.toNat ≤ 2 ^ 32 := Nat.pow_le_pow_right (by omega) hk
    have h3 : (2 : Nat) ^ 32 = 4294967296 := rfl
    omega
  · omega
theorem gsN_range (k : Int) (R : List Bool) : -4294967296 ≤ gsN k R ∧ gsN k R ≤ 4294967296 := by
  have h := gtN_range k R
  unfold gsN
  split
  · rename_i h1
    have hk : k.toNat ≤ 32 := by
      have h2 := h1.1
      unfold gtE at h2
      split at h2
      · cases h2
      · omega
    have h2 : (2 : Nat) ^ k.toNat ≤ 2 ^ 32 := Nat.pow_le_pow_right (by omega) hk
    have h3 : (2 : Nat) ^ 32 = 4294967296 := rfl
    have h4 : ((2 ^ k.toNat : Nat) : Int) = (2 : Int) ^ k.toNat := by simp
    have h5 := Nat.two_pow_pos k.toNat
    omega
  · omega
theorem listI_range (width E : Int) (R : List Bool) (i : Nat) : ∀ x ∈ (listI width E R i).1, -4294967296 ≤ x ∧ x ≤ 4294967296 := by
  induction i with
  | zero => intro x hx; cases hx
  | succ i ih =>
    intro x hx
    unfold listI at hx
    split at hx
    · rcases List.mem_append.1 hx with h | h
      · exact ih x h
      · rw [List.mem_singleton.1 h]; exact gsN_range _ _
    · rcases List.mem_append.1 hx with h | h
      · exact ih x h
      · rw [List.mem_singleton.1 h]; omega
theorem restR_range (cs : List Int) (sh : Int) : ∀ (rs out O : List Int), (∀ x ∈ out, inB x = true) → restR cs sh out rs = some O → (∀ x ∈ O, inB x = true) ∧ O.length = out.length + rs.length := by
  intro rs
  induction rs with
  | nil =>
    intro out O h e
    simp only [restR, Option.some.injEq] at e
    subst e
    exact ⟨h, by simp⟩
  | cons r rs ih =>
    intro out O h e
    unfold restR at e
    split at e
    · rename_i hb
      obtain ⟨h1, h2⟩ := ih _ _ (fun x hx => by
        rcases List.mem_append.1 hx with hx | hx
        · exact h x hx
        · rw [List.mem_singleton.1 hx]; exact hb) e
      refine ⟨h1, ?_⟩
      rw [h2, List.length_append, List.length_singleton, List.length_cons]
      omega
    · cases e
theorem rstO_range (cs : List Int) (sh : Int) (ws rs : List Int) : (∀ x ∈ rstO cs sh ws rs, inB x = true) ∧ (rstO cs sh ws rs).length ≤ ws.length + rs.length := by
  unfold rstO
  split
  · rename_i h
    unfold rstE at h
    split at h
    · cases h
    · split at h
      · cases h
      · split at h
        · cases h
        · rename_i h1
          have hw : ws.all inB = true := by
            cases hb : ws.all inB
            · exact absurd (.inl hb) h1
            · rfl
          cases hr : restR cs sh ws rs with
          | none => rw [hr] at h; cases h
          | some O =>
            obtain ⟨h2, h3⟩ := restR_range cs sh rs ws O (List.all_eq_true.1 hw) hr
            exact ⟨h2, by rw [Option.getD_some]; omega⟩
  · exact ⟨fun x h => (by cases h), by simp⟩
theorem tailS_range (n c : Int) (cs : List Int) (sh : Int) (W : List Int) (E : Int) (R : List Bool) : (∀ x ∈ (tailS n c cs sh W E R).1, inB x = true) ∧ (tailS n c cs sh W E R).1.length ≤ W.length + n.toNat := by
  unfold tailS
  split
  · exact ⟨fun x h => (by cases h), by simp⟩
  · split
    · exact ⟨fun x h => (by cases h), by simp⟩
    · have h1 := rstO_range cs sh W (blockS n c R).1
      have h2 := blockS_len n c R
      exact ⟨h1.1, by have h3 := h1.2; show (rstO cs sh W (blockS n c R).1).length ≤ _; omega⟩
/-- What body makes is of so many samples, and they are small. -/
theorem bodyS_range (kd : Int) (n : Nat) (D : Int) (R : List Bool) (hn : n ≤ 512) : (∀ x ∈ (bodyS kd n D R).1, -9223372036854775808 ≤ x ∧ x ≤ 9223372036854775807) ∧ (bodyS kd n D R).1.length ≤ 1000000 := by
  have small : ∀ {l : List Int}, (∀ x ∈ l, inB x = true) → ∀ x ∈ l, -9223372036854775808 ≤ x ∧ x ≤ 9223372036854775807 := fun h x hx => by have := (inB_iff x).1 (h x hx); omega
  unfold bodyS
  split
  · refine ⟨fun x hx => ?_, by show (List.replicate n _).length ≤ _; rw [List.length_replicate]; omega⟩
    have h1 := List.eq_of_mem_replicate hx
    have h2 := listI_range D 0 R 1
    have h3 := listI_length D 0 R 1
    obtain ⟨y, hy⟩ := List.length_eq_one_iff.1 h3
    rw [hy] at h1 h2
    have h4 := h2 y (by simp)
    rw [List.headD_cons] at h1
    omega
  · split
    · exact ⟨fun x hx => by have := listI_range D 0 R n x hx; omega, by rw [listI_length]; omega⟩
    · split
      · unfold fixS
        split
        · exact ⟨fun x h => (by cases h), by simp⟩
        · have h1 := tailS_range n (kd - 8).toNat (fixL (min (kd - 8).toNat 4)) 0 (listI D 0 R (kd - 8).toNat).1 (listI D 0 R (kd - 8).toNat).2.1 (R.drop (listI D 0 R (kd - 8).toNat).2.2)
          refine ⟨small h1.1, ?_⟩
          have h2 := h1.2
          rw [listI_length] at h2
          exact Nat.le_trans h2 (by omega)
      · unfold seaS
        split
        · exact ⟨fun x h => (by cases h), by simp⟩
        · unfold seaI
          have h1 := tailS_range n (kd - 31).toNat (md4 (kd - 31).toNat (listI D 0 R (kd - 31).toNat).2.1 (R.drop (listI D 0 R (kd - 31).toNat).2.2)).1 (md2 (listI D 0 R (kd - 31).toNat).2.1 (R.drop (listI D 0 R (kd - 31).toNat).2.2)).1 (listI D 0 R (kd - 31).toNat).1 (md4 (kd - 31).toNat (listI D 0 R (kd - 31).toNat).2.1 (R.drop (listI D 0 R (kd - 31).toNat).2.2)).2.1
            (R.drop ((listI D 0 R (kd - 31).toNat).2.2 + ((md2 (listI D 0 R (kd - 31).toNat).2.1 (R.drop (listI D 0 R (kd - 31).toNat).2.2)).2.2 + (md4 (kd - 31).toNat (listI D 0 R (kd - 31).toNat).2.1 (R.drop (listI D 0 R (kd - 31).toNat).2.2)).2.2)))
          refine ⟨small h1.1, ?_⟩
          have h2 := h1.2
          rw [listI_length] at h2
          exact Nat.le_trans h2 (by omega)
end Go.Proofs.YtofkiimaoahfjaaDoor
