/-
  Layer 9 (subframe): what reads: get, must, isKind.
  Layer 9 (subframe): list, head.
  Layer 9 (subframe): head.
-/
import Derived.Test.YtofkiimaoahfjaaDoorZSub8
import Derived.Test.YtofkiimaoahfjaaDoorZRice19
set_option maxRecDepth 100000
set_option linter.unusedVariables false
set_option linter.unusedSimpArgs false
namespace Go.Proofs.YtofkiimaoahfjaaDoor
open Go.RowKit Go.Proofs.YtofkiimaoahfjaaDoor.Pure

/-- An input: its Reader and its error. -/
structure IsI (w : World) (g q : Nat) (sv : Value) (bs : List Int) (t : Nat) (E : Int) : Prop where
  inp : Cell2 w g 83 (.pointer (some ⟨q, 0, none⟩)) (.int .i64 E)
  rd : IsR w q sv bs t
  ne : g ≠ q
  far : ∀ b, b ∈ fp sv → b ≠ g
namespace IsI
variable {w w' : World} {g q : Nat} {sv : Value} {bs : List Int} {t t' : Nat} {E E' : Int}
theorem keeps {F : List Nat} (h : IsI w g q sv bs t E) (hk : Keeps F w w') (hg : g ∉ F) (hq : q ∉ F) (hs : ∀ b, b ∈ fp sv → b ∉ F) : IsI w' g q sv bs t E := ⟨h.inp.keeps hk hg, h.rd.keeps hk hq hs, h.ne, h.far⟩
theorem new (h : IsI w g q sv bs t E) (hk : Keeps [] w w') : IsI w' g q sv bs t E := h.keeps hk (by simp) (by simp) (fun _ _ => by simp)
theorem read (h : IsI w g q sv bs t E) (hr : IsR w' q sv bs t') (hk : Keeps [q] w w') : IsI w' g q sv bs t' E := ⟨h.inp.keeps hk (fun hm => h.ne (List.mem_singleton.1 hm)), hr, h.ne, h.far⟩
theorem setE (h : IsI w g q sv bs t E) (E' : Int) : IsI (w.setCell ⟨g, 1, none⟩ (.int .i64 E')) g q sv bs t E' := by
  have hk : Keeps [g] w (w.setCell ⟨g, 1, none⟩ (.int .i64 E')) := (Keeps.refl _ w).setCell (.inl (by simp)) _
  exact ⟨⟨blk_set h.inp.hp 1 _⟩, h.rd.keeps hk (fun hm => h.ne (List.mem_singleton.1 hm).symm) (fun b hb hm => h.far b hb (List.mem_singleton.1 hm)), h.ne, h.far⟩
theorem c0 (h : IsI w g q sv bs t E) : w.cell? ⟨g, 0, none⟩ = some (.pointer (some ⟨q, 0, none⟩)) := h.inp.c0
theorem c1 (h : IsI w g q sv bs t E) : w.cell? ⟨g, 1, none⟩ = some (.int .i64 E) := h.inp.c1
theorem f1 (h : IsI w g q sv bs t E) : w.frozen? ⟨g, 1, none⟩ = false := frozen_of_row w g 1 _ _ h.inp.hp
end IsI
theorem keeps_gq {w w1 : World} {g q : Nat} (h1 : Keeps [q] w w1) (v : Value) : Keeps [g, q] w (w1.setCell ⟨g, 1, none⟩ v) :=
  (h1.mono (G := [g, q]) (fun k hk _ => by simp at hk; simp [hk])).setCell (.inl (by simp)) v

/-- get's number, error, and how many bits it took. -/
def iN (k E : Int) (R : List Bool) : Int := if E = 0 then gtN k R else 0
def iE (k E : Int) (R : List Bool) : Int := if E = 0 then gtE k R else E
def iT (k E : Int) (R : List Bool) : Nat := if E = 0 then gtT k R else 0
set_option maxHeartbeats 1000000 in
theorem iget_calls (g q : Nat) (sv : Value) (bs : List Int) (t : Nat) (E k : Int) (w : World) (hI : Hid (IsI w g q sv bs t E)) :
    Calls Tryd.prog 73 #[.pointer (some ⟨g, 0, none⟩), .int .i64 k] w fun e w' => e = .returned (.int .i64 (iN k E (restB bs t))) ∧ IsI w' g q sv bs (t + iT k E (restB bs t)) (iE k E (restB bs t)) ∧ Keeps [g, q] w w' := by
  have hc0 := hI.out.c0
  have hc1 := hI.out.c1
  by_cases h0 : E = 0
  · have HN : Hid (iN k E (restB bs t) = gtN k (restB bs t) ∧ iE k E (restB bs t) = gtE k (restB bs t) ∧ iT k E (restB bs t) = gtT k (restB bs t)) := by
      show _ ∧ _ ∧ _
      unfold iN iE iT
      rw [if_pos h0, if_pos h0, if_pos h0]
      exact ⟨rfl, rfl, rfl⟩
    rw [HN.out.1, HN.out.2.1, HN.out.2.2]
    subst h0
    have HG := Lib.hid (rGet_calls q sv bs t k w (Lib.hid hI.out.rd))
    obtain ⟨N, eN⟩ : ∃ N, gtN k (restB bs t) = N := ⟨_, rfl⟩
    obtain ⟨F, eF⟩ : ∃ F, gtE k (restB bs t) = F := ⟨_, rfl⟩
    obtain ⟨T, eT⟩ : ∃ T, gtT k (restB bs t) = T := ⟨_, rfl⟩
    rw [eN, eF, eT] at HG
    rw [eN, eF, eT]
    clear HN eN eF eT
    go_enter Tryd.func73, Tryd.ntmps73
    go_wp2_with (first
      | (go_at_call 105; go_must (with_reducible refine HG.out.mono ?_); rintro e w1 ⟨rfl, hr1, hk1⟩; have HI1 := Lib.hid (hI.out.read hr1 hk1); have HK1 := Lib.hid hk1; have d1 := HI1.out.c1; have f1 := HI1.out.f1; clear hr1 hk1))
    go_ret
    exact ⟨rfl, HI1.out.setE _, keeps_gq HK1.out _⟩
  · have hb : (E == 0) = false := beq_eq_false_iff_ne.2 h0
    have HN : Hid (iN k E (restB bs t) = 0 ∧ iE k E (restB bs t) = E ∧ iT k E (restB bs t) = 0) := by
      show _ ∧ _ ∧ _
      unfold iN iE iT
      rw [if_neg h0, if_neg h0, if_neg h0]
      exact ⟨rfl, rfl, rfl⟩
    rw [HN.out.1, HN.out.2.1, HN.out.2.2]
    clear HN h0
    go_enter Tryd.func73, Tryd.ntmps73
    go_wp2_with fail
    go_ret
    exact ⟨rfl, hI.out, Keeps.refl _ _⟩

/-- must's error. -/
def mE (E : Int) (ok : Bool) : Int := if E = 0 ∧ ok = false then 2 else E
set_option maxHeartbeats 1000000 in
theorem imust_calls (g q : Nat) (sv : Value) (bs : List Int) (t : Nat) (E : Int) (ok : Bool) (w : World) (hI : Hid (IsI w g q sv bs t E)) :
    Calls Tryd.prog 72 #[.pointer (some ⟨g, 0, none⟩), .bool ok] w fun e w' => e = .returned (.tuple #[]) ∧ IsI w' g q sv bs t (mE E ok) ∧ Keeps [g, q] w w' := by
  have hc0 := hI.out.c0
  have hc1 := hI.out.c1
  have hf1 := hI.out.f1
  by_cases h0 : E = 0
  · subst h0
    cases ok
    · have HM : Hid (mE 0 false = 2) := (show _ = _ from rfl)
      rw [HM.out]
      go_enter Tryd.func72, Tryd.ntmps72
      go_wp2_with fail
      go_end0
      exact ⟨rfl, hI.out.setE _, keeps_gq (Keeps.refl _ _) _⟩
    · have HM : Hid (mE 0 true = 0) := (show _ = _ from rfl)
      rw [HM.out]
      go_enter Tryd.func72, Tryd.ntmps72
      go_wp2_with fail
      go_end0
      exact ⟨rfl, hI.out, Keeps.refl _ _⟩
  · have hb : (E == 0) = false := beq_eq_false_iff_ne.2 h0
    have HM : Hid (mE E ok = E) := by show _ = _; unfold mE; rw [if_neg (fun h => h0 h.1)]
    rw [HM.out]
    clear HM h0
    go_enter Tryd.func72, Tryd.ntmps72
    go_wp2_with fail
    go_end0
    exact ⟨rfl, hI.out, Keeps.refl _ _⟩

/-- Is there such a kind? -/
def kindB (k : Int) : Bool := decide (k = 0 ∨ k = 1 ∨ (8 ≤ k ∧ k ≤ 12) ∨ (31 < k ∧ k ≤ 39))
theorem iskind_calls (k : Int) (w : World) :
    Calls Tryd.prog 74 #[.int .i64 k] w fun e w' => e = .returned (.bool (kindB k)) ∧ w = w' := by
  have hcases : (k = 0 ∧ kindB k = true) ∨ (k = 1 ∧ kindB k = true) ∨ ((8 ≤ k ∧ k ≤ 12) ∧ kindB k = true) ∨ ((31 < k ∧ k ≤ 39) ∧ kindB k = true) ∨ ((k < 0 ∨ (1 < k ∧ k < 8)) ∧ kindB k = false) ∨ ((12 < k ∧ k ≤ 31) ∧ kindB k = false) ∨ (39 < k ∧ kindB k = false) := by
    have ht : (k = 0 ∨ k = 1 ∨ (8 ≤ k ∧ k ≤ 12) ∨ (31 < k ∧ k ≤ 39)) → kindB k = true := fun h => decide_eq_true h
    have hf : ¬ (k = 0 ∨ k = 1 ∨ (8 ≤ k ∧ k ≤ 12) ∨ (31 < k ∧ k ≤ 39)) → kindB k = false := fun h => decide_eq_false h
    rcases (show k = 0 ∨ k = 1 ∨ (8 ≤ k ∧ k ≤ 12) ∨ (31 < k ∧ k ≤ 39) ∨ (k < 0 ∨ (1 < k ∧ k < 8)) ∨ (12 < k ∧ k ≤ 31) ∨ 39 < k by omega) with h | h | h | h | h | h | h
    · exact .inl ⟨h, ht (by omega)⟩
    · exact .inr (.inl ⟨h, ht (by omega)⟩)
    · exact .inr (.inr (.inl ⟨h, ht (by omega)⟩))
    · exact .inr (.inr (.inr (.inl ⟨h, ht (by omega)⟩)))
    · exact .inr (.inr (.inr (.inr (.inl ⟨h, hf (by omega)⟩))))
    · exact .inr (.inr (.inr (.inr (.inr (.inl ⟨h, hf (by omega)⟩)))))
    · exact .inr (.inr (.inr (.inr (.inr (.inr ⟨h, hf (by omega)⟩)))))
  rcases hcases with ⟨rfl, h⟩ | ⟨rfl, h⟩ | ⟨⟨h1, h2⟩, h⟩ | ⟨⟨h1, h2⟩, h⟩ | ⟨h1, h⟩ | ⟨⟨h1, h2⟩, h⟩ | ⟨h1, h⟩
  all_goals rw [h]
  all_goals clear h
  · go_enter Tryd.func74, Tryd.ntmps74
    go_wp2
    go_ret
    exact ⟨rfl, rfl⟩
  · go_enter Tryd.func74, Tryd.ntmps74
    go_wp2
    go_ret
    exact ⟨rfl, rfl⟩
  · have e0 : (k == 0) = false := beq_eq_false_iff_ne.2 (by omega)
    have e1 : (k == 1) = false := beq_eq_false_iff_ne.2 (by omega)
    go_enter Tryd.func74, Tryd.ntmps74
    go_wp2
    go_ret
    exact ⟨rfl, rfl⟩
  · have e0 : (k == 0) = false := beq_eq_false_iff_ne.2 (by omega)
    have e1 : (k == 1) = false := beq_eq_false_iff_ne.2 (by omega)
    have e2 : (8 : Int) ≤ k := by omega
    have e3 : decide (k ≤ 12) = false := decide_eq_false (by omega)
    go_enter Tryd.func74, Tryd.ntmps74
    go_wp2
    go_ret
    exact ⟨rfl, rfl⟩
  · have e0 : (k == 0) = false := beq_eq_false_iff_ne.2 (by omega)
    have e1 : (k == 1) = false := beq_eq_false_iff_ne.2 (by omega)
    have e2 : decide ((8 : Int) ≤ k) = false := decide_eq_false (by omega)
    have e3 : decide ((31 : Int) < k) = false := decide_eq_false (by omega)
    clear h1
    go_enter Tryd.func74, Tryd.ntmps74
    go_wp2
    go_ret
    exact ⟨rfl, rfl⟩
  · have e0 : (k == 0) = false := beq_eq_false_iff_ne.2 (by omega)
    have e1 : (k == 1) = false := beq_eq_false_iff_ne.2 (by omega)
    have e2 : (8 : Int) ≤ k := by omega
    have e3 : decide (k ≤ 12) = false := decide_eq_false (by omega)
    have e4 : decide ((31 : Int) < k) = false := decide_eq_false (by omega)
    go_enter Tryd.func74, Tryd.ntmps74
    go_wp2
    go_ret
    exact ⟨rfl, rfl⟩
  · have e0 : (k == 0) = false := beq_eq_false_iff_ne.2 (by omega)
    have e1 : (k == 1) = false := beq_eq_false_iff_ne.2 (by omega)
    have e2 : (8 : Int) ≤ k := by omega
    have e3 : decide (k ≤ 12) = false := decide_eq_false (by omega)
    have e4 : (31 : Int) < k := by omega
    have e5 : decide (k ≤ 39) = false := decide_eq_false (by omega)
    go_enter Tryd.func74, Tryd.ntmps74
    go_wp2
    go_ret
    exact ⟨rfl, rfl⟩
end Go.Proofs.YtofkiimaoahfjaaDoor

set_option maxRecDepth 100000
set_option linter.unusedVariables false
set_option linter.unusedSimpArgs false
namespace Go.Proofs.YtofkiimaoahfjaaDoor
open Go.RowKit Go.Proofs.YtofkiimaoahfjaaDoor.Pure

/-- list's numbers, error, and how many bits it took. -/
def listI (width E : Int) (R : List Bool) : Nat → List Int × Int × Nat
  | 0 => ([], E, 0)
  | i + 1 =>
    if (listI width E R i).2.1 = 0 then ((listI width E R i).1 ++ [gsN width (R.drop (listI width E R i).2.2)], gtE width (R.drop (listI width E R i).2.2), (listI width E R i).2.2 + gtT width (R.drop (listI width E R i).2.2))
    else ((listI width E R i).1 ++ [0], (listI width E R i).2.1, (listI width E R i).2.2)
theorem listI_length (width E : Int) (R : List Bool) (i : Nat) : (listI width E R i).1.length = i := by
  induction i with
  | zero => rfl
  | succ i ih =>
    unfold listI
    split
    · simp [ih]
    · simp [ih]
set_option maxHeartbeats 4000000 in
theorem ilist_calls (g q : Nat) (sv : Value) (bs : List Int) (t : Nat) (E width : Int) (c : Nat) (w : World) (hI : Hid (IsI w g q sv bs t E)) (hc : c ≤ 1000000) :
    Calls Tryd.prog 77 #[.pointer (some ⟨g, 0, none⟩), .int .i64 c, .int .i64 width] w fun e w' => ∃ v, e = .returned v ∧ Row w' .i64 3 v (listI width E (restB bs t) c).1 ∧ (∀ b, b ∈ fp v → w.heap.size ≤ b) ∧
      IsI w' g q sv bs (t + (listI width E (restB bs t) c).2.2) (listI width E (restB bs t) c).2.1 ∧ Keeps [g, q] w w' := by
  have hg : g < w.heap.size := (Array.getElem?_eq_some_iff.1 hI.out.inp.hp).1
  have hq : q < w.heap.size := hI.out.rd.duo.lt
  have hsl := hI.out.rd.row.lt
  have HG := Lib.hid hg
  have HQ0 := Lib.hid hq
  have HSL := Lib.hid hsl
  obtain ⟨R, hR⟩ : ∃ R, restB bs t = R := ⟨_, rfl⟩
  have HRE := Lib.hid hR
  rw [hR]
  clear hR hg hq hsl
  go_enter Tryd.func77, Tryd.ntmps77
  go_wp2_with fail
  go_loopg [7, 10] (c + 1) (fun p v7 v10 wr => ∃ (i : Nat), v10 = .int .i64 i ∧ i ≤ c ∧ Hid (Row wr .i64 3 v7 (listI width E R i).1) ∧ Hid (∀ b, b ∈ fp v7 → w.heap.size ≤ b) ∧ Hid (IsI wr g q sv bs (t + (listI width E R i).2.2) (listI width E R i).2.1) ∧ Hid (Keeps [g, q] w wr) ∧ Hid (i + p = c + 1))
  case atStart => exact ⟨0, rfl, by omega, Row.nil _ _ _, (fun b h => by cases h), hI.out, Keeps.refl _ _, (show _ = _ from by omega)⟩
  case round =>
    obtain ⟨i, rfl, hi, HROW, HF, HI, HK, HQ⟩ := hrel
    obtain ⟨v, rfl⟩ : ∃ y : Value, y = u7 := ⟨_, rfl⟩
    obtain ⟨q1, rfl⟩ : ∃ g : Nat, g = gk := ⟨_, rfl⟩
    obtain ⟨wa, rfl⟩ : ∃ y : World, y = wr := ⟨_, rfl⟩
    by_cases hlt : i < c
    · have HLN : Hid (listI width E R (i + 1) = if (listI width E R i).2.1 = 0 then ((listI width E R i).1 ++ [gsN width (R.drop (listI width E R i).2.2)], gtE width (R.drop (listI width E R i).2.2), (listI width E R i).2.2 + gtT width (R.drop (listI width E R i).2.2)) else ((listI width E R i).1 ++ [0], (listI width E R i).2.1, (listI width E R i).2.2)) := (show _ = _ from rfl)
      have hll := listI_length width E R i
      obtain ⟨X, hX⟩ : ∃ X, listI width E R i = X := ⟨_, rfl⟩
      obtain ⟨l, F, d⟩ := X
      rw [hX] at HLN HROW HI hll
      replace hll : l.length = i := hll
      have HBD : Hid ((l.length + 1) * 8 ≤ 140737488355328) := by show _ ≤ _; omega
      have HROW' : Hid (Row wa .i64 3 v l) := HROW.out
      have HI' : Hid (IsI wa g q sv bs (t + d) F) := HI.out
      have hc0 := HI'.out.c0
      have hc1 := HI'.out.c1
      clear hX HROW HI hll
      by_cases h0 : F = 0
      · subst h0
        have HGS := Lib.hid (rGetSigned_calls q sv bs (t + d) width wa (Lib.hid HI'.out.rd))
        rw [restB_add, HRE.out] at HGS
        obtain ⟨N, eN⟩ : ∃ N, gsN width (R.drop d) = N := ⟨_, rfl⟩
        obtain ⟨F2, eF⟩ : ∃ F, gtE width (R.drop d) = F := ⟨_, rfl⟩
        obtain ⟨T, eT⟩ : ∃ T, gtT width (R.drop d) = T := ⟨_, rfl⟩
        have HLN2 : Hid (listI width E R (i + 1) = (l ++ [N], F2, d + T)) := by
          show _ = _
          rw [HLN.out, ← eN, ← eF, ← eT]
          exact if_pos rfl
        rw [eN, eF, eT] at HGS
        clear HLN eN eF eT
        go_upto_region 7 with (first
          | (go_at_call 108; go_must (with_reducible refine HGS.out.mono ?_); rintro e w1 ⟨rfl, hr1, hk1⟩; have HI1 := Lib.hid (HI'.out.read hr1 hk1); have HI2 := Lib.hid (HI1.out.setE F2); have HK1 := Lib.hid (keeps_gq (g := g) hk1 (.int .i64 F2)); have d1 := HI1.out.c1; have f1 := HI1.out.f1;
              have HR2 : Hid (Row (w1.setCell ⟨g, 1, none⟩ (.int .i64 F2)) .i64 3 v l) := HROW'.out.keeps HK1.out (fun b hb hm => by have h1 := HF.out b hb; have h2 := HG.out; have h3 := HQ0.out; simp at hm; omega); clear hr1 hk1))
        clear d1 f1 HI1
        generalize w1.setCell ⟨g, 1, none⟩ (.int .i64 F2) = w2 at *
        go_wp2_with (first
          | (at_builtin; refine wp_app1 (W := w2) rfl (.tmp 29) (.tmp 31) 22 3 .i64 8 rfl Tryd.underlying22 info_i64 (by decide) v l N rfl rfl HR2.out HBD.out ?_; intro v5 w5 hr5 hk5 hf5))
        go_roundg (c - i)
        case measure => have := HQ.out; omega
        case rel =>
          have hkA := HK.out.then_ HK1.out (fun b hb _ => hb)
          refine ⟨i + 1, by go_num, by omega, ?_, ?_, ?_, ?_, (show _ = _ from by have := HQ.out; omega)⟩
          · show Row _ _ _ _ _
            rw [HLN2.out]
            exact hr5
          · intro b hb
            rcases hf5 b hb with h | h
            · exact HF.out b h
            · exact Nat.le_trans hkA.size h
          · show IsI _ _ _ _ _ _ _
            rw [HLN2.out]
            show IsI _ _ _ _ _ (t + (d + T)) F2
            rw [← Nat.add_assoc]
            exact HI2.out.keeps hk5 (fun h => by have h1 := HF.out _ h; have := HG.out; omega) (fun h => by have h1 := HF.out _ h; have := HQ0.out; omega) (fun b hb h => by have h1 := HF.out _ h; have := HSL.out b hb; omega)
          · exact hkA.then_ hk5 (fun b hb hl => by have := HF.out b hb; omega)
      · have hb : (F == 0) = false := beq_eq_false_iff_ne.2 h0
        have HLN2 : Hid (listI width E R (i + 1) = (l ++ [0], F, d)) := by
          show _ = _
          rw [HLN.out]
          exact if_neg h0
        clear HLN h0
        go_wp2_with (first
          | (at_builtin; refine wp_app1 (W := wa) rfl (.tmp 29) (.tmp 31) 22 3 .i64 8 rfl Tryd.underlying22 info_i64 (by decide) v l 0 rfl rfl HROW'.out HBD.out ?_; intro v5 w5 hr5 hk5 hf5))
        go_roundg (c - i)
        case measure => have := HQ.out; omega
        case rel =>
          refine ⟨i + 1, by go_num, by omega, ?_, ?_, ?_, ?_, (show _ = _ from by have := HQ.out; omega)⟩
          · show Row _ _ _ _ _
            rw [HLN2.out]
            exact hr5
          · intro b hb
            rcases hf5 b hb with h | h
            · exact HF.out b h
            · exact Nat.le_trans HK.out.size h
          · show IsI _ _ _ _ _ _ _
            rw [HLN2.out]
            exact HI'.out.keeps hk5 (fun h => by have h1 := HF.out _ h; have := HG.out; omega) (fun h => by have h1 := HF.out _ h; have := HQ0.out; omega) (fun b hb h => by have h1 := HF.out _ h; have := HSL.out b hb; omega)
          · exact HK.out.then_ hk5 (fun b hb hl => by have := HF.out b hb; omega)
    · obtain rfl : i = c := by omega
      go_wp2_with fail
      go_ret
      exact ⟨_, rfl, HROW.out, HF.out, HI.out, HK.out⟩
end Go.Proofs.YtofkiimaoahfjaaDoor

set_option maxRecDepth 100000
set_option linter.unusedVariables false
set_option linter.unusedSimpArgs false
namespace Go.Proofs.YtofkiimaoahfjaaDoor
open Go.RowKit Go.Proofs.YtofkiimaoahfjaaDoor.Pure

/-- The head, step by step: the first bit; the kind; the flag; the bits that are wasted. -/
def hd1 (R : List Bool) : Int × Nat := (mE (iE 1 0 R) (iN 1 0 R == 0), iT 1 0 R)
def hd2 (R : List Bool) : Int × Int × Nat := (iN 6 (hd1 R).1 (R.drop (hd1 R).2), mE (iE 6 (hd1 R).1 (R.drop (hd1 R).2)) (kindB (iN 6 (hd1 R).1 (R.drop (hd1 R).2))), (hd1 R).2 + iT 6 (hd1 R).1 (R.drop (hd1 R).2))
def hd3 (R : List Bool) : Int × Int × Nat := (iN 1 (hd2 R).2.1 (R.drop (hd2 R).2.2), iE 1 (hd2 R).2.1 (R.drop (hd2 R).2.2), (hd2 R).2.2 + iT 1 (hd2 R).2.1 (R.drop (hd2 R).2.2))
def hd4 (R : List Bool) : Int × Int × Nat := if (hd3 R).1 = 1 ∧ (hd3 R).2.1 = 0 then (unRN (R.drop (hd3 R).2.2) + 1, unRE (R.drop (hd3 R).2.2), (hd3 R).2.2 + unRT (R.drop (hd3 R).2.2)) else (0, (hd3 R).2.1, (hd3 R).2.2)
def headE (depth : Int) (R : List Bool) : Int := mE (hd4 R).2.1 (decide ((hd4 R).1 < depth))
theorem unRN_range (R : List Bool) : 0 ≤ unRN R ∧ unRN R ≤ R.length := by
  unfold unRN
  cases h : cnt R with
  | none => simp
  | some n => have := cnt_lt R n h; simp; omega

set_option maxHeartbeats 4000000 in
theorem ihead_calls (g q : Nat) (sv : Value) (bs : List Int) (t : Nat) (depth : Int) (w : World) (hI : Hid (IsI w g q sv bs t 0)) :
    Calls Tryd.prog 43 #[.pointer (some ⟨g, 0, none⟩), .int .i64 depth] w fun e w' => e = .returned (.tuple #[.int .i64 (hd2 (restB bs t)).1, .int .i64 (hd4 (restB bs t)).1]) ∧
      IsI w' g q sv bs (t + (hd4 (restB bs t)).2.2) (headE depth (restB bs t)) ∧ Keeps [g, q] w w' := by
  have hsm := hI.out.rd.small
  have hrl := restB_length bs t
  obtain ⟨R, hR⟩ : ∃ R, restB bs t = R := ⟨_, rfl⟩
  rw [hR] at hrl
  have hdr : ∀ d, restB bs (t + d) = R.drop d := fun d => by rw [restB_add, hR]
  have HG1 := Lib.hid (fun W (h : IsI W g q sv bs t 0) => iget_calls g q sv bs t 0 1 W (Lib.hid h))
  rw [hR] at HG1
  have HM1 : Hid (∀ W, IsI W g q sv bs (t + iT 1 0 R) (iE 1 0 R) → Calls Tryd.prog 72 #[.pointer (some ⟨g, 0, none⟩), .bool (iN 1 0 R == 0)] W fun e w' => e = .returned (.tuple #[]) ∧ IsI w' g q sv bs (t + (hd1 R).2) (hd1 R).1 ∧ Keeps [g, q] W w') :=
    fun W h => imust_calls g q sv bs _ _ _ W (Lib.hid h)
  have HG2 : Hid (∀ W, IsI W g q sv bs (t + (hd1 R).2) (hd1 R).1 → Calls Tryd.prog 73 #[.pointer (some ⟨g, 0, none⟩), .int .i64 6] W fun e w' => e = .returned (.int .i64 (hd2 R).1) ∧ IsI w' g q sv bs (t + (hd2 R).2.2) (iE 6 (hd1 R).1 (R.drop (hd1 R).2)) ∧ Keeps [g, q] W w') := by
    intro W h
    have := iget_calls g q sv bs _ _ 6 W (Lib.hid h)
    rw [hdr, Nat.add_assoc] at this
    exact this
  have HM2 : Hid (∀ W, IsI W g q sv bs (t + (hd2 R).2.2) (iE 6 (hd1 R).1 (R.drop (hd1 R).2)) → Calls Tryd.prog 72 #[.pointer (some ⟨g, 0, none⟩), .bool (kindB (hd2 R).1)] W fun e w' => e = .returned (.tuple #[]) ∧ IsI w' g q sv bs (t + (hd2 R).2.2) (hd2 R).2.1 ∧ Keeps [g, q] W w') :=
    fun W h => imust_calls g q sv bs _ _ _ W (Lib.hid h)
  have HG3 : Hid (∀ W, IsI W g q sv bs (t + (hd2 R).2.2) (hd2 R).2.1 → Calls Tryd.prog 73 #[.pointer (some ⟨g, 0, none⟩), .int .i64 1] W fun e w' => e = .returned (.int .i64 (hd3 R).1) ∧ IsI w' g q sv bs (t + (hd3 R).2.2) (hd3 R).2.1 ∧ Keeps [g, q] W w') := by
    intro W h
    have := iget_calls g q sv bs _ _ 1 W (Lib.hid h)
    rw [hdr, Nat.add_assoc] at this
    exact this
  have HU : Hid (∀ W, IsI W g q sv bs (t + (hd3 R).2.2) (hd3 R).2.1 → Calls Tryd.prog 75 #[.pointer (some ⟨q, 0, none⟩)] W fun e w' => e = .returned (.tuple #[.int .i64 (unRN (R.drop (hd3 R).2.2)), .int .i64 (unRE (R.drop (hd3 R).2.2))]) ∧ IsI w' g q sv bs (t + ((hd3 R).2.2 + unRT (R.drop (hd3 R).2.2))) (hd3 R).2.1 ∧ Keeps [q] W w') := by
    intro W h
    have := rUnary_calls q sv bs _ W (Lib.hid h.rd)
    rw [hdr, Nat.add_assoc] at this
    exact this.mono (fun e w' ⟨h1, h2, h3⟩ => ⟨h1, h.read h2 h3, h3⟩)
  have HM3 : Hid (∀ W E T k, IsI W g q sv bs T E → Calls Tryd.prog 72 #[.pointer (some ⟨g, 0, none⟩), .bool (decide (k < depth))] W fun e w' => e = .returned (.tuple #[]) ∧ IsI w' g q sv bs T (mE E (decide (k < depth))) ∧ Keeps [g, q] W w') :=
    fun W E T k h => imust_calls g q sv bs T E _ W (Lib.hid h)
  have hur := unRN_range (R.drop (hd3 R).2.2)
  rw [List.length_drop] at hur
  have H4 : Hid (hd4 R = if (hd3 R).1 = 1 ∧ (hd3 R).2.1 = 0 then (unRN (R.drop (hd3 R).2.2) + 1, unRE (R.drop (hd3 R).2.2), (hd3 R).2.2 + unRT (R.drop (hd3 R).2.2)) else (0, (hd3 R).2.1, (hd3 R).2.2)) := (show _ = _ from rfl)
  rw [hR]
  unfold headE
  obtain ⟨U, eU⟩ : ∃ U, unRN (R.drop (hd3 R).2.2) = U := ⟨_, rfl⟩
  obtain ⟨UE, eUE⟩ : ∃ U, unRE (R.drop (hd3 R).2.2) = U := ⟨_, rfl⟩
  obtain ⟨UT, eUT⟩ : ∃ U, unRT (R.drop (hd3 R).2.2) = U := ⟨_, rfl⟩
  rw [eU, eUE, eUT] at HU H4
  rw [eU] at hur
  obtain ⟨z, ez⟩ : ∃ z, iN 1 0 R = z := ⟨_, rfl⟩
  obtain ⟨z1, ez1⟩ : ∃ z, iT 1 0 R = z := ⟨_, rfl⟩
  obtain ⟨z2, ez2⟩ : ∃ z, iE 1 0 R = z := ⟨_, rfl⟩
  obtain ⟨y2, ey2⟩ : ∃ z, iE 6 (hd1 R).1 (R.drop (hd1 R).2) = z := ⟨_, rfl⟩
  rw [ez, ez1, ez2] at HG1 HM1
  rw [ey2] at HG2 HM2
  obtain ⟨⟨A1, A2⟩, eA⟩ : ∃ z, hd1 R = z := ⟨_, rfl⟩
  obtain ⟨⟨B1, B2, B3⟩, eB⟩ : ∃ z, hd2 R = z := ⟨_, rfl⟩
  obtain ⟨⟨C1, C2, C3⟩, eC⟩ : ∃ z, hd3 R = z := ⟨_, rfl⟩
  rw [eA] at HM1 HG2
  rw [eB] at HG2 HM2 HG3
  rw [eC] at HG3 HU H4
  rw [eB]
  obtain ⟨kb, ekb⟩ : ∃ b, kindB B1 = b := ⟨_, rfl⟩
  have HKB : Hid (∀ W, Calls Tryd.prog 74 #[.int .i64 B1] W fun e w' => e = .returned (.bool kb) ∧ W = w') := fun W => by rw [← ekb]; exact iskind_calls B1 W
  replace HM2 : Hid (∀ W, IsI W g q sv bs (t + B3) y2 → Calls Tryd.prog 72 #[.pointer (some ⟨g, 0, none⟩), .bool kb] W fun e w' => e = .returned (.tuple #[]) ∧ IsI w' g q sv bs (t + B3) B2 ∧ Keeps [g, q] W w') := by rw [← ekb]; exact HM2.out
  have hU0 : 0 ≤ U ∧ U ≤ 8000000000000 := by omega
  obtain ⟨hU1, hU2⟩ := hU0
  clear hur hrl hsm hdr hR eU eUE eUT ez ez1 ez2 ey2 eA eB eC ekb
  go_enter Tryd.func43, Tryd.ntmps43
  go_upto_region 5 with (first
    | (go_at_call 73; have hh := HI1; with_reducible refine (HG2.out _ HI2.out).mono ?_; rintro e w4 ⟨rfl, h, hk⟩; have HI3 := Lib.hid h; have HK3 := Lib.hid (HK2.out.then_ hk (fun b hb _ => hb)); clear h hk hh)
    | (go_at_call 73; with_reducible refine (HG1.out _ hI.out).mono ?_; rintro e w2 ⟨rfl, h, hk⟩; have HI1 := Lib.hid h; have HK1 := Lib.hid hk; clear h hk)
    | (go_at_call 72; have hh := HI3; with_reducible refine (HM2.out _ HI3.out).mono ?_; rintro e w5 ⟨rfl, h, hk⟩; have HI4 := Lib.hid h; have HK4 := Lib.hid (HK3.out.then_ hk (fun b hb _ => hb)); clear h hk hh)
    | (go_at_call 72; with_reducible refine (HM1.out _ HI1.out).mono ?_; rintro e w3 ⟨rfl, h, hk⟩; have HI2 := Lib.hid h; have HK2 := Lib.hid (HK1.out.then_ hk (fun b hb _ => hb)); clear h hk)
    | (go_at_call 74; with_reducible refine (HKB.out _).mono ?_; rintro e wk ⟨rfl, rfl⟩))
  have HK5' := HK4
  clear HG1 HM1 HG2 HM2 HKB HK1 HK2 HK3 HI1 HI2 HI3
  by_cases hc1 : C1 = 1
  · subst hc1
    by_cases hc2 : C2 = 0
    · subst hc2
      have H42 : Hid (hd4 R = (U + 1, UE, C3 + UT)) := by show _ = _; rw [H4.out]; exact if_pos ⟨rfl, rfl⟩
      go_upto_region 7 with (first
        | (go_at_call 73; with_reducible refine (HG3.out _ HI4.out).mono ?_; rintro e w6 ⟨rfl, h, hk⟩; have HI5 := Lib.hid h; have HK5 := Lib.hid (HK4.out.then_ hk (fun b hb _ => hb)); have d0 := HI5.out.c0; have d1 := HI5.out.c1; clear h hk)
        | (go_at_call 75; go_must (with_reducible refine (HU.out _ HI5.out).mono ?_); rintro e w7 ⟨rfl, h, hk⟩; have HI6 := Lib.hid h; have e1 := HI6.out.c1; have f1 := HI6.out.f1; have HI7 := Lib.hid (HI6.out.setE UE); have HK7 := Lib.hid (HK5.out.then_ (keeps_gq (g := g) hk (.int .i64 UE)) (fun b hb _ => hb)); clear h hk))
      clear e1 f1 HI6 d0 d1
      generalize w7.setCell ⟨g, 1, none⟩ (.int .i64 UE) = w8 at *
      go_wp2_with (first
        | (go_at_call 72; go_must (with_reducible refine (HM3.out _ _ _ (U + 1) HI7.out).mono ?_); rintro e w9 ⟨rfl, h, hk⟩; have HI8 := Lib.hid h; have HK8 := Lib.hid (HK7.out.then_ hk (fun b hb _ => hb)); clear h hk))
      go_ret2
      rw [H42.out]
      exact ⟨rfl, HI8.out, HK8.out⟩
    · have hb : (C2 == 0) = false := beq_eq_false_iff_ne.2 hc2
      have H42 : Hid (hd4 R = (0, C2, C3)) := by show _ = _; rw [H4.out]; exact if_neg (fun h => hc2 h.2)
      clear H4 HU
      go_wp2_with (first
        | (go_at_call 73; with_reducible refine (HG3.out _ HI4.out).mono ?_; rintro e w6 ⟨rfl, h, hk⟩; have HI5 := Lib.hid h; have HK5 := Lib.hid (HK4.out.then_ hk (fun b hb _ => hb)); have d0 := HI5.out.c0; have d1 := HI5.out.c1; clear h hk)
        | (go_at_call 72; go_must (with_reducible refine (HM3.out _ _ _ 0 HI5.out).mono ?_); rintro e w9 ⟨rfl, h, hk⟩; have HI8 := Lib.hid h; have HK8 := Lib.hid (HK5.out.then_ hk (fun b hb _ => hb)); clear h hk))
      go_ret2
      rw [H42.out]
      exact ⟨rfl, HI8.out, HK8.out⟩
  · have hb : (C1 == 1) = false := beq_eq_false_iff_ne.2 hc1
    have H42 : Hid (hd4 R = (0, C2, C3)) := by show _ = _; rw [H4.out]; exact if_neg (fun h => hc1 h.1)
    clear H4 HU
    go_wp2_with (first
      | (go_at_call 73; with_reducible refine (HG3.out _ HI4.out).mono ?_; rintro e w6 ⟨rfl, h, hk⟩; have HI5 := Lib.hid h; have HK5 := Lib.hid (HK4.out.then_ hk (fun b hb _ => hb)); have d0 := HI5.out.c0; have d1 := HI5.out.c1; clear h hk)
      | (go_at_call 72; go_must (with_reducible refine (HM3.out _ _ _ 0 HI5.out).mono ?_); rintro e w9 ⟨rfl, h, hk⟩; have HI8 := Lib.hid h; have HK8 := Lib.hid (HK5.out.then_ hk (fun b hb _ => hb)); clear h hk))
    go_ret2
    rw [H42.out]
    exact ⟨rfl, HI8.out, HK8.out⟩
end Go.Proofs.YtofkiimaoahfjaaDoor
