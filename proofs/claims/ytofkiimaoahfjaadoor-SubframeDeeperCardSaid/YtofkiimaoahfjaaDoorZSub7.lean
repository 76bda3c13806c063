/-
  Layer 9 (subframe): the plan that choose makes.
-/
import Derived.Test.YtofkiimaoahfjaaDoorZSub6
import Derived.Deep.AppendLies
import Derived.Deep.RegionHeld3
import Derived.Deep.RegionLaw
set_option maxRecDepth 100000
set_option linter.unusedVariables false
set_option linter.unusedSimpArgs false
namespace Go.Proofs.YtofkiimaoahfjaaDoor
open Go.RowKit

/-- The two blocks that stand while the samples are moved down. -/
structure Ch1 (w0 w : World) (g4 g6 : Nat) (k D : Int) (v : Value) (l : List Int) : Prop where
  hk : Keeps [] w0 w
  l0 : w0.heap.size ≤ g4
  l1 : g4 < g6
  p4 : PB w g4 0 0 0 (.slice none 0 0) (.slice none 0 0) 0 (.slice none 0 0) 0
  p6 : PB w g6 0 k D v (.slice none 0 0) 0 (.slice none 0 0) 0
  row : Row w .i64 3 v l
  far : ∀ j, j ∈ fp v → w0.heap.size ≤ j ∧ j ≠ g4 ∧ j ≠ g6
theorem Ch1.step {w0 w w1 : World} {g4 g6 : Nat} {k D : Int} {v v1 : Value} {l l1 : List Int} (h : Ch1 w0 w g4 g6 k D v l) (hr : Row w1 .i64 3 v1 l1) (hk : Keeps (fp v) w w1) (hf : ∀ j, j ∈ fp v1 → j ∈ fp v ∨ w.heap.size ≤ j) :
    Ch1 w0 (w1.setCell ⟨g6, 3, none⟩ v1) g4 g6 k D v1 l1 := by
  have hl := h.l0
  have hl1 := h.l1
  have h4 := h.p4.lt
  have h6 := h.p6.lt
  have hfar : ∀ j, j ∈ fp v1 → w0.heap.size ≤ j ∧ j ≠ g4 ∧ j ≠ g6 := by
    intro j hj
    rcases hf j hj with h1 | h1
    · exact h.far j h1
    · have := h.hk.size
      omega
  have n4 : g4 ∉ fp v := fun hj => (h.far _ hj).2.1 rfl
  have n6 : g6 ∉ fp v := fun hj => (h.far _ hj).2.2 rfl
  have hn : Keeps [g6] w1 (w1.setCell ⟨g6, 3, none⟩ v1) := (Keeps.refl _ w1).setCell (.inl (by simp)) _
  refine ⟨(h.hk.then_ hk (fun j hj hlt => ?_)).then_ hn (fun j hj hlt => ?_), hl, hl1, (h.p4.keeps hk n4).keeps hn (by simp; omega), ⟨((h.p6.keeps hk n6).set3 v1).hp⟩, hr.keeps hn (fun j hj hm => (hfar j hj).2.2 (List.mem_singleton.1 hm)), hfar⟩
  · have := (h.far j hj).1
    omega
  · rw [List.mem_singleton] at hj
    omega

theorem Ch1.mid {w0 w w1 : World} {g4 g6 : Nat} {k D : Int} {v : Value} {l : List Int} (h : Ch1 w0 w g4 g6 k D v l) (hk : Keeps (fp v) w w1) : w1.cell? ⟨g6, 3, none⟩ = some v ∧ w1.frozen? ⟨g6, 3, none⟩ = false := by
  have n6 : g6 ∉ fp v := fun hj => (h.far _ hj).2.2 rfl
  exact ⟨(h.p6.keeps hk n6).c3, (h.p6.keeps hk n6).frozen 3⟩
theorem Ch1.new {w0 w w' : World} {g4 g6 : Nat} {k D : Int} {v : Value} {l : List Int} (h : Ch1 w0 w g4 g6 k D v l) (hn : Keeps [] w w') : Ch1 w0 w' g4 g6 k D v l :=
  ⟨h.hk.new hn, h.l0, h.l1, h.p4.keeps hn (by simp), h.p6.keeps hn (by simp), h.row.keeps hn (fun _ _ => by simp), h.far⟩

theorem rd_of {w0 w : World} {g4 g6 g9 g12 : Nat} {k D xk xz : Int} {xs : List Int} {b : Pl} {sa : Option Addr} {sn sc : Nat} (h : ChW w0 w g4 g6 g9 g12 k D (.slice sa sn sc) xs xk xz b) : Rd w .i64 sa xs := by
  obtain ⟨a, c, e1, hx, -⟩ := h.row.rdd
  simp only [Value.slice.injEq] at e1
  obtain ⟨rfl, rfl, rfl⟩ := e1
  exact hx
theorem fixL_le (k : Nat) : (fixL k).length ≤ 4 := by unfold fixL; split <;> simp
/-- The orders that are searched. -/
def qc (i : Nat) : Nat := if i = 0 then 2 else if i = 1 then 4 else 8
theorem qfold {α : Type} (f : α → Nat → α) (b : α) (i : Nat) (h : i < 3) : (([2, 4, 8] : List Nat).take (i + 1)).foldl f b = f ((([2, 4, 8] : List Nat).take i).foldl f b) (qc i) := by
  match i, h with
  | 0, _ => rfl
  | 1, _ => rfl
  | 2, _ => rfl
theorem run_qc (j : Nat) (hj : j < 3) (W : World) : Sem.run Tryd.prog (Instr.index 97 (.agg #[.int .i64 2, .int .i64 4, .int .i64 8]) (.int .i64 (j : Nat))) W = .ok (.int .i64 (qc j : Nat)) W := by
  match j, hj with
  | 0, _ => rfl
  | 1, _ => rfl
  | 2, _ => rfl
theorem fold_ok (xs : List Int) (o : Nat) (l : List (Nat × Int)) : ∀ (S : List Int × Option Int), SrcOk xs o S → SrcOk xs o (l.foldl (srcT xs) S) := by
  induction l with
  | nil => intro S h; exact h
  | cons m l ih => intro S h; exact ih _ (h.step m)
/-- What Search answers. -/
theorem srcL_ok (xs : List Int) (o : Nat) (ho : o ≤ 8) : (srcL xs o = [] ∨ (srcL xs o).length = o) ∧ (∀ c ∈ srcL xs o, -2048 ≤ c ∧ c ≤ 2047) ∧ (srcS xs o = 4 ∨ srcS xs o = 0) := by
  unfold srcL srcS
  split
  · have h := fold_ok xs o (mvS o 4) _ (SrcOk.begin xs o ho)
    exact ⟨.inr h.len, h.small, .inl rfl⟩
  · exact ⟨.inl rfl, (fun c h => by cases h), .inr rfl⟩
theorem srcL_le (xs : List Int) (o : Nat) (ho : o ≤ 8) : (srcL xs o).length ≤ 1000000 := by
  rcases (srcL_ok xs o ho).1 with h | h
  · rw [h]; simp
  · omega
theorem qc_le (i : Nat) : 2 ≤ qc i ∧ qc i ≤ 8 := by unfold qc; split <;> (try split) <;> omega
theorem ChW.start {w0 wa : World} {g4 g6 : Nat} {k D : Int} {v : Value} {xs : List Int} (h : Ch1 w0 wa g4 g6 k D v xs) :
    ChW w0 ((wa.alloc (.cells #[.int .i64 0, .int .i64 0, .int .i64 0, .slice none 0 0, .slice none 0 0, .int .i64 0, .slice none 0 0, .int .i64 (-1)] 61)).alloc (.cells #[.int .i64 0, .int .i64 k, .int .i64 D, v, .slice none 0 0, .int .i64 0, .slice none 0 0, .int .i64 0] 61)) g4 g6 wa.heap.size (wa.heap.size + 1) k D v xs 0 0 ⟨0, [], 0, [], -1⟩ := by
  have hn : Keeps [] wa ((wa.alloc (.cells #[.int .i64 0, .int .i64 0, .int .i64 0, .slice none 0 0, .slice none 0 0, .int .i64 0, .slice none 0 0, .int .i64 (-1)] 61)).alloc (.cells #[.int .i64 0, .int .i64 k, .int .i64 D, v, .slice none 0 0, .int .i64 0, .slice none 0 0, .int .i64 0] 61)) := ((Keeps.refl _ _).alloc _).alloc _
  have h4 := h.p4.lt
  have h6 := h.p6.lt
  refine ⟨h.hk.new hn, h.l0, h.l1, h6, Nat.lt_succ_self _, h.p4.keeps hn (by simp), h.p6.keeps hn (by simp), ⟨?_⟩, h.row.keeps hn (fun _ _ => by simp), ?_, ⟨0, 0, .slice none 0 0, .slice none 0 0, .slice none 0 0, ⟨?_⟩, Row.nil _ _ _, Row.nil _ _ _, (fun j hj => by cases hj), (fun j hj => by cases hj), .inl (show (-1 : Int) < 0 by omega)⟩⟩
  · repeat (first | exact heap_alloc_at _ _ _ (by simp) | rw [Below.heap_alloc _ _ _ (by simp <;> omega)])
  · intro j hj
    have h1 := h.far j hj
    have h2 := h.row.lt j hj
    omega
  · repeat (first | exact heap_alloc_at _ _ _ (by simp) | rw [Below.heap_alloc _ _ _ (by simp <;> omega)])

set_option maxHeartbeats 4000000 in
theorem schoose_calls (S : List Int) (depth : Int) (n : Nat) (hn : n = S.length) (a : Option Addr) (c : Nat) (k : Nat) (D : Int) (xs : List Int) (w : World)
    (hk : wasS S = k) (hk2 : k ≤ 24) (hD : depth - k = D) (hD1 : 1 ≤ D ∧ D ≤ 25) (hxs : S.map (fun x => x / 2 ^ k) = xs) (hl : 1 ≤ S.length ∧ S.length ≤ 512) (hr : Hid (∀ x ∈ S, -9223372036854775808 ≤ x ∧ x ≤ 9223372036854775807)) (hx : Hid (Rd w .i64 a S)) (hT : Hid (Tab w)) :
    Calls Tryd.prog 29 #[.slice a n c, .int .i64 depth] w fun e w' =>
      ∃ sv cv rv, e = .returned (.agg #[.int .i64 (chooseP xs D).kd, .int .i64 k, .int .i64 D, sv, cv, .int .i64 (chooseP xs D).sh, rv, .int .i64 (chooseP xs D).sz]) ∧ Row w' .i64 3 sv xs ∧ Row w' .i64 3 cv (chooseP xs D).cs ∧ Row w' .i64 3 rv (chooseP xs D).L ∧
        (∀ j, j ∈ fp sv → w.heap.size ≤ j) ∧ (∀ j, j ∈ fp cv → w.heap.size ≤ j) ∧ (∀ j, j ∈ fp rv → w.heap.size ≤ j) ∧ Keeps [] w w' := by
  subst hn
  have hmf : ∀ (fn : Fn) (first cap : Array Value) (w : World), Sem.run Tryd.prog (Instr.makeFunc fn first cap) w = .ok (.func fn first cap) w := fun _ _ _ _ => rfl
  obtain ⟨P, hP⟩ : ∃ P : Int, (2 : Int) ^ k = P := ⟨_, rfl⟩
  have hmin : min k 64 = k := by omega
  have HXL : Hid (xs.length = S.length) := by show _ = _; rw [← hxs, List.length_map]
  have HXT : Hid (∀ i (h : i < S.length), xs.take (i + 1) = xs.take i ++ [S[i] / P]) := by
    intro i h
    rw [← hxs, ← List.map_take, ← List.map_take, List.take_succ_eq_append_getElem h, List.map_append, hP]
    rfl
  have HWAS := Lib.hid hk
  have HKW : Hid (∀ W, Keeps [] w W → Calls Tryd.prog 52 #[.slice a S.length c] W fun e w' => e = .returned (.int .i64 k) ∧ w' = W) := by
    intro W hW
    have := swasted_calls S _ rfl a c W (Lib.hid (hx.out.new hW)) (Lib.hid (hT.out.new hW))
    rw [hk] at this
    exact this
  have hD' : IntKind.i64.wrap (depth - k) = D := by rw [hD, IntWalk.i64_in _ (by omega)]
  have hl2 : S.length ≤ 512 := hl.2
  have hki : (0 : Int) ≤ (k : Int) := by omega
  have HD1 := Lib.hid hD1
  have HL1 : Hid (1 ≤ S.length) := hl.1
  have HKD := Lib.hid hk2
  clear hxs hk hD hD1 hl hk2
  go_enter Tryd.func29, Tryd.ntmps29
  go_wp2_with (first
    | (go_at_call 52; go_must (with_reducible refine (HKW.out _ ((Keeps.refl _ _).alloc _)).mono ?_); rintro e w2 ⟨rfl, rfl⟩))
  have HC1 : Hid (Ch1 w ((w.alloc (.cells #[.int .i64 0, .int .i64 0, .int .i64 0, .slice none 0 0, .slice none 0 0, .int .i64 0, .slice none 0 0, .int .i64 0] 61)).alloc (.cells #[.int .i64 0, .int .i64 k, .int .i64 D, .slice none 0 0, .slice none 0 0, .int .i64 0, .slice none 0 0, .int .i64 0] 61)) w.heap.size (w.heap.size + 1) k D (.slice none 0 0) (xs.take 0)) := by
    refine ⟨((Keeps.refl _ _).alloc _).alloc _, Nat.le_refl _, by omega, ⟨?_⟩, ⟨?_⟩, Row.nil _ _ _, fun j hj => by cases hj⟩
    all_goals
      repeat (first | exact heap_alloc_at _ _ _ (by simp) | rw [Below.heap_alloc _ _ _ (by simp <;> omega)])
  generalize (w.alloc (.cells #[.int .i64 0, .int .i64 0, .int .i64 0, .slice none 0 0, .slice none 0 0, .int .i64 0, .slice none 0 0, .int .i64 0] 61)).alloc (.cells #[.int .i64 0, .int .i64 k, .int .i64 D, .slice none 0 0, .slice none 0 0, .int .i64 0, .slice none 0 0, .int .i64 0] 61) = w1 at *
  go_loopg [29] (S.length + 1) (fun q v29 wr => ∃ (i : Nat) (v : Value), v29 = .int .i64 i ∧ i ≤ S.length ∧ Hid (Ch1 w wr w.heap.size (w.heap.size + 1) k D v (xs.take i)) ∧ Hid (i + q = S.length + 1))
  case atStart => exact ⟨0, _, rfl, by omega, HC1.out, (show _ = _ from by omega)⟩
  case round =>
    clear HC1
    obtain ⟨i, v, rfl, hi, HC, HQ⟩ := hrel
    obtain ⟨q1, rfl⟩ : ∃ g : Nat, g = gk := ⟨_, rfl⟩
    obtain ⟨wa, rfl⟩ : ∃ y : World, y = wr := ⟨_, rfl⟩
    by_cases hlt : i < S.length
    · obtain ⟨b1, o1, rfl, hc1⟩ := (hx.out.new HC.out.hk).cellAt i hlt
      obtain ⟨x, hx1⟩ : ∃ x, S[i] = x := ⟨_, rfl⟩
      have HSN := HXT.out i hlt
      rw [hx1] at hc1 HSN
      have HSN' := Lib.hid HSN
      obtain ⟨va, vc, rfl⟩ := HC.out.row.slice
      have hm1 := HC.out.p6.c3
      have hm2 := HC.out.p6.frozen 3
      clear HSN hx1
      have hBD : (xs.take i).length ≤ 512 := by rw [List.length_take]; omega
      obtain ⟨l, hlE⟩ : ∃ l, xs.take i = l := ⟨_, rfl⟩
      rw [hlE] at hBD
      have HCL := Lib.hid HC.out
      have HSN2 := Lib.hid HSN'.out
      rw [hlE] at HCL HSN2 hm1
      have HBD : Hid ((l.length + 1) * 8 ≤ 140737488355328) := by show _ ≤ _; omega
      clear hBD hlE HC HSN'
      go_upto_region 6 with fail
      obtain ⟨Y, hY⟩ : ∃ Y, x / P = Y := ⟨_, rfl⟩
      have HSN3 := Lib.hid HSN2.out
      rw [hY] at HSN3
      have HCD := Lib.hid (HCL.out.new (((Keeps.refl [] wa).alloc (.cells #[.int .i64 Y] 3)).drew))
      have hmA : (wa.alloc (.cells #[.int .i64 Y] 3)).cell? ⟨w.heap.size + 1, 3, none⟩ = _ := HCD.out.p6.c3
      have hmB := HCD.out.p6.frozen 3
      clear HSN2 HCL
      go_region_law (first
        | (refine step_app1 _ (by rfl) _ _ _ 3 .i64 8 (by rfl) Tryd.underlying22 info_i64 (by decide) (.slice va l.length vc) l Y (by rfl) HCD.out.row wa.heap.size (by rfl) ((Row.lit wa .i64 3 #[.int .i64 Y] [Y] rfl (by simp)).cell 0 (by simp)) HBD.out ?_; intro v5 w5 hr5 hk5 hf5; obtain ⟨a5, c5, rfl⟩ := hr5.slice; have HCE := Lib.hid (HCD.out.step hr5 hk5 hf5); rw [show (l ++ [Y]).length = l.length + 1 from by simp] at HCE; obtain ⟨m1, m2⟩ := HCD.out.mid hk5))
      all_goals
        go_wp2_with fail
        go_roundg (S.length - i)
        case measure => have := HQ.out; omega
        case rel =>
          refine ⟨i + 1, .slice a5 (l.length + 1) c5, by go_num, by omega, ?_, (show _ = _ from by have := HQ.out; omega)⟩
          show Ch1 _ _ _ _ _ _ _ _
          rw [HSN3.out]
          exact HCE.out
    · obtain rfl : i = S.length := by omega
      have HT0 : Hid (xs.take S.length = xs) := by show _ = _; rw [← HXL.out, List.take_length]
      have HC2 := Lib.hid HC.out
      rw [HT0.out] at HC2
      obtain ⟨va, vc, rfl, hvr, hvn, hvl⟩ := HC2.out.row.rdd
      have m0 := HC2.out.p6.c0
      have m1 := HC2.out.p6.c1
      have m2 := HC2.out.p6.c2
      have m3 := HC2.out.p6.c3
      have m4 := HC2.out.p6.c4
      have m5 := HC2.out.p6.c5
      have m6 := HC2.out.p6.c6
      have m7 := HC2.out.p6.c7
      have HST := Lib.hid (ChW.start HC2.out)
      have hxl : xs.length = S.length := HXL.out
      have hx5 : xs.length ≤ 512 := by omega
      have HVR := Lib.hid hvr
      have HVN := Lib.hid hvn
      have HVL := Lib.hid hvl
      have HNB : Hid (Keeps [] wa (wa.alloc (.cells #[.int .i64 0, .int .i64 0, .int .i64 0, .slice none 0 0, .slice none 0 0, .int .i64 0, .slice none 0 0, .int .i64 (-1)] 61))) := (Keeps.refl _ _).alloc _
      have n0 := HNB.out.cell m0 (by simp)
      have n1 := HNB.out.cell m1 (by simp)
      have n2 := HNB.out.cell m2 (by simp)
      have n3 := HNB.out.cell m3 (by simp)
      have n4 := HNB.out.cell m4 (by simp)
      have n5 := HNB.out.cell m5 (by simp)
      have n6 := HNB.out.cell m6 (by simp)
      have n7 := HNB.out.cell m7 (by simp)
      clear HC HT0 HQ hvr hvn hvl
      clear hxl
      go_upto_region 12 with fail
      generalize (wa.alloc (.cells #[.int .i64 0, .int .i64 0, .int .i64 0, .slice none 0 0, .slice none 0 0, .int .i64 0, .slice none 0 0, .int .i64 (-1)] 61)).alloc (.cells #[.int .i64 0, .int .i64 k, .int .i64 D, .slice va xs.length vc, .slice none 0 0, .int .i64 0, .slice none 0 0, .int .i64 0] 61) = wb at *
      have hg : w.heap.size + 1 < wa.heap.size := HST.out.l2
      obtain ⟨g9, hg9⟩ : ∃ g9, wa.heap.size = g9 := ⟨_, rfl⟩
      obtain ⟨g12, hg12⟩ : ∃ g12, g9 + 1 = g12 := ⟨_, rfl⟩
      rw [hg9] at HST
      rw [hg12] at HST
      clear n0 n1 n2 n3 n4 n5 n6 n7 m0 m1 m2 m3 m4 m5 m6 m7 HNB HC2 hg
      simp only [hg9, hg12]
      clear hg9 hg12 HVR
      have d2 := HST.out.p6.c2
      have d0 := HST.out.p12.c0
      have d7 := HST.out.p12.c7
      have f0 := HST.out.p12.frozen 0
      have f7 := HST.out.p12.frozen 7
      go_region
      have HSX := Lib.hid (HST.out.setx 0 D)
      clear d2 d0 d7 f0 f7 HST
      go_upto_region 13 with fail
      generalize ((wb.setCell ⟨g12, 0, none⟩ (.int .i64 0)).setCell ⟨g12, 7, none⟩ (.int .i64 D)).drew = wd at *
      have HX1 : Hid (0 < xs.length) := by have := HXL.out; have := HL1.out; show 0 < _; omega
      obtain ⟨ab, hab⟩ : ∃ ab, alikeB xs = ab := ⟨_, rfl⟩
      have HCO : Hid (∀ W b, ChW w W w.heap.size (w.heap.size + 1) g9 g12 k D (.slice va xs.length vc) xs 0 D b → Calls Tryd.prog 50 #[.slice va xs.length vc, .func (.func 54) #[] #[.pointer (some ⟨w.heap.size + 1, 0, none⟩)]] W fun e w' => e = .returned (.bool (!ab)) ∧ w' = W) := by
        intro W b h
        obtain ⟨va', vc', e1, hvr, hvn, hvl⟩ := h.row.rdd
        simp only [Value.slice.injEq] at e1
        obtain ⟨rfl, -, rfl⟩ := e1
        have := scontains_alike xs _ rfl va vc (w.heap.size + 1) (xs.headD 0) W (Lib.hid (h.alike HX1.out)) (Lib.hid hvr)
        rw [← hab]
        exact this
      have HTK : Hid (∀ W, ChW w W w.heap.size (w.heap.size + 1) g9 g12 k D (.slice va xs.length vc) xs 0 D ⟨0, [], 0, [], -1⟩ → Calls Tryd.prog 53 #[.agg #[.int .i64 0, .int .i64 k, .int .i64 D, .slice va xs.length vc, .slice none 0 0, .int .i64 0, .slice none 0 0, .int .i64 D], .bool ab, .pointer (some ⟨g9, 0, none⟩)] W fun e w' => e = .returned (.tuple #[]) ∧ ChW w w' w.heap.size (w.heap.size + 1) g9 g12 k D (.slice va xs.length vc) xs 0 D (c0P xs D)) := by
        intro W h
        have := ChW.take (Lib.hid h) ⟨0, [], 0, [], D⟩ (.slice none 0 0) (.slice none 0 0) ab (fun _ => ⟨Row.nil _ _ _, Row.nil _ _ _, (fun j hj => by cases hj), (fun j hj => by cases hj)⟩)
        rw [← hab] at this ⊢
        exact this
      clear hab
      go_cut [58] (fun c58 wx => c58 = .bool ab ∧ Hid (ChW w wx w.heap.size (w.heap.size + 1) g9 g12 k D (.slice va xs.length vc) xs 0 D (c0P xs D)))
      case first =>
        have HS0 := Lib.hid (HSX.out.new (Keeps.refl [] wd).drew)
        go_region_held3 (fun w' => w'.cell? ⟨w.heap.size + 1, 3, none⟩ = some (.slice va xs.length vc) ∧ w'.cell? ⟨g12, 0, none⟩ = some (.int .i64 0) ∧ w'.cell? ⟨g12, 1, none⟩ = some (.int .i64 k) ∧ w'.cell? ⟨g12, 2, none⟩ = some (.int .i64 D) ∧ w'.cell? ⟨g12, 3, none⟩ = some (.slice va xs.length vc) ∧
            w'.cell? ⟨g12, 4, none⟩ = some (.slice none 0 0) ∧ w'.cell? ⟨g12, 5, none⟩ = some (.int .i64 0) ∧ w'.cell? ⟨g12, 6, none⟩ = some (.slice none 0 0) ∧ w'.cell? ⟨g12, 7, none⟩ = some (.int .i64 D))
          (first
            | (exact HS0.out.cs)
            | (exact HW5.cs)
            | go_keep)
          (first
            | (go_at_call 50; go_must (with_reducible refine (HCO.out _ _ HS0.out).mono ?_); rintro e w4 ⟨rfl, rfl⟩)
            | (go_at_call 53; go_must (with_reducible refine (HTK.out _ HS0.out).mono ?_); rintro e w5 ⟨rfl, HW5⟩))
        all_goals
          go_wp2_with fail
          go_meet
          exact ⟨rfl, HW5⟩
      case rest =>
        obtain ⟨rfl, HW6⟩ := hcut
        obtain ⟨we, rfl⟩ : ∃ x : World, x = wc := ⟨_, rfl⟩
        clear HSX HCO HTK
        have hm4 : xs.length = S.length := HXL.out
        have hmin4 : min (4 : Int) (xs.length : Int) = ((min 4 xs.length : Nat) : Int) := by omega
        obtain ⟨M, hM⟩ : ∃ M : Nat, min 4 xs.length = M := ⟨_, rfl⟩
        have HM := Lib.hid hM
        have hM4 : M ≤ 4 := by omega
        rw [hM] at hmin4
        clear hm4 hM
        go_wp2_with fail
        go_loopg [63] (M + 2) (fun q v63 wr => ∃ (i : Nat), v63 = .int .i64 i ∧ i ≤ M + 1 ∧ Hid (ChW w wr w.heap.size (w.heap.size + 1) g9 g12 k D (.slice va xs.length vc) xs 0 D ((List.range i).foldl (stepF xs D) (c0P xs D))) ∧ Hid (i + q = M + 2))
        case atStart => exact ⟨0, rfl, by omega, HW6.out, (show _ = _ from by omega)⟩
        case round =>
          clear HW6
          obtain ⟨i, rfl, hi, HWL, HQ⟩ := hrel
          obtain ⟨q1, rfl⟩ : ∃ g : Nat, g = gk := ⟨_, rfl⟩
          obtain ⟨wf, rfl⟩ : ∃ y : World, y = wr := ⟨_, rfl⟩
          by_cases hlt : i < M + 1
          · have HSTP := Lib.hid (fold_range xs D (c0P xs D) i)
            obtain ⟨b, hb⟩ : ∃ b, (List.range i).foldl (stepF xs D) (c0P xs D) = b := ⟨_, rfl⟩
            rw [hb] at HWL HSTP
            have hfl : (fixL i).length ≤ 1000000 := by have := fixL_le i; omega
            have HFX := Lib.hid (fun W => fixed_calls i W (by omega))
            obtain ⟨cf, hcf⟩ : ∃ cf, fixL i = cf := ⟨_, rfl⟩
            obtain ⟨ok, hok⟩ : ∃ ok, modOk xs cf 0 = ok := ⟨_, rfl⟩
            have HSF : Hid (stepF xs D b i = takeP b (modP xs cf 0 D (8 + i) 0) ok) := by show _ = _; rw [← hok, ← hcf]; rfl
            rw [hcf] at HFX hfl
            have HOK := Lib.hid hok
            clear hb hcf hok
            go_wp2_with (first
              | (go_at_call 55; go_must (with_reducible refine (HFX.out _).mono ?_); rintro e w2 ⟨v2, rfl, hr2, hf2, hn2⟩; obtain ⟨a2, c2, rfl⟩ := hr2.slice;
                  have hnA : Keeps [] w2 (w2.alloc (.cells #[.slice a2 cf.length c2, .int .i64 0] 59)) := (Keeps.refl _ _).alloc _;
                  have HW3 := Lib.hid ((HWL.out.new hn2).new hnA); have HF3 := Lib.hid (HWL.out.fresh _ (fun j hj => hf2 j hj)); have HR3 : Hid (Row (w2.alloc (.cells #[.slice a2 cf.length c2, .int .i64 0] 59)) .i64 3 (.slice a2 cf.length c2) cf) := Row.keeps hr2 hnA (fun _ _ => by simp);
                  have e0 := HW3.out.p6.c0; have e1 := HW3.out.p6.c1; have e2 := HW3.out.p6.c2; have e3 := HW3.out.p6.c3; have e4 := HW3.out.p6.c4; have e5 := HW3.out.p6.c5; have e6 := HW3.out.p6.c6; have e7 := HW3.out.p6.c7; clear hr2 hf2 hn2 hnA)
              | (go_at_call 56; go_must (with_reducible refine (ChW.model HW3 cf 0 (8 + (i : Int)) 0 (.slice a2 cf.length c2) HR3 HF3 hx5 (by have := HD1.out; omega) (by omega) hfl).mono ?_); rintro e w4 ⟨x4, cv4, rv4, rfl, hW4, ht4, hy4⟩; rw [HOK.out] at *; have HW4 := Lib.hid hW4; have HT4 := Lib.hid ht4; have HY4 := Lib.hid hy4; clear hW4 ht4 hy4)
              | (go_at_call 53; go_must (with_reducible refine (ChW.take HW4 x4 cv4 rv4 ok HY4.out).mono ?_); rintro e w5 ⟨rfl, HW5⟩))
            go_roundg (M + 1 - i)
            case measure => have := HQ.out; omega
            case rel =>
              refine ⟨i + 1, by go_num, by omega, ?_, (show _ = _ from by have := HQ.out; omega)⟩
              show ChW _ _ _ _ _ _ _ _ _ _ _ _ _
              rw [HSTP.out, HSF.out, ← HT4.out]
              exact HW5
          · obtain rfl : i = M + 1 := by omega
            have HFP : Hid ((List.range (M + 1)).foldl (stepF xs D) (c0P xs D) = fixP xs D) := by show _ = _; rw [← HM.out]; rfl
            rw [HFP.out] at HWL
            clear HFP HQ
            go_wp2_with fail
            go_loopg [82] 4 (fun q v82 wr => ∃ (i : Nat), v82 = .int .i64 i ∧ i ≤ 3 ∧ Hid (ChW w wr w.heap.size (w.heap.size + 1) g9 g12 k D (.slice va xs.length vc) xs 0 D ((([2, 4, 8] : List Nat).take i).foldl (stepQ xs D) (fixP xs D))) ∧ Hid (i + q = 4))
            case atStart => exact ⟨0, rfl, by omega, HWL.out, (show _ = _ from by omega)⟩
            case round =>
              clear HWL hi
              obtain ⟨i, rfl, hi, HWL, HQ⟩ := hrel
              obtain ⟨q2, rfl⟩ : ∃ g : Nat, g = gk := ⟨_, rfl⟩
              obtain ⟨wh, rfl⟩ : ∃ y : World, y = wr := ⟨_, rfl⟩
              by_cases hlt : i < 3
              · have HSTP := Lib.hid (qfold (stepQ xs D) (fixP xs D) i hlt)
                obtain ⟨b, hb⟩ : ∃ b, (([2, 4, 8] : List Nat).take i).foldl (stepQ xs D) (fixP xs D) = b := ⟨_, rfl⟩
                rw [hb] at HWL HSTP
                have hqx := fun W => run_qc i hlt W
                obtain ⟨hq2, hq8⟩ := qc_le i
                obtain ⟨oc, hoc⟩ : ∃ oc, qc i = oc := ⟨_, rfl⟩
                rw [hoc] at HSTP hqx hq2 hq8
                clear hb hoc
                by_cases hoc : oc < xs.length
                · have HSE := Lib.hid (fun W (hW : ChW w W w.heap.size (w.heap.size + 1) g9 g12 k D (.slice va xs.length vc) xs 0 D b) (ha : Hid (Rd W .i64 va xs)) => search_any xs oc _ va vc W rfl HVL.out (by omega) ha)
                  obtain ⟨cf, hcf⟩ : ∃ cf, srcL xs oc = cf := ⟨_, rfl⟩
                  obtain ⟨sf, hsf⟩ : ∃ sf, srcS xs oc = sf := ⟨_, rfl⟩
                  obtain ⟨ef, hef⟩ : ∃ ef, srcE xs oc = ef := ⟨_, rfl⟩
                  obtain ⟨ok, hok⟩ : ∃ ok, modOk xs cf sf = ok := ⟨_, rfl⟩
                  have HSF : Hid (stepQ xs D b oc = takeP b (modP xs cf sf D (31 + oc) (9 + 12 * oc)) ok) := by show _ = _; rw [← hok, ← hsf, ← hcf]; exact if_pos hoc
                  have hfl : cf.length ≤ 1000000 := by rw [← hcf]; exact srcL_le xs oc hq8
                  rw [hcf, hsf, hef] at HSE
                  have HOK := Lib.hid hok
                  clear hcf hsf hef hok
                  have g3 := HWL.out.p6.c3
                  go_wp2_with (first
                    | (go_at_call 57; go_must (with_reducible refine (HSE.out _ HWL.out (Lib.hid (rd_of HWL.out))).mono ?_); rintro e w2 ⟨v2, rfl, hr2, hf2, hn2⟩; obtain ⟨a2, c2, rfl⟩ := hr2.slice;
                        have hnA : Keeps [] w2 (w2.alloc (.cells #[.slice a2 cf.length c2, .int .i64 sf] 59)) := (Keeps.refl _ _).alloc _;
                        have HW3 := Lib.hid ((HWL.out.new hn2).new hnA); have HF3 := Lib.hid (HWL.out.fresh _ (fun j hj => hf2 j hj)); have HR3 : Hid (Row (w2.alloc (.cells #[.slice a2 cf.length c2, .int .i64 sf] 59)) .i64 3 (.slice a2 cf.length c2) cf) := Row.keeps hr2 hnA (fun _ _ => by simp);
                        have e0 := HW3.out.p6.c0; have e1 := HW3.out.p6.c1; have e2 := HW3.out.p6.c2; have e3 := HW3.out.p6.c3; have e4 := HW3.out.p6.c4; have e5 := HW3.out.p6.c5; have e6 := HW3.out.p6.c6; have e7 := HW3.out.p6.c7; clear hr2 hf2 hn2 hnA)
                    | (go_at_call 56; go_must (with_reducible refine (ChW.model HW3 cf sf (31 + (oc : Int)) (9 + 12 * (oc : Int)) (.slice a2 cf.length c2) HR3 HF3 hx5 (by have := HD1.out; omega) (by omega) hfl).mono ?_); rintro e w4 ⟨x4, cv4, rv4, rfl, hW4, ht4, hy4⟩; rw [HOK.out] at *; have HW4 := Lib.hid hW4; have HT4 := Lib.hid ht4; have HY4 := Lib.hid hy4; clear hW4 ht4 hy4)
                    | (go_at_call 53; go_must (with_reducible refine (ChW.take HW4 x4 cv4 rv4 ok HY4.out).mono ?_); rintro e w5 ⟨rfl, HW5⟩))
                  go_roundg (3 - i)
                  case measure => have := HQ.out; omega
                  case rel =>
                    refine ⟨i + 1, by go_num, by omega, ?_, (show _ = _ from by have := HQ.out; omega)⟩
                    show ChW _ _ _ _ _ _ _ _ _ _ _ _ _
                    rw [HSTP.out, HSF.out, ← HT4.out]
                    exact HW5
                · have HSF : Hid (stepQ xs D b oc = b) := by show _ = _; exact if_neg hoc
                  go_wp2_with fail
                  go_roundg (3 - i)
                  case measure => have := HQ.out; omega
                  case rel =>
                    refine ⟨i + 1, by go_num, by omega, ?_, (show _ = _ from by have := HQ.out; omega)⟩
                    show ChW _ _ _ _ _ _ _ _ _ _ _ _ _
                    rw [HSTP.out, HSF.out]
                    exact HWL.out
              · obtain rfl : i = 3 := by omega
                have HQP : Hid ((([2, 4, 8] : List Nat).take 3).foldl (stepQ xs D) (fixP xs D) = qP xs D) := by show _ = _; rfl
                rw [HQP.out] at HWL
                clear HQP HQ
                have d2 := HWL.out.p6.c2
                have d0 := HWL.out.p12.c0
                have d7 := HWL.out.p12.c7
                have f0 := HWL.out.p12.frozen 0
                have f7 := HWL.out.p12.frozen 7
                obtain ⟨ND, hND⟩ : ∃ ND, (xs.length : Int) * D = ND := ⟨_, rfl⟩
                have HNDB : Hid (0 ≤ ND ∧ ND ≤ 12800) := by
                  have h1 := HD1.out
                  have h2 : (xs.length : Int) * D ≤ 512 * D := Int.mul_le_mul_of_nonneg_right (by omega) (by omega)
                  have h3 := Int.mul_nonneg (show (0 : Int) ≤ (xs.length : Int) by omega) (show (0 : Int) ≤ D by omega)
                  show 0 ≤ ND ∧ ND ≤ 12800
                  omega
                have hwr : IntKind.i64.wrap ND = ND := IntWalk.i64_in _ (by have := HNDB.out; omega)
                go_upto_region 27 with fail
                go_region
                have HSX := Lib.hid (HWL.out.setx 1 ND)
                clear d2 d0 d7 f0 f7 HWL hwr
                generalize ((wh.setCell ⟨g12, 0, none⟩ (.int .i64 1)).setCell ⟨g12, 7, none⟩ (.int .i64 ND)).drew = wj at *
                have HNZ : Hid (0 ≤ (chooseP xs D).sz) := by
                  have h := HNDB.out.1
                  rw [← hND] at h
                  exact take_pos (qP xs D) ⟨1, [], 0, [], xs.length * D⟩ h
                have HTK : Hid (∀ W, ChW w W w.heap.size (w.heap.size + 1) g9 g12 k D (.slice va xs.length vc) xs 1 ND (qP xs D) → Calls Tryd.prog 53 #[.agg #[.int .i64 1, .int .i64 k, .int .i64 D, .slice va xs.length vc, .slice none 0 0, .int .i64 0, .slice none 0 0, .int .i64 ND], .bool true, .pointer (some ⟨g9, 0, none⟩)] W fun e w' => e = .returned (.tuple #[]) ∧ ChW w w' w.heap.size (w.heap.size + 1) g9 g12 k D (.slice va xs.length vc) xs 1 ND (chooseP xs D)) := by
                  intro W h
                  have := ChW.take (Lib.hid h) ⟨1, [], 0, [], ND⟩ (.slice none 0 0) (.slice none 0 0) true (fun _ => ⟨Row.nil _ _ _, Row.nil _ _ _, (fun j hj => by cases hj), (fun j hj => by cases hj)⟩)
                  rw [← hND] at this ⊢
                  exact this
                clear hND
                obtain ⟨-, b0, b1, b2, b3, b4, b5, b6, b7⟩ := HSX.out.cs
                obtain ⟨pf, hpf⟩ : ∃ pf, chooseP xs D = pf := ⟨_, rfl⟩
                rw [hpf] at HNZ HTK
                have HPF := Lib.hid hpf
                clear hpf
                go_wp2_with (first
                  | (go_at_call 53; go_must (with_reducible refine (HTK.out _ HSX.out).mono ?_); rintro e w5 ⟨rfl, HW5'⟩; have HW5 := Lib.hid HW5'; clear HW5';
                      obtain ⟨k5, D5, sv5, cv5, rv5, hp5, hr5, hs5, hf5, hg5, ho5⟩ := HW5.out.bst;
                      obtain ⟨ek, eD, es⟩ : k5 = (k : Int) ∧ D5 = D ∧ sv5 = .slice va xs.length vc := ho5.resolve_left (by have := HNZ.out; omega); rw [ek, eD, es] at hp5; clear ek eD es;
                      obtain ⟨ca5, cc5, rfl⟩ := hr5.slice; obtain ⟨ra5, rc5, rfl⟩ := hs5.slice;
                      have HP9 := Lib.hid hp5; have HR5 := Lib.hid hr5; have HS5 := Lib.hid hs5; have HF5 := Lib.hid hf5; have HG5 := Lib.hid hg5; clear hp5 hr5 hs5 hf5 hg5 ho5 b0 b1 b2 b3 b4 b5 b6 b7;
                      have a0 := HP9.out.c0; have a1 := HP9.out.c1; have a2 := HP9.out.c2; have a3 := HP9.out.c3; have a4 := HP9.out.c4; have a5 := HP9.out.c5; have a6 := HP9.out.c6; have a7 := HP9.out.c7;
                      have j0 := HW5.out.p4.c0; have j1 := HW5.out.p4.c1; have j2 := HW5.out.p4.c2; have j3 := HW5.out.p4.c3; have j4 := HW5.out.p4.c4; have j5 := HW5.out.p4.c5; have j6 := HW5.out.p4.c6; have j7 := HW5.out.p4.c7;
                      have f0 := HW5.out.p4.frozen 0; have f1 := HW5.out.p4.frozen 1; have f2 := HW5.out.p4.frozen 2; have f3 := HW5.out.p4.frozen 3; have f4 := HW5.out.p4.frozen 4; have f5 := HW5.out.p4.frozen 5; have f6 := HW5.out.p4.frozen 6; have f7 := HW5.out.p4.frozen 7))
                have HEND : Hid (PB ((((((((w5.setCell ⟨w.heap.size, 0, none⟩ (.int .i64 pf.kd)).setCell ⟨w.heap.size, 1, none⟩ (.int .i64 k)).setCell ⟨w.heap.size, 2, none⟩ (.int .i64 D)).setCell ⟨w.heap.size, 3, none⟩ (.slice va xs.length vc)).setCell ⟨w.heap.size, 4, none⟩ (.slice ca5 pf.cs.length cc5)).setCell ⟨w.heap.size, 5, none⟩ (.int .i64 pf.sh)).setCell ⟨w.heap.size, 6, none⟩ (.slice ra5 pf.L.length rc5)).setCell ⟨w.heap.size, 7, none⟩ (.int .i64 pf.sz)) w.heap.size pf.kd k D (.slice va xs.length vc) (.slice ca5 pf.cs.length cc5) pf.sh (.slice ra5 pf.L.length rc5) pf.sz) := HW5.out.p4.setA _ _ _ _ _ _ _ _
                have HKE : Hid (Keeps [w.heap.size] w5 ((((((((w5.setCell ⟨w.heap.size, 0, none⟩ (.int .i64 pf.kd)).setCell ⟨w.heap.size, 1, none⟩ (.int .i64 k)).setCell ⟨w.heap.size, 2, none⟩ (.int .i64 D)).setCell ⟨w.heap.size, 3, none⟩ (.slice va xs.length vc)).setCell ⟨w.heap.size, 4, none⟩ (.slice ca5 pf.cs.length cc5)).setCell ⟨w.heap.size, 5, none⟩ (.int .i64 pf.sh)).setCell ⟨w.heap.size, 6, none⟩ (.slice ra5 pf.L.length rc5)).setCell ⟨w.heap.size, 7, none⟩ (.int .i64 pf.sz))) := (Keeps.refl _ w5).set8 (.inl (by simp)) _ _ _ _ _ _ _ _
                refine bodyPost_ret (results_cell1 rfl _ _ w.heap.size 61 _ (0, 0) _ rfl HEND.out.hp Tryd.underlying61 rfl info_plan) rfl ?_
                rw [HPF.out]
                refine ⟨_, _, _, rfl, HW5.out.row.keeps HKE.out (fun j hj h => (HW5.out.far j hj).2.1 (List.mem_singleton.1 h)), HR5.out.keeps HKE.out (fun j hj h => (HF5.out j hj).2.1 (List.mem_singleton.1 h)), HS5.out.keeps HKE.out (fun j hj h => (HG5.out j hj).2.1 (List.mem_singleton.1 h)), fun j hj => (HW5.out.far j hj).1, fun j hj => (HF5.out j hj).1, fun j hj => (HG5.out j hj).1, ?_⟩
                exact HW5.out.hk.then_ HKE.out (fun j hj hlt => by rw [List.mem_singleton] at hj; omega)
end Go.Proofs.YtofkiimaoahfjaaDoor
