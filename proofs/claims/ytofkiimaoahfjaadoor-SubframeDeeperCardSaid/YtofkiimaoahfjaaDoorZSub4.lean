/-
  Layer 9 (subframe): a plan's block; a plan with a model.
  Layer 9 (subframe): the two closures of choose: take, and the test whether all are alike.
-/
import Derived.Test.YtofkiimaoahfjaaDoorZSub1
import Derived.Test.YtofkiimaoahfjaaDoorZPred20
import Derived.Test.YtofkiimaoahfjaaDoorZRice21
set_option maxRecDepth 100000
set_option linter.unusedVariables false
set_option linter.unusedSimpArgs false
namespace Go.Proofs.YtofkiimaoahfjaaDoor
open Go.RowKit

theorem Row.rdd {w : World} {k : IntKind} {e : TypeId} {v : Value} {xs : List Int} (h : Row w k e v xs) : ∃ a cap, v = .slice a xs.length cap ∧ Rd w k a xs ∧ (a = none → cap = 0) ∧ xs.length ≤ cap := by
  obtain ⟨a, c, e1, hr, hn, -⟩ := h.rdc
  refine ⟨a, c, e1, hr, hn, ?_⟩
  rcases h.2 with ⟨h1, h2⟩ | ⟨g, cap, cur, h1, _, _, h3, _⟩
  · omega
  · rw [h1] at e1
    simp only [Value.slice.injEq] at e1
    omega

/-- A plan's eight cells. -/
def plV (kd wd D : Int) (sv cv : Value) (sh : Int) (rv : Value) (sz : Int) : Array Value := #[.int .i64 kd, .int .i64 wd, .int .i64 D, sv, cv, .int .i64 sh, rv, .int .i64 sz]
/-- A plan's block. -/
structure PB (w : World) (g : Nat) (kd wd D : Int) (sv cv : Value) (sh : Int) (rv : Value) (sz : Int) : Prop where
  hp : w.heap[g]? = some (.cells #[.int .i64 kd, .int .i64 wd, .int .i64 D, sv, cv, .int .i64 sh, rv, .int .i64 sz] 61 (0, 0))
namespace PB
variable {w w' : World} {g : Nat} {kd wd D sh sz : Int} {sv cv rv : Value}
theorem keeps {F : List Nat} (h : PB w g kd wd D sv cv sh rv sz) (hk : Keeps F w w') (hg : g ∉ F) : PB w' g kd wd D sv cv sh rv sz := ⟨(hk.block g (Array.getElem?_eq_some_iff.1 h.hp).1 hg).trans h.hp⟩
theorem c0 (h : PB w g kd wd D sv cv sh rv sz) : w.cell? ⟨g, 0, none⟩ = some (.int .i64 kd) := by unfold World.cell?; rw [h.hp]; rfl
theorem c1 (h : PB w g kd wd D sv cv sh rv sz) : w.cell? ⟨g, 1, none⟩ = some (.int .i64 wd) := by unfold World.cell?; rw [h.hp]; rfl
theorem c2 (h : PB w g kd wd D sv cv sh rv sz) : w.cell? ⟨g, 2, none⟩ = some (.int .i64 D) := by unfold World.cell?; rw [h.hp]; rfl
theorem c3 (h : PB w g kd wd D sv cv sh rv sz) : w.cell? ⟨g, 3, none⟩ = some sv := by unfold World.cell?; rw [h.hp]; rfl
theorem c4 (h : PB w g kd wd D sv cv sh rv sz) : w.cell? ⟨g, 4, none⟩ = some cv := by unfold World.cell?; rw [h.hp]; rfl
theorem c5 (h : PB w g kd wd D sv cv sh rv sz) : w.cell? ⟨g, 5, none⟩ = some (.int .i64 sh) := by unfold World.cell?; rw [h.hp]; rfl
theorem c6 (h : PB w g kd wd D sv cv sh rv sz) : w.cell? ⟨g, 6, none⟩ = some rv := by unfold World.cell?; rw [h.hp]; rfl
theorem c7 (h : PB w g kd wd D sv cv sh rv sz) : w.cell? ⟨g, 7, none⟩ = some (.int .i64 sz) := by unfold World.cell?; rw [h.hp]; rfl
theorem frozen (h : PB w g kd wd D sv cv sh rv sz) (j : Nat) : w.frozen? ⟨g, j, none⟩ = false := frozen_of_row w g j _ _ h.hp
theorem lt (h : PB w g kd wd D sv cv sh rv sz) : g < w.heap.size := (Array.getElem?_eq_some_iff.1 h.hp).1
theorem set0 (h : PB w g kd wd D sv cv sh rv sz) (kd' : Int) : PB (w.setCell ⟨g, 0, none⟩ (.int .i64 kd')) g kd' wd D sv cv sh rv sz := ⟨blk_set h.hp 0 _⟩
theorem set1 (h : PB w g kd wd D sv cv sh rv sz) (wd' : Int) : PB (w.setCell ⟨g, 1, none⟩ (.int .i64 wd')) g kd wd' D sv cv sh rv sz := ⟨blk_set h.hp 1 _⟩
theorem set2 (h : PB w g kd wd D sv cv sh rv sz) (D' : Int) : PB (w.setCell ⟨g, 2, none⟩ (.int .i64 D')) g kd wd D' sv cv sh rv sz := ⟨blk_set h.hp 2 _⟩
theorem set3 (h : PB w g kd wd D sv cv sh rv sz) (sv' : Value) : PB (w.setCell ⟨g, 3, none⟩ sv') g kd wd D sv' cv sh rv sz := ⟨blk_set h.hp 3 _⟩
theorem set4 (h : PB w g kd wd D sv cv sh rv sz) (cv' : Value) : PB (w.setCell ⟨g, 4, none⟩ cv') g kd wd D sv cv' sh rv sz := ⟨blk_set h.hp 4 _⟩
theorem set5 (h : PB w g kd wd D sv cv sh rv sz) (sh' : Int) : PB (w.setCell ⟨g, 5, none⟩ (.int .i64 sh')) g kd wd D sv cv sh' rv sz := ⟨blk_set h.hp 5 _⟩
theorem set6 (h : PB w g kd wd D sv cv sh rv sz) (rv' : Value) : PB (w.setCell ⟨g, 6, none⟩ rv') g kd wd D sv cv sh rv' sz := ⟨blk_set h.hp 6 _⟩
theorem set7 (h : PB w g kd wd D sv cv sh rv sz) (sz' : Int) : PB (w.setCell ⟨g, 7, none⟩ (.int .i64 sz')) g kd wd D sv cv sh rv sz' := ⟨blk_set h.hp 7 _⟩
theorem setA (h : PB w g kd wd D sv cv sh rv sz) (kd' wd' D' sh' sz' : Int) (sv' cv' rv' : Value) : PB ((((((((w.setCell ⟨g, 0, none⟩ (.int .i64 kd')).setCell ⟨g, 1, none⟩ (.int .i64 wd')).setCell ⟨g, 2, none⟩ (.int .i64 D')).setCell ⟨g, 3, none⟩ sv').setCell ⟨g, 4, none⟩ cv').setCell ⟨g, 5, none⟩ (.int .i64 sh')).setCell ⟨g, 6, none⟩ rv').setCell ⟨g, 7, none⟩ (.int .i64 sz')) g kd' wd' D' sv' cv' sh' rv' sz' :=
  (((((((h.set0 kd').set1 wd').set2 D').set3 sv').set4 cv').set5 sh').set6 rv').set7 sz'
end PB
theorem info_plan : (Tryd.prog.info? 61).map (·.size) = some 8 := by kernel_rfl

theorem sm_facts (xs cs : List Int) (sh : Int) (hE : resE cs sh xs = 0) (hl : xs.length ≤ 512) : cs.length ≤ 8 ∧ resO cs sh xs = leftL cs sh xs ∧ (leftL cs sh xs).length ≤ 512 := by
  have h1 : rightB cs sh = true := by
    cases h : rightB cs sh
    · unfold resE at hE
      rw [if_pos h] at hE
      cases hE
    · rfl
  refine ⟨((rightB_iff cs sh).1 h1).1, by unfold resO; rw [if_pos hE], ?_⟩
  rw [leftL_length]
  omega
theorem sm_size (L : List Int) (o : Nat) (h : rchkE L o = 0) (hl : L.length ≤ 600) : 0 ≤ rsizeN L o ∧ rsizeN L o ≤ 30000 := by
  obtain ⟨_, hin⟩ := rchk_ok L o h
  unfold rsizeN
  rw [if_pos h, Int.toNat_natCast]
  exact ⟨(choose_range L o hl hin).1, size_small L o hl hin⟩

set_option maxHeartbeats 4000000 in
theorem smodel_ok (xs cs : List Int) (wd D kind sh head : Int) (sa ca : Option Addr) (n sc m cc : Nat) (w : World)
    (hn : n = xs.length) (hm : m = cs.length) (hsc : xs.length ≤ sc) (hl : xs.length ≤ 512) (hD : 0 ≤ D ∧ D ≤ 64) (hh : 0 ≤ head ∧ head ≤ 1000) (hE : resE cs sh xs = 0) (hR : rchkE (leftL cs sh xs) cs.length = 0) (hx : Hid (Rd w .i64 sa xs)) (hc : Hid (Rd w .i64 ca cs)) :
    Calls Tryd.prog 56 #[.agg #[.int .i64 0, .int .i64 wd, .int .i64 D, .slice sa n sc, .slice none 0 0, .int .i64 0, .slice none 0 0, .int .i64 0], .int .i64 kind, .agg #[.slice ca m cc, .int .i64 sh], .int .i64 head] w fun e w' =>
      ∃ rv, e = .returned (.tuple #[.agg #[.int .i64 kind, .int .i64 wd, .int .i64 D, .slice sa n sc, .slice ca m cc, .int .i64 sh, rv, .int .i64 (head + cs.length * D + rsizeN (leftL cs sh xs) cs.length)], .bool true]) ∧ Row w' .i64 3 rv (leftL cs sh xs) ∧ (∀ b, b ∈ fp rv → w.heap.size ≤ b) ∧ Keeps [] w w' := by
  subst hn hm
  obtain ⟨hc8, hO, hL⟩ := sm_facts xs cs sh hE hl
  have hsz := sm_size _ _ hR (by omega)
  have hO' := Lib.hid hO
  have HE := Lib.hid hE
  have HRK := Lib.hid hR
  obtain ⟨L, hLe⟩ : ∃ L, leftL cs sh xs = L := ⟨_, rfl⟩
  rw [hLe] at hO' hL hsz HRK ⊢
  obtain ⟨SZ, hSZ⟩ : ∃ SZ, rsizeN L cs.length = SZ := ⟨_, rfl⟩
  have HSZ := Lib.hid hSZ
  obtain ⟨CD, hCD⟩ : ∃ CD, (cs.length : Int) * D = CD := ⟨_, rfl⟩
  have hCDb : 0 ≤ CD ∧ CD ≤ 512 := by
    rw [← hCD]
    have h1 : (cs.length : Int) * D ≤ 8 * D := Int.mul_le_mul_of_nonneg_right (by omega) hD.1
    have h2 := Int.mul_nonneg (show (0 : Int) ≤ (cs.length : Int) by omega) hD.1
    omega
  rw [hSZ] at hsz ⊢
  have HRES : Hid (∀ W, Keeps [] w W → Calls Tryd.prog 86 #[.agg #[.slice ca cs.length cc, .int .i64 sh], .slice sa xs.length sc] W fun e w' => ∃ v, e = .returned (.tuple #[v, .int .i64 0]) ∧ Row w' .i64 3 v L ∧ (∀ b, b ∈ fp v → W.heap.size ≤ b) ∧ Keeps [] W w') := by
    intro W hk
    have := residual_calls cs xs sh _ _ rfl ca sa cc sc W rfl hsc (by omega) (Lib.hid (hc.out.new hk)) (Lib.hid (hx.out.new hk))
    rw [hO'.out, HE.out] at this
    exact this
  obtain ⟨K, hK⟩ : ∃ K, cs.length = K := ⟨_, rfl⟩
  rw [hK] at hCD hc8 HRK HSZ HRES ⊢
  rw [hCD]
  have hmul := hCD
  clear hE hR hO hO' hLe hSZ hCD
  obtain ⟨w1, hw1⟩ : ∃ w1, ((w.alloc (.cells #[.int .i64 0, .int .i64 wd, .int .i64 D, .slice sa xs.length sc, .slice none 0 0, .int .i64 0, .slice none 0 0, .int .i64 0] 61)).alloc (.cells #[.slice ca K cc, .int .i64 sh] 59)).alloc (.cells #[.int .i64 0, .int .i64 0, .int .i64 0, .slice none 0 0, .slice none 0 0, .int .i64 0, .slice none 0 0, .int .i64 0] 61) = w1 := ⟨_, rfl⟩
  have HK1 : Hid (Keeps [] w w1) := by rw [← hw1]; exact (((Keeps.refl _ _).alloc _).alloc _).alloc _
  have HP4 : Hid (PB w1 w.heap.size 0 wd D (.slice sa xs.length sc) (.slice none 0 0) 0 (.slice none 0 0) 0) := ⟨by
    rw [← hw1]
    repeat (first | exact heap_alloc_at _ _ _ (by simp) | rw [Below.heap_alloc _ _ _ (by simp <;> omega)])⟩
  have HP6 : Hid (Cell2 w1 (w.heap.size + 1) 59 (.slice ca K cc) (.int .i64 sh)) := ⟨by
    rw [← hw1]
    repeat (first | exact heap_alloc_at _ _ _ (by simp) | rw [Below.heap_alloc _ _ _ (by simp <;> omega)])⟩
  have HP8 : Hid (PB w1 (w.heap.size + 1 + 1) 0 0 0 (.slice none 0 0) (.slice none 0 0) 0 (.slice none 0 0) 0) := ⟨by
    rw [← hw1]
    repeat (first | exact heap_alloc_at _ _ _ (by simp) | rw [Below.heap_alloc _ _ _ (by simp <;> omega)])⟩
  go_enter Tryd.func56, Tryd.ntmps56
  go_upto_region 1 with fail
  clear hw1
  have c40 := HP4.out.c0
  have c41 := HP4.out.c1
  have c42 := HP4.out.c2
  have c43 := HP4.out.c3
  have c60 := HP6.out.c0
  have c61 := HP6.out.c1
  go_upto_region 8 with (first
    | (go_at_call 86; go_must (with_reducible refine (HRES.out _ HK1.out).mono ?_); rintro e w2 ⟨rv, rfl, hr2, hf2, hk2⟩; obtain ⟨ra, rc, rfl, hq2, hn2, hc2⟩ := hr2.rdd; have HR2 := Lib.hid hr2; have HQ2 := Lib.hid hq2; have HN2 := Lib.hid hn2; have HF2 := Lib.hid hf2; have HK2 := Lib.hid hk2; clear hr2 hq2 hn2 hf2 hk2)
    | (go_at_call 87; go_must (with_reducible refine (rsize_calls L (K : Int) _ rfl ra rc _ HN2.out (by omega) hc2 (by omega) HQ2).mono ?_); rw [HSZ.out, HRK.out]; rintro e w3 ⟨rfl, hk3⟩; have HK3 := Lib.hid hk3; clear hk3))
  have HKA : Hid (Keeps [] w1 w3) := HK2.out.new HK3.out
  have HP4b : Hid (PB w3 w.heap.size 0 wd D (.slice sa xs.length sc) (.slice none 0 0) 0 (.slice none 0 0) 0) := HP4.out.keeps HKA.out (by simp)
  have HP6b : Hid (Cell2 w3 (w.heap.size + 1) 59 (.slice ca K cc) (.int .i64 sh)) := HP6.out.keeps HKA.out (by simp)
  have HP8b : Hid (PB w3 (w.heap.size + 1 + 1) 0 0 0 (.slice none 0 0) (.slice none 0 0) 0 (.slice none 0 0) 0) := HP8.out.keeps HKA.out (by simp)
  clear c40 c41 c42 c43 c60 c61 HP4 HP6
  have c40 := HP4b.out.c0
  have c41 := HP4b.out.c1
  have c42 := HP4b.out.c2
  have c43 := HP4b.out.c3
  have c44 := HP4b.out.c4
  have c45 := HP4b.out.c5
  have c46 := HP4b.out.c6
  have c47 := HP4b.out.c7
  have c60 := HP6b.out.c0
  have c61 := HP6b.out.c1
  have f40 := HP4b.out.frozen 0
  have f44 := HP4b.out.frozen 4
  have f45 := HP4b.out.frozen 5
  have f46 := HP4b.out.frozen 6
  have f47 := HP4b.out.frozen 7
  obtain ⟨hsz0, hsz1⟩ := hsz
  obtain ⟨hcd0, hcd1⟩ := hCDb
  go_region
  have HKS : Hid (Keeps [w.heap.size] w3 ((((((w3.setCell ⟨w.heap.size, 0, none⟩ (.int .i64 kind)).setCell ⟨w.heap.size, 4, none⟩ (.slice ca K cc)).setCell ⟨w.heap.size, 5, none⟩ (.int .i64 sh)).setCell ⟨w.heap.size, 6, none⟩ (.slice ra L.length rc)).setCell ⟨w.heap.size, 7, none⟩ (.int .i64 (head + CD + SZ))).drew)) :=
    ((((((Keeps.refl _ w3).setCell (.inl (by simp)) _).setCell (.inl (by simp)) _).setCell (.inl (by simp)) _).setCell (.inl (by simp)) _).setCell (.inl (by simp)) _).drew
  have HPn : Hid (PB ((((((w3.setCell ⟨w.heap.size, 0, none⟩ (.int .i64 kind)).setCell ⟨w.heap.size, 4, none⟩ (.slice ca K cc)).setCell ⟨w.heap.size, 5, none⟩ (.int .i64 sh)).setCell ⟨w.heap.size, 6, none⟩ (.slice ra L.length rc)).setCell ⟨w.heap.size, 7, none⟩ (.int .i64 (head + CD + SZ))).drew) w.heap.size kind wd D (.slice sa xs.length sc) (.slice ca K cc) sh (.slice ra L.length rc) (head + CD + SZ)) :=
    ⟨(((((HP4b.out.set0 kind).set4 (.slice ca K cc)).set5 sh).set6 (.slice ra L.length rc)).set7 (head + CD + SZ)).hp⟩
  clear c40 c41 c42 c43 c44 c45 c46 c47 c60 c61 f40 f44 f45 f46 f47
  generalize ((((((w3.setCell ⟨w.heap.size, 0, none⟩ (.int .i64 kind)).setCell ⟨w.heap.size, 4, none⟩ (.slice ca K cc)).setCell ⟨w.heap.size, 5, none⟩ (.int .i64 sh)).setCell ⟨w.heap.size, 6, none⟩ (.slice ra L.length rc)).setCell ⟨w.heap.size, 7, none⟩ (.int .i64 (head + CD + SZ))).drew) = w4 at *
  have HP8c : Hid (PB w4 (w.heap.size + 1 + 1) 0 0 0 (.slice none 0 0) (.slice none 0 0) 0 (.slice none 0 0) 0) := HP8b.out.keeps HKS.out (by simp <;> omega)
  have c40 := HPn.out.c0
  have c41 := HPn.out.c1
  have c42 := HPn.out.c2
  have c43 := HPn.out.c3
  have c44 := HPn.out.c4
  have c45 := HPn.out.c5
  have c46 := HPn.out.c6
  have c47 := HPn.out.c7
  have c80 := HP8c.out.c0
  have c81 := HP8c.out.c1
  have c82 := HP8c.out.c2
  have c83 := HP8c.out.c3
  have c84 := HP8c.out.c4
  have c85 := HP8c.out.c5
  have c86 := HP8c.out.c6
  have c87 := HP8c.out.c7
  have f80 := HP8c.out.frozen 0
  have f81 := HP8c.out.frozen 1
  have f82 := HP8c.out.frozen 2
  have f83 := HP8c.out.frozen 3
  have f84 := HP8c.out.frozen 4
  have f85 := HP8c.out.frozen 5
  have f86 := HP8c.out.frozen 6
  have f87 := HP8c.out.frozen 7
  go_wp2
  have HEND : Hid (PB ((((((((w4.setCell ⟨w.heap.size + 1 + 1, 0, none⟩ (.int .i64 kind)).setCell ⟨w.heap.size + 1 + 1, 1, none⟩ (.int .i64 wd)).setCell ⟨w.heap.size + 1 + 1, 2, none⟩ (.int .i64 D)).setCell ⟨w.heap.size + 1 + 1, 3, none⟩ (.slice sa xs.length sc)).setCell ⟨w.heap.size + 1 + 1, 4, none⟩ (.slice ca K cc)).setCell ⟨w.heap.size + 1 + 1, 5, none⟩ (.int .i64 sh)).setCell ⟨w.heap.size + 1 + 1, 6, none⟩ (.slice ra L.length rc)).setCell ⟨w.heap.size + 1 + 1, 7, none⟩ (.int .i64 (head + CD + SZ))) (w.heap.size + 1 + 1) kind wd D (.slice sa xs.length sc) (.slice ca K cc) sh (.slice ra L.length rc) (head + CD + SZ)) := HP8c.out.setA kind wd D sh (head + CD + SZ) (.slice sa xs.length sc) (.slice ca K cc) (.slice ra L.length rc)
  have HKE : Hid (Keeps [w.heap.size + 1 + 1] w4 ((((((((w4.setCell ⟨w.heap.size + 1 + 1, 0, none⟩ (.int .i64 kind)).setCell ⟨w.heap.size + 1 + 1, 1, none⟩ (.int .i64 wd)).setCell ⟨w.heap.size + 1 + 1, 2, none⟩ (.int .i64 D)).setCell ⟨w.heap.size + 1 + 1, 3, none⟩ (.slice sa xs.length sc)).setCell ⟨w.heap.size + 1 + 1, 4, none⟩ (.slice ca K cc)).setCell ⟨w.heap.size + 1 + 1, 5, none⟩ (.int .i64 sh)).setCell ⟨w.heap.size + 1 + 1, 6, none⟩ (.slice ra L.length rc)).setCell ⟨w.heap.size + 1 + 1, 7, none⟩ (.int .i64 (head + CD + SZ)))) := ((((((((Keeps.refl _ w4).setCell (.inl (by simp)) _).setCell (.inl (by simp)) _).setCell (.inl (by simp)) _).setCell (.inl (by simp)) _).setCell (.inl (by simp)) _).setCell (.inl (by simp)) _).setCell (.inl (by simp)) _).setCell (.inl (by simp)) _
  refine bodyPost_ret (results_cell2 rfl _ _ (w.heap.size + 1 + 1) 61 _ (0, 0) _ rfl HEND.out.hp Tryd.underlying61 rfl info_plan) rfl ?_
  have HB2 : Hid (∀ b, b ∈ fp (.slice ra L.length rc) → b ≠ w.heap.size ∧ b ≠ w.heap.size + 1 + 1) := fun b hb => by
    have h1 := HF2.out b hb
    have h2 := HP8.out.lt
    omega
  have HRE := ((Row.keeps HR2.out HK3.out (fun _ _ => by simp)).keeps HKS.out (fun b hb h => (HB2.out b hb).1 (List.mem_singleton.1 h))).keeps HKE.out (fun b hb h => (HB2.out b hb).2 (List.mem_singleton.1 h))
  refine ⟨_, rfl, HRE, (fun b hb => Nat.le_trans HK1.out.size (HF2.out b hb)), ?_⟩
  exact ((HK1.out.new HKA.out).then_ HKS.out (fun b hb hlt => by rw [List.mem_singleton] at hb; omega)).then_ HKE.out (fun b hb hlt => by rw [List.mem_singleton] at hb; omega)
set_option maxHeartbeats 4000000 in
theorem smodel_no (xs cs : List Int) (wd D kind sh head : Int) (sa ca : Option Addr) (n sc m cc : Nat) (w : World)
    (hn : n = xs.length) (hm : m = cs.length) (hsc : xs.length ≤ sc) (hl : xs.length ≤ 512) (hE : ¬ (resE cs sh xs = 0 ∧ rchkE (leftL cs sh xs) cs.length = 0)) (hx : Hid (Rd w .i64 sa xs)) (hc : Hid (Rd w .i64 ca cs)) (hcs : cs.length ≤ 1000000) :
    Calls Tryd.prog 56 #[.agg #[.int .i64 0, .int .i64 wd, .int .i64 D, .slice sa n sc, .slice none 0 0, .int .i64 0, .slice none 0 0, .int .i64 0], .int .i64 kind, .agg #[.slice ca m cc, .int .i64 sh], .int .i64 head] w fun e w' =>
      e = .returned (.tuple #[.agg #[.int .i64 0, .int .i64 wd, .int .i64 D, .slice sa n sc, .slice none 0 0, .int .i64 0, .slice none 0 0, .int .i64 0], .bool false]) ∧ Keeps [] w w' := by
  subst hn hm
  obtain ⟨E, hE0⟩ : ∃ E, resE cs sh xs = E := ⟨_, rfl⟩
  obtain ⟨L, hL⟩ : ∃ L, resO cs sh xs = L := ⟨_, rfl⟩
  have hLE : E = 0 → leftL cs sh xs = L := fun h => by rw [← hL]; unfold resO; rw [if_pos (by rw [hE0, h])]
  have hLL : L.length ≤ 512 := by
    rw [← hL]
    unfold resO
    split
    · rw [leftL_length]; omega
    · simp
  rw [hE0] at hE
  obtain ⟨R, hR⟩ : ∃ R, rchkE L cs.length = R := ⟨_, rfl⟩
  have hER : E = 0 → R ≠ 0 := fun h h2 => hE ⟨h, by rw [hLE h, hR, h2]⟩
  obtain ⟨SZ, hSZ⟩ : ∃ SZ, rsizeN L cs.length = SZ := ⟨_, rfl⟩
  have HSZ := Lib.hid hSZ
  have HRK := Lib.hid hR
  have HER := Lib.hid hER
  have HRES : Hid (∀ W, Keeps [] w W → Calls Tryd.prog 86 #[.agg #[.slice ca cs.length cc, .int .i64 sh], .slice sa xs.length sc] W fun e w' => ∃ v, e = .returned (.tuple #[v, .int .i64 E]) ∧ Row w' .i64 3 v L ∧ (∀ b, b ∈ fp v → W.heap.size ≤ b) ∧ Keeps [] W w') := by
    intro W hk
    have := residual_calls cs xs sh _ _ rfl ca sa cc sc W rfl hsc (by omega) (Lib.hid (hc.out.new hk)) (Lib.hid (hx.out.new hk))
    rw [hL, hE0] at this
    exact this
  obtain ⟨K, hK⟩ : ∃ K, cs.length = K := ⟨_, rfl⟩
  rw [hK] at hcs HRK HSZ HRES ⊢
  clear hE hR hLE hSZ hL hE0 hER
  obtain ⟨w1, hw1⟩ : ∃ w1, ((w.alloc (.cells #[.int .i64 0, .int .i64 wd, .int .i64 D, .slice sa xs.length sc, .slice none 0 0, .int .i64 0, .slice none 0 0, .int .i64 0] 61)).alloc (.cells #[.slice ca K cc, .int .i64 sh] 59)).alloc (.cells #[.int .i64 0, .int .i64 0, .int .i64 0, .slice none 0 0, .slice none 0 0, .int .i64 0, .slice none 0 0, .int .i64 0] 61) = w1 := ⟨_, rfl⟩
  have HK1 : Hid (Keeps [] w w1) := by rw [← hw1]; exact (((Keeps.refl _ _).alloc _).alloc _).alloc _
  have HP4 : Hid (PB w1 w.heap.size 0 wd D (.slice sa xs.length sc) (.slice none 0 0) 0 (.slice none 0 0) 0) := ⟨by
    rw [← hw1]
    repeat (first | exact heap_alloc_at _ _ _ (by simp) | rw [Below.heap_alloc _ _ _ (by simp <;> omega)])⟩
  have HP6 : Hid (Cell2 w1 (w.heap.size + 1) 59 (.slice ca K cc) (.int .i64 sh)) := ⟨by
    rw [← hw1]
    repeat (first | exact heap_alloc_at _ _ _ (by simp) | rw [Below.heap_alloc _ _ _ (by simp <;> omega)])⟩
  have HP8 : Hid (PB w1 (w.heap.size + 1 + 1) 0 0 0 (.slice none 0 0) (.slice none 0 0) 0 (.slice none 0 0) 0) := ⟨by
    rw [← hw1]
    repeat (first | exact heap_alloc_at _ _ _ (by simp) | rw [Below.heap_alloc _ _ _ (by simp <;> omega)])⟩
  go_enter Tryd.func56, Tryd.ntmps56
  go_upto_region 1 with fail
  clear hw1
  have c40 := HP4.out.c0
  have c41 := HP4.out.c1
  have c42 := HP4.out.c2
  have c43 := HP4.out.c3
  have c60 := HP6.out.c0
  have c61 := HP6.out.c1
  have HFIN : Hid (∀ w4 w5, Keeps [] w1 w4 → Keeps [w.heap.size + 1 + 1] w4 w5 → Keeps [] w w5) := fun w4 w5 h1 h2 => (HK1.out.new h1).then_ h2 (fun b hb hlt => by rw [List.mem_singleton] at hb; omega)
  have H8 : Hid (∀ w4, Keeps [] w1 w4 → PB w4 w.heap.size 0 wd D (.slice sa xs.length sc) (.slice none 0 0) 0 (.slice none 0 0) 0 ∧ PB w4 (w.heap.size + 1 + 1) 0 0 0 (.slice none 0 0) (.slice none 0 0) 0 (.slice none 0 0) 0) := fun w4 hk => ⟨HP4.out.keeps hk (by simp), HP8.out.keeps hk (by simp)⟩
  by_cases h0 : E = 0
  · subst h0
    have hR0 : (R != 0) = true := by have := HER.out rfl; simpa using this
    go_upto_region 7 with (first
      | (go_at_call 86; go_must (with_reducible refine (HRES.out _ HK1.out).mono ?_); rintro e w2 ⟨rv, rfl, hr2, hf2, hk2⟩; obtain ⟨ra, rc, rfl, hq2, hn2, hc2⟩ := hr2.rdd; have HQ2 := Lib.hid hq2; have HN2 := Lib.hid hn2; have HK2 := Lib.hid hk2; clear hr2 hq2 hn2 hf2 hk2)
      | (go_at_call 87; go_must (with_reducible refine (rsize_calls L (K : Int) _ rfl ra rc _ HN2.out (by omega) hc2 (by omega) HQ2).mono ?_); rw [HSZ.out, HRK.out]; rintro e w4 ⟨rfl, hk3⟩; have HK3 := Lib.hid hk3; clear hk3))
    have HKA : Hid (Keeps [] w1 w4) := HK2.out.new HK3.out
    obtain ⟨hp4, hp8⟩ := H8.out w4 HKA.out
    have HP8c := Lib.hid hp8
    clear c40 c41 c42 c43 c60 c61
    have d40 := hp4.c0
    have d41 := hp4.c1
    have d42 := hp4.c2
    have d43 := hp4.c3
    have d44 := hp4.c4
    have d45 := hp4.c5
    have d46 := hp4.c6
    have d47 := hp4.c7
    have d80 := hp8.c0
    have f80 := hp8.frozen 0
    have d81 := hp8.c1
    have f81 := hp8.frozen 1
    have d82 := hp8.c2
    have f82 := hp8.frozen 2
    have d83 := hp8.c3
    have f83 := hp8.frozen 3
    have d84 := hp8.c4
    have f84 := hp8.frozen 4
    have d85 := hp8.c5
    have f85 := hp8.frozen 5
    have d86 := hp8.c6
    have f86 := hp8.frozen 6
    have d87 := hp8.c7
    have f87 := hp8.frozen 7
    clear hp4 hp8
    go_wp2
    have HEND : Hid (PB ((((((((w4.setCell ⟨w.heap.size + 1 + 1, 0, none⟩ (.int .i64 0)).setCell ⟨w.heap.size + 1 + 1, 1, none⟩ (.int .i64 wd)).setCell ⟨w.heap.size + 1 + 1, 2, none⟩ (.int .i64 D)).setCell ⟨w.heap.size + 1 + 1, 3, none⟩ (.slice sa xs.length sc)).setCell ⟨w.heap.size + 1 + 1, 4, none⟩ (.slice none 0 0)).setCell ⟨w.heap.size + 1 + 1, 5, none⟩ (.int .i64 0)).setCell ⟨w.heap.size + 1 + 1, 6, none⟩ (.slice none 0 0)).setCell ⟨w.heap.size + 1 + 1, 7, none⟩ (.int .i64 0)) (w.heap.size + 1 + 1) 0 wd D (.slice sa xs.length sc) (.slice none 0 0) 0 (.slice none 0 0) 0) := HP8c.out.setA 0 wd D 0 0 (.slice sa xs.length sc) (.slice none 0 0) (.slice none 0 0)
    have HKE : Hid (Keeps [w.heap.size + 1 + 1] w4 ((((((((w4.setCell ⟨w.heap.size + 1 + 1, 0, none⟩ (.int .i64 0)).setCell ⟨w.heap.size + 1 + 1, 1, none⟩ (.int .i64 wd)).setCell ⟨w.heap.size + 1 + 1, 2, none⟩ (.int .i64 D)).setCell ⟨w.heap.size + 1 + 1, 3, none⟩ (.slice sa xs.length sc)).setCell ⟨w.heap.size + 1 + 1, 4, none⟩ (.slice none 0 0)).setCell ⟨w.heap.size + 1 + 1, 5, none⟩ (.int .i64 0)).setCell ⟨w.heap.size + 1 + 1, 6, none⟩ (.slice none 0 0)).setCell ⟨w.heap.size + 1 + 1, 7, none⟩ (.int .i64 0))) := ((((((((Keeps.refl _ w4).setCell (.inl (by simp)) _).setCell (.inl (by simp)) _).setCell (.inl (by simp)) _).setCell (.inl (by simp)) _).setCell (.inl (by simp)) _).setCell (.inl (by simp)) _).setCell (.inl (by simp)) _).setCell (.inl (by simp)) _
    refine bodyPost_ret (results_cell2 rfl _ _ (w.heap.size + 1 + 1) 61 _ (0, 0) _ rfl HEND.out.hp Tryd.underlying61 rfl info_plan) rfl ?_
    exact ⟨rfl, HFIN.out _ _ HKA.out HKE.out⟩
  · have hR0 : (E != 0) = true := by simpa using h0
    go_upto_region 4 with (first
      | (go_at_call 86; go_must (with_reducible refine (HRES.out _ HK1.out).mono ?_); rintro e w4 ⟨rv, rfl, hr2, hf2, hk2⟩; obtain ⟨ra, rc, rfl, hq2, hn2, hc2⟩ := hr2.rdd; have HKA := Lib.hid hk2; clear hr2 hq2 hn2 hf2 hk2))
    obtain ⟨hp4, hp8⟩ := H8.out w4 HKA.out
    have HP8c := Lib.hid hp8
    clear c40 c41 c42 c43 c60 c61
    have d40 := hp4.c0
    have d41 := hp4.c1
    have d42 := hp4.c2
    have d43 := hp4.c3
    have d44 := hp4.c4
    have d45 := hp4.c5
    have d46 := hp4.c6
    have d47 := hp4.c7
    have d80 := hp8.c0
    have f80 := hp8.frozen 0
    have d81 := hp8.c1
    have f81 := hp8.frozen 1
    have d82 := hp8.c2
    have f82 := hp8.frozen 2
    have d83 := hp8.c3
    have f83 := hp8.frozen 3
    have d84 := hp8.c4
    have f84 := hp8.frozen 4
    have d85 := hp8.c5
    have f85 := hp8.frozen 5
    have d86 := hp8.c6
    have f86 := hp8.frozen 6
    have d87 := hp8.c7
    have f87 := hp8.frozen 7
    clear hp4 hp8
    go_wp2
    have HEND : Hid (PB ((((((((w4.setCell ⟨w.heap.size + 1 + 1, 0, none⟩ (.int .i64 0)).setCell ⟨w.heap.size + 1 + 1, 1, none⟩ (.int .i64 wd)).setCell ⟨w.heap.size + 1 + 1, 2, none⟩ (.int .i64 D)).setCell ⟨w.heap.size + 1 + 1, 3, none⟩ (.slice sa xs.length sc)).setCell ⟨w.heap.size + 1 + 1, 4, none⟩ (.slice none 0 0)).setCell ⟨w.heap.size + 1 + 1, 5, none⟩ (.int .i64 0)).setCell ⟨w.heap.size + 1 + 1, 6, none⟩ (.slice none 0 0)).setCell ⟨w.heap.size + 1 + 1, 7, none⟩ (.int .i64 0)) (w.heap.size + 1 + 1) 0 wd D (.slice sa xs.length sc) (.slice none 0 0) 0 (.slice none 0 0) 0) := HP8c.out.setA 0 wd D 0 0 (.slice sa xs.length sc) (.slice none 0 0) (.slice none 0 0)
    have HKE : Hid (Keeps [w.heap.size + 1 + 1] w4 ((((((((w4.setCell ⟨w.heap.size + 1 + 1, 0, none⟩ (.int .i64 0)).setCell ⟨w.heap.size + 1 + 1, 1, none⟩ (.int .i64 wd)).setCell ⟨w.heap.size + 1 + 1, 2, none⟩ (.int .i64 D)).setCell ⟨w.heap.size + 1 + 1, 3, none⟩ (.slice sa xs.length sc)).setCell ⟨w.heap.size + 1 + 1, 4, none⟩ (.slice none 0 0)).setCell ⟨w.heap.size + 1 + 1, 5, none⟩ (.int .i64 0)).setCell ⟨w.heap.size + 1 + 1, 6, none⟩ (.slice none 0 0)).setCell ⟨w.heap.size + 1 + 1, 7, none⟩ (.int .i64 0))) := ((((((((Keeps.refl _ w4).setCell (.inl (by simp)) _).setCell (.inl (by simp)) _).setCell (.inl (by simp)) _).setCell (.inl (by simp)) _).setCell (.inl (by simp)) _).setCell (.inl (by simp)) _).setCell (.inl (by simp)) _).setCell (.inl (by simp)) _
    refine bodyPost_ret (results_cell2 rfl _ _ (w.heap.size + 1 + 1) 61 _ (0, 0) _ rfl HEND.out.hp Tryd.underlying61 rfl info_plan) rfl ?_
    exact ⟨rfl, HFIN.out _ _ HKA.out HKE.out⟩
end Go.Proofs.YtofkiimaoahfjaaDoor

set_option maxRecDepth 100000
set_option linter.unusedVariables false
set_option linter.unusedSimpArgs false
namespace Go.Proofs.YtofkiimaoahfjaaDoor
open Go.RowKit

theorem Keeps.set8 {F : List Nat} {w w1 : World} {g : Nat} (h : Keeps F w w1) (hg : g ∈ F ∨ w.heap.size ≤ g) (u0 u1 u2 u3 u4 u5 u6 u7 : Value) : Keeps F w ((((((((w1.setCell ⟨g, 0, none⟩ u0).setCell ⟨g, 1, none⟩ u1).setCell ⟨g, 2, none⟩ u2).setCell ⟨g, 3, none⟩ u3).setCell ⟨g, 4, none⟩ u4).setCell ⟨g, 5, none⟩ u5).setCell ⟨g, 6, none⟩ u6).setCell ⟨g, 7, none⟩ u7) :=
  (Keeps.setCell (Keeps.setCell (Keeps.setCell (Keeps.setCell (Keeps.setCell (Keeps.setCell (Keeps.setCell (Keeps.setCell h (a := ⟨g, 0, none⟩) hg u0) (a := ⟨g, 1, none⟩) hg u1) (a := ⟨g, 2, none⟩) hg u2) (a := ⟨g, 3, none⟩) hg u3) (a := ⟨g, 4, none⟩) hg u4) (a := ⟨g, 5, none⟩) hg u5) (a := ⟨g, 6, none⟩) hg u6) (a := ⟨g, 7, none⟩) hg u7)
/-- A plan at g whose samples begin with x0. -/
structure AlikeAt (w : World) (g : Nat) (x0 : Int) : Prop where
  ex : ∃ b n c, w.cell? ⟨g, 3, none⟩ = some (.slice (some ⟨b, 0, none⟩) n c) ∧ 0 < n ∧ w.cell? ⟨b, 0, none⟩ = some (.int .i64 x0)
theorem snalike_calls (x : Int) (g : Nat) (x0 : Int) (w : World) (hc : Hid (AlikeAt w g x0)) :
    Calls Tryd.prog 54 #[.int .i64 x, .pointer (some ⟨g, 0, none⟩)] w fun e w' => e = .returned (.bool (!decide (x = x0))) ∧ w' = w := by
  obtain ⟨b, n, c, h1, h2, h3⟩ := hc.out.ex
  have h2' : (0 : Int) < (n : Int) := by omega
  by_cases h : x = x0
  · subst h
    have hne : (x != x) = false := by simp
    go_enter Tryd.func54, Tryd.ntmps54
    go_wp2
    go_ret
    refine ⟨?_, rfl⟩
    simp
  · have hne : (x != x0) = true := by simpa using h
    have hd : decide (x = x0) = false := decide_eq_false h
    rw [hd]
    clear h hd
    go_enter Tryd.func54, Tryd.ntmps54
    go_wp2
    go_ret
    exact ⟨rfl, rfl⟩

set_option maxHeartbeats 1000000 in
theorem sindex_alike (xs : List Int) (m : Nat) (hm : m = xs.length) (a : Option Addr) (c : Nat) (g : Nat) (x0 : Int) (w : World) (hc : Hid (AlikeAt w g x0)) (hx : Hid (Rd w .i64 a xs)) :
    Calls Tryd.prog 84 #[.slice a m c, .func (.func 54) #[] #[.pointer (some ⟨g, 0, none⟩)]] w fun e w' => e = .returned (.int .i64 (idxOf (fun x => decide (x = x0)) xs)) ∧ w' = w := by
  subst hm
  obtain ⟨p, hp⟩ : ∃ p : Int → Bool, (fun x => decide (x = x0)) = p := ⟨_, rfl⟩
  have HPX : Hid (∀ x, decide (x = x0) = p x) := fun x => by rw [← hp]
  rw [hp]
  clear hp
  have hxl := hx.out.small
  go_enter Tryd.func84, Tryd.ntmps84
  go_wp2_with fail
  go_loopg [5, 8] (xs.length + 1) (fun q v5 v8 w2 => w2 = w ∧ ∃ (i : Nat), v8 = .int .i64 i ∧ i ≤ xs.length ∧ Hid ((xs.drop i).all p = xs.all p) ∧ Hid (∀ j (h : j < xs.length), j < i → p xs[j] = true) ∧ Hid (i + q = xs.length + 1))
  case atStart => exact ⟨rfl, 0, rfl, by omega, (show _ = _ from by simp), (fun j h h0 => by omega), (show _ = _ from by omega)⟩
  case round =>
    obtain ⟨rfl, i, rfl, hi, HT, HF, HQ⟩ := hrel
    by_cases hlt : i < xs.length
    · obtain ⟨b1, o1, rfl, hc1⟩ := hx.out.cellAt i hlt
      obtain ⟨x, hx1⟩ : ∃ x, xs[i] = x := ⟨_, rfl⟩
      rw [hx1] at hc1
      have HS := Lib.hid (all_step p xs i hlt x hx1 HT.out)
      have HN := Lib.hid (all_no p xs i hlt x hx1 HT.out)
      have HX := Lib.hid hx1
      clear hx1
      cases hb : p x
      · have HB := Lib.hid hb
        clear hb
        go_wp2_with (first
          | (go_at_call 54; go_must (with_reducible refine (snalike_calls x g x0 _ hc).mono ?_); rw [HPX.out, HB.out]; rintro e w1 ⟨rfl, rfl⟩))
        go_ret
        refine ⟨?_, rfl⟩
        rw [idx_at p xs i hlt (by rw [HX.out, HB.out]) HF.out]
        rfl
      · have HB := Lib.hid hb
        clear hb
        go_wp2_with (first
          | (go_at_call 54; go_must (with_reducible refine (snalike_calls x g x0 _ hc).mono ?_); rw [HPX.out, HB.out]; rintro e w1 ⟨rfl, rfl⟩))
        go_roundg (xs.length - i)
        case measure => have := HQ.out; omega
        case rel =>
          refine ⟨rfl, i + 1, by go_num, by omega, HS.out HB.out, (fun j h hj => ?_), (show _ = _ from by omega)⟩
          rcases Nat.lt_or_ge j i with h1 | h1
          · exact HF.out j h h1
          · obtain rfl : j = i := by omega
            rw [HX.out, HB.out]
    · obtain rfl : i = xs.length := by omega
      go_wp2
      go_ret
      refine ⟨?_, rfl⟩
      rw [idx_all p xs (all_end p xs HT.out)]
      rfl

theorem scontains_alike (xs : List Int) (m : Nat) (hm : m = xs.length) (a : Option Addr) (c : Nat) (g : Nat) (x0 : Int) (w : World) (hc : Hid (AlikeAt w g x0)) (hx : Hid (Rd w .i64 a xs)) :
    Calls Tryd.prog 50 #[.slice a m c, .func (.func 54) #[] #[.pointer (some ⟨g, 0, none⟩)]] w fun e w' => e = .returned (.bool (!xs.all (fun x => decide (x = x0)))) ∧ w' = w := by
  subst hm
  have HI := Lib.hid (sindex_alike xs _ rfl a c g x0 w hc hx)
  obtain ⟨p, hp⟩ : ∃ p : Int → Bool, (fun x => decide (x = x0)) = p := ⟨_, rfl⟩
  rw [hp] at HI ⊢
  clear hp
  go_enter Tryd.func50, Tryd.ntmps50
  cases hb : xs.all p
  · have HB := Lib.hid hb
    clear hb
    have h0 := idx_no p xs HB.out
    generalize hr : idxOf p xs = r at h0
    have HR := Lib.hid hr
    clear hr
    go_wp2_with (first
      | (go_at_call 84; go_must (with_reducible refine HI.out.mono ?_); rw [HR.out]; rintro e w1 ⟨rfl, rfl⟩))
    go_ret
    exact ⟨rfl, rfl⟩
  · have HB := Lib.hid hb
    clear hb
    go_wp2_with (first
      | (go_at_call 84; go_must (with_reducible refine HI.out.mono ?_); rw [idx_all p xs HB.out]; rintro e w1 ⟨rfl, rfl⟩))
    go_ret
    exact ⟨rfl, rfl⟩


set_option maxHeartbeats 2000000 in
theorem stake_no (kd wd D sh sz : Int) (sv cv rv : Value) (ok : Bool) (g : Nat) (kd0 wd0 D0 sh0 sz0 : Int) (sv0 cv0 rv0 : Value) (w : World) (hP : Hid (PB w g kd0 wd0 D0 sv0 cv0 sh0 rv0 sz0)) (h : ok = false ∨ (0 ≤ sz0 ∧ sz0 ≤ sz)) :
    Calls Tryd.prog 53 #[.agg #[.int .i64 kd, .int .i64 wd, .int .i64 D, sv, cv, .int .i64 sh, rv, .int .i64 sz], .bool ok, .pointer (some ⟨g, 0, none⟩)] w fun e w' => e = .returned (.tuple #[]) ∧ Keeps [] w w' := by
  have HK : Hid (Keeps [] w (w.alloc (.cells #[.int .i64 kd, .int .i64 wd, .int .i64 D, sv, cv, .int .i64 sh, rv, .int .i64 sz] 61))) := (Keeps.refl _ _).alloc _
  have c7 := (hP.out.keeps HK.out (by simp)).c7
  go_enter Tryd.func53, Tryd.ntmps53
  cases ok
  · go_wp2
    go_end0
    exact ⟨rfl, HK.out⟩
  · obtain ⟨h1, h2⟩ : 0 ≤ sz0 ∧ sz0 ≤ sz := by simpa using h
    have e1 : decide (sz0 < 0) = false := decide_eq_false (by omega)
    have e2 : decide (sz < sz0) = false := decide_eq_false (by omega)
    clear h
    go_wp2
    go_end0
    exact ⟨rfl, HK.out⟩

set_option maxHeartbeats 4000000 in
theorem stake_yes (kd wd D sh sz : Int) (sv cv rv : Value) (g : Nat) (kd0 wd0 D0 sh0 sz0 : Int) (sv0 cv0 rv0 : Value) (w : World) (hP : Hid (PB w g kd0 wd0 D0 sv0 cv0 sh0 rv0 sz0)) (h : sz0 < 0 ∨ sz < sz0)
    (hsv : ∃ a n c, sv = .slice a n c) (hcv : ∃ a n c, cv = .slice a n c) (hrv : ∃ a n c, rv = .slice a n c) :
    Calls Tryd.prog 53 #[.agg #[.int .i64 kd, .int .i64 wd, .int .i64 D, sv, cv, .int .i64 sh, rv, .int .i64 sz], .bool true, .pointer (some ⟨g, 0, none⟩)] w fun e w' => e = .returned (.tuple #[]) ∧ PB w' g kd wd D sv cv sh rv sz ∧ Keeps [g] w w' := by
  obtain ⟨sa, sn, sc, rfl⟩ := hsv
  obtain ⟨ca, cn, cc, rfl⟩ := hcv
  obtain ⟨ra, rn, rc, rfl⟩ := hrv
  have HK : Hid (Keeps [] w (w.alloc (.cells #[.int .i64 kd, .int .i64 wd, .int .i64 D, .slice sa sn sc, .slice ca cn cc, .int .i64 sh, .slice ra rn rc, .int .i64 sz] 61))) := (Keeps.refl _ _).alloc _
  have HX : Hid (PB (w.alloc (.cells #[.int .i64 kd, .int .i64 wd, .int .i64 D, .slice sa sn sc, .slice ca cn cc, .int .i64 sh, .slice ra rn rc, .int .i64 sz] 61)) w.heap.size kd wd D (.slice sa sn sc) (.slice ca cn cc) sh (.slice ra rn rc) sz) := ⟨heap_alloc_new w _⟩
  have HP1 := Lib.hid (hP.out.keeps HK.out (by simp))
  have HG := Lib.hid hP.out.lt
  go_enter Tryd.func53, Tryd.ntmps53
  go_upto_region 1 with fail
  generalize (w.alloc (.cells #[.int .i64 kd, .int .i64 wd, .int .i64 D, .slice sa sn sc, .slice ca cn cc, .int .i64 sh, .slice ra rn rc, .int .i64 sz] 61)) = w1 at *
  have c30 := HX.out.c0
  have c20 := HP1.out.c0
  have f20 := HP1.out.frozen 0
  have c31 := HX.out.c1
  have c21 := HP1.out.c1
  have f21 := HP1.out.frozen 1
  have c32 := HX.out.c2
  have c22 := HP1.out.c2
  have f22 := HP1.out.frozen 2
  have c33 := HX.out.c3
  have c23 := HP1.out.c3
  have f23 := HP1.out.frozen 3
  have c34 := HX.out.c4
  have c24 := HP1.out.c4
  have f24 := HP1.out.frozen 4
  have c35 := HX.out.c5
  have c25 := HP1.out.c5
  have f25 := HP1.out.frozen 5
  have c36 := HX.out.c6
  have c26 := HP1.out.c6
  have f26 := HP1.out.frozen 6
  have c37 := HX.out.c7
  have c27 := HP1.out.c7
  have f27 := HP1.out.frozen 7
  by_cases h1 : sz0 < 0
  · go_wp2
    go_end0
    exact ⟨rfl, HP1.out.setA _ _ _ _ _ _ _ _, (HK.out.mono (G := [g]) (fun k hk _ => by cases hk)).set8 (.inl (by simp)) _ _ _ _ _ _ _ _⟩
  · have h2 : sz < sz0 := by omega
    clear h
    go_wp2
    go_end0
    exact ⟨rfl, HP1.out.setA _ _ _ _ _ _ _ _, (HK.out.mono (G := [g]) (fun k hk _ => by cases hk)).set8 (.inl (by simp)) _ _ _ _ _ _ _ _⟩
end Go.Proofs.YtofkiimaoahfjaaDoor
