/-
  Layer 9 (subframe): the plans that choose compares, and the four blocks of its walk.
-/
import Derived.Test.YtofkiimaoahfjaaDoorZSub4
set_option maxRecDepth 100000
set_option linter.unusedVariables false
set_option linter.unusedSimpArgs false
namespace Go.Proofs.YtofkiimaoahfjaaDoor
open Go.RowKit

/-- A plan, of what is compared and written. -/
structure Pl where
  kd : Int
  cs : List Int
  sh : Int
  L : List Int
  sz : Int
/-- The better of two plans. -/
def takeP (b x : Pl) (ok : Bool) : Pl := if ok = true ∧ (b.sz < 0 ∨ x.sz < b.sz) then x else b
/-- A plan with a model. -/
def modP (xs cs : List Int) (sh D kind head : Int) : Pl := ⟨kind, cs, sh, leftL cs sh xs, head + cs.length * D + rsizeN (leftL cs sh xs) cs.length⟩
def modOk (xs cs : List Int) (sh : Int) : Bool := decide (resE cs sh xs = 0 ∧ rchkE (leftL cs sh xs) cs.length = 0)
def alikeB (xs : List Int) : Bool := xs.all (fun x => decide (x = xs.headD 0))
def c0P (xs : List Int) (D : Int) : Pl := takeP ⟨0, [], 0, [], -1⟩ ⟨0, [], 0, [], D⟩ (alikeB xs)
def stepF (xs : List Int) (D : Int) (b : Pl) (c : Nat) : Pl := takeP b (modP xs (fixL c) 0 D (8 + c) 0) (modOk xs (fixL c) 0)
def stepQ (xs : List Int) (D : Int) (b : Pl) (c : Nat) : Pl := if c < xs.length then takeP b (modP xs (srcL xs c) (srcS xs c) D (31 + c) (9 + 12 * c)) (modOk xs (srcL xs c) (srcS xs c)) else b
def fixP (xs : List Int) (D : Int) : Pl := (List.range (min 4 xs.length + 1)).foldl (stepF xs D) (c0P xs D)
def qP (xs : List Int) (D : Int) : Pl := [2, 4, 8].foldl (stepQ xs D) (fixP xs D)
/-- The plan that is chosen. -/
def chooseP (xs : List Int) (D : Int) : Pl := takeP (qP xs D) ⟨1, [], 0, [], xs.length * D⟩ true
theorem fold_range (xs : List Int) (D : Int) (b : Pl) (i : Nat) : (List.range (i + 1)).foldl (stepF xs D) b = stepF xs D ((List.range i).foldl (stepF xs D) b) i := by
  rw [List.range_succ, List.foldl_append]
  rfl
theorem take_pos (b x : Pl) (hx : 0 ≤ x.sz) : 0 ≤ (takeP b x true).sz := by
  unfold takeP
  split
  · exact hx
  · rename_i h
    have : ¬ (b.sz < 0 ∨ x.sz < b.sz) := fun h1 => h ⟨rfl, h1⟩
    omega

/-- Memory that is none of the four blocks. -/
def FarC (w0 : World) (g4 g6 g9 g12 : Nat) (v : Value) : Prop := ∀ j, j ∈ fp v → w0.heap.size ≤ j ∧ j ≠ g4 ∧ j ≠ g6 ∧ j ≠ g9 ∧ j ≠ g12
/-- The best plan's block. -/
def BestAt (w0 w : World) (g4 g6 g9 g12 : Nat) (k D : Int) (sv : Value) (b : Pl) : Prop :=
  ∃ (k' D' : Int) (sv' cv rv : Value), PB w g9 b.kd k' D' sv' cv b.sh rv b.sz ∧ Row w .i64 3 cv b.cs ∧ Row w .i64 3 rv b.L ∧ FarC w0 g4 g6 g9 g12 cv ∧ FarC w0 g4 g6 g9 g12 rv ∧ (b.sz < 0 ∨ (k' = k ∧ D' = D ∧ sv' = sv))
/-- What choose has made: its result's block, the plan at hand, the best one, the one without a model. -/
structure ChW (w0 w : World) (g4 g6 g9 g12 : Nat) (k D : Int) (sv : Value) (xs : List Int) (xk xz : Int) (b : Pl) : Prop where
  hk : Keeps [] w0 w
  l0 : w0.heap.size ≤ g4
  l1 : g4 < g6
  l2 : g6 < g9
  l3 : g9 < g12
  p4 : PB w g4 0 0 0 (.slice none 0 0) (.slice none 0 0) 0 (.slice none 0 0) 0
  p6 : PB w g6 0 k D sv (.slice none 0 0) 0 (.slice none 0 0) 0
  p12 : PB w g12 xk k D sv (.slice none 0 0) 0 (.slice none 0 0) xz
  row : Row w .i64 3 sv xs
  far : FarC w0 g4 g6 g9 g12 sv
  bst : BestAt w0 w g4 g6 g9 g12 k D sv b
namespace ChW
variable {w0 w w' : World} {g4 g6 g9 g12 : Nat} {k D xk xz : Int} {sv : Value} {xs : List Int} {b : Pl}
theorem new (h : ChW w0 w g4 g6 g9 g12 k D sv xs xk xz b) (hn : Keeps [] w w') : ChW w0 w' g4 g6 g9 g12 k D sv xs xk xz b := by
  obtain ⟨k', D', sv', cv, rv, h1, h2, h3, h4, h5, h6⟩ := h.bst
  exact ⟨h.hk.new hn, h.l0, h.l1, h.l2, h.l3, h.p4.keeps hn (by simp), h.p6.keeps hn (by simp), h.p12.keeps hn (by simp), h.row.keeps hn (fun _ _ => by simp), h.far,
    ⟨k', D', sv', cv, rv, h1.keeps hn (by simp), h2.keeps hn (fun _ _ => by simp), h3.keeps hn (fun _ _ => by simp), h4, h5, h6⟩⟩
theorem fresh (h : ChW w0 w g4 g6 g9 g12 k D sv xs xk xz b) (v : Value) (hv : ∀ j, j ∈ fp v → w.heap.size ≤ j) : FarC w0 g4 g6 g9 g12 v := by
  intro j hj
  have h1 := hv j hj
  have h2 := h.p12.lt
  have h3 := h.hk.size
  have := h.l1
  have := h.l2
  have := h.l3
  omega
theorem setx (h : ChW w0 w g4 g6 g9 g12 k D sv xs xk xz b) (xk' xz' : Int) : ChW w0 ((w.setCell ⟨g12, 0, none⟩ (.int .i64 xk')).setCell ⟨g12, 7, none⟩ (.int .i64 xz')).drew g4 g6 g9 g12 k D sv xs xk' xz' b := by
  obtain ⟨k', D', sv', cv, rv, h1, h2, h3, h4, h5, h6⟩ := h.bst
  have hl := h.l0
  have hl1 := h.l1
  have hl2 := h.l2
  have hl3 := h.l3
  have hn : Keeps [g12] w ((w.setCell ⟨g12, 0, none⟩ (.int .i64 xk')).setCell ⟨g12, 7, none⟩ (.int .i64 xz')).drew := (((Keeps.refl _ w).setCell (.inl (by simp)) _).setCell (.inl (by simp)) _).drew
  refine ⟨h.hk.then_ hn (fun j hj hlt => by rw [List.mem_singleton] at hj; omega), hl, hl1, hl2, hl3, h.p4.keeps hn (by simp; omega), h.p6.keeps hn (by simp; omega), ⟨((h.p12.set0 xk').set7 xz').hp⟩, h.row.keeps hn (fun j hj h' => (h.far j hj).2.2.2.2 (List.mem_singleton.1 h')), h.far, ?_⟩
  exact ⟨k', D', sv', cv, rv, h1.keeps hn (by simp; omega), h2.keeps hn (fun j hj h => (h4 j hj).2.2.2.2 (List.mem_singleton.1 h)), h3.keeps hn (fun j hj h => (h5 j hj).2.2.2.2 (List.mem_singleton.1 h)), h4, h5, h6⟩
theorem take (h : Hid (ChW w0 w g4 g6 g9 g12 k D sv xs xk xz b)) (x : Pl) (cv rv : Value) (ok : Bool) (hc : ok = true → Row w .i64 3 cv x.cs ∧ Row w .i64 3 rv x.L ∧ FarC w0 g4 g6 g9 g12 cv ∧ FarC w0 g4 g6 g9 g12 rv) :
    Calls Tryd.prog 53 #[.agg #[.int .i64 x.kd, .int .i64 k, .int .i64 D, sv, cv, .int .i64 x.sh, rv, .int .i64 x.sz], .bool ok, .pointer (some ⟨g9, 0, none⟩)] w fun e w' => e = .returned (.tuple #[]) ∧ ChW w0 w' g4 g6 g9 g12 k D sv xs xk xz (takeP b x ok) := by
  obtain ⟨k', D', sv', cv', rv', h1, h2, h3, h4, h5, h6⟩ := h.out.bst
  by_cases hy : ok = true ∧ (b.sz < 0 ∨ x.sz < b.sz)
  · obtain ⟨rfl, hy⟩ := hy
    obtain ⟨r1, r2, f1, f2⟩ := hc rfl
    have e : takeP b x true = x := if_pos ⟨rfl, hy⟩
    rw [e]
    have hs : ∀ {v : Value} {l : List Int}, Row w .i64 3 v l → ∃ a n c, v = .slice a n c := fun hr => by obtain ⟨a, c, e1⟩ := hr.slice; exact ⟨a, _, c, e1⟩
    refine (stake_yes x.kd k D x.sh x.sz sv cv rv g9 b.kd k' D' b.sh b.sz sv' cv' rv' w (Lib.hid h1) hy (hs h.out.row) (hs r1) (hs r2)).mono ?_
    rintro e w1 ⟨rfl, hp, hn⟩
    have hl := h.out.l0
    have hl1 := h.out.l1
    have hl2 := h.out.l2
    have hl3 := h.out.l3
    refine ⟨rfl, h.out.hk.then_ hn (fun j hj hlt => by rw [List.mem_singleton] at hj; omega), hl, hl1, hl2, hl3, h.out.p4.keeps hn (by simp; omega), h.out.p6.keeps hn (by simp; omega), h.out.p12.keeps hn (by simp; omega), h.out.row.keeps hn (fun j hj h' => (h.out.far j hj).2.2.2.1 (List.mem_singleton.1 h')), h.out.far, ?_⟩
    exact ⟨k, D, sv, cv, rv, hp, r1.keeps hn (fun j hj h' => (f1 j hj).2.2.2.1 (List.mem_singleton.1 h')), r2.keeps hn (fun j hj h' => (f2 j hj).2.2.2.1 (List.mem_singleton.1 h')), f1, f2, .inr ⟨rfl, rfl, rfl⟩⟩
  · have e : takeP b x ok = b := if_neg hy
    rw [e]
    refine (stake_no x.kd k D x.sh x.sz sv cv rv ok g9 b.kd k' D' b.sh b.sz sv' cv' rv' w (Lib.hid h1) ?_).mono ?_
    · cases ok
      · exact .inl rfl
      · have h7 : ¬ (b.sz < 0 ∨ x.sz < b.sz) := fun h1 => hy ⟨rfl, h1⟩
        exact .inr (by omega)
    · rintro e w1 ⟨rfl, hn⟩
      exact ⟨rfl, h.out.new hn⟩
theorem alike (h : ChW w0 w g4 g6 g9 g12 k D sv xs xk xz b) (hn : 0 < xs.length) : AlikeAt w g6 (xs.headD 0) := by
  obtain ⟨g, c, rfl⟩ := h.row.form hn
  refine ⟨g, xs.length, c, h.p6.c3, hn, ?_⟩
  have := h.row.cell 0 hn
  rw [this]
  cases xs with
  | nil => cases hn
  | cons x l => rfl
theorem cs (h : ChW w0 w g4 g6 g9 g12 k D sv xs xk xz b) : w.cell? ⟨g6, 3, none⟩ = some sv ∧ w.cell? ⟨g12, 0, none⟩ = some (.int .i64 xk) ∧ w.cell? ⟨g12, 1, none⟩ = some (.int .i64 k) ∧ w.cell? ⟨g12, 2, none⟩ = some (.int .i64 D) ∧ w.cell? ⟨g12, 3, none⟩ = some sv ∧
    w.cell? ⟨g12, 4, none⟩ = some (.slice none 0 0) ∧ w.cell? ⟨g12, 5, none⟩ = some (.int .i64 0) ∧ w.cell? ⟨g12, 6, none⟩ = some (.slice none 0 0) ∧ w.cell? ⟨g12, 7, none⟩ = some (.int .i64 xz) :=
  ⟨h.p6.c3, h.p12.c0, h.p12.c1, h.p12.c2, h.p12.c3, h.p12.c4, h.p12.c5, h.p12.c6, h.p12.c7⟩
/-- A plan with a model, out of the plan at hand. -/
theorem model {sa : Option Addr} {sn sc : Nat} (h : Hid (ChW w0 w g4 g6 g9 g12 k D (.slice sa sn sc) xs xk xz b)) (cs : List Int) (sh kind head : Int) (cv : Value) (hc : Hid (Row w .i64 3 cv cs)) (hcf : Hid (FarC w0 g4 g6 g9 g12 cv)) (hl : xs.length ≤ 512) (hD : 0 ≤ D ∧ D ≤ 64) (hh : 0 ≤ head ∧ head ≤ 1000) (hcl : cs.length ≤ 1000000) :
    Calls Tryd.prog 56 #[.agg #[.int .i64 0, .int .i64 k, .int .i64 D, .slice sa sn sc, .slice none 0 0, .int .i64 0, .slice none 0 0, .int .i64 0], .int .i64 kind, .agg #[cv, .int .i64 sh], .int .i64 head] w fun e w' =>
      ∃ (x : Pl) (cv' rv : Value), e = .returned (.tuple #[.agg #[.int .i64 x.kd, .int .i64 k, .int .i64 D, .slice sa sn sc, cv', .int .i64 x.sh, rv, .int .i64 x.sz], .bool (modOk xs cs sh)]) ∧ ChW w0 w' g4 g6 g9 g12 k D (.slice sa sn sc) xs xk xz b ∧
        takeP b x (modOk xs cs sh) = takeP b (modP xs cs sh D kind head) (modOk xs cs sh) ∧ (modOk xs cs sh = true → Row w' .i64 3 cv' x.cs ∧ Row w' .i64 3 rv x.L ∧ FarC w0 g4 g6 g9 g12 cv' ∧ FarC w0 g4 g6 g9 g12 rv) := by
  obtain ⟨sa', sc', e1, hx, hsn, hsc⟩ := h.out.row.rdd
  simp only [Value.slice.injEq] at e1
  obtain ⟨rfl, rfl, rfl⟩ := e1
  obtain ⟨ca, cc, rfl, hq, hcn, hcc⟩ := hc.out.rdd
  by_cases ho : resE cs sh xs = 0 ∧ rchkE (leftL cs sh xs) cs.length = 0
  · have e2 : modOk xs cs sh = true := decide_eq_true ho
    rw [e2]
    refine (smodel_ok xs cs k D kind sh head sa ca _ sc _ cc w rfl rfl hsc hl hD hh ho.1 ho.2 (Lib.hid hx) (Lib.hid hq)).mono ?_
    rintro e w' ⟨rv, rfl, hr, hf, hn⟩
    exact ⟨modP xs cs sh D kind head, _, rv, rfl, h.out.new hn, rfl, fun _ => ⟨hc.out.keeps hn (fun _ _ => by simp), hr, hcf.out, h.out.fresh rv hf⟩⟩
  · have e2 : modOk xs cs sh = false := decide_eq_false ho
    rw [e2]
    refine (smodel_no xs cs k D kind sh head sa ca _ sc _ cc w rfl rfl hsc hl ho (Lib.hid hx) (Lib.hid hq) hcl).mono ?_
    rintro e w' ⟨rfl, hn⟩
    exact ⟨⟨0, [], 0, [], 0⟩, .slice none 0 0, .slice none 0 0, rfl, h.out.new hn, rfl, fun h => by cases h⟩
end ChW
end Go.Proofs.YtofkiimaoahfjaaDoor
