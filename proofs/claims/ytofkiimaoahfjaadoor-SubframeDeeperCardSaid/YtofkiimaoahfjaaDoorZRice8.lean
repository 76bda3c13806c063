/-
  Layer 6 (rice): that choose always finds a plan; what Write puts.
  A Writer that is written to while other blocks stand as they stood.
  Layer 6 (rice): Size.
  Layer 6 (rice): what Write wants: the parts' numbers, the blocks that stand while bits are put.
-/
import Derived.Test.YtofkiimaoahfjaaDoorZRice7
set_option maxRecDepth 100000
set_option linter.unusedVariables false
set_option linter.unusedSimpArgs false
namespace Go.Proofs.YtofkiimaoahfjaaDoor
open Go.RowKit Go.Proofs.YtofkiimaoahfjaaDoor.Pure

theorem loopK_mono (F : List Int) (n : Nat) (h : (loopK F n).2 = true) : (loopK F (n + 1)).2 = true := by
  rw [loopK_succ]
  unfold stepK
  split
  · rfl
  · exact h
theorem loopK_le (F : List Int) (n k : Nat) (h : (loopK F n).2 = true) : (loopK F (n + k)).2 = true := by
  induction k with
  | zero => exact h
  | succ k ih => exact loopK_mono F (n + k) ih
theorem loopK_ok (F : List Int) (k n : Nat) (hk : k < n) (hf : farB k F = false) : (loopK F n).2 = true := by
  obtain ⟨d, rfl⟩ : ∃ d, n = k + 1 + d := ⟨n - (k + 1), by omega⟩
  apply loopK_le
  rw [loopK_succ]
  unfold stepK
  by_cases h : (loopK F k).2 = true
  · split
    · rfl
    · exact h
  · rw [if_pos ⟨hf, .inl (by simpa using h)⟩]
theorem far30 (F : List Int) (h : ∀ f ∈ F, 0 ≤ f ∧ f ≤ 4294967296) : farB 30 F = false := by
  unfold farB
  rw [List.any_eq_false]
  intro f hf
  obtain ⟨a, b⟩ := h f hf
  have : f / 2 ^ 30 ≤ 4 := by
    have e : (2 : Int) ^ 30 = 1073741824 := by decide
    rw [e]; omega
  simp
  omega
theorem bestS_ok (c : List Int) (hin : ∀ n ∈ c, -2147483648 < n ∧ n < 2147483648) : (bestS c 1).2 = true := by
  have h := loopK_ok (c.map foldS) 30 (escS 1) (by decide) (far30 _ (folds_range c hin))
  unfold bestS
  split
  · rfl
  · exact h
theorem candGo_ok (ps : List (List Int)) (hin : ∀ c ∈ ps, ∀ n ∈ c, -2147483648 < n ∧ n < 2147483648) : ∀ acc s, (candGo 1 ps acc s).2.2 = true := by
  induction ps with
  | nil => intro acc s; rfl
  | cons c ps ih =>
    intro acc s
    unfold candGo
    rw [if_pos (bestS_ok c (hin c (by simp)))]
    exact ih (fun c hc => hin c (by simp [hc])) _ _
theorem candGo_ge (m : Nat) (hm : m ≤ 1) (ps : List (List Int)) (hl : ∀ c ∈ ps, c.length ≤ 600) (hin : ∀ c ∈ ps, ∀ n ∈ c, -2147483648 < n ∧ n < 2147483648) : ∀ acc s, 0 ≤ s → 0 ≤ (candGo m ps acc s).2.1 := by
  induction ps with
  | nil => intro acc s h; exact h
  | cons c ps ih =>
    intro acc s h
    unfold candGo
    split
    · refine ih (fun c hc => hl c (by simp [hc])) (fun c hc => hin c (by simp [hc])) _ _ ?_
      have := (bestS_range c m hm (hl c (by simp)) (hin c (by simp))).1
      omega
    · exact h

/-- A state of choose that holds a plan. -/
def Plan (L : List Int) (order : Nat) (st : PS) : Prop := ∃ m p : Nat, st.1 = m ∧ st.2.1 = p ∧ m ≤ 1 ∧ p ≤ 4 ∧ fitsB (L.length + order) order p = true ∧ candGo m (partsS L order p) [] 6 = (st.2.2.1, st.2.2.2, true) ∧ 0 ≤ st.2.2.2
section
variable {L : List Int} {order : Nat}
theorem stepM_plan (hl : L.length ≤ 600) (hin : ∀ n ∈ L, -2147483648 < n ∧ n < 2147483648) (p m : Nat) (hp : p ≤ 4) (hm : m ≤ 1) (hf : fitsB (L.length + order) order p = true) (st : PS) (h : Plan L order st ∨ st = (0, 0, [], -1)) :
    (Plan L order (stepM L order p st m) ∨ stepM L order p st m = (0, 0, [], -1)) ∧ ((candGo m (partsS L order p) [] 6).2.2 = true → Plan L order (stepM L order p st m)) := by
  have hmem := partsS_mem L order p
  have hge := candGo_ge m hm (partsS L order p) (fun c hc => by have := (hmem c hc).2; omega) (fun c hc n hn => hin n ((hmem c hc).1 n hn)) [] 6 (by omega)
  have hplan : (candGo m (partsS L order p) [] 6).2.2 = true → Plan L order ((m : Int), (p : Int), (candGo m (partsS L order p) [] 6).1, (candGo m (partsS L order p) [] 6).2.1) := by
    intro h1
    refine ⟨m, p, rfl, rfl, hm, hp, hf, ?_, hge⟩
    rw [← h1]
  unfold stepM
  split
  · rename_i h1
    exact ⟨.inl (hplan h1.1), fun _ => hplan h1.1⟩
  · rename_i h1
    refine ⟨h, fun h2 => ?_⟩
    rcases h with h | h
    · exact h
    · exfalso
      apply h1
      refine ⟨h2, .inl ?_⟩
      rw [h]
      decide
theorem loopM_plan (hl : L.length ≤ 600) (hin : ∀ n ∈ L, -2147483648 < n ∧ n < 2147483648) (p : Nat) (hp : p ≤ 4) (hf : fitsB (L.length + order) order p = true) (st : PS) (h : Plan L order st ∨ st = (0, 0, [], -1)) : Plan L order (loopM L order p st 2) := by
  have hmem := partsS_mem L order p
  have h0 := (stepM_plan hl hin p 0 hp (by omega) hf st h).1
  have e : loopM L order p st 2 = stepM L order p (stepM L order p st 0) 1 := by rw [loopM_succ, loopM_succ, loopM_zero]
  rw [e]
  exact (stepM_plan hl hin p 1 hp (by omega) hf _ h0).2 (candGo_ok _ (fun c hc n hn => hin n ((hmem c hc).1 n hn)) _ _)
theorem choose_plan (hl : L.length ≤ 600) (hin : ∀ n ∈ L, -2147483648 < n ∧ n < 2147483648) (ho : order ≤ L.length + order) : Plan L order (chooseS L order) := by
  have hf0 : fitsB (L.length + order) order 0 = true := by
    unfold fitsB
    rw [decide_eq_true]
    simp
    omega
  have h1 : Plan L order (loopP L order 1) := by
    rw [loopP_succ, loopP_zero]
    unfold stepP
    rw [if_pos hf0]
    exact loopM_plan hl hin 0 (by omega) hf0 _ (.inr rfl)
  have step : ∀ n, n ≤ 4 → Plan L order (loopP L order n) → Plan L order (loopP L order (n + 1)) := by
    intro n hn h
    rw [loopP_succ]
    unfold stepP
    split
    · rename_i hf
      exact loopM_plan hl hin n hn hf _ (.inl h)
    · exact h
  exact step 4 (by omega) (step 3 (by omega) (step 2 (by omega) (step 1 (by omega) h1)))
end

/-! ### What Write puts -/
def numB (k : Int) (width : Int) (esc : Bool) (n : Int) : List Bool := if esc then psB n width else unB (foldS n / 2 ^ k.toNat) ++ putB (foldS n % 2 ^ k.toNat) k
def partB (m : Nat) (y : T3) (c : List Int) : List Bool := putB y.1 ((4 + m : Nat) : Int) ++ (if y.1 = (escS m : Int) then putB y.2.1 5 else []) ++ c.flatMap (numB y.1 y.2.1 (decide (y.1 = (escS m : Int))))
def partsB (m : Nat) : List T3 → List (List Int) → List Bool
  | y :: ys, c :: cs => partB m y c ++ partsB m ys cs
  | _, _ => []
def writeB (L : List Int) (order : Nat) : List Bool :=
  putB (chooseS L order).1 2 ++ putB (chooseS L order).2.1 4 ++ partsB (chooseS L order).1.toNat (chooseS L order).2.2.1 (partsS L order (chooseS L order).2.1.toNat)
end Go.Proofs.YtofkiimaoahfjaaDoor

set_option maxRecDepth 100000
set_option linter.unusedVariables false
set_option linter.unusedSimpArgs false
namespace Go.Proofs.YtofkiimaoahfjaaDoor
open Go.RowKit Go.Proofs.YtofkiimaoahfjaaDoor.Pure

/-- Blocks that stand as they stood. -/
def Same (bs : List Nat) (w w' : World) : Prop := ∀ b, b ∈ bs → w'.heap[b]? = w.heap[b]?
theorem Same.refl (bs : List Nat) (w : World) : Same bs w w := fun _ _ => rfl
theorem Same.trans {bs : List Nat} {w w1 w2 : World} (h : Same bs w w1) (k : Same bs w1 w2) : Same bs w w2 := fun b hb => (k b hb).trans (h b hb)
theorem Same.mono {bs cs : List Nat} {w w' : World} (h : Same bs w w') (hc : ∀ b, b ∈ cs → b ∈ bs) : Same cs w w' := fun b hb => h b (hc b hb)
theorem Same.cell {bs : List Nat} {w w' : World} (h : Same bs w w') {a : Addr} {v : Value} (hc : w.cell? a = some v) (ha : a.block ∈ bs) : w'.cell? a = some v :=
  (World.cell?_of_block (w := w) (h a.block ha)).trans hc
theorem Tri3.same {w w' : World} {g : Nat} {T : TypeId} {a b c : Int} {bs : List Nat} (h : Tri3 w g T a b c) (hs : Same bs w w') (hg : g ∈ bs) : Tri3 w' g T a b c := ⟨(hs g hg).trans h.hp⟩
theorem Quad.same {w w' : World} {g : Nat} {T : TypeId} {a b c d : Value} {bs : List Nat} (h : Quad w g T a b c d) (hs : Same bs w w') (hg : g ∈ bs) : Quad w' g T a b c d := ⟨(hs g hg).trans h.hp⟩
theorem RowT.same {w w' : World} {e : TypeId} {v : Value} {zs : List T3} {bs : List Nat} (h : RowT w e v zs) (hs : Same bs w w') (hd : ∀ b, b ∈ fp v → b ∈ bs) : RowT w' e v zs := by
  refine ⟨h.1, ?_⟩
  rcases h.2 with hn | ⟨g, cap, cur, rfl, hb, hg, rest⟩
  · exact .inl hn
  · exact .inr ⟨g, cap, cur, rfl, hb, (hs g (hd g (by simp [fp, Value.ownBlock]))).trans hg, rest⟩
theorem RowV.same {w w' : World} {e : TypeId} {v : Value} {xs : List Value} {bs : List Nat} (h : RowV w e v xs) (hs : Same bs w w') (hd : ∀ b, b ∈ fp v → b ∈ bs) : RowV w' e v xs := by
  refine ⟨h.1, ?_⟩
  rcases h.2 with hn | ⟨g, cap, cur, rfl, hb, hg, rest⟩
  · exact .inl hn
  · exact .inr ⟨g, cap, cur, rfl, hb, (hs g (hd g (by simp [fp, Value.ownBlock]))).trans hg, rest⟩
theorem Rd.same {w w' : World} {k : IntKind} {a : Option Addr} {xs : List Int} {bs : List Nat} (h : Rd w k a xs) (hs : Same bs w w') (hd : ∀ ad, a = some ad → 0 < xs.length → ad.block ∈ bs) : Rd w' k a xs :=
  ⟨h.small, fun i hi => by
    obtain ⟨b, o, rfl, hc⟩ := h.at_ i hi
    exact ⟨b, o, rfl, hs.cell hc (hd ⟨b, o, none⟩ rfl (by omega))⟩⟩

/-- The Writer at p, that held its bytes in sv at w0, holds l now; of the old memory only its own has turned; the blocks bs are none of its. -/
def WO (w0 w : World) (p : Nat) (sv : Value) (l : List Bool) (bs : List Nat) : Prop :=
  ∃ sv', IsW w p sv' l ∧ Keeps (p :: fp sv) w0 w ∧ (∀ b, b ∈ fp sv' → b ∈ fp sv ∨ w0.heap.size ≤ b) ∧ (∀ b, b ∈ bs → b < w.heap.size ∧ b ∉ p :: fp sv')
section
variable {w0 w w' : World} {p : Nat} {sv : Value} {l : List Bool} {bs : List Nat}
theorem WO.start (h : IsW w p sv l) (hb : ∀ b, b ∈ bs → b < w.heap.size ∧ b ∉ p :: fp sv) : WO w w p sv l bs := ⟨sv, h, Keeps.refl _ _, fun b hb => .inl hb, hb⟩
theorem WO.new (h : WO w0 w p sv l bs) (hk : Keeps [] w w') : WO w0 w' p sv l bs := by
  obtain ⟨sv', h1, h2, h3, h4⟩ := h
  exact ⟨sv', h1.new hk, h2.new hk, h3, fun b hb => ⟨Nat.lt_of_lt_of_le (h4 b hb).1 hk.size, (h4 b hb).2⟩⟩
theorem WO.grow (h : WO w0 w p sv l bs) (hk : Keeps [] w w') (cs : List Nat) (hc : ∀ b, b ∈ cs → w.heap.size ≤ b ∧ b < w'.heap.size) : WO w0 w' p sv l (cs ++ bs) := by
  obtain ⟨sv', h1, h2, h3, h4⟩ := h
  refine ⟨sv', h1.new hk, h2.new hk, h3, fun b hb => ?_⟩
  rcases List.mem_append.1 hb with hb | hb
  · refine ⟨(hc b hb).2, fun hm => ?_⟩
    have h5 := (hc b hb).1
    rcases List.mem_cons.1 hm with rfl | hm
    · have := h1.duo.lt; omega
    · have := h1.row.lt b hm; omega
  · exact ⟨Nat.lt_of_lt_of_le (h4 b hb).1 hk.size, (h4 b hb).2⟩
theorem WO.less (h : WO w0 w p sv l bs) {cs : List Nat} (hc : ∀ b, b ∈ cs → b ∈ bs) : WO w0 w p sv l cs := by
  obtain ⟨sv', h1, h2, h3, h4⟩ := h
  exact ⟨sv', h1, h2, h3, fun b hb => h4 b (hc b hb)⟩
theorem WO.same (h : WO w0 w p sv l bs) (hk : Keeps [] w w') : Same bs w w' := by
  obtain ⟨sv', h1, h2, h3, h4⟩ := h
  exact fun b hb => hk.block b (h4 b hb).1 (by simp)
theorem WO.wrote (h : WO w0 w p sv l bs) : Wrote w0 w p sv l := by
  obtain ⟨sv', h1, h2, h3, _⟩ := h
  exact ⟨sv', h1, h2, h3⟩
theorem WO.step {sv' : Value} {l' : List Bool} (h2 : Keeps (p :: fp sv) w0 w) (h3 : ∀ b, b ∈ fp sv' → b ∈ fp sv ∨ w0.heap.size ≤ b) (h4 : ∀ b, b ∈ bs → b < w.heap.size ∧ b ∉ p :: fp sv') (hw : Wrote w w' p sv' l') : WO w0 w' p sv l' bs ∧ Same bs w w' := by
  obtain ⟨sv2, k1, k2, k3⟩ := hw
  refine ⟨⟨sv2, k1, h2.then_ k2 (fun b hb hlt => ?_), fun b hb => ?_, fun b hb => ⟨Nat.lt_of_lt_of_le (h4 b hb).1 k2.size, fun hm => ?_⟩⟩, fun b hb => k2.block b (h4 b hb).1 (h4 b hb).2⟩
  · rcases List.mem_cons.1 hb with rfl | hb
    · exact List.mem_cons_self
    · rcases h3 b hb with h | h
      · exact List.mem_cons_of_mem _ h
      · omega
  · rcases k3 b hb with h | h
    · exact h3 b h
    · exact .inr (Nat.le_trans h2.size h)
  · rcases List.mem_cons.1 hm with rfl | hm
    · exact (h4 b hb).2 List.mem_cons_self
    · rcases k3 b hm with h | h
      · exact (h4 b hb).2 (List.mem_cons_of_mem _ h)
      · have := (h4 b hb).1; omega
theorem woPut (n k : Int) (h : Hid (WO w0 w p sv l bs)) (hn : Hid (-9223372036854775808 ≤ n ∧ n ≤ 9223372036854775807)) (hs : l.length ≤ 800000000000) :
    Calls Tryd.prog 12 #[.pointer (some ⟨p, 0, none⟩), .int .i64 n, .int .i64 k] w fun e w' => e = .returned (.int .i64 (putE n k)) ∧ WO w0 w' p sv (l ++ putB n k) bs ∧ Same bs w w' := by
  obtain ⟨sv', h1, h2, h3, h4⟩ := h.out
  exact (wPut_calls p sv' l n k w h1 hn hs).mono fun e w' ⟨he, hw⟩ => ⟨he, WO.step h2 h3 h4 hw⟩
theorem woPutSigned (n k : Int) (h : Hid (WO w0 w p sv l bs)) (hn : Hid (-9223372036854775808 ≤ n ∧ n ≤ 9223372036854775807)) (hs : l.length ≤ 800000000000) :
    Calls Tryd.prog 58 #[.pointer (some ⟨p, 0, none⟩), .int .i64 n, .int .i64 k] w fun e w' => e = .returned (.int .i64 (psE n k)) ∧ WO w0 w' p sv (l ++ psB n k) bs ∧ Same bs w w' := by
  obtain ⟨sv', h1, h2, h3, h4⟩ := h.out
  exact (wPutSigned_calls p sv' l n k w h1 hn hs).mono fun e w' ⟨he, hw⟩ => ⟨he, WO.step h2 h3 h4 hw⟩
theorem woUnary (n : Int) (h : Hid (WO w0 w p sv l bs)) (hs : l.length ≤ 800000000000) :
    Calls Tryd.prog 30 #[.pointer (some ⟨p, 0, none⟩), .int .i64 n] w fun e w' => e = .returned (.int .i64 (unE n)) ∧ WO w0 w' p sv (l ++ unB n) bs ∧ Same bs w w' := by
  obtain ⟨sv', h1, h2, h3, h4⟩ := h.out
  exact (wUnary_calls p sv' l n w h1 hs).mono fun e w' ⟨he, hw⟩ => ⟨he, WO.step h2 h3 h4 hw⟩
end
end Go.Proofs.YtofkiimaoahfjaaDoor

set_option maxRecDepth 100000
set_option linter.unusedVariables false
set_option linter.unusedSimpArgs false
namespace Go.Proofs.YtofkiimaoahfjaaDoor
open Go.RowKit Go.Proofs.YtofkiimaoahfjaaDoor.Pure

theorem rchk_ok (L : List Int) (order : Int) (h : rchkE L order = 0) : (1 ≤ (L.length : Int) + order ∧ (L.length : Int) + order ≤ 512 ∧ 0 ≤ order ∧ order ≤ 8) ∧ (∀ n ∈ L, -2147483648 < n ∧ n < 2147483648) := by
  unfold rchkE at h
  cases hr : rblockB (L.length + order) order
  · rw [hr] at h; cases h
  · rw [hr] at h
    cases hi : L.all inB
    · rw [hi] at h; cases h
    · have h1 := of_decide_eq_true hr
      refine ⟨⟨h1.1, h1.2.1, h1.2.2.1, h1.2.2.2.1⟩, fun n hn => ?_⟩
      have := List.all_eq_true.1 hi n hn
      exact (inB_iff n).1 this
/-- Size's number and error. -/
def rsizeN (L : List Int) (order : Int) : Int := if rchkE L order = 0 then (chooseS L order.toNat).2.2.2 else 0

set_option maxHeartbeats 1000000 in
theorem rsize_calls (L : List Int) (order : Int) (n : Nat) (hn : n = L.length) (a : Option Addr) (c : Nat) (w : World) (hnc : a = none → c = 0) (hl : L.length ≤ 600) (hc : L.length ≤ c) (h1 : -9223372036854775808 ≤ order ∧ order ≤ 9223372036854775807) (hx : Hid (Rd w .i64 a L)) :
    Calls Tryd.prog 87 #[.slice a n c, .int .i64 order] w fun e w' => e = .returned (.tuple #[.int .i64 (rsizeN L order), .int .i64 (rchkE L order)]) ∧ Keeps [] w w' := by
  subst hn
  have HCK := Lib.hid (fun W (hk : Keeps [] w W) => rcheck_calls L order _ rfl a c W h1 (by omega) (Lib.hid (hx.out.new hk)))
  by_cases he : rchkE L order = 0
  · obtain ⟨⟨g1, g2, g3, g4⟩, hin⟩ := rchk_ok L order he
    obtain ⟨o, rfl⟩ : ∃ o : Nat, order = (o : Int) := ⟨order.toNat, by omega⟩
    have hz : rsizeN L (o : Int) = (chooseS L o).2.2.2 := by unfold rsizeN; rw [if_pos he, Int.toNat_natCast]
    rw [hz, he]
    rw [he] at HCK
    have HCH := Lib.hid (choose_calls L o _ rfl a c w hnc hl hc (by omega) (Lib.hid hin) hx)
    clear he hz hin hnc
    generalize chooseS L o = CH at *
    have hfd : ∀ (x y : Int) (av : Option Addr) (n c : Nat) (s : Int) (W : World), (Instr.field 102 (.agg #[.int .i64 x, .int .i64 y, .slice av n c, .int .i64 s]) 3).run Tryd.prog W = .ok (.int .i64 s) W := fun _ _ _ _ _ _ _ => by kernel_rfl
    go_enter Tryd.func87, Tryd.ntmps87
    go_wp2_with (first
      | (go_at_call 59; go_must (refine (HCK.out _ (Keeps.refl _ _)).mono ?_; rintro e w1 ⟨rfl, rfl⟩))
      | (go_at_call 60; go_must (refine HCH.out.mono ?_; rintro e w2 ⟨v, rfl, hr2, -, hk2⟩; obtain ⟨av, cv, hv⟩ := hr2.slice; subst hv; clear hr2)))
    go_ret2
    exact ⟨rfl, hk2⟩
  · have hz : rsizeN L order = 0 := by unfold rsizeN; rw [if_neg he]
    rw [hz]
    have heb : (rchkE L order != 0) = true := by simp [he]
    obtain ⟨E, hE⟩ : ∃ E, rchkE L order = E := ⟨_, rfl⟩
    rw [hE] at HCK heb ⊢
    clear hE hz he hnc
    go_enter Tryd.func87, Tryd.ntmps87
    go_wp2_with (first
      | (go_at_call 59; go_must (refine (HCK.out _ (Keeps.refl _ _)).mono ?_; rintro e w1 ⟨rfl, rfl⟩)))
    go_ret2
    exact ⟨rfl, Keeps.refl _ _⟩
end Go.Proofs.YtofkiimaoahfjaaDoor

set_option maxRecDepth 100000
set_option linter.unusedVariables false
set_option linter.unusedSimpArgs false
namespace Go.Proofs.YtofkiimaoahfjaaDoor
open Go.RowKit Go.Proofs.YtofkiimaoahfjaaDoor.Pure

theorem candGo_parts (m : Nat) : ∀ (ps : List (List Int)) (acc : List T3) (s : Int), (candGo m ps acc s).2.2 = true → (candGo m ps acc s).1 = acc ++ ps.map (fun c => (bestS c m).1) := by
  intro ps
  induction ps with
  | nil => intro acc s h; simp [candGo]
  | cons c ps ih =>
    intro acc s h
    unfold candGo at h ⊢
    split at h
    · rename_i hb
      rw [if_pos hb, ih _ _ h]
      simp
    · cases h
theorem loopK_k (F : List Int) (n : Nat) : 0 ≤ (loopK F n).1.1 ∧ (loopK F n).1.1 ≤ n ∧ (loopK F n).1.2.1 = 0 := by
  induction n with
  | zero => simp [loopK]
  | succ n ih =>
    rw [loopK_succ]
    unfold stepK
    split
    · refine ⟨?_, ?_, rfl⟩
      · show (0 : Int) ≤ (n : Int); omega
      · show (n : Int) ≤ ((n + 1 : Nat) : Int); omega
    · obtain ⟨a, b, c⟩ := ih
      exact ⟨a, by omega, c⟩
theorem escS_le (m : Nat) (hm : m ≤ 1) : escS m ≤ 31 := by rcases (show m = 0 ∨ m = 1 by omega) with rfl | rfl <;> decide
theorem bestS_k (c : List Int) (m : Nat) (hm : m ≤ 1) : 0 ≤ (bestS c m).1.1 ∧ (bestS c m).1.1 ≤ 31 ∧ 0 ≤ (bestS c m).1.2.1 ∧ (bestS c m).1.2.1 ≤ 65 := by
  have hE := escS_le m hm
  obtain ⟨a, b, d⟩ := loopK_k (c.map foldS) (escS m)
  have hw := widthS_range c
  unfold bestS
  split
  · refine ⟨?_, ?_, hw.1, hw.2⟩
    · show (0 : Int) ≤ (escS m : Int); omega
    · show ((escS m : Nat) : Int) ≤ 31; omega
  · exact ⟨a, by omega, by omega, by omega⟩
theorem putB_le (n k : Int) : (putB n k).length ≤ 32 := by
  unfold putB
  split
  · rename_i h
    rw [bitsN_length]
    unfold putE at h
    split at h
    · cases h
    · omega
  · simp
theorem psB_le (n k : Int) : (psB n k).length ≤ 32 := by
  unfold psB
  split
  · rename_i h
    rw [bitsN_length]
    unfold psE at h
    split at h
    · cases h
    · omega
  · simp
theorem unB_le (n : Int) : (unB n).length ≤ 65537 := by
  unfold unB
  split
  · rename_i h
    unfold unE at h
    split at h
    · cases h
    · simp; omega
  · simp
theorem numB_le (k wd : Int) (esc : Bool) (n : Int) : (numB k wd esc n).length ≤ 65600 := by
  unfold numB
  split
  · have := psB_le n wd; omega
  · have h1 := unB_le (foldS n / 2 ^ k.toNat)
    have h2 := putB_le (foldS n % 2 ^ k.toNat) k
    rw [List.length_append]
    omega
theorem numsB_le (k wd : Int) (esc : Bool) (c : List Int) : (c.flatMap (numB k wd esc)).length ≤ 65600 * c.length := by
  induction c with
  | nil => simp
  | cons n c ih =>
    have := numB_le k wd esc n
    rw [List.flatMap_cons, List.length_append, List.length_cons]
    omega
theorem partB_le (m : Nat) (y : T3) (c : List Int) (hc : c.length ≤ 600) : (partB m y c).length ≤ 40000000 := by
  have h1 := putB_le y.1 ((4 + m : Nat) : Int)
  have h2 := putB_le y.2.1 5
  have h3 := numsB_le y.1 y.2.1 (decide (y.1 = (escS m : Int))) c
  have h4 : (if y.1 = (escS m : Int) then putB y.2.1 5 else []).length ≤ 32 := by split; exact h2; simp
  unfold partB
  rw [List.length_append, List.length_append]
  omega
theorem partsB_snoc (m : Nat) : ∀ (ys : List T3) (cs : List (List Int)) (j : Nat) (h1 : j < ys.length) (h2 : j < cs.length), partsB m (ys.take (j + 1)) (cs.take (j + 1)) = partsB m (ys.take j) (cs.take j) ++ partB m ys[j] cs[j] := by
  intro ys
  induction ys with
  | nil => intro cs j h1; simp at h1
  | cons y ys ih =>
    intro cs j h1 h2
    cases cs with
    | nil => simp at h2
    | cons c cs =>
      cases j with
      | zero => simp [partsB]
      | succ j =>
        have := ih cs j (by simpa using h1) (by simpa using h2)
        simp only [List.take_succ_cons, partsB, List.getElem_cons_succ]
        rw [this, List.append_assoc]

/-- A Writer at pw, and what Write has laid beside it: the plan's block, its parts, the cut's row, the numbers. -/
structure WB6 (w0 wr : World) (pw : Nat) (sv : Value) (l : List Bool) (bs : List Nat) (g8 : Nat) (m p : Int) (v : Value) (ps : List T3) (s : Int) (v39 : Value) (vs : List Value) (a : Option Addr) (L : List Int) : Prop where
  wo : WO w0 wr pw sv l bs
  quad : Quad wr g8 102 (.int .i64 m) (.int .i64 p) v (.int .i64 s)
  rowT : RowT wr 107 v ps
  rowV : RowV wr 22 v39 vs
  rd : Rd wr .i64 a L
  mem8 : g8 ∈ bs
  memT : ∀ b, b ∈ fp v → b ∈ bs
  memV : ∀ b, b ∈ fp v39 → b ∈ bs
  memL : ∀ ad, a = some ad → 0 < L.length → ad.block ∈ bs
section
variable {w0 wr w' : World} {pw : Nat} {sv : Value} {l l2 : List Bool} {bs : List Nat} {g8 : Nat} {m p : Int} {v : Value} {ps : List T3} {s : Int} {v39 : Value} {vs : List Value} {a : Option Addr} {L : List Int}
theorem WB6.put (h : WB6 w0 wr pw sv l bs g8 m p v ps s v39 vs a L) (h2 : WO w0 w' pw sv l2 bs) (hs : Same bs wr w') : WB6 w0 w' pw sv l2 bs g8 m p v ps s v39 vs a L :=
  ⟨h2, h.quad.same hs h.mem8, h.rowT.same hs h.memT, h.rowV.same hs h.memV, h.rd.same hs h.memL, h.mem8, h.memT, h.memV, h.memL⟩
theorem WB6.new (h : WB6 w0 wr pw sv l bs g8 m p v ps s v39 vs a L) (hk : Keeps [] wr w') : WB6 w0 w' pw sv l bs g8 m p v ps s v39 vs a L := h.put (h.wo.new hk) (h.wo.same hk)
theorem WB6.grow (h : WB6 w0 wr pw sv l bs g8 m p v ps s v39 vs a L) (hk : Keeps [] wr w') (cs : List Nat) (hc : ∀ b, b ∈ cs → wr.heap.size ≤ b ∧ b < w'.heap.size) : WB6 w0 w' pw sv l (cs ++ bs) g8 m p v ps s v39 vs a L := by
  have h1 := h.new hk
  exact ⟨h.wo.grow hk cs hc, h1.quad, h1.rowT, h1.rowV, h1.rd, List.mem_append_right _ h.mem8, fun b hb => List.mem_append_right _ (h.memT b hb), fun b hb => List.mem_append_right _ (h.memV b hb), fun ad e hl => List.mem_append_right _ (h.memL ad e hl)⟩
theorem WB6.less {cs : List Nat} (h : WB6 w0 wr pw sv l (cs ++ bs) g8 m p v ps s v39 vs a L) (h8 : g8 ∈ bs) (hT : ∀ b, b ∈ fp v → b ∈ bs) (hV : ∀ b, b ∈ fp v39 → b ∈ bs) (hL : ∀ ad, a = some ad → 0 < L.length → ad.block ∈ bs) : WB6 w0 wr pw sv l bs g8 m p v ps s v39 vs a L :=
  ⟨h.wo.less (fun b hb => List.mem_append_right _ hb), h.quad, h.rowT, h.rowV, h.rd, h8, hT, hV, hL⟩
end
end Go.Proofs.YtofkiimaoahfjaaDoor
