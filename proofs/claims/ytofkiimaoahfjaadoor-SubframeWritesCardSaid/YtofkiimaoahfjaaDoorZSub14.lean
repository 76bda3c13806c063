/-
  Layer 9 (subframe), the document: Doc.
-/
import Derived.Test.YtofkiimaoahfjaaDoorZSub11
import Derived.Deep.RegionLaw
set_option maxRecDepth 100000
set_option linter.unusedVariables false
set_option linter.unusedSimpArgs false
namespace Go.Proofs.YtofkiimaoahfjaaDoor
open Go.RowKit Go.Proofs.YtofkiimaoahfjaaDoor.Pure

/-- The document's words for a plan. -/
def dK (b : Pl) : Int := if b.sz < 0 then -1 else b.kd
def dT (xs : List Int) (D : Int) (k : Nat) (b : Pl) : List Bool := if b.sz < 0 then [] else headB b.kd k ++ bodyB xs D b
def OrIs (xs : List Int) (D : Int) (b : Pl) : Prop := b.sz < 0 ∨ (PlIs xs D b ∧ b.sz ≤ 100000)
theorem OrIs.T_len {xs : List Int} {D : Int} {b : Pl} (h : OrIs xs D b) (k : Nat) (hk : k ≤ 24) : (dT xs D k b).length ≤ 1000000000 := by
  unfold dT
  split
  · simp
  · rcases h with h | ⟨h, h2⟩
    · omega
    · have h1 := h.kd
      have h3 := h.len
      rw [List.length_append, headB_len _ _ (by omega) (by omega) (by omega)]
      omega
theorem take_is {xs : List Int} {D : Int} {b x : Pl} {ok : Bool} (h : OrIs xs D b) (hx : ok = true → PlIs xs D x ∧ x.sz ≤ 100000) : OrIs xs D (takeP b x ok) := by
  unfold takeP
  split
  · rename_i h1
    exact .inr (hx h1.1)
  · exact h
theorem dtry_pl (xs : List Int) (D : Int) (b x : Pl) (k : Nat) (kd : Int) (X : List Bool) (w : World) (hb : OrIs xs D b) (hx : PlIs xs D x) (hxs : x.sz ≤ 100000) (hk : k ≤ 24) (hkd : x.kd = kd) (hX : bodyB xs D x = X) :
    Calls Tryd.prog 35 #[.agg #[.int .i64 (dK b), .string (dstr (dT xs D k b)), .int .i64 k], .int .i64 kd, .string (dstr X)] w fun e w' =>
      e = .returned (.agg #[.int .i64 (dK (takeP b x true)), .string (dstr (dT xs D k (takeP b x true))), .int .i64 k]) ∧ Keeps [] w w' := by
  subst hkd hX
  have h1 := hx.kd
  have h2 := hx.len
  have h4 : (headB x.kd k ++ bodyB xs D x).length = 8 + k + (bodyB xs D x).length := by rw [List.length_append, headB_len _ _ (by omega) (by omega) (by omega)]
  have hy : decide (b.sz < 0 ∨ x.sz < b.sz) = true ↔ (dK b < 0 ∨ (headB x.kd k ++ bodyB xs D x).length < (dT xs D k b).length) := by
    rw [decide_eq_true_iff]
    rcases hb with h | ⟨h, h'⟩
    · have : dK b = -1 := by unfold dK; rw [if_pos h]
      omega
    · have h5 := h.kd
      have h6 := h.len
      by_cases h0 : b.sz < 0
      · have : dK b = -1 := by unfold dK; rw [if_pos h0]
        omega
      · have e1 : dK b = b.kd := by unfold dK; rw [if_neg h0]
        have e2 : dT xs D k b = headB b.kd k ++ bodyB xs D b := by unfold dT; rw [if_neg h0]
        rw [e1, e2, h4, List.length_append, headB_len _ _ (by omega) (by omega) (by omega)]
        omega
  refine (dtry_calls (dK b) (dT xs D k b) (bodyB xs D x) k x.kd w (by omega) (by omega) (by omega) (hb.T_len k hk) (by omega) _ hy).mono ?_
  rintro e w' ⟨rfl, hk'⟩
  refine ⟨?_, hk'⟩
  by_cases hd : b.sz < 0 ∨ x.sz < b.sz
  · have e1 : takeP b x true = x := if_pos ⟨rfl, hd⟩
    have e2 : dK x = x.kd := by unfold dK; rw [if_neg (by omega)]
    have e3 : dT xs D k x = headB x.kd k ++ bodyB xs D x := by unfold dT; rw [if_neg (by omega)]
    rw [e1, e2, e3, decide_eq_true hd]
    rfl
  · have e1 : takeP b x true = b := if_neg (fun h => hd h.2)
    rw [e1, decide_eq_false hd]
    rfl
theorem take_no (b x : Pl) : takeP b x false = b := if_neg (fun h => by cases h.1)
theorem body_mod (xs cs : List Int) (sh D kd head : Int) (hk : 2 ≤ kd) : bodyB xs D (modP xs cs sh D kd head) = mdB xs cs sh D (decide (31 < kd)) := by
  unfold bodyB modP mdB
  simp only
  rw [if_neg (by omega), if_neg (by omega)]
  simp only [decide_eq_true_eq]
/-- What Doc has made: the best one's block, and the samples. -/
structure DW (w0 w : World) (g : Nat) (k : Nat) (D : Int) (sv : Value) (xs : List Int) (b : Pl) : Prop where
  hk : Keeps [] w0 w
  l0 : w0.heap.size ≤ g
  tb : TB w g (.int .i64 (dK b)) (.string (dstr (dT xs D k b))) (.int .i64 k)
  row : Row w .i64 3 sv xs
  far : ∀ j, j ∈ fp sv → w0.heap.size ≤ j ∧ j ≠ g
  ok : OrIs xs D b
namespace DW
variable {w0 w w' : World} {g k : Nat} {D : Int} {sv : Value} {xs : List Int} {b b' : Pl}
theorem new (h : DW w0 w g k D sv xs b) (hn : Keeps [] w w') : DW w0 w' g k D sv xs b :=
  ⟨h.hk.new hn, h.l0, h.tb.keeps hn (by simp), h.row.keeps hn (fun _ _ => by simp), h.far, h.ok⟩
theorem put (h : DW w0 w g k D sv xs b) (ho : OrIs xs D b') : DW w0 (((w.setCell ⟨g, 0, none⟩ (.int .i64 (dK b'))).setCell ⟨g, 1, none⟩ (.string (dstr (dT xs D k b')))).setCell ⟨g, 2, none⟩ (.int .i64 k)) g k D sv xs b' := by
  have hn : Keeps [g] w (((w.setCell ⟨g, 0, none⟩ (.int .i64 (dK b'))).setCell ⟨g, 1, none⟩ (.string (dstr (dT xs D k b')))).setCell ⟨g, 2, none⟩ (.int .i64 k)) := (Keeps.refl _ w).set3 (.inl (by simp)) _ _ _
  have hl := h.l0
  exact ⟨h.hk.then_ hn (fun j hj hlt => by rw [List.mem_singleton] at hj; omega), hl, h.tb.set _ _ _, h.row.keeps hn (fun j hj h' => (h.far j hj).2 (List.mem_singleton.1 h')), h.far, ho⟩
theorem cs (h : DW w0 w g k D sv xs b) : w.cell? ⟨g, 0, none⟩ = some (.int .i64 (dK b)) ∧ w.cell? ⟨g, 1, none⟩ = some (.string (dstr (dT xs D k b))) ∧ w.cell? ⟨g, 2, none⟩ = some (.int .i64 k) ∧ w.frozen? ⟨g, 0, none⟩ = false ∧ w.frozen? ⟨g, 1, none⟩ = false ∧ w.frozen? ⟨g, 2, none⟩ = false :=
  ⟨h.tb.c0, h.tb.c1, h.tb.c2, h.tb.frozen 0, h.tb.frozen 1, h.tb.frozen 2⟩
theorem start (hk : Keeps [] w0 w) (hr : Row w .i64 3 sv xs) (hf : ∀ j, j ∈ fp sv → w0.heap.size ≤ j) : DW w0 (w.alloc (.cells #[.int .i64 (-1), .string ⟨#[]⟩, .int .i64 k] 68)) w.heap.size k D sv xs ⟨0, [], 0, [], -1⟩ := by
  have hn : Keeps [] w (w.alloc (.cells #[.int .i64 (-1), .string ⟨#[]⟩, .int .i64 k] 68)) := (Keeps.refl _ _).alloc _
  exact ⟨hk.new hn, hk.size, ⟨heap_alloc_new _ _⟩, hr.keeps hn (fun _ _ => by simp), fun j hj => ⟨hf j hj, fun e => by have := hr.lt j hj; omega⟩, .inl (show (-1 : Int) < 0 by omega)⟩
end DW
/-- Samples, and those that are moved down: alike or not. -/
theorem alike_down (S : List Int) (k : Nat) (hd : ∀ x ∈ S, x % 2 ^ k = 0) : S.all (fun x => decide (x = S.headD 0)) = alikeB (downS S k) := by
  have hinj : ∀ x y : Int, x % 2 ^ k = 0 → y % 2 ^ k = 0 → (x = y ↔ x / 2 ^ k = y / 2 ^ k) := by
    intro x y hx hy
    refine ⟨fun h => by rw [h], fun h => ?_⟩
    rw [← Int.ediv_mul_cancel (Int.dvd_of_emod_eq_zero hx), ← Int.ediv_mul_cancel (Int.dvd_of_emod_eq_zero hy), h]
  cases S with
  | nil => rfl
  | cons a l =>
    unfold alikeB downS
    rw [List.all_map]
    simp only [List.headD_cons, List.map_cons]
    rw [Bool.eq_iff_iff, List.all_eq_true, List.all_eq_true]
    refine ⟨fun h x hx => ?_, fun h x hx => ?_⟩
    · have h1 := of_decide_eq_true (h x hx)
      simp only [Function.comp_apply, decide_eq_true_eq]
      rw [h1]
    · have h1 := h x hx
      simp only [Function.comp_apply, decide_eq_true_eq] at h1
      exact decide_eq_true ((hinj x a (hd x hx) (hd a List.mem_cons_self)).2 h1)
theorem tdiv_pow (x : Int) (k : Nat) (h : x % 2 ^ k = 0) : Int.tdiv x (2 ^ k) = x / 2 ^ k := by
  rw [Int.tdiv_eq_ediv, if_pos (.inr (Int.dvd_of_emod_eq_zero h))]
  omega

theorem mod_isD {xs cs : List Int} {sh D kd head : Int} (hD : 1 ≤ D ∧ D ≤ 25) (hfit : ∀ x ∈ xs, -(2 ^ (D.toNat - 1)) ≤ x ∧ x < 2 ^ (D.toNat - 1)) (hl : xs.length ≤ 512) (hcx : cs.length ≤ xs.length) (hc : ∀ c ∈ cs, -2048 ≤ c ∧ c ≤ 2047)
    (hok : modOk xs cs sh = true) (hk : 2 ≤ kd ∧ kd ≤ 40) (hh : head = if 31 < kd then 9 + 12 * (cs.length : Int) else 0) : PlIs xs D (modP xs cs sh D kd head) := by
  obtain ⟨d, hd⟩ : ∃ d : Nat, D = ((d + 1 : Nat) : Int) := ⟨D.toNat - 1, by omega⟩
  have hdd : D.toNat - 1 = d := by omega
  rw [hdd] at hfit
  rw [hd]
  exact mod_is xs cs sh d kd head (by omega) hfit hl hcx hc hok hk hh
theorem pl_isD {xs : List Int} {D : Int} {p : Pl} (hD : 1 ≤ D ∧ D ≤ 25) (hfit : ∀ x ∈ xs, -(2 ^ (D.toNat - 1)) ≤ x ∧ x < 2 ^ (D.toNat - 1)) (hl : 1 ≤ xs.length ∧ xs.length ≤ 512) (h : PlOk xs D p) : PlIs xs D p := by
  obtain ⟨d, hd⟩ : ∃ d : Nat, D = ((d + 1 : Nat) : Int) := ⟨D.toNat - 1, by omega⟩
  have hdd : D.toNat - 1 = d := by omega
  rw [hdd] at hfit
  rw [hd] at h ⊢
  exact pl_is xs d p (by omega) hfit hl h
theorem pl_sz {xs : List Int} {D : Int} {p : Pl} (hl : xs.length ≤ 512) (h : PlIs xs D p) : p.sz ≤ 100000 := by
  have h1 := h.len
  have h2 : (bodyB xs D p).length ≤ 100000 := by
    have a1 := psS_le (xs.take 1) D
    have a2 := psS_le xs D
    have a3 := psS_le (xs.take p.cs.length) D
    have a4 := psS_le p.cs 12
    have a5 := rw_le p.L p.cs.length
    have a6 := putB_le 11 4
    have a7 := putB_le p.sh 5
    have a8 := h.cs8
    rw [List.length_take] at a1 a3
    unfold bodyB
    split
    · omega
    · split
      · omega
      · rw [List.length_append, List.length_append]
        split
        · rw [List.length_append, List.length_append]
          omega
        · rw [List.length_nil]
          omega
  omega
theorem rdv {w : World} {a : Option Addr} {n c : Nat} {xs : List Int} (h : Row w .i64 3 (.slice a n c) xs) : Rd w .i64 a xs := by
  obtain ⟨a', c', e1, hx, -⟩ := h.rdd
  simp only [Value.slice.injEq] at e1
  obtain ⟨rfl, rfl, rfl⟩ := e1
  exact hx
theorem qc_cell {w : World} {g : Nat} (h : Row w .i64 3 (.slice (some ⟨g, 0, none⟩) 3 3) [2, 4, 8]) (i : Nat) (hi : i < 3) : w.cell? ⟨g, i, none⟩ = some (.int .i64 (qc i : Nat)) := by
  have h1 := h.cell i hi
  rw [h1]
  match i, hi with
  | 0, _ => rfl
  | 1, _ => rfl
  | 2, _ => rfl
theorem fits_range {xs : List Int} {d : Nat} (hd : d ≤ 30) (h : ∀ y ∈ xs, -(2 ^ d) ≤ y ∧ y < 2 ^ d) : ∀ y ∈ xs, -9223372036854775808 ≤ y ∧ y ≤ 9223372036854775807 := by
  intro y hy
  have h1 := h y hy
  have h2 : (2 : Nat) ^ d ≤ 2 ^ 30 := Nat.pow_le_pow_right (by omega) hd
  have h3 : ((2 ^ d : Nat) : Int) = (2 : Int) ^ d := by simp
  have h4 : (2 : Nat) ^ 30 = 1073741824 := rfl
  omega
set_option maxHeartbeats 8000000 in
theorem ddoc_calls (S : List Int) (depth : Int) (hok : SOk S depth) (n : Nat) (hn : n = S.length) (a : Option Addr) (c : Nat) (w : World) (hx : Hid (Rd w .i64 a S)) :
    Calls Tryd.prog 17 #[.slice a n c, .int .i64 depth] w fun e w' => e = .returned (.tuple #[.int .i64 (planS S depth).kd, .string (dstr (swB S depth))]) ∧ Keeps [] w w' := by
  subst hn
  obtain ⟨hn1, hn2⟩ := hok.n
  have hk := hok.k
  obtain ⟨hD1, hD2⟩ := hok.D
  have hdv := was_div S
  have HWA := Lib.hid (fun W (hW : Keeps [] w W) => (dwasted_calls S _ rfl a c W (Lib.hid (hx.out.new hW))).mono (R' := fun e w' => e = .returned (.int .i64 (wasS S)) ∧ W = w') (fun e w' h => ⟨h.1, h.2.symm⟩))
  have HAL := Lib.hid (alike_down S (wasS S) hdv)
  have HXL := Lib.hid hok.len
  have HFT := Lib.hid hok.fits
  have HXT : Hid (∀ i (h : i < S.length), (downS S (wasS S)).take (i + 1) = (downS S (wasS S)).take i ++ [Int.tdiv S[i] (2 ^ wasS S)]) := by
    intro i h
    unfold downS
    rw [← List.map_take, ← List.map_take, List.take_succ_eq_append_getElem h, List.map_append, tdiv_pow _ _ (hdv _ (List.getElem_mem _))]
    rfl
  have HRES : Hid (planS S depth = chooseP (downS S (wasS S)) (depS S depth)) := (show _ = _ from rfl)
  have HSW : Hid (swB S depth = headB (planS S depth).kd (wasS S) ++ bodyB (downS S (wasS S)) (depS S depth) (planS S depth)) := (show _ = _ from rfl)
  have hD' : IntKind.i64.wrap (depth - (wasS S : Int)) = depS S depth := by
    have h1 := hok.d
    unfold depS
    rw [IntWalk.i64_in _ (by omega)]
  obtain ⟨k, ek⟩ : ∃ k, wasS S = k := ⟨_, rfl⟩
  obtain ⟨D, eD⟩ : ∃ D, depS S depth = D := ⟨_, rfl⟩
  rw [ek] at HWA HAL HXL HFT HXT HRES HSW hD' hk
  rw [eD] at HFT HRES HSW hD' hD1 hD2
  obtain ⟨xs, ex⟩ : ∃ xs, downS S k = xs := ⟨_, rfl⟩
  rw [ex] at HAL HXL HFT HXT HRES HSW
  obtain ⟨P, hP⟩ : ∃ P : Int, (2 : Int) ^ k = P := ⟨_, rfl⟩
  have hP0 : 1 ≤ P ∧ P ≤ 16777216 := by
    have h1 : (2 : Nat) ^ k ≤ 2 ^ 24 := Nat.pow_le_pow_right (by omega) hk
    have h2 : (2 : Nat) ^ 24 = 16777216 := rfl
    have h3 : ((2 ^ k : Nat) : Int) = (2 : Int) ^ k := by simp
    have h4 := Nat.two_pow_pos k
    omega
  rw [hP] at HXT
  have HFR := Lib.hid (fits_range (by omega) HFT.out)
  have hmin : min k 64 = k := by omega
  have hki : (0 : Int) ≤ (k : Int) := by omega
  clear hdv ek eD ex hok
  go_enter Tryd.func17, Tryd.ntmps17
  go_wp2_with (first
    | (go_at_call 34; go_must (with_reducible refine (HWA.out _ (Keeps.refl _ _)).mono ?_); rintro e w2 ⟨rfl, rfl⟩))
  go_loopg [7, 8, 9] (S.length + 1) (fun q v7 v8 v9 wr => ∃ (i : Nat) (v : Value), v9 = .int .i64 i ∧ v7 = v ∧ v8 = .bool ((S.take i).all (fun x => decide (x = S.headD 0))) ∧ i ≤ S.length ∧ Hid (Row wr .i64 3 v (xs.take i)) ∧ Hid (∀ j, j ∈ fp v → w.heap.size ≤ j) ∧ Hid (Keeps [] w wr) ∧ Hid (i + q = S.length + 1))
  case atStart => exact ⟨0, _, rfl, rfl, rfl, by omega, Row.nil _ _ _, (fun j hj => by cases hj), Keeps.refl _ _, (show _ = _ from by omega)⟩
  case round =>
    obtain ⟨i, v, rfl, rfl, rfl, hi, HR, HF, HK, HQ⟩ := hrel
    obtain ⟨q1, rfl⟩ : ∃ g : Nat, g = gk := ⟨_, rfl⟩
    obtain ⟨wa, rfl⟩ : ∃ y : World, y = wr := ⟨_, rfl⟩
    by_cases hlt : i < S.length
    · obtain ⟨b1, o1, rfl, hc1⟩ := (hx.out.new HK.out).cellAt i hlt
      obtain ⟨b2, o2, e2, hc2⟩ := (hx.out.new HK.out).cellAt 0 (by omega)
      cases e2
      obtain ⟨x, hx1⟩ : ∃ x, S[i] = x := ⟨_, rfl⟩
      have hx0 : S[0] = S.headD 0 := by cases S with
        | nil => simp at hlt
        | cons y l => rfl
      obtain ⟨x0, hx2⟩ : ∃ x0, S.headD 0 = x0 := ⟨_, rfl⟩
      rw [hx0, hx2] at hc2
      have HSN := HXT.out i hlt
      rw [hx1] at hc1 HSN
      have HSN' := Lib.hid HSN
      have HAN : Hid ((S.take (i + 1)).all (fun x => decide (x = S.headD 0)) = ((S.take i).all (fun x => decide (x = S.headD 0)) && decide (x = x0))) := by
        show _ = _
        rw [List.take_succ_eq_append_getElem hlt, List.all_append, hx1, hx2]
        simp
      obtain ⟨va, vc, rfl⟩ := HR.out.slice
      have hBD : (xs.take i).length ≤ 512 := by rw [List.length_take]; have := HXL.out; omega
      obtain ⟨l, hlE⟩ : ∃ l, xs.take i = l := ⟨_, rfl⟩
      rw [hlE] at hBD HR HF
      have HSN2 := Lib.hid HSN'.out
      rw [hlE] at HSN2
      rw [hlE]
      obtain ⟨al, hal⟩ : ∃ al, (S.take i).all (fun x => decide (x = S.headD 0)) = al := ⟨_, rfl⟩
      rw [hal] at HAN ⊢
      obtain ⟨Y, hY⟩ : ∃ Y, Int.tdiv x P = Y := ⟨_, rfl⟩
      rw [hY] at HSN2
      have HBD : Hid ((l.length + 1) * 8 ≤ 140737488355328) := by show _ ≤ _; omega
      have HRA : Hid (Row (wa.alloc (.cells #[.int .i64 Y] 3)) .i64 3 (.slice va l.length vc) l) := HR.out.keeps ((Keeps.refl [] wa).alloc _) (fun _ _ => by simp)
      have HCA : Hid ((wa.alloc (.cells #[.int .i64 Y] 3)).cell? ⟨b1, o1 + i, none⟩ = some (.int .i64 x)) := ((Keeps.refl [] wa).alloc _).cell hc1 (by simp)
      have hcA := HCA.out
      have hwr : IntKind.i64.wrap P = P := IntWalk.i64_in _ (by omega)
      have hPne : ¬ P = 0 := by omega
      have hYr := HFR.out Y (List.mem_of_mem_take (i := i + 1) (by rw [HXT.out i hlt, hx1, hY]; simp))
      have hwY : IntKind.i64.wrap Y = Y := IntWalk.i64_in _ (by omega)
      have hx1E := Lib.hid hx1
      have hx0E : Hid (S[0] = x0) := by show _ = _; rw [hx0, hx2]
      clear hBD hlE hal HSN HSN' hx1 hx2 hx0
      go_upto_region 7 with fail
      go_region_law (first
        | (refine step_app1 _ (by rfl) _ _ _ 3 .i64 8 (by rfl) Tryd.underlying22 info_i64 (by decide) (.slice va l.length vc) l Y (by rfl) HRA.out wa.heap.size (by rfl) ((Row.lit wa .i64 3 #[.int .i64 Y] [Y] rfl (by simp)).cell 0 (by simp)) HBD.out ?_; intro v5 w5 hr5 hk5 hf5; obtain ⟨a5, c5, rfl⟩ := hr5.slice))
      simp only [Act.put, List.setIfInBounds_toArray, List.set_cons_zero, List.set_cons_succ, List.getElem_toArray, List.getElem_cons_zero, List.getElem_cons_succ]
      have HK5 : Hid (Keeps [] w w5) := (HK.out.new (((Keeps.refl [] wa).alloc (.cells #[.int .i64 Y] 3)).drew)).then_ hk5 (fun b hb hlt => by have := HF.out b hb; omega)
      have HR5 : Hid (Row w5 .i64 3 (.slice a5 (l.length + 1) c5) (xs.take (i + 1))) := by
        have h1 := hr5
        rw [show (l ++ [Y]).length = l.length + 1 from by simp] at h1
        rw [HSN2]
        exact h1
      have HF5 : Hid (∀ j, j ∈ fp (.slice a5 (l.length + 1) c5) → w.heap.size ≤ j) := by
        intro j hj
        have h1 := hf5 j (by rw [show (l ++ [Y]).length = l.length + 1 from by simp]; exact hj)
        rcases h1 with h | h
        · exact HF.out j h
        · have h2 := HK.out.size
          have h3 : wa.heap.size ≤ (wa.alloc (.cells #[.int .i64 Y] 3)).heap.size := ((Keeps.refl [] wa).alloc _).size
          exact Nat.le_trans h2 (Nat.le_trans h3 h)
      obtain ⟨b3, o3, e3, hd1⟩ := (hx.out.new HK5.out).cellAt i hlt
      cases e3
      obtain ⟨b4, o4, e4, hd2⟩ := (hx.out.new HK5.out).cellAt 0 (by omega)
      cases e4
      rw [hx1E.out] at hd1
      rw [hx0E.out, Nat.add_zero] at hd2
      have h0l : (0 : Int) < (S.length : Int) := by omega
      clear hcA hc1 hc2 hr5 hk5 hf5 HCA HRA
      cases al
      · go_wp2_with fail
        go_big_quiet (fail)
        go_wp2_with fail
        go_roundg (S.length - i)
        case measure => have := HQ.out; omega
        case rel => exact ⟨i + 1, .slice a5 (l.length + 1) c5, by go_num, rfl, by rw [HAN.out]; rfl, by omega, HR5.out.keeps ((Keeps.refl [] w5).drewN _) (fun _ _ => by simp), HF5.out, HK5.out.new ((Keeps.refl [] w5).drewN _), (show _ = _ from by have := HQ.out; omega)⟩
      · go_wp2_with fail
        go_big_quiet (fail)
        go_wp2_with fail
        go_roundg (S.length - i)
        case measure => have := HQ.out; omega
        case rel => exact ⟨i + 1, .slice a5 (l.length + 1) c5, by go_num, rfl, by rw [HAN.out]; rfl, by omega, HR5.out.keeps ((Keeps.refl [] w5).drewN _) (fun _ _ => by simp), HF5.out, HK5.out.new ((Keeps.refl [] w5).drewN _), (show _ = _ from by have := HQ.out; omega)⟩
    · obtain rfl : i = S.length := by omega
      have HT0 : Hid (xs.take S.length = xs) := by show _ = _; rw [← HXL.out, List.take_length]
      rw [HT0.out] at HR
      have HAB : Hid ((S.take S.length).all (fun x => decide (x = S.headD 0)) = alikeB xs) := by show _ = _; rw [List.take_length, HAL.out]
      rw [HAB.out]
      obtain ⟨va, vc, rfl, hvr, hvn, hvl⟩ := HR.out.rdd
      have HST := Lib.hid (DW.start (k := k) (D := D) HK.out HR.out HF.out)
      have hxl : xs.length = S.length := HXL.out
      have hx5 : xs.length ≤ 512 := by omega
      have hx1 : 1 ≤ xs.length := by omega
      have hx1i : (1 : Int) ≤ (vc : Int) := by omega
      have HVL := Lib.hid hvl
      have HD1 : Hid (1 ≤ D ∧ D ≤ 25) := (show _ ∧ _ from ⟨hD1, hD2⟩)
      have hgE : ∃ g, wa.heap.size = g := ⟨_, rfl⟩
      obtain ⟨g, hg⟩ := hgE
      rw [hg] at HST
      clear HT0 HAB HAL HXT HR HF HK HQ HWA hvr hvn hvl hxl HXL hP hP0 hmin hi hlt hx
      cases hab : alikeB xs
      · have HDW : Hid (DW w (wa.alloc (.cells #[.int .i64 (-1), .string ⟨#[]⟩, .int .i64 k] 68)) g k D (.slice va xs.length vc) xs (c0P xs D)) := by
          have e : c0P xs D = ⟨0, [], 0, [], -1⟩ := by unfold c0P; rw [hab]; exact take_no _ _
          rw [e]
          exact HST.out
        clear HST hab
        obtain ⟨M, hM⟩ : ∃ M : Nat, min 4 xs.length = M := ⟨_, rfl⟩
        have HM := Lib.hid hM
        have hM4 : M ≤ 4 := by omega
        have hMn : M ≤ xs.length := by omega
        have HMB : Hid (M = 4 ∨ M = xs.length) := by show _ ∨ _; omega
        clear hM
        go_wp2_with fail
        generalize wa.alloc (.cells #[.int .i64 (-1), .string ⟨#[]⟩, .int .i64 k] 68) = we at *
        go_loopg [11] (M + 2) (fun q v11 wr => ∃ (i : Nat), v11 = .int .i64 i ∧ i ≤ M + 1 ∧ Hid (DW w wr g k D (.slice va xs.length vc) xs ((List.range i).foldl (stepF xs D) (c0P xs D))) ∧ Hid (i + q = M + 2))
        case atStart => exact ⟨0, rfl, by omega, HDW.out, (show _ = _ from by omega)⟩
        case round =>
          clear HDW
          obtain ⟨i, rfl, hi, HWL, HQ⟩ := hrel
          obtain ⟨q1, rfl⟩ : ∃ g : Nat, g = gk := ⟨_, rfl⟩
          obtain ⟨wf, rfl⟩ : ∃ y : World, y = wr := ⟨_, rfl⟩
          by_cases hlt : i < M + 1
          · have hi4 : (i : Int) ≤ 4 := by omega
            have hin : (i : Int) ≤ (xs.length : Int) := by omega
            have HSTP := Lib.hid (fold_range xs D (c0P xs D) i)
            obtain ⟨b, hb⟩ : ∃ b, (List.range i).foldl (stepF xs D) (c0P xs D) = b := ⟨_, rfl⟩
            rw [hb] at HWL HSTP
            have hfl := fixL_len i (by omega)
            have HFX := Lib.hid (fun W => refFixed_at (i : Int) i rfl (by omega) W)
            have HCS := Lib.hid (fixL_small i)
            obtain ⟨cf, hcf⟩ : ∃ cf, fixL i = cf := ⟨_, rfl⟩
            obtain ⟨ok, hok⟩ : ∃ ok, modOk xs cf 0 = ok := ⟨_, rfl⟩
            have HSF : Hid (stepF xs D b i = takeP b (modP xs cf 0 D (8 + (i : Int)) 0) ok) := by show _ = _; rw [← hok, ← hcf]; rfl
            rw [hcf] at HFX hfl HCS
            have hcx : cf.length ≤ xs.length := by omega
            have HCR : Hid (∀ x ∈ cf, -9223372036854775808 ≤ x ∧ x ≤ 9223372036854775807) := fun x hx => by have := HCS.out x hx; omega
            have HOK := Lib.hid hok
            have hcl : cf.length ≤ 8 := by omega
            clear hb hcf hok hfl
            cases ok
            · have HN : Hid (stepF xs D b i = b) := by show _ = _; rw [HSF.out]; exact take_no _ _
              go_wp2_with (first
                | (go_at_call 37; go_must (with_reducible refine (HFX.out _).mono ?_); rintro e w2 ⟨v2, rfl, hr2, hf2, hn2⟩; obtain ⟨a2, c2', rfl⟩ := hr2.slice;
                    have hnA : Keeps [] w2 (w2.alloc (.cells #[.slice a2 cf.length c2', .int .i64 0] 71)) := (Keeps.refl _ _).alloc _;
                    have HW3 := Lib.hid ((HWL.out.new hn2).new hnA); have HR3 : Hid (Row (w2.alloc (.cells #[.slice a2 cf.length c2', .int .i64 0] 71)) .i64 3 (.slice a2 cf.length c2') cf) := Row.keeps hr2 hnA (fun _ _ => by simp);  clear hr2 hf2 hn2 hnA)
                | (go_at_call 38; go_must (with_reducible refine (dmod_no xs cf 0 D false va a2 _ vc _ c2' _ rfl rfl HVL.out (by omega) hx5 HOK.out (Lib.hid (rdv HW3.out.row)) (Lib.hid (rdv HR3.out))).mono ?_); rintro e w4 ⟨rfl, hk4⟩; have HW4 := Lib.hid (HW3.out.new hk4); obtain ⟨c0, c1, c2, f0, f1, f2⟩ := HW4.out.cs; clear hk4))
              go_roundg (M + 1 - i)
              case measure => have := HQ.out; omega
              case rel =>
                refine ⟨i + 1, by go_num, by omega, ?_, (show _ = _ from by have := HQ.out; omega)⟩
                show DW _ _ _ _ _ _ _ _
                rw [HSTP.out, HN.out]
                exact HW4.out
            · have HN : Hid (stepF xs D b i = takeP b (modP xs cf 0 D (8 + (i : Int)) (0)) true) := HSF.out
              have HPI : Hid (PlIs xs D (modP xs cf 0 D (8 + (i : Int)) (0))) := mod_isD HD1.out HFT.out hx5 hcx HCS.out HOK.out (by omega) (by rw [if_neg (by omega)])
              have HPZ := Lib.hid (pl_sz hx5 HPI.out)
              have HBM : Hid (bodyB xs D (modP xs cf 0 D (8 + (i : Int)) (0)) = mdB xs cf 0 D false) := by
                show _ = _
                rw [body_mod _ _ _ _ _ _ (by omega)]
                exact congrArg _ (decide_eq_false (by omega))
              have HTRY := Lib.hid (fun W => dtry_pl xs D b (modP xs cf 0 D (8 + (i : Int)) (0)) k (8 + (i : Int)) _ W HWL.out.ok HPI.out HPZ.out hk rfl HBM.out)
              go_wp2_with (first
                | (go_at_call 37; go_must (with_reducible refine (HFX.out _).mono ?_); rintro e w2 ⟨v2, rfl, hr2, hf2, hn2⟩; obtain ⟨a2, c2', rfl⟩ := hr2.slice;
                    have hnA : Keeps [] w2 (w2.alloc (.cells #[.slice a2 cf.length c2', .int .i64 0] 71)) := (Keeps.refl _ _).alloc _;
                    have HW3 := Lib.hid ((HWL.out.new hn2).new hnA); have HR3 : Hid (Row (w2.alloc (.cells #[.slice a2 cf.length c2', .int .i64 0] 71)) .i64 3 (.slice a2 cf.length c2') cf) := Row.keeps hr2 hnA (fun _ _ => by simp);  clear hr2 hf2 hn2 hnA)
                | (go_at_call 38; go_must (with_reducible refine (dmod_yes xs cf 0 D false va a2 _ vc _ c2' _ rfl rfl HVL.out (by omega) hx5 HOK.out HFR HCR (Lib.hid (rdv HW3.out.row)) (Lib.hid (rdv HR3.out))).mono ?_); rintro e w4 ⟨rfl, hk4⟩; have HW4 := Lib.hid (HW3.out.new hk4); obtain ⟨c0, c1, c2, f0, f1, f2⟩ := HW4.out.cs; clear hk4)
                | (go_at_call 35; go_must (with_reducible refine (HTRY.out _).mono ?_); rintro e w5 ⟨rfl, hk5⟩; have HW5 := Lib.hid (HW4.out.new hk5); clear c0 c1 c2 f0 f1 f2 hk5; obtain ⟨c0, c1, c2, f0, f1, f2⟩ := HW5.out.cs))
              have HPU := Lib.hid (HW5.out.put (take_is (ok := true) HWL.out.ok (fun _ => ⟨HPI.out, HPZ.out⟩)))
              go_roundg (M + 1 - i)
              case measure => have := HQ.out; omega
              case rel =>
                refine ⟨i + 1, by go_num, by omega, ?_, (show _ = _ from by have := HQ.out; omega)⟩
                show DW _ _ _ _ _ _ _ _
                rw [HSTP.out, HN.out]
                exact HPU.out
          · obtain rfl : i = M + 1 := by omega
            have HFP : Hid ((List.range (M + 1)).foldl (stepF xs D) (c0P xs D) = fixP xs D) := by show _ = _; rw [← HM.out]; rfl
            rw [HFP.out] at HWL
            clear HFP HQ hi hlt
            have hends : (M = 4 ∨ (M ≠ 4 ∧ M = xs.length)) := by have := HMB.out; omega
            rcases hends with hm | ⟨hm, hmx⟩
            · have hg1 : ¬ ((M : Int) + 1 ≤ 4) := by omega
              go_wp2_with fail
              obtain ⟨gO, hgO⟩ : ∃ gO, wf.heap.size = gO := ⟨_, rfl⟩
              have HGO : Hid (gO ≠ g) := by have := HWL.out.tb.lt; show _ ≠ _; omega
              have hnO : Keeps [] wf (wf.alloc (.cells #[.int .i64 2, .int .i64 4, .int .i64 8] 3)) := (Keeps.refl _ _).alloc _
              have HO : Hid (Row (wf.alloc (.cells #[.int .i64 2, .int .i64 4, .int .i64 8] 3)) .i64 3 (.slice (some ⟨gO, 0, none⟩) 3 3) [2, 4, 8]) := by rw [← hgO]; exact Row.lit wf .i64 3 #[.int .i64 2, .int .i64 4, .int .i64 8] [2, 4, 8] rfl (by simp)
              have HWO := Lib.hid (HWL.out.new hnO)
              clear HWL hnO
              simp only [hgO]
              clear hgO
              generalize wf.alloc (.cells #[.int .i64 2, .int .i64 4, .int .i64 8] 3) = wg at *
              go_loopg [17] 4 (fun q v17 wr => ∃ (i : Nat), v17 = .int .i64 i ∧ i ≤ 3 ∧ Hid (DW w wr g k D (.slice va xs.length vc) xs ((([2, 4, 8] : List Nat).take i).foldl (stepQ xs D) (fixP xs D))) ∧ Hid (Row wr .i64 3 (.slice (some ⟨gO, 0, none⟩) 3 3) [2, 4, 8]) ∧ Hid (i + q = 4))
              case atStart => exact ⟨0, rfl, by omega, HWO.out, HO.out, (show _ = _ from by omega)⟩
              case round =>
                clear HWO HO
                obtain ⟨i, rfl, hi, HWL, HO, HQ⟩ := hrel
                obtain ⟨q2, rfl⟩ : ∃ g : Nat, g = gk := ⟨_, rfl⟩
                obtain ⟨wh, rfl⟩ : ∃ y : World, y = wr := ⟨_, rfl⟩
                by_cases hlt : i < 3
                · have HSTP := Lib.hid (qfold (stepQ xs D) (fixP xs D) i hlt)
                  obtain ⟨b, hb⟩ : ∃ b, (([2, 4, 8] : List Nat).take i).foldl (stepQ xs D) (fixP xs D) = b := ⟨_, rfl⟩
                  rw [hb] at HWL HSTP
                  have hoc := qc_cell HO.out i hlt
                  obtain ⟨hq2, hq8⟩ := qc_le i
                  have HQC : Hid (qc i = 2 ∨ qc i = 4 ∨ qc i = 8) := by show _ ∨ _ ∨ _; unfold qc; split <;> (try split) <;> simp
                  obtain ⟨oc, hocE⟩ : ∃ oc, qc i = oc := ⟨_, rfl⟩
                  rw [hocE] at HSTP hoc hq2 hq8 HQC
                  clear hb hocE
                  by_cases hol : oc < xs.length
                  · have hf := srcL_ok xs oc hq8
                    have he := srcE_ok (xs := xs) (o := oc) hq8 (by omega) (in_B (by omega) HFT.out)
                    have hlen : (srcL xs oc).length = oc := by
                      rw [he.2.1]
                      exact (fold_ok xs oc (mvS oc 4) _ (SrcOk.begin xs oc hq8)).len
                    have HSE := Lib.hid (fun W (ha : Hid (Rd W .i64 va xs)) => docSearch_any xs oc _ va vc W rfl HVL.out (by omega) ha)
                    obtain ⟨cf, hcf⟩ : ∃ cf, srcL xs oc = cf := ⟨_, rfl⟩
                    obtain ⟨sf, hsf⟩ : ∃ sf, srcS xs oc = sf := ⟨_, rfl⟩
                    obtain ⟨ef, hef⟩ : ∃ ef, srcE xs oc = ef := ⟨_, rfl⟩
                    obtain ⟨ok, hok⟩ : ∃ ok, modOk xs cf sf = ok := ⟨_, rfl⟩
                    have HSF : Hid (stepQ xs D b oc = takeP b (modP xs cf sf D (31 + (oc : Int)) (9 + 12 * (oc : Int))) ok) := by show _ = _; rw [← hok, ← hsf, ← hcf]; exact if_pos hol
                    rw [hcf] at hlen hf
                    rw [hcf, hsf, hef] at HSE
                    have HCS := Lib.hid hf.2.1
                    have hcx : cf.length ≤ xs.length := by omega
                    have HCR : Hid (∀ x ∈ cf, -9223372036854775808 ≤ x ∧ x ≤ 9223372036854775807) := fun x hx => by have := HCS.out x hx; omega
                    have HHL : Hid (true = true → 9 + 12 * (oc : Int) = if 31 < 31 + (oc : Int) then 9 + 12 * (cf.length : Int) else 0) := fun _ => by rw [if_pos (by omega), hlen]
                    have HOK := Lib.hid hok
                    have hcl : cf.length ≤ 8 := by omega
                    clear hcf hsf hef hok hf he hlen
                    cases ok
                    · have HN : Hid (stepQ xs D b oc = b) := by show _ = _; rw [HSF.out]; exact take_no _ _
                      go_wp2_with (first
                        | (go_at_call 39; go_must (with_reducible refine (HSE.out _ (Lib.hid (rdv HWL.out.row))).mono ?_); rintro e w2 ⟨v2, rfl, hr2, hf2, hn2⟩; obtain ⟨a2, c2', rfl⟩ := hr2.slice;
                            have hnA : Keeps [] w2 (w2.alloc (.cells #[.slice a2 cf.length c2', .int .i64 sf] 71)) := (Keeps.refl _ _).alloc _;
                            have HW3 := Lib.hid ((HWL.out.new hn2).new hnA); have HR3 : Hid (Row (w2.alloc (.cells #[.slice a2 cf.length c2', .int .i64 sf] 71)) .i64 3 (.slice a2 cf.length c2') cf) := Row.keeps hr2 hnA (fun _ _ => by simp); have HO3 := Lib.hid ((HO.out.keeps hn2 (fun _ _ => by simp)).keeps hnA (fun _ _ => by simp)); clear hr2 hf2 hn2 hnA)
                        | (go_at_call 38; go_must (with_reducible refine (dmod_no xs cf sf D true va a2 _ vc _ c2' _ rfl rfl HVL.out (by omega) hx5 HOK.out (Lib.hid (rdv HW3.out.row)) (Lib.hid (rdv HR3.out))).mono ?_); rintro e w4 ⟨rfl, hk4⟩; have HW4 := Lib.hid (HW3.out.new hk4); have HO4 := Lib.hid (HO3.out.keeps hk4 (fun _ _ => by simp)); obtain ⟨c0, c1, c2, f0, f1, f2⟩ := HW4.out.cs; clear hk4))
                      go_roundg (3 - i)
                      case measure => have := HQ.out; omega
                      case rel =>
                        refine ⟨i + 1, by go_num, by omega, ?_, HO4.out, (show _ = _ from by have := HQ.out; omega)⟩
                        show DW _ _ _ _ _ _ _ _
                        rw [HSTP.out, HN.out]
                        exact HW4.out
                    · have HN : Hid (stepQ xs D b oc = takeP b (modP xs cf sf D (31 + (oc : Int)) (9 + 12 * (oc : Int))) true) := HSF.out
                      have HPI : Hid (PlIs xs D (modP xs cf sf D (31 + (oc : Int)) (9 + 12 * (oc : Int)))) := mod_isD HD1.out HFT.out hx5 hcx HCS.out HOK.out (by omega) (HHL.out rfl)
                      have HPZ := Lib.hid (pl_sz hx5 HPI.out)
                      have HBM : Hid (bodyB xs D (modP xs cf sf D (31 + (oc : Int)) (9 + 12 * (oc : Int))) = mdB xs cf sf D true) := by
                        show _ = _
                        rw [body_mod _ _ _ _ _ _ (by omega)]
                        exact congrArg _ (decide_eq_true (by omega))
                      have HTRY := Lib.hid (fun W => dtry_pl xs D b (modP xs cf sf D (31 + (oc : Int)) (9 + 12 * (oc : Int))) k (31 + (oc : Int)) _ W HWL.out.ok HPI.out HPZ.out hk rfl HBM.out)
                      go_wp2_with (first
                        | (go_at_call 39; go_must (with_reducible refine (HSE.out _ (Lib.hid (rdv HWL.out.row))).mono ?_); rintro e w2 ⟨v2, rfl, hr2, hf2, hn2⟩; obtain ⟨a2, c2', rfl⟩ := hr2.slice;
                            have hnA : Keeps [] w2 (w2.alloc (.cells #[.slice a2 cf.length c2', .int .i64 sf] 71)) := (Keeps.refl _ _).alloc _;
                            have HW3 := Lib.hid ((HWL.out.new hn2).new hnA); have HR3 : Hid (Row (w2.alloc (.cells #[.slice a2 cf.length c2', .int .i64 sf] 71)) .i64 3 (.slice a2 cf.length c2') cf) := Row.keeps hr2 hnA (fun _ _ => by simp); have HO3 := Lib.hid ((HO.out.keeps hn2 (fun _ _ => by simp)).keeps hnA (fun _ _ => by simp)); clear hr2 hf2 hn2 hnA)
                        | (go_at_call 38; go_must (with_reducible refine (dmod_yes xs cf sf D true va a2 _ vc _ c2' _ rfl rfl HVL.out (by omega) hx5 HOK.out HFR HCR (Lib.hid (rdv HW3.out.row)) (Lib.hid (rdv HR3.out))).mono ?_); rintro e w4 ⟨rfl, hk4⟩; have HW4 := Lib.hid (HW3.out.new hk4); have HO4 := Lib.hid (HO3.out.keeps hk4 (fun _ _ => by simp)); obtain ⟨c0, c1, c2, f0, f1, f2⟩ := HW4.out.cs; clear hk4)
                        | (go_at_call 35; go_must (with_reducible refine (HTRY.out _).mono ?_); rintro e w5 ⟨rfl, hk5⟩; have HW5 := Lib.hid (HW4.out.new hk5); have HO5 := Lib.hid (HO4.out.keeps hk5 (fun _ _ => by simp)); clear c0 c1 c2 f0 f1 f2 hk5; obtain ⟨c0, c1, c2, f0, f1, f2⟩ := HW5.out.cs))
                      have HPU := Lib.hid (HW5.out.put (take_is (ok := true) HWL.out.ok (fun _ => ⟨HPI.out, HPZ.out⟩)))
                      go_roundg (3 - i)
                      case measure => have := HQ.out; omega
                      case rel =>
                        refine ⟨i + 1, by go_num, by omega, ?_, HO5.out.keeps ((Keeps.refl _ w5).set3 (F := [g]) (.inl (by simp)) _ _ _) (fun j hj h => HGO.out (by rw [fp_some] at hj; rw [List.mem_singleton] at hj h; omega)), (show _ = _ from by have := HQ.out; omega)⟩
                        show DW _ _ _ _ _ _ _ _
                        rw [HSTP.out, HN.out]
                        exact HPU.out
                  · have HSF : Hid (stepQ xs D b oc = b) := by show _ = _; exact if_neg hol
                    go_wp2_with fail
                    go_roundg (3 - i)
                    case measure => have := HQ.out; omega
                    case rel =>
                      refine ⟨i + 1, by go_num, by omega, ?_, HO.out, (show _ = _ from by have := HQ.out; omega)⟩
                      show DW _ _ _ _ _ _ _ _
                      rw [HSTP.out, HSF.out]
                      exact HWL.out
                · obtain rfl : i = 3 := by omega
                  have HQP : Hid ((([2, 4, 8] : List Nat).take 3).foldl (stepQ xs D) (fixP xs D) = qP xs D) := (show _ = _ from rfl)
                  rw [HQP.out] at HWL
                  clear HQP HQ HO
                  obtain ⟨c0, c1, c2, f0, f1, f2⟩ := HWL.out.cs
                  have HPI : Hid (PlIs xs D ⟨1, [], 0, [], xs.length * D⟩) := pl_isD HD1.out HFT.out ⟨by omega, hx5⟩ (.inr (.inl rfl))
                  have HPZ := Lib.hid (pl_sz hx5 HPI.out)
                  have HTRY : Hid (∀ W, Calls Tryd.prog 35 #[.agg #[.int .i64 (dK (qP xs D)), .string (dstr (dT xs D k (qP xs D))), .int .i64 k], .int .i64 1, .string (dstr (psS xs D))] W fun e w' => e = .returned (.agg #[.int .i64 (dK (chooseP xs D)), .string (dstr (dT xs D k (chooseP xs D))), .int .i64 k]) ∧ Keeps [] W w') :=
                    fun W => dtry_pl xs D (qP xs D) ⟨1, [], 0, [], xs.length * D⟩ k 1 (psS xs D) W HWL.out.ok HPI.out HPZ.out hk rfl rfl
                  have HOC : Hid (OrIs xs D (chooseP xs D)) := take_is HWL.out.ok (fun _ => ⟨HPI.out, HPZ.out⟩)
                  have HSG := Lib.hid (fun W (hW : Keeps [] wh W) => dsigned_calls xs D _ rfl va vc W (by omega) HFR (Lib.hid ((rdv HWL.out.row).new hW)))
                  obtain ⟨PS, hPS⟩ : ∃ PS, psS xs D = PS := ⟨_, rfl⟩
                  rw [hPS] at HTRY HSG
                  have HCZ := Lib.hid (choose_ok xs D (by have := HD1.out; omega)).2
                  have HPL : Hid (planS S depth = chooseP xs D) := HRES.out
                  obtain ⟨bq, hbq⟩ : ∃ bq, qP xs D = bq := ⟨_, rfl⟩
                  obtain ⟨bc, hbc⟩ : ∃ bc, chooseP xs D = bc := ⟨_, rfl⟩
                  rw [hbq] at HTRY HWL c0 c1
                  rw [hbc] at HTRY HOC HCZ HPL
                  clear hPS hbq hbc
                  go_upto_region 30 with fail
                  go_region_law (first
                    | (go_simp; go_at_call 36; go_must (with_reducible refine (HSG.out _ ?hk).mono ?_); (case hk => first | exact (Keeps.refl [] _).drew | exact (Keeps.refl [] _)); rintro e w4 ⟨rfl, hk4⟩; have HW4 := Lib.hid (HWL.out.new (((Keeps.refl [] wh).drew).new hk4)); obtain ⟨d0, d1, d2, e0, e1, e2⟩ := HW4.out.cs)
                    | (go_simp; go_at_call 35; go_must (with_reducible refine (HTRY.out _).mono ?_); rintro e w5 ⟨rfl, hk5⟩; have HW5 := Lib.hid (HW4.out.new hk5); obtain ⟨j0, j1, j2, k0, k1, k2⟩ := HW5.out.cs))
                  all_goals
                    have HPU := Lib.hid (HW5.out.put HOC.out)
                    have HFIN : Hid (dK bc = (planS S depth).kd ∧ dT xs D k bc = swB S depth) := by
                      show _ ∧ _
                      rw [HSW.out, HPL.out]
                      unfold dK dT
                      have := HCZ.out
                      rw [if_neg (by omega), if_neg (by omega)]
                      exact ⟨rfl, rfl⟩
                    go_wp2_with fail
                    clear c0 c1 c2 f0 f1 f2 d0 d1 d2 e0 e1 e2 j0 j1 j2 k0 k1 k2
                    generalize ((w5.setCell ⟨g, 0, none⟩ (.int .i64 (dK bc))).setCell ⟨g, 1, none⟩ (.string (dstr (dT xs D k bc)))).setCell ⟨g, 2, none⟩ (.int .i64 k) = w6 at *
                    obtain ⟨c0, c1, c2, f0, f1, f2⟩ := HPU.out.cs
                    go_quiet (fail)
                    go_wp2_with fail
                    go_ret2
                    refine ⟨?_, HPU.out.hk.new ((Keeps.refl [] w6).drewN _)⟩
                    rw [← HFIN.out.1, ← HFIN.out.2]
                    rfl
            · have hg0 : (M : Int) + 1 ≤ 4 := by omega
              have hg1 : ¬ ((M : Int) + 1 ≤ (xs.length : Int)) := by omega
              go_wp2_with fail
              obtain ⟨gO, hgO⟩ : ∃ gO, wf.heap.size = gO := ⟨_, rfl⟩
              have HGO : Hid (gO ≠ g) := by have := HWL.out.tb.lt; show _ ≠ _; omega
              have hnO : Keeps [] wf (wf.alloc (.cells #[.int .i64 2, .int .i64 4, .int .i64 8] 3)) := (Keeps.refl _ _).alloc _
              have HO : Hid (Row (wf.alloc (.cells #[.int .i64 2, .int .i64 4, .int .i64 8] 3)) .i64 3 (.slice (some ⟨gO, 0, none⟩) 3 3) [2, 4, 8]) := by rw [← hgO]; exact Row.lit wf .i64 3 #[.int .i64 2, .int .i64 4, .int .i64 8] [2, 4, 8] rfl (by simp)
              have HWO := Lib.hid (HWL.out.new hnO)
              clear HWL hnO
              simp only [hgO]
              clear hgO
              generalize wf.alloc (.cells #[.int .i64 2, .int .i64 4, .int .i64 8] 3) = wg at *
              go_loopg [17] 4 (fun q v17 wr => ∃ (i : Nat), v17 = .int .i64 i ∧ i ≤ 3 ∧ Hid (DW w wr g k D (.slice va xs.length vc) xs ((([2, 4, 8] : List Nat).take i).foldl (stepQ xs D) (fixP xs D))) ∧ Hid (Row wr .i64 3 (.slice (some ⟨gO, 0, none⟩) 3 3) [2, 4, 8]) ∧ Hid (i + q = 4))
              case atStart => exact ⟨0, rfl, by omega, HWO.out, HO.out, (show _ = _ from by omega)⟩
              case round =>
                clear HWO HO
                obtain ⟨i, rfl, hi, HWL, HO, HQ⟩ := hrel
                obtain ⟨q2, rfl⟩ : ∃ g : Nat, g = gk := ⟨_, rfl⟩
                obtain ⟨wh, rfl⟩ : ∃ y : World, y = wr := ⟨_, rfl⟩
                by_cases hlt : i < 3
                · have HSTP := Lib.hid (qfold (stepQ xs D) (fixP xs D) i hlt)
                  obtain ⟨b, hb⟩ : ∃ b, (([2, 4, 8] : List Nat).take i).foldl (stepQ xs D) (fixP xs D) = b := ⟨_, rfl⟩
                  rw [hb] at HWL HSTP
                  have hoc := qc_cell HO.out i hlt
                  obtain ⟨hq2, hq8⟩ := qc_le i
                  have HQC : Hid (qc i = 2 ∨ qc i = 4 ∨ qc i = 8) := by show _ ∨ _ ∨ _; unfold qc; split <;> (try split) <;> simp
                  obtain ⟨oc, hocE⟩ : ∃ oc, qc i = oc := ⟨_, rfl⟩
                  rw [hocE] at HSTP hoc hq2 hq8 HQC
                  clear hb hocE
                  by_cases hol : oc < xs.length
                  · have hf := srcL_ok xs oc hq8
                    have he := srcE_ok (xs := xs) (o := oc) hq8 (by omega) (in_B (by omega) HFT.out)
                    have hlen : (srcL xs oc).length = oc := by
                      rw [he.2.1]
                      exact (fold_ok xs oc (mvS oc 4) _ (SrcOk.begin xs oc hq8)).len
                    have HSE := Lib.hid (fun W (ha : Hid (Rd W .i64 va xs)) => docSearch_any xs oc _ va vc W rfl HVL.out (by omega) ha)
                    obtain ⟨cf, hcf⟩ : ∃ cf, srcL xs oc = cf := ⟨_, rfl⟩
                    obtain ⟨sf, hsf⟩ : ∃ sf, srcS xs oc = sf := ⟨_, rfl⟩
                    obtain ⟨ef, hef⟩ : ∃ ef, srcE xs oc = ef := ⟨_, rfl⟩
                    obtain ⟨ok, hok⟩ : ∃ ok, modOk xs cf sf = ok := ⟨_, rfl⟩
                    have HSF : Hid (stepQ xs D b oc = takeP b (modP xs cf sf D (31 + (oc : Int)) (9 + 12 * (oc : Int))) ok) := by show _ = _; rw [← hok, ← hsf, ← hcf]; exact if_pos hol
                    rw [hcf] at hlen hf
                    rw [hcf, hsf, hef] at HSE
                    have HCS := Lib.hid hf.2.1
                    have hcx : cf.length ≤ xs.length := by omega
                    have HCR : Hid (∀ x ∈ cf, -9223372036854775808 ≤ x ∧ x ≤ 9223372036854775807) := fun x hx => by have := HCS.out x hx; omega
                    have HHL : Hid (true = true → 9 + 12 * (oc : Int) = if 31 < 31 + (oc : Int) then 9 + 12 * (cf.length : Int) else 0) := fun _ => by rw [if_pos (by omega), hlen]
                    have HOK := Lib.hid hok
                    have hcl : cf.length ≤ 8 := by omega
                    clear hcf hsf hef hok hf he hlen
                    cases ok
                    · have HN : Hid (stepQ xs D b oc = b) := by show _ = _; rw [HSF.out]; exact take_no _ _
                      go_wp2_with (first
                        | (go_at_call 39; go_must (with_reducible refine (HSE.out _ (Lib.hid (rdv HWL.out.row))).mono ?_); rintro e w2 ⟨v2, rfl, hr2, hf2, hn2⟩; obtain ⟨a2, c2', rfl⟩ := hr2.slice;
                            have hnA : Keeps [] w2 (w2.alloc (.cells #[.slice a2 cf.length c2', .int .i64 sf] 71)) := (Keeps.refl _ _).alloc _;
                            have HW3 := Lib.hid ((HWL.out.new hn2).new hnA); have HR3 : Hid (Row (w2.alloc (.cells #[.slice a2 cf.length c2', .int .i64 sf] 71)) .i64 3 (.slice a2 cf.length c2') cf) := Row.keeps hr2 hnA (fun _ _ => by simp); have HO3 := Lib.hid ((HO.out.keeps hn2 (fun _ _ => by simp)).keeps hnA (fun _ _ => by simp)); clear hr2 hf2 hn2 hnA)
                        | (go_at_call 38; go_must (with_reducible refine (dmod_no xs cf sf D true va a2 _ vc _ c2' _ rfl rfl HVL.out (by omega) hx5 HOK.out (Lib.hid (rdv HW3.out.row)) (Lib.hid (rdv HR3.out))).mono ?_); rintro e w4 ⟨rfl, hk4⟩; have HW4 := Lib.hid (HW3.out.new hk4); have HO4 := Lib.hid (HO3.out.keeps hk4 (fun _ _ => by simp)); obtain ⟨c0, c1, c2, f0, f1, f2⟩ := HW4.out.cs; clear hk4))
                      go_roundg (3 - i)
                      case measure => have := HQ.out; omega
                      case rel =>
                        refine ⟨i + 1, by go_num, by omega, ?_, HO4.out, (show _ = _ from by have := HQ.out; omega)⟩
                        show DW _ _ _ _ _ _ _ _
                        rw [HSTP.out, HN.out]
                        exact HW4.out
                    · have HN : Hid (stepQ xs D b oc = takeP b (modP xs cf sf D (31 + (oc : Int)) (9 + 12 * (oc : Int))) true) := HSF.out
                      have HPI : Hid (PlIs xs D (modP xs cf sf D (31 + (oc : Int)) (9 + 12 * (oc : Int)))) := mod_isD HD1.out HFT.out hx5 hcx HCS.out HOK.out (by omega) (HHL.out rfl)
                      have HPZ := Lib.hid (pl_sz hx5 HPI.out)
                      have HBM : Hid (bodyB xs D (modP xs cf sf D (31 + (oc : Int)) (9 + 12 * (oc : Int))) = mdB xs cf sf D true) := by
                        show _ = _
                        rw [body_mod _ _ _ _ _ _ (by omega)]
                        exact congrArg _ (decide_eq_true (by omega))
                      have HTRY := Lib.hid (fun W => dtry_pl xs D b (modP xs cf sf D (31 + (oc : Int)) (9 + 12 * (oc : Int))) k (31 + (oc : Int)) _ W HWL.out.ok HPI.out HPZ.out hk rfl HBM.out)
                      go_wp2_with (first
                        | (go_at_call 39; go_must (with_reducible refine (HSE.out _ (Lib.hid (rdv HWL.out.row))).mono ?_); rintro e w2 ⟨v2, rfl, hr2, hf2, hn2⟩; obtain ⟨a2, c2', rfl⟩ := hr2.slice;
                            have hnA : Keeps [] w2 (w2.alloc (.cells #[.slice a2 cf.length c2', .int .i64 sf] 71)) := (Keeps.refl _ _).alloc _;
                            have HW3 := Lib.hid ((HWL.out.new hn2).new hnA); have HR3 : Hid (Row (w2.alloc (.cells #[.slice a2 cf.length c2', .int .i64 sf] 71)) .i64 3 (.slice a2 cf.length c2') cf) := Row.keeps hr2 hnA (fun _ _ => by simp); have HO3 := Lib.hid ((HO.out.keeps hn2 (fun _ _ => by simp)).keeps hnA (fun _ _ => by simp)); clear hr2 hf2 hn2 hnA)
                        | (go_at_call 38; go_must (with_reducible refine (dmod_yes xs cf sf D true va a2 _ vc _ c2' _ rfl rfl HVL.out (by omega) hx5 HOK.out HFR HCR (Lib.hid (rdv HW3.out.row)) (Lib.hid (rdv HR3.out))).mono ?_); rintro e w4 ⟨rfl, hk4⟩; have HW4 := Lib.hid (HW3.out.new hk4); have HO4 := Lib.hid (HO3.out.keeps hk4 (fun _ _ => by simp)); obtain ⟨c0, c1, c2, f0, f1, f2⟩ := HW4.out.cs; clear hk4)
                        | (go_at_call 35; go_must (with_reducible refine (HTRY.out _).mono ?_); rintro e w5 ⟨rfl, hk5⟩; have HW5 := Lib.hid (HW4.out.new hk5); have HO5 := Lib.hid (HO4.out.keeps hk5 (fun _ _ => by simp)); clear c0 c1 c2 f0 f1 f2 hk5; obtain ⟨c0, c1, c2, f0, f1, f2⟩ := HW5.out.cs))
                      have HPU := Lib.hid (HW5.out.put (take_is (ok := true) HWL.out.ok (fun _ => ⟨HPI.out, HPZ.out⟩)))
                      go_roundg (3 - i)
                      case measure => have := HQ.out; omega
                      case rel =>
                        refine ⟨i + 1, by go_num, by omega, ?_, HO5.out.keeps ((Keeps.refl _ w5).set3 (F := [g]) (.inl (by simp)) _ _ _) (fun j hj h => HGO.out (by rw [fp_some] at hj; rw [List.mem_singleton] at hj h; omega)), (show _ = _ from by have := HQ.out; omega)⟩
                        show DW _ _ _ _ _ _ _ _
                        rw [HSTP.out, HN.out]
                        exact HPU.out
                  · have HSF : Hid (stepQ xs D b oc = b) := by show _ = _; exact if_neg hol
                    go_wp2_with fail
                    go_roundg (3 - i)
                    case measure => have := HQ.out; omega
                    case rel =>
                      refine ⟨i + 1, by go_num, by omega, ?_, HO.out, (show _ = _ from by have := HQ.out; omega)⟩
                      show DW _ _ _ _ _ _ _ _
                      rw [HSTP.out, HSF.out]
                      exact HWL.out
                · obtain rfl : i = 3 := by omega
                  have HQP : Hid ((([2, 4, 8] : List Nat).take 3).foldl (stepQ xs D) (fixP xs D) = qP xs D) := (show _ = _ from rfl)
                  rw [HQP.out] at HWL
                  clear HQP HQ HO
                  obtain ⟨c0, c1, c2, f0, f1, f2⟩ := HWL.out.cs
                  have HPI : Hid (PlIs xs D ⟨1, [], 0, [], xs.length * D⟩) := pl_isD HD1.out HFT.out ⟨by omega, hx5⟩ (.inr (.inl rfl))
                  have HPZ := Lib.hid (pl_sz hx5 HPI.out)
                  have HTRY : Hid (∀ W, Calls Tryd.prog 35 #[.agg #[.int .i64 (dK (qP xs D)), .string (dstr (dT xs D k (qP xs D))), .int .i64 k], .int .i64 1, .string (dstr (psS xs D))] W fun e w' => e = .returned (.agg #[.int .i64 (dK (chooseP xs D)), .string (dstr (dT xs D k (chooseP xs D))), .int .i64 k]) ∧ Keeps [] W w') :=
                    fun W => dtry_pl xs D (qP xs D) ⟨1, [], 0, [], xs.length * D⟩ k 1 (psS xs D) W HWL.out.ok HPI.out HPZ.out hk rfl rfl
                  have HOC : Hid (OrIs xs D (chooseP xs D)) := take_is HWL.out.ok (fun _ => ⟨HPI.out, HPZ.out⟩)
                  have HSG := Lib.hid (fun W (hW : Keeps [] wh W) => dsigned_calls xs D _ rfl va vc W (by omega) HFR (Lib.hid ((rdv HWL.out.row).new hW)))
                  obtain ⟨PS, hPS⟩ : ∃ PS, psS xs D = PS := ⟨_, rfl⟩
                  rw [hPS] at HTRY HSG
                  have HCZ := Lib.hid (choose_ok xs D (by have := HD1.out; omega)).2
                  have HPL : Hid (planS S depth = chooseP xs D) := HRES.out
                  obtain ⟨bq, hbq⟩ : ∃ bq, qP xs D = bq := ⟨_, rfl⟩
                  obtain ⟨bc, hbc⟩ : ∃ bc, chooseP xs D = bc := ⟨_, rfl⟩
                  rw [hbq] at HTRY HWL c0 c1
                  rw [hbc] at HTRY HOC HCZ HPL
                  clear hPS hbq hbc
                  go_upto_region 30 with fail
                  go_region_law (first
                    | (go_simp; go_at_call 36; go_must (with_reducible refine (HSG.out _ ?hk).mono ?_); (case hk => first | exact (Keeps.refl [] _).drew | exact (Keeps.refl [] _)); rintro e w4 ⟨rfl, hk4⟩; have HW4 := Lib.hid (HWL.out.new (((Keeps.refl [] wh).drew).new hk4)); obtain ⟨d0, d1, d2, e0, e1, e2⟩ := HW4.out.cs)
                    | (go_simp; go_at_call 35; go_must (with_reducible refine (HTRY.out _).mono ?_); rintro e w5 ⟨rfl, hk5⟩; have HW5 := Lib.hid (HW4.out.new hk5); obtain ⟨j0, j1, j2, k0, k1, k2⟩ := HW5.out.cs))
                  all_goals
                    have HPU := Lib.hid (HW5.out.put HOC.out)
                    have HFIN : Hid (dK bc = (planS S depth).kd ∧ dT xs D k bc = swB S depth) := by
                      show _ ∧ _
                      rw [HSW.out, HPL.out]
                      unfold dK dT
                      have := HCZ.out
                      rw [if_neg (by omega), if_neg (by omega)]
                      exact ⟨rfl, rfl⟩
                    go_wp2_with fail
                    clear c0 c1 c2 f0 f1 f2 d0 d1 d2 e0 e1 e2 j0 j1 j2 k0 k1 k2
                    generalize ((w5.setCell ⟨g, 0, none⟩ (.int .i64 (dK bc))).setCell ⟨g, 1, none⟩ (.string (dstr (dT xs D k bc)))).setCell ⟨g, 2, none⟩ (.int .i64 k) = w6 at *
                    obtain ⟨c0, c1, c2, f0, f1, f2⟩ := HPU.out.cs
                    go_quiet (fail)
                    go_wp2_with fail
                    go_ret2
                    refine ⟨?_, HPU.out.hk.new ((Keeps.refl [] w6).drewN _)⟩
                    rw [← HFIN.out.1, ← HFIN.out.2]
                    rfl
      · go_upto_region 12 with fail
        generalize wa.alloc (.cells #[.int .i64 (-1), .string ⟨#[]⟩, .int .i64 k] 68) = wz at *
        have HPI : Hid (PlIs xs D ⟨0, [], 0, [], D⟩) := pl_isD HD1.out HFT.out ⟨hx1, hx5⟩ (.inl ⟨rfl, hab⟩)
        have HPZ := Lib.hid (pl_sz hx5 HPI.out)
        have HC0 : Hid (takeP ⟨0, [], 0, [], -1⟩ ⟨0, [], 0, [], D⟩ true = c0P xs D) := by show _ = _; unfold c0P; rw [hab]
        have HTRY : Hid (∀ W, Calls Tryd.prog 35 #[.agg #[.int .i64 (-1), .string ⟨#[]⟩, .int .i64 k], .int .i64 0, .string (dstr (psS (xs.take 1) D))] W fun e w' => e = .returned (.agg #[.int .i64 (dK (c0P xs D)), .string (dstr (dT xs D k (c0P xs D))), .int .i64 k]) ∧ Keeps [] W w') := by
          intro W
          rw [← HC0.out]
          exact dtry_pl xs D ⟨0, [], 0, [], -1⟩ ⟨0, [], 0, [], D⟩ k 0 (psS (xs.take 1) D) W HST.out.ok HPI.out HPZ.out hk rfl rfl
        have HOC : Hid (OrIs xs D (c0P xs D)) := by
          show OrIs _ _ _
          rw [← HC0.out]
          exact take_is (ok := true) HST.out.ok (fun _ => ⟨HPI.out, HPZ.out⟩)
        have HSG := Lib.hid (fun W (hW : Keeps [] wz W) => dsigned_calls (xs.take 1) D 1 (by rw [List.length_take]; omega) va vc W (by rw [List.length_take]; omega) (Lib.hid (fun x hx => HFR.out x (List.mem_of_mem_take hx))) (Lib.hid (((rdv HST.out.row).new hW).take 1)))
        obtain ⟨PS, hPS⟩ : ∃ PS, psS (xs.take 1) D = PS := ⟨_, rfl⟩
        rw [hPS] at HTRY HSG
        have hst : wz.cell? ⟨g, 0, none⟩ = some (.int .i64 (-1)) ∧ wz.cell? ⟨g, 1, none⟩ = some (.string ⟨#[]⟩) ∧ wz.cell? ⟨g, 2, none⟩ = some (.int .i64 k) ∧ wz.frozen? ⟨g, 0, none⟩ = false ∧ wz.frozen? ⟨g, 1, none⟩ = false ∧ wz.frozen? ⟨g, 2, none⟩ = false := HST.out.cs
        obtain ⟨c0, c1, c2, f0, f1, f2⟩ := hst
        clear hPS hab
        go_cut [63] (fun c63 wx => Hid (DW w wx g k D (.slice va xs.length vc) xs (c0P xs D)))
        case first =>
          go_region_law (first
            | (go_simp; go_at_call 36; go_must (with_reducible refine (HSG.out _ ?hk).mono ?_); (case hk => first | exact (Keeps.refl [] _).drew | exact (Keeps.refl [] _)); rintro e w4 ⟨rfl, hk4⟩; have HW4 := Lib.hid (HST.out.new (((Keeps.refl [] wz).drew).new hk4)); have hs4 : w4.cell? ⟨g, 0, none⟩ = some (.int .i64 (-1)) ∧ w4.cell? ⟨g, 1, none⟩ = some (.string ⟨#[]⟩) ∧ w4.cell? ⟨g, 2, none⟩ = some (.int .i64 k) ∧ w4.frozen? ⟨g, 0, none⟩ = false ∧ w4.frozen? ⟨g, 1, none⟩ = false ∧ w4.frozen? ⟨g, 2, none⟩ = false := HW4.out.cs; obtain ⟨d0, d1, d2, e0, e1, e2⟩ := hs4)
            | (go_simp; go_at_call 35; go_must (with_reducible refine (HTRY.out _).mono ?_); rintro e w5 ⟨rfl, hk5⟩; have HW5 := Lib.hid (HW4.out.new hk5); have hs5 : w5.cell? ⟨g, 0, none⟩ = some (.int .i64 (-1)) ∧ w5.cell? ⟨g, 1, none⟩ = some (.string ⟨#[]⟩) ∧ w5.cell? ⟨g, 2, none⟩ = some (.int .i64 k) ∧ w5.frozen? ⟨g, 0, none⟩ = false ∧ w5.frozen? ⟨g, 1, none⟩ = false ∧ w5.frozen? ⟨g, 2, none⟩ = false := HW5.out.cs; obtain ⟨j0, j1, j2, k0, k1, k2⟩ := hs5))
          all_goals
            have HPU := Lib.hid (HW5.out.put HOC.out)
            go_wp2_with fail
            go_meet
            exact HPU.out
        case rest =>
          have HDW := Lib.hid hcut.out
          obtain ⟨we, rfl⟩ : ∃ x : World, x = wc := ⟨_, rfl⟩
          clear HST HTRY HSG HOC HPI HPZ hcut c0 c1 c2 f0 f1 f2
          obtain ⟨M, hM⟩ : ∃ M : Nat, min 4 xs.length = M := ⟨_, rfl⟩
          have HM := Lib.hid hM
          have hM4 : M ≤ 4 := by omega
          have hMn : M ≤ xs.length := by omega
          have HMB : Hid (M = 4 ∨ M = xs.length) := by show _ ∨ _; omega
          clear hM
          go_wp2_with fail
          go_loopg [11] (M + 2) (fun q v11 wr => ∃ (i : Nat), v11 = .int .i64 i ∧ i ≤ M + 1 ∧ Hid (DW w wr g k D (.slice va xs.length vc) xs ((List.range i).foldl (stepF xs D) (c0P xs D))) ∧ Hid (i + q = M + 2))
          case atStart => exact ⟨0, rfl, by omega, HDW.out, (show _ = _ from by omega)⟩
          case round =>
            clear HDW
            obtain ⟨i, rfl, hi, HWL, HQ⟩ := hrel
            obtain ⟨q1, rfl⟩ : ∃ g : Nat, g = gk := ⟨_, rfl⟩
            obtain ⟨wf, rfl⟩ : ∃ y : World, y = wr := ⟨_, rfl⟩
            by_cases hlt : i < M + 1
            · have hi4 : (i : Int) ≤ 4 := by omega
              have hin : (i : Int) ≤ (xs.length : Int) := by omega
              have HSTP := Lib.hid (fold_range xs D (c0P xs D) i)
              obtain ⟨b, hb⟩ : ∃ b, (List.range i).foldl (stepF xs D) (c0P xs D) = b := ⟨_, rfl⟩
              rw [hb] at HWL HSTP
              have hfl := fixL_len i (by omega)
              have HFX := Lib.hid (fun W => refFixed_at (i : Int) i rfl (by omega) W)
              have HCS := Lib.hid (fixL_small i)
              obtain ⟨cf, hcf⟩ : ∃ cf, fixL i = cf := ⟨_, rfl⟩
              obtain ⟨ok, hok⟩ : ∃ ok, modOk xs cf 0 = ok := ⟨_, rfl⟩
              have HSF : Hid (stepF xs D b i = takeP b (modP xs cf 0 D (8 + (i : Int)) 0) ok) := by show _ = _; rw [← hok, ← hcf]; rfl
              rw [hcf] at HFX hfl HCS
              have hcx : cf.length ≤ xs.length := by omega
              have HCR : Hid (∀ x ∈ cf, -9223372036854775808 ≤ x ∧ x ≤ 9223372036854775807) := fun x hx => by have := HCS.out x hx; omega
              have HOK := Lib.hid hok
              have hcl : cf.length ≤ 8 := by omega
              clear hb hcf hok hfl
              cases ok
              · have HN : Hid (stepF xs D b i = b) := by show _ = _; rw [HSF.out]; exact take_no _ _
                go_wp2_with (first
                  | (go_at_call 37; go_must (with_reducible refine (HFX.out _).mono ?_); rintro e w2 ⟨v2, rfl, hr2, hf2, hn2⟩; obtain ⟨a2, c2', rfl⟩ := hr2.slice;
                      have hnA : Keeps [] w2 (w2.alloc (.cells #[.slice a2 cf.length c2', .int .i64 0] 71)) := (Keeps.refl _ _).alloc _;
                      have HW3 := Lib.hid ((HWL.out.new hn2).new hnA); have HR3 : Hid (Row (w2.alloc (.cells #[.slice a2 cf.length c2', .int .i64 0] 71)) .i64 3 (.slice a2 cf.length c2') cf) := Row.keeps hr2 hnA (fun _ _ => by simp);  clear hr2 hf2 hn2 hnA)
                  | (go_at_call 38; go_must (with_reducible refine (dmod_no xs cf 0 D false va a2 _ vc _ c2' _ rfl rfl HVL.out (by omega) hx5 HOK.out (Lib.hid (rdv HW3.out.row)) (Lib.hid (rdv HR3.out))).mono ?_); rintro e w4 ⟨rfl, hk4⟩; have HW4 := Lib.hid (HW3.out.new hk4); obtain ⟨c0, c1, c2, f0, f1, f2⟩ := HW4.out.cs; clear hk4))
                go_roundg (M + 1 - i)
                case measure => have := HQ.out; omega
                case rel =>
                  refine ⟨i + 1, by go_num, by omega, ?_, (show _ = _ from by have := HQ.out; omega)⟩
                  show DW _ _ _ _ _ _ _ _
                  rw [HSTP.out, HN.out]
                  exact HW4.out
              · have HN : Hid (stepF xs D b i = takeP b (modP xs cf 0 D (8 + (i : Int)) (0)) true) := HSF.out
                have HPI : Hid (PlIs xs D (modP xs cf 0 D (8 + (i : Int)) (0))) := mod_isD HD1.out HFT.out hx5 hcx HCS.out HOK.out (by omega) (by rw [if_neg (by omega)])
                have HPZ := Lib.hid (pl_sz hx5 HPI.out)
                have HBM : Hid (bodyB xs D (modP xs cf 0 D (8 + (i : Int)) (0)) = mdB xs cf 0 D false) := by
                  show _ = _
                  rw [body_mod _ _ _ _ _ _ (by omega)]
                  exact congrArg _ (decide_eq_false (by omega))
                have HTRY := Lib.hid (fun W => dtry_pl xs D b (modP xs cf 0 D (8 + (i : Int)) (0)) k (8 + (i : Int)) _ W HWL.out.ok HPI.out HPZ.out hk rfl HBM.out)
                go_wp2_with (first
                  | (go_at_call 37; go_must (with_reducible refine (HFX.out _).mono ?_); rintro e w2 ⟨v2, rfl, hr2, hf2, hn2⟩; obtain ⟨a2, c2', rfl⟩ := hr2.slice;
                      have hnA : Keeps [] w2 (w2.alloc (.cells #[.slice a2 cf.length c2', .int .i64 0] 71)) := (Keeps.refl _ _).alloc _;
                      have HW3 := Lib.hid ((HWL.out.new hn2).new hnA); have HR3 : Hid (Row (w2.alloc (.cells #[.slice a2 cf.length c2', .int .i64 0] 71)) .i64 3 (.slice a2 cf.length c2') cf) := Row.keeps hr2 hnA (fun _ _ => by simp);  clear hr2 hf2 hn2 hnA)
                  | (go_at_call 38; go_must (with_reducible refine (dmod_yes xs cf 0 D false va a2 _ vc _ c2' _ rfl rfl HVL.out (by omega) hx5 HOK.out HFR HCR (Lib.hid (rdv HW3.out.row)) (Lib.hid (rdv HR3.out))).mono ?_); rintro e w4 ⟨rfl, hk4⟩; have HW4 := Lib.hid (HW3.out.new hk4); obtain ⟨c0, c1, c2, f0, f1, f2⟩ := HW4.out.cs; clear hk4)
                  | (go_at_call 35; go_must (with_reducible refine (HTRY.out _).mono ?_); rintro e w5 ⟨rfl, hk5⟩; have HW5 := Lib.hid (HW4.out.new hk5); clear c0 c1 c2 f0 f1 f2 hk5; obtain ⟨c0, c1, c2, f0, f1, f2⟩ := HW5.out.cs))
                have HPU := Lib.hid (HW5.out.put (take_is (ok := true) HWL.out.ok (fun _ => ⟨HPI.out, HPZ.out⟩)))
                go_roundg (M + 1 - i)
                case measure => have := HQ.out; omega
                case rel =>
                  refine ⟨i + 1, by go_num, by omega, ?_, (show _ = _ from by have := HQ.out; omega)⟩
                  show DW _ _ _ _ _ _ _ _
                  rw [HSTP.out, HN.out]
                  exact HPU.out
            · obtain rfl : i = M + 1 := by omega
              have HFP : Hid ((List.range (M + 1)).foldl (stepF xs D) (c0P xs D) = fixP xs D) := by show _ = _; rw [← HM.out]; rfl
              rw [HFP.out] at HWL
              clear HFP HQ hi hlt
              have hends : (M = 4 ∨ (M ≠ 4 ∧ M = xs.length)) := by have := HMB.out; omega
              rcases hends with hm | ⟨hm, hmx⟩
              · have hg1 : ¬ ((M : Int) + 1 ≤ 4) := by omega
                go_wp2_with fail
                obtain ⟨gO, hgO⟩ : ∃ gO, wf.heap.size = gO := ⟨_, rfl⟩
                have HGO : Hid (gO ≠ g) := by have := HWL.out.tb.lt; show _ ≠ _; omega
                have hnO : Keeps [] wf (wf.alloc (.cells #[.int .i64 2, .int .i64 4, .int .i64 8] 3)) := (Keeps.refl _ _).alloc _
                have HO : Hid (Row (wf.alloc (.cells #[.int .i64 2, .int .i64 4, .int .i64 8] 3)) .i64 3 (.slice (some ⟨gO, 0, none⟩) 3 3) [2, 4, 8]) := by rw [← hgO]; exact Row.lit wf .i64 3 #[.int .i64 2, .int .i64 4, .int .i64 8] [2, 4, 8] rfl (by simp)
                have HWO := Lib.hid (HWL.out.new hnO)
                clear HWL hnO
                simp only [hgO]
                clear hgO
                generalize wf.alloc (.cells #[.int .i64 2, .int .i64 4, .int .i64 8] 3) = wg at *
                go_loopg [17] 4 (fun q v17 wr => ∃ (i : Nat), v17 = .int .i64 i ∧ i ≤ 3 ∧ Hid (DW w wr g k D (.slice va xs.length vc) xs ((([2, 4, 8] : List Nat).take i).foldl (stepQ xs D) (fixP xs D))) ∧ Hid (Row wr .i64 3 (.slice (some ⟨gO, 0, none⟩) 3 3) [2, 4, 8]) ∧ Hid (i + q = 4))
                case atStart => exact ⟨0, rfl, by omega, HWO.out, HO.out, (show _ = _ from by omega)⟩
                case round =>
                  clear HWO HO
                  obtain ⟨i, rfl, hi, HWL, HO, HQ⟩ := hrel
                  obtain ⟨q2, rfl⟩ : ∃ g : Nat, g = gk := ⟨_, rfl⟩
                  obtain ⟨wh, rfl⟩ : ∃ y : World, y = wr := ⟨_, rfl⟩
                  by_cases hlt : i < 3
                  · have HSTP := Lib.hid (qfold (stepQ xs D) (fixP xs D) i hlt)
                    obtain ⟨b, hb⟩ : ∃ b, (([2, 4, 8] : List Nat).take i).foldl (stepQ xs D) (fixP xs D) = b := ⟨_, rfl⟩
                    rw [hb] at HWL HSTP
                    have hoc := qc_cell HO.out i hlt
                    obtain ⟨hq2, hq8⟩ := qc_le i
                    have HQC : Hid (qc i = 2 ∨ qc i = 4 ∨ qc i = 8) := by show _ ∨ _ ∨ _; unfold qc; split <;> (try split) <;> simp
                    obtain ⟨oc, hocE⟩ : ∃ oc, qc i = oc := ⟨_, rfl⟩
                    rw [hocE] at HSTP hoc hq2 hq8 HQC
                    clear hb hocE
                    by_cases hol : oc < xs.length
                    · have hf := srcL_ok xs oc hq8
                      have he := srcE_ok (xs := xs) (o := oc) hq8 (by omega) (in_B (by omega) HFT.out)
                      have hlen : (srcL xs oc).length = oc := by
                        rw [he.2.1]
                        exact (fold_ok xs oc (mvS oc 4) _ (SrcOk.begin xs oc hq8)).len
                      have HSE := Lib.hid (fun W (ha : Hid (Rd W .i64 va xs)) => docSearch_any xs oc _ va vc W rfl HVL.out (by omega) ha)
                      obtain ⟨cf, hcf⟩ : ∃ cf, srcL xs oc = cf := ⟨_, rfl⟩
                      obtain ⟨sf, hsf⟩ : ∃ sf, srcS xs oc = sf := ⟨_, rfl⟩
                      obtain ⟨ef, hef⟩ : ∃ ef, srcE xs oc = ef := ⟨_, rfl⟩
                      obtain ⟨ok, hok⟩ : ∃ ok, modOk xs cf sf = ok := ⟨_, rfl⟩
                      have HSF : Hid (stepQ xs D b oc = takeP b (modP xs cf sf D (31 + (oc : Int)) (9 + 12 * (oc : Int))) ok) := by show _ = _; rw [← hok, ← hsf, ← hcf]; exact if_pos hol
                      rw [hcf] at hlen hf
                      rw [hcf, hsf, hef] at HSE
                      have HCS := Lib.hid hf.2.1
                      have hcx : cf.length ≤ xs.length := by omega
                      have HCR : Hid (∀ x ∈ cf, -9223372036854775808 ≤ x ∧ x ≤ 9223372036854775807) := fun x hx => by have := HCS.out x hx; omega
                      have HHL : Hid (true = true → 9 + 12 * (oc : Int) = if 31 < 31 + (oc : Int) then 9 + 12 * (cf.length : Int) else 0) := fun _ => by rw [if_pos (by omega), hlen]
                      have HOK := Lib.hid hok
                      have hcl : cf.length ≤ 8 := by omega
                      clear hcf hsf hef hok hf he hlen
                      cases ok
                      · have HN : Hid (stepQ xs D b oc = b) := by show _ = _; rw [HSF.out]; exact take_no _ _
                        go_wp2_with (first
                          | (go_at_call 39; go_must (with_reducible refine (HSE.out _ (Lib.hid (rdv HWL.out.row))).mono ?_); rintro e w2 ⟨v2, rfl, hr2, hf2, hn2⟩; obtain ⟨a2, c2', rfl⟩ := hr2.slice;
                              have hnA : Keeps [] w2 (w2.alloc (.cells #[.slice a2 cf.length c2', .int .i64 sf] 71)) := (Keeps.refl _ _).alloc _;
                              have HW3 := Lib.hid ((HWL.out.new hn2).new hnA); have HR3 : Hid (Row (w2.alloc (.cells #[.slice a2 cf.length c2', .int .i64 sf] 71)) .i64 3 (.slice a2 cf.length c2') cf) := Row.keeps hr2 hnA (fun _ _ => by simp); have HO3 := Lib.hid ((HO.out.keeps hn2 (fun _ _ => by simp)).keeps hnA (fun _ _ => by simp)); clear hr2 hf2 hn2 hnA)
                          | (go_at_call 38; go_must (with_reducible refine (dmod_no xs cf sf D true va a2 _ vc _ c2' _ rfl rfl HVL.out (by omega) hx5 HOK.out (Lib.hid (rdv HW3.out.row)) (Lib.hid (rdv HR3.out))).mono ?_); rintro e w4 ⟨rfl, hk4⟩; have HW4 := Lib.hid (HW3.out.new hk4); have HO4 := Lib.hid (HO3.out.keeps hk4 (fun _ _ => by simp)); obtain ⟨c0, c1, c2, f0, f1, f2⟩ := HW4.out.cs; clear hk4))
                        go_roundg (3 - i)
                        case measure => have := HQ.out; omega
                        case rel =>
                          refine ⟨i + 1, by go_num, by omega, ?_, HO4.out, (show _ = _ from by have := HQ.out; omega)⟩
                          show DW _ _ _ _ _ _ _ _
                          rw [HSTP.out, HN.out]
                          exact HW4.out
                      · have HN : Hid (stepQ xs D b oc = takeP b (modP xs cf sf D (31 + (oc : Int)) (9 + 12 * (oc : Int))) true) := HSF.out
                        have HPI : Hid (PlIs xs D (modP xs cf sf D (31 + (oc : Int)) (9 + 12 * (oc : Int)))) := mod_isD HD1.out HFT.out hx5 hcx HCS.out HOK.out (by omega) (HHL.out rfl)
                        have HPZ := Lib.hid (pl_sz hx5 HPI.out)
                        have HBM : Hid (bodyB xs D (modP xs cf sf D (31 + (oc : Int)) (9 + 12 * (oc : Int))) = mdB xs cf sf D true) := by
                          show _ = _
                          rw [body_mod _ _ _ _ _ _ (by omega)]
                          exact congrArg _ (decide_eq_true (by omega))
                        have HTRY := Lib.hid (fun W => dtry_pl xs D b (modP xs cf sf D (31 + (oc : Int)) (9 + 12 * (oc : Int))) k (31 + (oc : Int)) _ W HWL.out.ok HPI.out HPZ.out hk rfl HBM.out)
                        go_wp2_with (first
                          | (go_at_call 39; go_must (with_reducible refine (HSE.out _ (Lib.hid (rdv HWL.out.row))).mono ?_); rintro e w2 ⟨v2, rfl, hr2, hf2, hn2⟩; obtain ⟨a2, c2', rfl⟩ := hr2.slice;
                              have hnA : Keeps [] w2 (w2.alloc (.cells #[.slice a2 cf.length c2', .int .i64 sf] 71)) := (Keeps.refl _ _).alloc _;
                              have HW3 := Lib.hid ((HWL.out.new hn2).new hnA); have HR3 : Hid (Row (w2.alloc (.cells #[.slice a2 cf.length c2', .int .i64 sf] 71)) .i64 3 (.slice a2 cf.length c2') cf) := Row.keeps hr2 hnA (fun _ _ => by simp); have HO3 := Lib.hid ((HO.out.keeps hn2 (fun _ _ => by simp)).keeps hnA (fun _ _ => by simp)); clear hr2 hf2 hn2 hnA)
                          | (go_at_call 38; go_must (with_reducible refine (dmod_yes xs cf sf D true va a2 _ vc _ c2' _ rfl rfl HVL.out (by omega) hx5 HOK.out HFR HCR (Lib.hid (rdv HW3.out.row)) (Lib.hid (rdv HR3.out))).mono ?_); rintro e w4 ⟨rfl, hk4⟩; have HW4 := Lib.hid (HW3.out.new hk4); have HO4 := Lib.hid (HO3.out.keeps hk4 (fun _ _ => by simp)); obtain ⟨c0, c1, c2, f0, f1, f2⟩ := HW4.out.cs; clear hk4)
                          | (go_at_call 35; go_must (with_reducible refine (HTRY.out _).mono ?_); rintro e w5 ⟨rfl, hk5⟩; have HW5 := Lib.hid (HW4.out.new hk5); have HO5 := Lib.hid (HO4.out.keeps hk5 (fun _ _ => by simp)); clear c0 c1 c2 f0 f1 f2 hk5; obtain ⟨c0, c1, c2, f0, f1, f2⟩ := HW5.out.cs))
                        have HPU := Lib.hid (HW5.out.put (take_is (ok := true) HWL.out.ok (fun _ => ⟨HPI.out, HPZ.out⟩)))
                        go_roundg (3 - i)
                        case measure => have := HQ.out; omega
                        case rel =>
                          refine ⟨i + 1, by go_num, by omega, ?_, HO5.out.keeps ((Keeps.refl _ w5).set3 (F := [g]) (.inl (by simp)) _ _ _) (fun j hj h => HGO.out (by rw [fp_some] at hj; rw [List.mem_singleton] at hj h; omega)), (show _ = _ from by have := HQ.out; omega)⟩
                          show DW _ _ _ _ _ _ _ _
                          rw [HSTP.out, HN.out]
                          exact HPU.out
                    · have HSF : Hid (stepQ xs D b oc = b) := by show _ = _; exact if_neg hol
                      go_wp2_with fail
                      go_roundg (3 - i)
                      case measure => have := HQ.out; omega
                      case rel =>
                        refine ⟨i + 1, by go_num, by omega, ?_, HO.out, (show _ = _ from by have := HQ.out; omega)⟩
                        show DW _ _ _ _ _ _ _ _
                        rw [HSTP.out, HSF.out]
                        exact HWL.out
                  · obtain rfl : i = 3 := by omega
                    have HQP : Hid ((([2, 4, 8] : List Nat).take 3).foldl (stepQ xs D) (fixP xs D) = qP xs D) := (show _ = _ from rfl)
                    rw [HQP.out] at HWL
                    clear HQP HQ HO
                    obtain ⟨c0, c1, c2, f0, f1, f2⟩ := HWL.out.cs
                    have HPI : Hid (PlIs xs D ⟨1, [], 0, [], xs.length * D⟩) := pl_isD HD1.out HFT.out ⟨by omega, hx5⟩ (.inr (.inl rfl))
                    have HPZ := Lib.hid (pl_sz hx5 HPI.out)
                    have HTRY : Hid (∀ W, Calls Tryd.prog 35 #[.agg #[.int .i64 (dK (qP xs D)), .string (dstr (dT xs D k (qP xs D))), .int .i64 k], .int .i64 1, .string (dstr (psS xs D))] W fun e w' => e = .returned (.agg #[.int .i64 (dK (chooseP xs D)), .string (dstr (dT xs D k (chooseP xs D))), .int .i64 k]) ∧ Keeps [] W w') :=
                      fun W => dtry_pl xs D (qP xs D) ⟨1, [], 0, [], xs.length * D⟩ k 1 (psS xs D) W HWL.out.ok HPI.out HPZ.out hk rfl rfl
                    have HOC : Hid (OrIs xs D (chooseP xs D)) := take_is HWL.out.ok (fun _ => ⟨HPI.out, HPZ.out⟩)
                    have HSG := Lib.hid (fun W (hW : Keeps [] wh W) => dsigned_calls xs D _ rfl va vc W (by omega) HFR (Lib.hid ((rdv HWL.out.row).new hW)))
                    obtain ⟨PS, hPS⟩ : ∃ PS, psS xs D = PS := ⟨_, rfl⟩
                    rw [hPS] at HTRY HSG
                    have HCZ := Lib.hid (choose_ok xs D (by have := HD1.out; omega)).2
                    have HPL : Hid (planS S depth = chooseP xs D) := HRES.out
                    obtain ⟨bq, hbq⟩ : ∃ bq, qP xs D = bq := ⟨_, rfl⟩
                    obtain ⟨bc, hbc⟩ : ∃ bc, chooseP xs D = bc := ⟨_, rfl⟩
                    rw [hbq] at HTRY HWL c0 c1
                    rw [hbc] at HTRY HOC HCZ HPL
                    clear hPS hbq hbc
                    go_upto_region 30 with fail
                    go_region_law (first
                      | (go_simp; go_at_call 36; go_must (with_reducible refine (HSG.out _ ?hk).mono ?_); (case hk => first | exact (Keeps.refl [] _).drew | exact (Keeps.refl [] _)); rintro e w4 ⟨rfl, hk4⟩; have HW4 := Lib.hid (HWL.out.new (((Keeps.refl [] wh).drew).new hk4)); obtain ⟨d0, d1, d2, e0, e1, e2⟩ := HW4.out.cs)
                      | (go_simp; go_at_call 35; go_must (with_reducible refine (HTRY.out _).mono ?_); rintro e w5 ⟨rfl, hk5⟩; have HW5 := Lib.hid (HW4.out.new hk5); obtain ⟨j0, j1, j2, k0, k1, k2⟩ := HW5.out.cs))
                    all_goals
                      have HPU := Lib.hid (HW5.out.put HOC.out)
                      have HFIN : Hid (dK bc = (planS S depth).kd ∧ dT xs D k bc = swB S depth) := by
                        show _ ∧ _
                        rw [HSW.out, HPL.out]
                        unfold dK dT
                        have := HCZ.out
                        rw [if_neg (by omega), if_neg (by omega)]
                        exact ⟨rfl, rfl⟩
                      go_wp2_with fail
                      clear c0 c1 c2 f0 f1 f2 d0 d1 d2 e0 e1 e2 j0 j1 j2 k0 k1 k2
                      generalize ((w5.setCell ⟨g, 0, none⟩ (.int .i64 (dK bc))).setCell ⟨g, 1, none⟩ (.string (dstr (dT xs D k bc)))).setCell ⟨g, 2, none⟩ (.int .i64 k) = w6 at *
                      obtain ⟨c0, c1, c2, f0, f1, f2⟩ := HPU.out.cs
                      go_quiet (fail)
                      go_wp2_with fail
                      go_ret2
                      refine ⟨?_, HPU.out.hk.new ((Keeps.refl [] w6).drewN _)⟩
                      rw [← HFIN.out.1, ← HFIN.out.2]
                      rfl
              · have hg0 : (M : Int) + 1 ≤ 4 := by omega
                have hg1 : ¬ ((M : Int) + 1 ≤ (xs.length : Int)) := by omega
                go_wp2_with fail
                obtain ⟨gO, hgO⟩ : ∃ gO, wf.heap.size = gO := ⟨_, rfl⟩
                have HGO : Hid (gO ≠ g) := by have := HWL.out.tb.lt; show _ ≠ _; omega
                have hnO : Keeps [] wf (wf.alloc (.cells #[.int .i64 2, .int .i64 4, .int .i64 8] 3)) := (Keeps.refl _ _).alloc _
                have HO : Hid (Row (wf.alloc (.cells #[.int .i64 2, .int .i64 4, .int .i64 8] 3)) .i64 3 (.slice (some ⟨gO, 0, none⟩) 3 3) [2, 4, 8]) := by rw [← hgO]; exact Row.lit wf .i64 3 #[.int .i64 2, .int .i64 4, .int .i64 8] [2, 4, 8] rfl (by simp)
                have HWO := Lib.hid (HWL.out.new hnO)
                clear HWL hnO
                simp only [hgO]
                clear hgO
                generalize wf.alloc (.cells #[.int .i64 2, .int .i64 4, .int .i64 8] 3) = wg at *
                go_loopg [17] 4 (fun q v17 wr => ∃ (i : Nat), v17 = .int .i64 i ∧ i ≤ 3 ∧ Hid (DW w wr g k D (.slice va xs.length vc) xs ((([2, 4, 8] : List Nat).take i).foldl (stepQ xs D) (fixP xs D))) ∧ Hid (Row wr .i64 3 (.slice (some ⟨gO, 0, none⟩) 3 3) [2, 4, 8]) ∧ Hid (i + q = 4))
                case atStart => exact ⟨0, rfl, by omega, HWO.out, HO.out, (show _ = _ from by omega)⟩
                case round =>
                  clear HWO HO
                  obtain ⟨i, rfl, hi, HWL, HO, HQ⟩ := hrel
                  obtain ⟨q2, rfl⟩ : ∃ g : Nat, g = gk := ⟨_, rfl⟩
                  obtain ⟨wh, rfl⟩ : ∃ y : World, y = wr := ⟨_, rfl⟩
                  by_cases hlt : i < 3
                  · have HSTP := Lib.hid (qfold (stepQ xs D) (fixP xs D) i hlt)
                    obtain ⟨b, hb⟩ : ∃ b, (([2, 4, 8] : List Nat).take i).foldl (stepQ xs D) (fixP xs D) = b := ⟨_, rfl⟩
                    rw [hb] at HWL HSTP
                    have hoc := qc_cell HO.out i hlt
                    obtain ⟨hq2, hq8⟩ := qc_le i
                    have HQC : Hid (qc i = 2 ∨ qc i = 4 ∨ qc i = 8) := by show _ ∨ _ ∨ _; unfold qc; split <;> (try split) <;> simp
                    obtain ⟨oc, hocE⟩ : ∃ oc, qc i = oc := ⟨_, rfl⟩
                    rw [hocE] at HSTP hoc hq2 hq8 HQC
                    clear hb hocE
                    by_cases hol : oc < xs.length
                    · have hf := srcL_ok xs oc hq8
                      have he := srcE_ok (xs := xs) (o := oc) hq8 (by omega) (in_B (by omega) HFT.out)
                      have hlen : (srcL xs oc).length = oc := by
                        rw [he.2.1]
                        exact (fold_ok xs oc (mvS oc 4) _ (SrcOk.begin xs oc hq8)).len
                      have HSE := Lib.hid (fun W (ha : Hid (Rd W .i64 va xs)) => docSearch_any xs oc _ va vc W rfl HVL.out (by omega) ha)
                      obtain ⟨cf, hcf⟩ : ∃ cf, srcL xs oc = cf := ⟨_, rfl⟩
                      obtain ⟨sf, hsf⟩ : ∃ sf, srcS xs oc = sf := ⟨_, rfl⟩
                      obtain ⟨ef, hef⟩ : ∃ ef, srcE xs oc = ef := ⟨_, rfl⟩
                      obtain ⟨ok, hok⟩ : ∃ ok, modOk xs cf sf = ok := ⟨_, rfl⟩
                      have HSF : Hid (stepQ xs D b oc = takeP b (modP xs cf sf D (31 + (oc : Int)) (9 + 12 * (oc : Int))) ok) := by show _ = _; rw [← hok, ← hsf, ← hcf]; exact if_pos hol
                      rw [hcf] at hlen hf
                      rw [hcf, hsf, hef] at HSE
                      have HCS := Lib.hid hf.2.1
                      have hcx : cf.length ≤ xs.length := by omega
                      have HCR : Hid (∀ x ∈ cf, -9223372036854775808 ≤ x ∧ x ≤ 9223372036854775807) := fun x hx => by have := HCS.out x hx; omega
                      have HHL : Hid (true = true → 9 + 12 * (oc : Int) = if 31 < 31 + (oc : Int) then 9 + 12 * (cf.length : Int) else 0) := fun _ => by rw [if_pos (by omega), hlen]
                      have HOK := Lib.hid hok
                      have hcl : cf.length ≤ 8 := by omega
                      clear hcf hsf hef hok hf he hlen
                      cases ok
                      · have HN : Hid (stepQ xs D b oc = b) := by show _ = _; rw [HSF.out]; exact take_no _ _
                        go_wp2_with (first
                          | (go_at_call 39; go_must (with_reducible refine (HSE.out _ (Lib.hid (rdv HWL.out.row))).mono ?_); rintro e w2 ⟨v2, rfl, hr2, hf2, hn2⟩; obtain ⟨a2, c2', rfl⟩ := hr2.slice;
                              have hnA : Keeps [] w2 (w2.alloc (.cells #[.slice a2 cf.length c2', .int .i64 sf] 71)) := (Keeps.refl _ _).alloc _;
                              have HW3 := Lib.hid ((HWL.out.new hn2).new hnA); have HR3 : Hid (Row (w2.alloc (.cells #[.slice a2 cf.length c2', .int .i64 sf] 71)) .i64 3 (.slice a2 cf.length c2') cf) := Row.keeps hr2 hnA (fun _ _ => by simp); have HO3 := Lib.hid ((HO.out.keeps hn2 (fun _ _ => by simp)).keeps hnA (fun _ _ => by simp)); clear hr2 hf2 hn2 hnA)
                          | (go_at_call 38; go_must (with_reducible refine (dmod_no xs cf sf D true va a2 _ vc _ c2' _ rfl rfl HVL.out (by omega) hx5 HOK.out (Lib.hid (rdv HW3.out.row)) (Lib.hid (rdv HR3.out))).mono ?_); rintro e w4 ⟨rfl, hk4⟩; have HW4 := Lib.hid (HW3.out.new hk4); have HO4 := Lib.hid (HO3.out.keeps hk4 (fun _ _ => by simp)); obtain ⟨c0, c1, c2, f0, f1, f2⟩ := HW4.out.cs; clear hk4))
                        go_roundg (3 - i)
                        case measure => have := HQ.out; omega
                        case rel =>
                          refine ⟨i + 1, by go_num, by omega, ?_, HO4.out, (show _ = _ from by have := HQ.out; omega)⟩
                          show DW _ _ _ _ _ _ _ _
                          rw [HSTP.out, HN.out]
                          exact HW4.out
                      · have HN : Hid (stepQ xs D b oc = takeP b (modP xs cf sf D (31 + (oc : Int)) (9 + 12 * (oc : Int))) true) := HSF.out
                        have HPI : Hid (PlIs xs D (modP xs cf sf D (31 + (oc : Int)) (9 + 12 * (oc : Int)))) := mod_isD HD1.out HFT.out hx5 hcx HCS.out HOK.out (by omega) (HHL.out rfl)
                        have HPZ := Lib.hid (pl_sz hx5 HPI.out)
                        have HBM : Hid (bodyB xs D (modP xs cf sf D (31 + (oc : Int)) (9 + 12 * (oc : Int))) = mdB xs cf sf D true) := by
                          show _ = _
                          rw [body_mod _ _ _ _ _ _ (by omega)]
                          exact congrArg _ (decide_eq_true (by omega))
                        have HTRY := Lib.hid (fun W => dtry_pl xs D b (modP xs cf sf D (31 + (oc : Int)) (9 + 12 * (oc : Int))) k (31 + (oc : Int)) _ W HWL.out.ok HPI.out HPZ.out hk rfl HBM.out)
                        go_wp2_with (first
                          | (go_at_call 39; go_must (with_reducible refine (HSE.out _ (Lib.hid (rdv HWL.out.row))).mono ?_); rintro e w2 ⟨v2, rfl, hr2, hf2, hn2⟩; obtain ⟨a2, c2', rfl⟩ := hr2.slice;
                              have hnA : Keeps [] w2 (w2.alloc (.cells #[.slice a2 cf.length c2', .int .i64 sf] 71)) := (Keeps.refl _ _).alloc _;
                              have HW3 := Lib.hid ((HWL.out.new hn2).new hnA); have HR3 : Hid (Row (w2.alloc (.cells #[.slice a2 cf.length c2', .int .i64 sf] 71)) .i64 3 (.slice a2 cf.length c2') cf) := Row.keeps hr2 hnA (fun _ _ => by simp); have HO3 := Lib.hid ((HO.out.keeps hn2 (fun _ _ => by simp)).keeps hnA (fun _ _ => by simp)); clear hr2 hf2 hn2 hnA)
                          | (go_at_call 38; go_must (with_reducible refine (dmod_yes xs cf sf D true va a2 _ vc _ c2' _ rfl rfl HVL.out (by omega) hx5 HOK.out HFR HCR (Lib.hid (rdv HW3.out.row)) (Lib.hid (rdv HR3.out))).mono ?_); rintro e w4 ⟨rfl, hk4⟩; have HW4 := Lib.hid (HW3.out.new hk4); have HO4 := Lib.hid (HO3.out.keeps hk4 (fun _ _ => by simp)); obtain ⟨c0, c1, c2, f0, f1, f2⟩ := HW4.out.cs; clear hk4)
                          | (go_at_call 35; go_must (with_reducible refine (HTRY.out _).mono ?_); rintro e w5 ⟨rfl, hk5⟩; have HW5 := Lib.hid (HW4.out.new hk5); have HO5 := Lib.hid (HO4.out.keeps hk5 (fun _ _ => by simp)); clear c0 c1 c2 f0 f1 f2 hk5; obtain ⟨c0, c1, c2, f0, f1, f2⟩ := HW5.out.cs))
                        have HPU := Lib.hid (HW5.out.put (take_is (ok := true) HWL.out.ok (fun _ => ⟨HPI.out, HPZ.out⟩)))
                        go_roundg (3 - i)
                        case measure => have := HQ.out; omega
                        case rel =>
                          refine ⟨i + 1, by go_num, by omega, ?_, HO5.out.keeps ((Keeps.refl _ w5).set3 (F := [g]) (.inl (by simp)) _ _ _) (fun j hj h => HGO.out (by rw [fp_some] at hj; rw [List.mem_singleton] at hj h; omega)), (show _ = _ from by have := HQ.out; omega)⟩
                          show DW _ _ _ _ _ _ _ _
                          rw [HSTP.out, HN.out]
                          exact HPU.out
                    · have HSF : Hid (stepQ xs D b oc = b) := by show _ = _; exact if_neg hol
                      go_wp2_with fail
                      go_roundg (3 - i)
                      case measure => have := HQ.out; omega
                      case rel =>
                        refine ⟨i + 1, by go_num, by omega, ?_, HO.out, (show _ = _ from by have := HQ.out; omega)⟩
                        show DW _ _ _ _ _ _ _ _
                        rw [HSTP.out, HSF.out]
                        exact HWL.out
                  · obtain rfl : i = 3 := by omega
                    have HQP : Hid ((([2, 4, 8] : List Nat).take 3).foldl (stepQ xs D) (fixP xs D) = qP xs D) := (show _ = _ from rfl)
                    rw [HQP.out] at HWL
                    clear HQP HQ HO
                    obtain ⟨c0, c1, c2, f0, f1, f2⟩ := HWL.out.cs
                    have HPI : Hid (PlIs xs D ⟨1, [], 0, [], xs.length * D⟩) := pl_isD HD1.out HFT.out ⟨by omega, hx5⟩ (.inr (.inl rfl))
                    have HPZ := Lib.hid (pl_sz hx5 HPI.out)
                    have HTRY : Hid (∀ W, Calls Tryd.prog 35 #[.agg #[.int .i64 (dK (qP xs D)), .string (dstr (dT xs D k (qP xs D))), .int .i64 k], .int .i64 1, .string (dstr (psS xs D))] W fun e w' => e = .returned (.agg #[.int .i64 (dK (chooseP xs D)), .string (dstr (dT xs D k (chooseP xs D))), .int .i64 k]) ∧ Keeps [] W w') :=
                      fun W => dtry_pl xs D (qP xs D) ⟨1, [], 0, [], xs.length * D⟩ k 1 (psS xs D) W HWL.out.ok HPI.out HPZ.out hk rfl rfl
                    have HOC : Hid (OrIs xs D (chooseP xs D)) := take_is HWL.out.ok (fun _ => ⟨HPI.out, HPZ.out⟩)
                    have HSG := Lib.hid (fun W (hW : Keeps [] wh W) => dsigned_calls xs D _ rfl va vc W (by omega) HFR (Lib.hid ((rdv HWL.out.row).new hW)))
                    obtain ⟨PS, hPS⟩ : ∃ PS, psS xs D = PS := ⟨_, rfl⟩
                    rw [hPS] at HTRY HSG
                    have HCZ := Lib.hid (choose_ok xs D (by have := HD1.out; omega)).2
                    have HPL : Hid (planS S depth = chooseP xs D) := HRES.out
                    obtain ⟨bq, hbq⟩ : ∃ bq, qP xs D = bq := ⟨_, rfl⟩
                    obtain ⟨bc, hbc⟩ : ∃ bc, chooseP xs D = bc := ⟨_, rfl⟩
                    rw [hbq] at HTRY HWL c0 c1
                    rw [hbc] at HTRY HOC HCZ HPL
                    clear hPS hbq hbc
                    go_upto_region 30 with fail
                    go_region_law (first
                      | (go_simp; go_at_call 36; go_must (with_reducible refine (HSG.out _ ?hk).mono ?_); (case hk => first | exact (Keeps.refl [] _).drew | exact (Keeps.refl [] _)); rintro e w4 ⟨rfl, hk4⟩; have HW4 := Lib.hid (HWL.out.new (((Keeps.refl [] wh).drew).new hk4)); obtain ⟨d0, d1, d2, e0, e1, e2⟩ := HW4.out.cs)
                      | (go_simp; go_at_call 35; go_must (with_reducible refine (HTRY.out _).mono ?_); rintro e w5 ⟨rfl, hk5⟩; have HW5 := Lib.hid (HW4.out.new hk5); obtain ⟨j0, j1, j2, k0, k1, k2⟩ := HW5.out.cs))
                    all_goals
                      have HPU := Lib.hid (HW5.out.put HOC.out)
                      have HFIN : Hid (dK bc = (planS S depth).kd ∧ dT xs D k bc = swB S depth) := by
                        show _ ∧ _
                        rw [HSW.out, HPL.out]
                        unfold dK dT
                        have := HCZ.out
                        rw [if_neg (by omega), if_neg (by omega)]
                        exact ⟨rfl, rfl⟩
                      go_wp2_with fail
                      clear c0 c1 c2 f0 f1 f2 d0 d1 d2 e0 e1 e2 j0 j1 j2 k0 k1 k2
                      generalize ((w5.setCell ⟨g, 0, none⟩ (.int .i64 (dK bc))).setCell ⟨g, 1, none⟩ (.string (dstr (dT xs D k bc)))).setCell ⟨g, 2, none⟩ (.int .i64 k) = w6 at *
                      obtain ⟨c0, c1, c2, f0, f1, f2⟩ := HPU.out.cs
                      go_quiet (fail)
                      go_wp2_with fail
                      go_ret2
                      refine ⟨?_, HPU.out.hk.new ((Keeps.refl [] w6).drewN _)⟩
                      rw [← HFIN.out.1, ← HFIN.out.2]
                      rfl
end Go.Proofs.YtofkiimaoahfjaaDoor
