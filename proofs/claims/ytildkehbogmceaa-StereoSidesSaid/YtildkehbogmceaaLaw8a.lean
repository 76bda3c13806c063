/-
  The statement StereoSides of layer 8: the walk.
-/
import Derived.Test.YtildkehbogmceaaSte9
import Derived.Test.YtildkehbogmceaaIn
set_option linter.unusedVariables false
set_option linter.unusedSimpArgs false
namespace Go.Proofs.Ytildkehbogmceaa
open Go.RowKit

theorem rgh_zero : ∀ L : List Int, (∀ x ∈ L, x = 0) → rgh 0 L = 0 := by
  intro L
  induction L with
  | nil => intro _; rfl
  | cons x L ih =>
    intro h
    have hx := h x List.mem_cons_self
    subst hx
    unfold rgh
    rw [ih (fun y hy => h y (List.mem_cons_of_mem _ hy))]
    rfl
theorem rgh_nonneg : ∀ (L : List Int) (l : Int), 0 ≤ rgh l L := by
  intro L
  induction L with
  | nil => intro l; exact Int.le_refl _
  | cons x L ih =>
    intro l
    have := ih x
    unfold rgh
    omega
theorem rgh_all : ∀ L : List Int, rgh 0 L = 0 → ∀ x ∈ L, x = 0 := by
  intro L
  induction L with
  | nil => intro _ x hx; cases hx
  | cons x L ih =>
    intro h y hy
    unfold rgh at h
    have h1 := rgh_nonneg L x
    have hx : x = 0 := by omega
    subst hx
    rcases List.mem_cons.1 hy with rfl | hy
    · rfl
    · exact ih (by omega) y hy
theorem zip_self (L : List Int) : L.zip L = L.map (fun x => (x, x)) := by
  induction L with
  | nil => rfl
  | cons x L ih => simp [ih]
/-- Where the channels are alike. -/
theorem choose_alike (L : List Int) : (chooseC (L.zip L) = 8) ∨ (chooseC (L.zip L) = 0 ∧ ∀ x ∈ L, x = 0) := by
  obtain ⟨G, hG⟩ : ∃ G, rgh 0 L = G := ⟨_, rfl⟩
  have hG0 : 0 ≤ G := by rw [← hG]; exact rgh_nonneg L 0
  have hid : ∀ f : Int × Int → Int, (∀ x, f (x, x) = x) → (L.zip L).map f = L := by
    intro f hf
    rw [zip_self, List.map_map]
    have : (f ∘ fun x => (x, x)) = id := by funext x; exact hf x
    rw [this, List.map_id]
  have hzr : ∀ f : Int × Int → Int, (∀ x, f (x, x) = 0) → rgh 0 ((L.zip L).map f) = 0 := by
    intro f hf
    apply rgh_zero
    intro x hx
    rw [zip_self, List.map_map] at hx
    obtain ⟨y, hy, rfl⟩ := List.mem_map.1 hx
    exact hf y
  have c0 : rghM (L.zip L) 0 = G + G := by unfold rghM; rw [hid (apA 0) (fun x => rfl), hid (apB 0) (fun x => rfl), hG]
  have c8 : rghM (L.zip L) 8 = G := by unfold rghM; rw [hid (apA 8) (fun x => rfl), hzr (apB 8) (fun x => by show x - x = 0; omega), hG]; omega
  have c9 : rghM (L.zip L) 9 = G := by unfold rghM; rw [hzr (apA 9) (fun x => by show x - x = 0; omega), hid (apB 9) (fun x => rfl), hG]; omega
  have c10 : rghM (L.zip L) 10 = G := by unfold rghM; rw [hid (apA 10) (fun x => by show (x + x) / 2 = x; omega), hzr (apB 10) (fun x => by show x - x = 0; omega), hG]; omega
  have s0 : stepC (L.zip L) (0, -1) 0 = (0, G + G) := by unfold stepC; rw [if_pos (.inl (by decide)), c0]
  unfold chooseC
  rw [s0]
  by_cases h : 0 < G
  · left
    have s8 : stepC (L.zip L) (0, G + G) 8 = (8, G) := by unfold stepC; rw [c8, if_pos (.inr (by simp only; omega))]
    have s9 : stepC (L.zip L) (8, G) 9 = (8, G) := by unfold stepC; rw [c9, if_neg (by simp only; omega)]
    have s10 : stepC (L.zip L) (8, G) 10 = (8, G) := by unfold stepC; rw [c10, if_neg (by simp only; omega)]
    rw [s8, s9, s10]
  · right
    have hz : G = 0 := by omega
    have s8 : stepC (L.zip L) (0, G + G) 8 = (0, G + G) := by unfold stepC; rw [c8, if_neg (by simp only; omega)]
    have s9 : stepC (L.zip L) (0, G + G) 9 = (0, G + G) := by unfold stepC; rw [c9, if_neg (by simp only; omega)]
    have s10 : stepC (L.zip L) (0, G + G) 10 = (0, G + G) := by unfold stepC; rw [c10, if_neg (by simp only; omega)]
    rw [s8, s9, s10]
    exact ⟨rfl, rgh_all L (by rw [hG, hz])⟩
theorem joinE_cases (L R : List Int) : joinE L R = 1 ∨ joinE L R = 14 ∨ joinE L R = 12 ∨ (joinE L R = 0 ∧ L.length = R.length ∧ L.length ≤ 8192 ∧ ∀ z ∈ L.zip R, InC z) := by
  unfold joinE
  split
  · exact .inl rfl
  · rename_i h1
    split
    · exact .inr (.inl rfl)
    · rename_i h2
      split
      · rename_i h3
        refine .inr (.inr (.inr ⟨rfl, by omega, by omega, fun z hz => ?_⟩))
        exact (inC_iff z).1 (List.all_eq_true.1 h3 z hz)
      · exact .inr (.inr (.inl rfl))
theorem joinE_self (L R : List Int) (hl : L.length = R.length) (h8 : L.length ≤ 8192) (h : ∀ z ∈ L.zip R, InC z) : joinE L L = 0 ∧ ∀ z ∈ L.zip L, InC z := by
  have hx : ∀ x ∈ L, -16777216 ≤ x ∧ x ≤ 16777216 := by
    intro x hx
    obtain ⟨i, hi, rfl⟩ := List.mem_iff_getElem.1 hx
    have hi2 : i < (L.zip R).length := by rw [List.length_zip]; omega
    have := h (L.zip R)[i] (List.getElem_mem _)
    rw [List.getElem_zip] at this
    exact this.1
  have h2 : ∀ z ∈ L.zip L, InC z := by
    intro z hz
    rw [zip_self] at hz
    obtain ⟨x, hxx, rfl⟩ := List.mem_map.1 hz
    exact ⟨hx x hxx, hx x hxx⟩
  refine ⟨?_, h2⟩
  unfold joinE
  rw [if_neg (by simp), if_neg (by omega), if_pos]
  exact List.all_eq_true.2 (fun z hz => (inC_iff z).2 (h2 z hz))

set_option maxHeartbeats 16000000 in
set_option maxRecDepth 100000 in
theorem stereoSides_walk (a0 : Option Addr) (len0 cap0 : Nat) (z0 : List Int) (a1 : Option Addr) (len1 cap1 : Nat) (z1 : List Int) (w : World) (w0 : InRow .i64 w a0 len0 cap0 z0) (s0 : cap0 * 8 ≤ 140737488351232) (w1 : InRow .i64 w a1 len1 cap1 z1) (s1 : cap1 * 8 ≤ 140737488351232) :
    Calls Try.prog 3 #[.slice a0 len0 cap0, .slice a1 len1 cap1] w fun e w' => e = .returned (.bool true) ∧ Below w.heap.size w w' := by
  obtain ⟨hr0, hl0, hw0, hcap0⟩ := w0.rd
  obtain ⟨hr1, hl1, hw1, hcap1⟩ := w1.rd
  generalize z0.take len0 = L at *
  generalize z1.take len1 = R at *
  subst hl0 hl1
  have HL := Lib.hid hr0
  have HR := Lib.hid hr1
  have HK0 : Hid (Keeps [] w w) := Keeps.refl _ _
  clear w0 s0 w1 s1 hw0 hw1 hr0 hr1
  rcases joinE_cases L R with hj | hj | hj | ⟨hj, hlen, h8, hin⟩
  · have HJ := Lib.hid (fun W (hk : Keeps [] w W) => join_calls L R _ _ rfl rfl a0 a1 cap0 cap1 W (Lib.hid (HL.out.new hk)) (Lib.hid (HR.out.new hk)))
    rw [hj] at HJ
    clear hj hcap0 hcap1
    go_enter Try.func3, Try.ntmps3
    go_wp2_with (first
      | (go_at_call 5; go_must (refine (sknown_calls _).mono ?_); rintro e wk ⟨rfl, hk1⟩; have HK := Lib.hid (HK0.out.new hk1); clear hk1)
      | (go_at_call 6; go_must (refine (HJ.out _ HK.out).mono ?_); rintro e w2 ⟨v, rfl, hr, -, hk2⟩; rw [if_neg (by decide)] at hr; obtain ⟨av, cv, hv, -⟩ := hr.rdV; subst hv; have HK2 := Lib.hid (HK.out.new hk2); clear hr hk2))
    go_ret
    exact ⟨rfl, HK2.out.below⟩
  · have HJ := Lib.hid (fun W (hk : Keeps [] w W) => join_calls L R _ _ rfl rfl a0 a1 cap0 cap1 W (Lib.hid (HL.out.new hk)) (Lib.hid (HR.out.new hk)))
    rw [hj] at HJ
    clear hj hcap0 hcap1
    go_enter Try.func3, Try.ntmps3
    go_wp2_with (first
      | (go_at_call 5; go_must (refine (sknown_calls _).mono ?_); rintro e wk ⟨rfl, hk1⟩; have HK := Lib.hid (HK0.out.new hk1); clear hk1)
      | (go_at_call 6; go_must (refine (HJ.out _ HK.out).mono ?_); rintro e w2 ⟨v, rfl, hr, -, hk2⟩; rw [if_neg (by decide)] at hr; obtain ⟨av, cv, hv, -⟩ := hr.rdV; subst hv; have HK2 := Lib.hid (HK.out.new hk2); clear hr hk2))
    go_ret
    exact ⟨rfl, HK2.out.below⟩
  · have HJ := Lib.hid (fun W (hk : Keeps [] w W) => join_calls L R _ _ rfl rfl a0 a1 cap0 cap1 W (Lib.hid (HL.out.new hk)) (Lib.hid (HR.out.new hk)))
    rw [hj] at HJ
    clear hj hcap0 hcap1
    go_enter Try.func3, Try.ntmps3
    go_wp2_with (first
      | (go_at_call 5; go_must (refine (sknown_calls _).mono ?_); rintro e wk ⟨rfl, hk1⟩; have HK := Lib.hid (HK0.out.new hk1); clear hk1)
      | (go_at_call 6; go_must (refine (HJ.out _ HK.out).mono ?_); rintro e w2 ⟨v, rfl, hr, -, hk2⟩; rw [if_neg (by decide)] at hr; obtain ⟨av, cv, hv, -⟩ := hr.rdV; subst hv; have HK2 := Lib.hid (HK.out.new hk2); clear hr hk2))
    go_ret
    exact ⟨rfl, HK2.out.below⟩
  have HJ : Hid (∀ W, Keeps [] w W → Calls Try.prog 6 #[.slice a0 L.length cap0, .slice a1 R.length cap1] W fun e w' => ∃ v, e = .returned (.tuple #[v, .int .i64 0]) ∧ RowV w' 37 v (cxs (L.zip R)) ∧ Keeps [] W w') := by
    intro W hk
    refine (join_calls L R _ _ rfl rfl a0 a1 cap0 cap1 W (Lib.hid (HL.out.new hk)) (Lib.hid (HR.out.new hk))).mono ?_
    rintro e w' ⟨v, rfl, q1, -, q3⟩
    rw [hj, if_pos rfl] at q1
    rw [hj]
    exact ⟨v, rfl, q1, q3⟩
  obtain ⟨hjs, hin2⟩ := joinE_self L R hlen h8 hin
  have HJ2 : Hid (∀ W, Keeps [] w W → Calls Try.prog 6 #[.slice a0 L.length cap0, .slice a0 L.length cap0] W fun e w' => ∃ v, e = .returned (.tuple #[v, .int .i64 0]) ∧ RowV w' 37 v (cxs (L.zip L)) ∧ Keeps [] W w') := by
    intro W hk
    refine (join_calls L L _ _ rfl rfl a0 a0 cap0 cap0 W (Lib.hid (HL.out.new hk)) (Lib.hid (HL.out.new hk))).mono ?_
    rintro e w' ⟨v, rfl, q1, -, q3⟩
    rw [hjs, if_pos rfl] at q1
    rw [hjs]
    exact ⟨v, rfl, q1, q3⟩
  have hal := choose_alike L
  obtain ⟨zs, hzs⟩ : ∃ zs, L.zip R = zs := ⟨_, rfl⟩
  obtain ⟨ys, hys⟩ : ∃ ys, L.zip L = ys := ⟨_, rfl⟩
  have hzl : zs.length = L.length := by rw [← hzs, List.length_zip]; omega
  have hyl : ys.length = L.length := by rw [← hys, List.length_zip]; omega
  have HZI : Hid (∀ i (h : i < zs.length) (h1 : i < L.length) (h2 : i < R.length), zs[i] = (L[i], R[i])) := by
    intro i h h1 h2
    simp [← hzs]
  have HYI : Hid (∀ i (h : i < ys.length) (h1 : i < L.length), ys[i] = (L[i], L[i])) := by
    intro i h h1
    simp [← hys]
  rw [hzs] at HJ hin
  rw [hys] at HJ2 hin2 hal
  obtain ⟨kc, hkc⟩ : ∃ kc, chooseC ys = kc := ⟨_, rfl⟩
  rw [hkc] at hal
  obtain ⟨nz, hnz⟩ : ∃ nz, L.length = nz := ⟨_, rfl⟩
  have HZL := Lib.hid (hzl.trans hnz)
  have HYL := Lib.hid (hyl.trans hnz)
  have HLL := Lib.hid hnz
  have HRR := Lib.hid (hlen.symm.trans hnz)
  have HIN := Lib.hid hin
  have HIN2 := Lib.hid hin2
  have HAL := Lib.hid hal
  have HKC := Lib.hid hkc
  have hn8 : nz ≤ 8192 := by omega
  rw [hnz, HRR.out] at HJ
  rw [hnz] at HJ2
  rw [hnz, HRR.out]
  clear hj hlen h8 hin hjs hin2 hal hzs hys hzl hyl hkc hnz hcap0 hcap1
  go_enter Try.func3, Try.ntmps3
  go_upto_region 5 with (first
    | (go_at_call 5; go_must (refine (sknown_calls _).mono ?_); rintro e wk ⟨rfl, hk1⟩; have HK := Lib.hid (HK0.out.new hk1); clear hk1)
    | (go_at_call 6; go_must (refine (HJ.out _ HK.out).mono ?_); rintro e w2 ⟨v, rfl, hr, hk2⟩; obtain ⟨av, cv, hv, hrv⟩ := hr.rdV; rw [cxs_length, HZL.out] at hv; subst hv; have HP := Lib.hid hrv; have HK2 := Lib.hid (HK.out.new hk2); clear hr hk2 hrv))
  obtain ⟨DL, hDL⟩ : ∃ DL, zs.map (apB 8) = DL := ⟨_, rfl⟩
  obtain ⟨ML, hML⟩ : ∃ ML, zs.map (apA 10) = ML := ⟨_, rfl⟩
  obtain ⟨ZL, hZL⟩ : ∃ ZL, ys.map (apB 8) = ZL := ⟨_, rfl⟩
  have hD9 : zs.map (apA 9) = DL := by rw [← hDL]; apply List.map_congr_left; intro z _; rfl
  have hD10 : zs.map (apB 10) = DL := by rw [← hDL]; apply List.map_congr_left; intro z _; rfl
  have hDl : DL.length = nz := by rw [← hDL, List.length_map, HZL.out]
  have hMl : ML.length = nz := by rw [← hML, List.length_map, HZL.out]
  have hZl : ZL.length = nz := by rw [← hZL, List.length_map, HYL.out]
  have HDI : Hid (∀ i (h : i < DL.length) (h1 : i < L.length) (h2 : i < R.length), DL[i] = L[i] - R[i]) := by
    intro i h h1 h2
    have hz := HZI.out i (by rw [HZL.out, ← HLL.out]; exact h1) h1 h2
    subst hDL
    rw [List.getElem_map, hz]
    rfl
  have HMI : Hid (∀ i (h : i < ML.length) (h1 : i < L.length) (h2 : i < R.length), ML[i] = (L[i] + R[i]) / 2) := by
    intro i h h1 h2
    have hz := HZI.out i (by rw [HZL.out, ← HLL.out]; exact h1) h1 h2
    subst hML
    rw [List.getElem_map, hz]
    rfl
  have HZB : Hid (∀ i (h1 : i < L.length) (h2 : i < R.length), (-16777216 ≤ L[i] ∧ L[i] ≤ 16777216) ∧ (-16777216 ≤ R[i] ∧ R[i] ≤ 16777216)) := by
    intro i h1 h2
    have h : i < zs.length := by rw [HZL.out, ← HLL.out]; exact h1
    have := HIN.out zs[i] (List.getElem_mem _)
    rw [HZI.out i h h1 h2] at this
    exact this
  have HZ0 : Hid (∀ i (h : i < ZL.length), ZL[i] = 0) := by
    intro i h
    have h1 : i < L.length := by rw [HLL.out, ← hZl]; exact h
    have hz := HYI.out i (by rw [HYL.out, ← HLL.out]; exact h1) h1
    subst hZL
    rw [List.getElem_map, hz]
    show L[i] - L[i] = 0
    omega
  have HA8 : Hid (∀ W, Keeps [] w2 W → Calls Try.prog 7 #[.slice av nz cv, .int .i64 8] W fun e w' => ∃ va ab cb, e = .returned (.tuple #[va, .slice ab nz cb, .int .i64 0]) ∧ Rd w' .i64 ab DL ∧ Keeps [] W w') := by
    intro W hk
    refine (apart_8 zs nz HZL.out.symm av cv W (by rw [HZL.out]; exact hn8) HIN.out (Lib.hid (HP.out.new hk))).mono ?_
    rintro e w' ⟨va, vb, rfl, q1⟩
    obtain ⟨ab, cb, e1, q2⟩ := q1.rb.rd
    rw [hDL] at e1 q2
    rw [hDl] at e1
    subst e1
    exact ⟨va, ab, cb, rfl, q2, q1.keep⟩
  have HA9 : Hid (∀ W, Keeps [] w2 W → Calls Try.prog 7 #[.slice av nz cv, .int .i64 9] W fun e w' => ∃ vb ab cb, e = .returned (.tuple #[.slice ab nz cb, vb, .int .i64 0]) ∧ Rd w' .i64 ab DL ∧ Keeps [] W w') := by
    intro W hk
    refine (apart_9 zs nz HZL.out.symm av cv W (by rw [HZL.out]; exact hn8) HIN.out (Lib.hid (HP.out.new hk))).mono ?_
    rintro e w' ⟨va, vb, rfl, q1⟩
    obtain ⟨ab, cb, e1, q2⟩ := q1.ra.rd
    rw [hD9] at e1 q2
    rw [hDl] at e1
    subst e1
    exact ⟨vb, ab, cb, rfl, q2, q1.keep⟩
  have HA10 : Hid (∀ W, Keeps [] w2 W → Calls Try.prog 7 #[.slice av nz cv, .int .i64 10] W fun e w' => ∃ am cm ab cb, e = .returned (.tuple #[.slice am nz cm, .slice ab nz cb, .int .i64 0]) ∧ Rd w' .i64 am ML ∧ Rd w' .i64 ab DL ∧ Keeps [] W w') := by
    intro W hk
    refine (apart_10 zs nz HZL.out.symm av cv W (by rw [HZL.out]; exact hn8) HIN.out (Lib.hid (HP.out.new hk))).mono ?_
    rintro e w' ⟨va, vb, rfl, q1⟩
    obtain ⟨am, cm, e1, q2⟩ := q1.ra.rd
    obtain ⟨ab, cb, e2, q3⟩ := q1.rb.rd
    rw [hML] at e1 q2
    rw [hD10] at e2 q3
    rw [hMl] at e1
    rw [hDl] at e2
    subst e1 e2
    exact ⟨am, cm, ab, cb, rfl, q2, q3, q1.keep⟩
  have HQA : Hid (∀ W aq cq, Hid (RdV W aq (cxs ys)) → Calls Try.prog 7 #[.slice aq nz cq, .int .i64 8] W fun e w' => ∃ va ab cb, e = .returned (.tuple #[va, .slice ab nz cb, .int .i64 0]) ∧ Rd w' .i64 ab ZL ∧ Keeps [] W w') := by
    intro W aq cq h
    refine (apart_8 ys nz HYL.out.symm aq cq W (by rw [HYL.out]; exact hn8) HIN2.out h).mono ?_
    rintro e w' ⟨va, vb, rfl, q1⟩
    obtain ⟨ab, cb, e1, q2⟩ := q1.rb.rd
    rw [hZL] at e1 q2
    rw [hZl] at e1
    subst e1
    exact ⟨va, ab, cb, rfl, q2, q1.keep⟩
  have HQC : Hid (∀ W aq cq, Hid (RdV W aq (cxs ys)) → Calls Try.prog 9 #[.slice aq nz cq] W fun e w' => e = .returned (.tuple #[.int .i64 kc, .int .i64 0]) ∧ Keeps [] W w') := by
    intro W aq cq h
    have := choose_calls ys nz HYL.out.symm aq cq W (by rw [HYL.out]; exact hn8) HIN2.out h
    rwa [HKC.out] at this
  have HIT : Hid (∀ W a b c d, Hid (Rd W .i64 a DL) → Hid (Rd W .i64 b DL) → Calls Try.prog 8 #[.slice a nz c, .slice b nz d] W fun e w' => e = .returned (.bool true) ∧ Keeps [] W w') := by
    intro W a b c d h1 h2
    have := ints_calls DL DL nz nz hDl.symm hDl.symm a b c d W h1 h2
    rwa [decide_eq_true rfl] at this
  have HDl := Lib.hid hDl
  have HMl := Lib.hid hMl
  have HZl := Lib.hid hZl
  clear hDL hML hZL hD9 hD10 hDl hMl hZl HZI HYI HJ
  have HKR : Hid (Keeps [] w2 w2) := Keeps.refl _ _
  go_wp2_with (first
    | (go_at_call 7; go_must (first
        | (with_reducible refine (HA8.out _ HKR.out).mono ?_; rintro e w3 ⟨va8, a8, c8, rfl, hr8, hk8⟩; have HR8 := Lib.hid hr8; have HK8 := Lib.hid (HKR.out.new hk8); clear hr8 hk8)
        | (with_reducible refine (HA9.out _ HK8.out).mono ?_; rintro e w4 ⟨vb9, a9, c9, rfl, hr9, hk9⟩; have HR9 := Lib.hid hr9; have HK9 := Lib.hid (HK8.out.new hk9); have HR8b := Lib.hid (HR8.out.new hk9); clear hr9 hk9)
        | (with_reducible refine (HA10.out _ HK9.out).mono ?_; rintro e w5 ⟨am, cm, ac, cc, rfl, hrm, hrc, hk10⟩; have HRM := Lib.hid hrm; have HRC := Lib.hid hrc; have HK10 := Lib.hid (HK9.out.new hk10); have HR8c := Lib.hid (HR8b.out.new hk10); have HR9c := Lib.hid (HR9.out.new hk10); clear hrm hrc hk10)))
    | (go_at_call 8; go_must (first
        | (with_reducible refine (HIT.out _ _ _ _ _ HR8c HR9c).mono ?_; rintro e w6 ⟨rfl, hk11⟩; have HK11 := Lib.hid (HK10.out.new hk11); have HR8d := Lib.hid (HR8c.out.new hk11); have HRCd := Lib.hid (HRC.out.new hk11); have HRMd := Lib.hid (HRM.out.new hk11); clear hk11)
        | (with_reducible refine (HIT.out _ _ _ _ _ HR8d HRCd).mono ?_; rintro e w7 ⟨rfl, hk12⟩; have HK12 := Lib.hid (HK11.out.new hk12); have HR8e := Lib.hid (HR8d.out.new hk12); have HRMe := Lib.hid (HRMd.out.new hk12); clear hk12))))
  clear HR8 HR8b HR8c HR8d HR9 HR9c HRC HRCd HRM HRMd HA8 HA9 HA10 HIT HK8 HK9 HK10 HK11 HKR
  have HL7 := Lib.hid ((HL.out.new HK2.out).new HK12.out)
  have HR7 := Lib.hid ((HR.out.new HK2.out).new HK12.out)
  have HKW := Lib.hid (HK2.out.new HK12.out)
  go_loopg [16] (nz + 1) (fun q v16 wr => ∃ (i : Nat), v16 = .int .i64 i ∧ i ≤ nz ∧ Hid (i + q = nz + 1) ∧ Hid (Keeps [] w7 wr))
  case atStart => exact ⟨0, rfl, by omega, (show _ = _ from by omega), Keeps.refl _ _⟩
  case round =>
    obtain ⟨i, rfl, hi, HQ, HKi⟩ := hrel
    obtain ⟨q1, rfl⟩ : ∃ g : Nat, g = gk := ⟨_, rfl⟩
    obtain ⟨wi, rfl⟩ : ∃ x : World, x = wr := ⟨_, rfl⟩
    by_cases hlt : i < nz
    · have i1 : i < L.length := by rw [HLL.out]; exact hlt
      have i2 : i < R.length := by rw [HRR.out]; exact hlt
      have i3 : i < DL.length := by rw [HDl.out]; exact hlt
      have i4 : i < ML.length := by rw [HMl.out]; exact hlt
      obtain ⟨b1, o1, hb1, hc1⟩ := (HL7.out.new HKi.out).at_ i i1
      obtain ⟨b2, o2, hb2, hc2⟩ := (HR7.out.new HKi.out).at_ i i2
      obtain ⟨b3, o3, hb3, hc3⟩ := (HR8e.out.new HKi.out).at_ i i3
      obtain ⟨b4, o4, hb4, hc4⟩ := (HRMe.out.new HKi.out).at_ i i4
      rw [HDI.out i i3 i1 i2] at hc3
      rw [HMI.out i i4 i1 i2] at hc4
      have hzr := HZB.out i i1 i2
      obtain ⟨x, hxe⟩ : ∃ x, L[i] = x := ⟨_, rfl⟩
      obtain ⟨y, hye⟩ : ∃ y, R[i] = y := ⟨_, rfl⟩
      rw [hxe, hye] at hzr hc3 hc4
      rw [hxe] at hc1
      rw [hye] at hc2
      obtain ⟨M, hM⟩ : ∃ M, (x + y) / 2 = M := ⟨_, rfl⟩
      rw [hM] at hc4
      have m1 : 2 * M ≤ x + y := by omega
      have m2 : x + y ≤ 2 * M + 1 := by omega
      obtain ⟨⟨r1, r2⟩, r3, r4⟩ := hzr
      have m3 : ¬ x + y < 2 * M := by omega
      have m4 : ¬ 2 * M < x + y - 1 := by omega
      have hd1 : decide (x + y < 2 * M) = false := decide_eq_false m3
      have hd2 : decide (2 * M < x + y - 1) = false := decide_eq_false m4
      have hd3 : (x - y != x - y) = false := by simp
      have hx1 : IntKind.i64.wrap (2 * M) = 2 * M := IntWalk.i64_in _ (by omega)
      have hx2 : IntKind.i64.wrap (x + y) = x + y := IntWalk.i64_in _ (by omega)
      have hx3 : IntKind.i64.wrap (x - y) = x - y := IntWalk.i64_in _ (by omega)
      have hx4 : IntKind.i64.wrap (x + y - 1) = x + y - 1 := IntWalk.i64_in _ (by omega)
      have hi0 : (0 : Int) ≤ (i : Int) := by omega
      clear m1 m2 m3 m4 r1 r2 r3 r4
      subst hb1 hb2 hb3 hb4
      clear hM hxe hye i1 i2 i3 i4
      go_wp2_with fail
      go_quiet (fail)
      go_wp2
      go_roundg (nz - i)
      case measure => have := HQ.out; omega
      case rel => exact ⟨i + 1, by go_num, by omega, (show _ = _ from by have := HQ.out; omega), HKi.out.drewN _⟩
    · obtain rfl : i = nz := by omega
      have HKw := Lib.hid (HKW.out.new HKi.out)
      have HLi := Lib.hid (HL7.out.new HKi.out)
      clear HL7 HR7 HR8e HRMe HKi HKW HK12 HK2 HP HQ hlt hi HDI HMI HZB
      go_wp2_with (first
        | (go_at_call 6; go_must (with_reducible refine (HJ2.out _ HKw.out).mono ?_); rintro e wA ⟨v, rfl, hr, hk⟩; obtain ⟨aq, cq, hv, hrv⟩ := hr.rdV; rw [cxs_length, HYL.out] at hv; subst hv; have HPQ := Lib.hid hrv; have HKA := Lib.hid (HKw.out.new hk); have HLA := Lib.hid (HLi.out.new hk); clear hr hk hrv)
        | (go_at_call 9; go_must (with_reducible refine (HQC.out _ _ _ HPQ).mono ?_); rintro e wB ⟨rfl, hk⟩; have HPQ2 := Lib.hid (HPQ.out.new hk); have HKB := Lib.hid (HKA.out.new hk); have HLB := Lib.hid (HLA.out.new hk); clear hk)
        | (go_at_call 7; go_must (with_reducible refine (HQA.out _ _ _ HPQ2).mono ?_); rintro e wC ⟨va, az, cz, rfl, hz, hk⟩; have HZR := Lib.hid hz; have HKD := Lib.hid (HKB.out.new hk); have HLD := Lib.hid (HLB.out.new hk); clear hz hk))
      clear HPQ HPQ2 HKA HKB HLA HLB HKw HLi HJ2 HQA HQC
      go_loopg [21, 22] (i + 1) (fun q v21 v22 wr => ∃ (j : Nat) (lb : Bool), v22 = .int .i64 j ∧ v21 = .bool lb ∧ j ≤ i ∧ Hid (lb = (L.take j).any (fun x => x != 0)) ∧ Hid (j + q = i + 1) ∧ Hid (Keeps [] wC wr))
      case atStart => exact ⟨0, false, rfl, rfl, by omega, (show _ = _ from by simp), (show _ = _ from by omega), Keeps.refl _ _⟩
      case round =>
        obtain ⟨j, lb, rfl, rfl, hj, HLO, HQ, HKj⟩ := hrel
        obtain ⟨q2, rfl⟩ : ∃ g : Nat, g = gk := ⟨_, rfl⟩
        obtain ⟨wj, rfl⟩ : ∃ x : World, x = wr := ⟨_, rfl⟩
        by_cases hlt : j < i
        · have i1 : j < L.length := by rw [HLL.out]; exact hlt
          have i2 : j < ZL.length := by rw [HZl.out]; exact hlt
          obtain ⟨b1, o1, hb1, hc1⟩ := (HLD.out.new HKj.out).at_ j i1
          obtain ⟨b2, o2, hb2, hc2⟩ := (HZR.out.new HKj.out).at_ j i2
          rw [HZ0.out j i2] at hc2
          obtain ⟨x, hxe⟩ : ∃ x, L[j] = x := ⟨_, rfl⟩
          rw [hxe] at hc1
          have htk : (L.take (j + 1)).any (fun x => x != 0) = (lb || (x != 0)) := by
            rw [List.take_succ_eq_append_getElem i1, hxe, List.any_append, ← HLO.out]
            simp
          have HTK := Lib.hid htk
          subst hb1 hb2
          clear htk hxe i1 i2
          cases lb
          · go_wp2_with fail
            go_roundg (i - j)
            case measure => have := HQ.out; omega
            case rel => exact ⟨j + 1, (x != 0), by go_num, rfl, by omega, (show _ = _ from by rw [HTK.out]; rfl), (show _ = _ from by have := HQ.out; omega), HKj.out⟩
          · go_wp2_with fail
            go_roundg (i - j)
            case measure => have := HQ.out; omega
            case rel => exact ⟨j + 1, true, by go_num, rfl, by omega, (show _ = _ from by rw [HTK.out]; rfl), (show _ = _ from by have := HQ.out; omega), HKj.out⟩
        · obtain rfl : j = i := by omega
          rcases HAL.out with hk8 | ⟨hk0, hz⟩
          · subst hk8
            go_wp2_with fail
            go_ret
            exact ⟨rfl, (HKD.out.new HKj.out).below⟩
          · subst hk0
            have hlb : lb = false := by
              rw [HLO.out, List.any_eq_false]
              intro x hx
              have := hz x (List.mem_of_mem_take hx)
              simp [this]
            subst hlb
            clear hz
            go_wp2_with fail
            go_ret
            exact ⟨rfl, (HKD.out.new HKj.out).below⟩
end Go.Proofs.Ytildkehbogmceaa
