/-
  The statement PredictLines of layer 7: the plain law and the walk.
-/
import Derived.Test.YtpnomiepbbbnbaaLaw7d
set_option linter.unusedVariables false
set_option linter.unusedSimpArgs false
namespace Go.Proofs.Ytpnomiepbbbnbaa
open Go.RowKit

/-- a + b (i + i^2 + ..), so many powers. -/
def lineV (a b : Int) (i : Nat) : Nat → Int
  | 0 => a
  | s + 1 => lineV a b i s + b * (i : Int) ^ (s + 1)
/-- The samples. -/
def lineL (a b : Int) (s n : Nat) : List Int := (List.range n).map fun i => lineV a b i s
theorem lineL_length (a b : Int) (s n : Nat) : (lineL a b s n).length = n := by simp [lineL]
theorem lineL_get (a b : Int) (s n i : Nat) (h : i < n) : (lineL a b s n).getD i 0 = lineV a b i s := by simp [lineL, h]
theorem lineL_snoc (a b : Int) (s n i : Nat) (h : i < n) : (lineL a b s n).take (i + 1) = (lineL a b s n).take i ++ [lineV a b i s] := by
  rw [List.take_succ_eq_append_getElem (by rw [lineL_length]; exact h)]
  simp [lineL]

theorem pow_small (i s : Nat) (hi : i ≤ 64) (hs : s ≤ 3) : 0 ≤ (i : Int) ^ s ∧ (i : Int) ^ s ≤ 262144 := by
  have h : i ^ s ≤ 64 ^ 3 := Nat.le_trans (Nat.pow_le_pow_left hi s) (Nat.pow_le_pow_right (by omega) hs)
  have h2 : ((i ^ s : Nat) : Int) ≤ ((64 ^ 3 : Nat) : Int) := by exact_mod_cast h
  have h3 : (0 : Int) ≤ ((i ^ s : Nat) : Int) := Int.natCast_nonneg _
  rw [Int.natCast_pow] at h2 h3
  exact ⟨h3, by simpa using h2⟩
theorem mul_small (b p : Int) (hb0 : -10 ≤ b) (hb1 : b ≤ 9) (hp0 : 0 ≤ p) (hp1 : p ≤ 262144) : -2621440 ≤ b * p ∧ b * p ≤ 2621440 := by
  have h1 : (b * p).natAbs ≤ 10 * 262144 := by
    rw [Int.natAbs_mul]
    exact Nat.mul_le_mul (by omega) (by omega)
  omega
theorem lineV_small (a b : Int) (i : Nat) (ha0 : -1000 ≤ a) (ha1 : a ≤ 999) (hb0 : -10 ≤ b) (hb1 : b ≤ 9) (hi : i ≤ 64) : ∀ s : Nat, s ≤ 3 → -1000 - 2621440 * (s : Int) ≤ lineV a b i s ∧ lineV a b i s ≤ 1000 + 2621440 * (s : Int) := by
  intro s
  induction s with
  | zero => intro _; simp [lineV]; omega
  | succ s ih =>
    intro hs
    have h1 := ih (by omega)
    have h2 := pow_small i (s + 1) hi hs
    have h3 := mul_small b _ hb0 hb1 h2.1 h2.2
    simp only [lineV]
    omega

theorem line_left (a b : Int) (s n t : Nat) (hs : s ≤ 3) (h : s + 1 + t < n) : leftAt (fixL (s + 1)) 0 (lineL a b s n) (s + 1 + t) = 0 := by
  unfold leftAt
  simp only [predI0]
  have hs' : s = 0 ∨ s = 1 ∨ s = 2 ∨ s = 3 := by omega
  have hl := lineL_length a b s n
  rcases hs' with rfl | rfl | rfl | rfl
  · rw [show 0 + 1 + t = t + 1 by omega, rev_take _ t (by rw [hl]; omega), lineL_get _ _ _ _ _ (by omega), lineL_get _ _ _ _ _ (by omega)]
    simp only [fixL, dotp, lineV]
    omega
  · rw [show 1 + 1 + t = t + 1 + 1 by omega, rev_take _ (t + 1) (by rw [hl]; omega), rev_take _ t (by rw [hl]; omega), lineL_get _ _ _ _ _ (by omega), lineL_get _ _ _ _ _ (by omega), lineL_get _ _ _ _ _ (by omega)]
    simp only [fixL, dotp, lineV, Int.natCast_add]
    grind
  · rw [show 2 + 1 + t = t + 1 + 1 + 1 by omega, rev_take _ (t + 1 + 1) (by rw [hl]; omega), rev_take _ (t + 1) (by rw [hl]; omega), rev_take _ t (by rw [hl]; omega), lineL_get _ _ _ _ _ (by omega), lineL_get _ _ _ _ _ (by omega), lineL_get _ _ _ _ _ (by omega), lineL_get _ _ _ _ _ (by omega)]
    simp only [fixL, dotp, lineV, Int.natCast_add]
    grind
  · rw [show 3 + 1 + t = t + 1 + 1 + 1 + 1 by omega, rev_take _ (t + 1 + 1 + 1) (by rw [hl]; omega), rev_take _ (t + 1 + 1) (by rw [hl]; omega), rev_take _ (t + 1) (by rw [hl]; omega), rev_take _ t (by rw [hl]; omega), lineL_get _ _ _ _ _ (by omega), lineL_get _ _ _ _ _ (by omega), lineL_get _ _ _ _ _ (by omega), lineL_get _ _ _ _ _ (by omega), lineL_get _ _ _ _ _ (by omega)]
    simp only [fixL, dotp, lineV, Int.natCast_add]
    grind

theorem absSum_zero (xs : List Int) (h : ∀ x ∈ xs, x = 0) : absSum xs = 0 := by
  induction xs with
  | nil => rfl
  | cons x xs ih =>
    have := h x (by simp)
    subst this
    simp only [absSum]
    rw [ih (fun y hy => h y (List.mem_cons_of_mem _ hy))]
    rfl

theorem lines_law (a b : Int) (s n : Nat) (hs : s ≤ 3) (hn : 5 ≤ n) (hn2 : n ≤ 64) (ha0 : -1000 ≤ a) (ha1 : a ≤ 999) (hb0 : -10 ≤ b) (hb1 : b ≤ 9) :
    resE (fixL (s + 1)) 0 (lineL a b s n) = 0 ∧ costN (fixL (s + 1)) 0 (lineL a b s n) = 0 := by
  have hz : ∀ x ∈ leftL (fixL (s + 1)) 0 (lineL a b s n), x = 0 := by
    intro x hx
    obtain ⟨t, ht, rfl⟩ := List.getElem_of_mem hx
    rw [leftL_get, fixL_length _ (by omega)]
    rw [leftL_length, fixL_length _ (by omega), lineL_length] at ht
    exact line_left a b s n t hs (by omega)
  have hr : rightB (fixL (s + 1)) 0 = true := by
    have hs' : s = 0 ∨ s = 1 ∨ s = 2 ∨ s = 3 := by omega
    rcases hs' with rfl | rfl | rfl | rfl <;> decide
  have hx : (lineL a b s n).all inB = true := by
    rw [List.all_eq_true]
    intro x hx
    obtain ⟨i, hi, rfl⟩ := List.mem_map.1 hx
    rw [List.mem_range] at hi
    have := lineV_small a b i ha0 ha1 hb0 hb1 (by omega) s hs
    exact (inB_iff _).2 (by omega)
  have hL : (leftL (fixL (s + 1)) 0 (lineL a b s n)).all inB = true := by
    rw [List.all_eq_true]
    intro x hx
    rw [hz x hx]
    decide
  have hE : resE (fixL (s + 1)) 0 (lineL a b s n) = 0 := by
    unfold resE
    rw [if_neg (by rw [hr]; simp), if_neg (by rw [lineL_length, fixL_length _ (by omega)]; omega), if_neg (by rw [hx]; simp), if_neg (by rw [hL]; simp)]
  refine ⟨hE, ?_⟩
  unfold costN resO
  rw [if_pos hE]
  exact absSum_zero _ hz

set_option maxHeartbeats 4000000 in
theorem predictLines_walk (a0 a1 a2 : Int) (w : World) (w0 : (Lit.int .i64 a0).wf = true) (w1 : (Lit.int .i64 a1).wf = true) (w2 : (Lit.int .i64 a2).wf = true) :
    Calls Try.prog 5 #[.int .i64 a0, .int .i64 a1, .int .i64 a2] w fun e w' => e = .returned (.bool true) ∧ Below w.heap.size w w' := by
  have HW0 := Lib.hid (wf_i64 w0)
  have HW1 := Lib.hid (wf_i64 w1)
  have HW2 := Lib.hid (wf_i64 w2)
  clear w0 w1 w2
  obtain ⟨ka, hka, hkae⟩ := u64_mod a0 2000 (by omega) (by omega)
  obtain ⟨kb, hkb, hkbe⟩ := u64_mod a1 20 (by omega) (by omega)
  obtain ⟨kc, hkc, hkce⟩ := u64_mod a2 60 (by omega) (by omega)
  rw [show ((2000 : Nat) : Int) = 2000 from rfl] at hkae
  rw [show ((20 : Nat) : Int) = 20 from rfl] at hkbe
  rw [show ((60 : Nat) : Int) = 60 from rfl] at hkce
  go_enter Try.func5, Try.ntmps5
  go_upto_region 6 with (first
    | (go_at_call 11; go_must (refine (known_calls _).mono ?_); rintro e wk ⟨rfl, hk⟩))
  rw [hkae, hkbe, hkce]
  clear hkae hkbe hkce HW0 HW1 HW2
  obtain ⟨A, hA⟩ : ∃ A : Int, (ka : Int) - 1000 = A := ⟨_, rfl⟩
  obtain ⟨B, hB⟩ : ∃ B : Int, (kb : Int) - 10 = B := ⟨_, rfl⟩
  obtain ⟨n, hn⟩ : ∃ n : Nat, 5 + (kc : Int) = (n : Int) := ⟨5 + kc, by omega⟩
  rw [hA, hB, hn]
  have hA0 : -1000 ≤ A := by omega
  have hA1 : A ≤ 999 := by omega
  have hB0 : -10 ≤ B := by omega
  have hB1 : B ≤ 9 := by omega
  have hn0 : 5 ≤ n := by omega
  have hn1 : n ≤ 64 := by omega
  clear hA hB hn hka hkb hkc
  have HK := Lib.hid hk
  clear hk
  go_loopg [7, 8, 9, 10, 11, 12, 13, 14, 15, 16] 5 (fun q v7 v8 v9 v10 v11 v12 v13 v14 v15 v16 w3 => ∃ s : Nat, v7 = .int .i64 ((s : Int) + 1) ∧ s ≤ 4 ∧ Hid (s + q = 5) ∧ Hid (Keeps [] w w3))
  case atStart => exact ⟨0, rfl, by omega, (show _ = _ from by omega), HK.out⟩
  case round =>
    obtain ⟨s, rfl, hs, HQ, HK3⟩ := hrel
    obtain ⟨gko, rfl⟩ : ∃ x : Nat, x = gk := ⟨_, rfl⟩
    obtain ⟨wo, rfl⟩ : ∃ x : World, x = wr := ⟨_, rfl⟩
    by_cases hlt : s < 4
    · have HLL := Lib.hid (lineL_length A B s n)
      have HSW := Lib.hid HK3.out.size
      have hle : (s : Int) + 1 ≤ 4 := by omega
      go_wp2_with fail
      go_loopg [8, 9, 10, 11, 12] (n + 1) (fun q v8 v9 v10 v11 v12 w4 => ∃ i : Nat, v9 = .int .i64 i ∧ i ≤ n ∧ Hid (Row w4 .i64 3 v8 ((lineL A B s n).take i)) ∧ Hid (∀ b, b ∈ fp v8 → wo.heap.size ≤ b) ∧ Hid (i + q = n + 1) ∧ Hid (Keeps [] w w4) ∧ Hid (Keeps [] wo w4))
      case atStart => exact ⟨0, rfl, by omega, Row.nil _ _ _, (fun b hb => by cases hb), (show _ = _ from by omega), HK3.out, Keeps.refl _ _⟩
      case round =>
        obtain ⟨i, rfl, hi, HROW, HFR, HQ2, HK4, HK5⟩ := hrel
        obtain ⟨gki, rfl⟩ : ∃ x : Nat, x = gk := ⟨_, rfl⟩
        obtain ⟨wi, rfl⟩ : ∃ x : World, x = wr := ⟨_, rfl⟩
        by_cases hli : i < n
        · go_wp2_with fail
          go_loopg [10, 11, 12] (s + 1) (fun q v10 v11 v12 w5 => w5 = wi ∧ ∃ j : Nat, v12 = .int .i64 ((j : Int) + 1) ∧ j ≤ s ∧ v10 = .int .i64 (lineV A B i j) ∧ v11 = .int .i64 ((i : Int) ^ j) ∧ Hid (j + q = s + 1))
          case atStart => exact ⟨rfl, 0, rfl, by omega, rfl, by simp, (show _ = _ from by omega)⟩
          case round =>
            obtain ⟨rfl, j, rfl, hj, rfl, rfl, HQ3⟩ := hrel
            have hx := lineV_small A B i hA0 hA1 hB0 hB1 (by omega) j (by omega)
            by_cases hlj : j < s
            · have hp1 := pow_small i (j + 1) (by omega) (by omega)
              have hm := mul_small B _ hB0 hB1 hp1.1 hp1.2
              have HNX : Hid (lineV A B i (j + 1) = lineV A B i j + B * ((i : Int) ^ j * (i : Int))) := by
                show _ = _
                rw [lineV, Int.pow_succ]
              have HPX := Lib.hid (Int.pow_succ (i : Int) j)
              rw [Int.pow_succ] at hp1 hm
              obtain ⟨x, hxe⟩ : ∃ x, lineV A B i j = x := ⟨_, rfl⟩
              obtain ⟨p, hpe⟩ : ∃ p, (i : Int) ^ j = p := ⟨_, rfl⟩
              rw [hxe] at hx HNX
              rw [hpe] at hp1 hm HNX HPX
              rw [hxe, hpe]
              obtain ⟨p0, p1⟩ := hp1
              obtain ⟨m0, m1⟩ := hm
              obtain ⟨x0, x1⟩ := hx
              clear hxe hpe
              go_wp2_with fail
              go_roundg (gk - 1)
              case measure => have := HQ3.out; omega
              case rel =>
                refine ⟨rfl, j + 1, by go_num, by omega, ?_, ?_, (show _ = _ from by have := HQ3.out; omega)⟩
                · rw [HNX.out]
                · rw [show (i : Int) ^ (j + 1) = p * (i : Int) from HPX.out]
            · obtain rfl : j = s := by omega
              have HSN := Lib.hid (lineL_snoc A B j n i hli)
              have HBD : Hid ((((lineL A B j n).take i).length + 1) * 8 ≤ 140737488355328) := by
                show _ ≤ _
                rw [List.length_take]
                omega
              clear hx
              obtain ⟨x, hxe⟩ : ∃ x, lineV A B i j = x := ⟨_, rfl⟩
              rw [hxe] at HSN ⊢
              clear hxe
              generalize (i : Int) ^ j = p
              obtain ⟨w6, rfl⟩ : ∃ x : World, x = wr := ⟨_, rfl⟩
              go_wp2_with (first
                | (at_builtin; go_must (refine wp_app1 (W := w6) rfl (.tmp 57) (.tmp 59) 22 3 .i64 8 rfl Try.underlying22 info_i64 (by decide) _ _ x rfl rfl HROW.out HBD.out ?_); intro v7 w7 hr7 hk7 hf7))
              go_roundg (gki - 1)
              case measure => have := HQ2.out; omega
              case rel =>
                have hk7' : Keeps (fp u8) w6 w7 := hk7
                have hf7' : ∀ b, b ∈ fp v7 → b ∈ fp u8 ∨ w6.heap.size ≤ b := hf7
                refine ⟨i + 1, by go_num, by omega, ?_, ?_, (show _ = _ from by have := HQ2.out; omega), ?_, ?_⟩
                · show Row _ _ _ _ _
                  rw [HSN.out]
                  exact hr7
                · intro b hb
                  rcases hf7' b hb with h | h
                  · exact HFR.out b h
                  · exact Nat.le_trans HK5.out.size h
                · exact HK4.out.then_ hk7' (fun b hb hlt => by have h1 := HFR.out b hb; have h2 := HSW.out; omega)
                · exact HK5.out.then_ hk7' (fun b hb hlt => by have h1 := HFR.out b hb; omega)
        · obtain rfl : i = n := by omega
          have HTL : Hid ((lineL A B s i).take i = lineL A B s i) := by
            show _ = _
            rw [List.take_of_length_le]
            rw [HLL.out]
            exact Nat.le_refl _
          have HROW2 := Lib.hid HROW.out
          rw [HTL.out] at HROW2
          obtain ⟨a8, c8, hv8, hrd8⟩ := HROW2.out.rd
          rw [HLL.out] at hv8
          subst hv8
          have hcap := HROW2.out.cap_le
          have HRD8 := Lib.hid hrd8
          clear hrd8 HROW
          obtain ⟨hE, hN⟩ := lines_law A B s i (by omega) hn0 hn1 hA0 hA1 hB0 hB1
          have HE := Lib.hid hE
          have HN := Lib.hid hN
          clear hE hN
          have HFK1 := Lib.hid (fixL_length (s + 1) (by omega))
          go_wp2_with (first
            | (go_at_call 12; go_must (with_reducible refine (fixed_at ((s : Int) + 1) (s + 1) rfl (by omega) _).mono ?_); rintro e wb ⟨vb, rfl, hrb, hfb, hkb⟩; obtain ⟨ab, cb, hv, hqb⟩ := hrb.rd; rw [HFK1.out] at hv; subst hv)
            | (go_at_call 19; go_must (with_reducible refine (cost_calls (fixL (s + 1)) (lineL A B s i) 0 _ _ HFK1.out.symm ab a8 cb c8 _ HLL.out.symm (by rw [HLL.out]; exact hcap) (by rw [HLL.out]; omega) (Lib.hid (hqb.new ((Keeps.refl _ _).alloc _))) (Lib.hid (HRD8.out.new (hkb.alloc _)))).mono ?_); rw [HE.out, HN.out]; rintro e wc ⟨rfl, hkc⟩))
          go_roundg (gko - 1)
          case measure => have := HQ.out; omega
          case rel => exact ⟨s + 1, by go_num, by omega, (show _ = _ from by have := HQ.out; omega), ((HK4.out.new hkb).alloc _).new hkc⟩
    · obtain rfl : s = 4 := by omega
      go_wp2_with fail
      go_ret
      exact ⟨rfl, HK3.out.below⟩
end Go.Proofs.Ytpnomiepbbbnbaa
