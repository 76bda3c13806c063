/-
  Layer 7 (predict): how much is left (Cost and DocCost).
-/
import Derived.Test.YtpnomiepbbbnbaaPred7
set_option linter.unusedVariables false
set_option linter.unusedSimpArgs false
namespace Go.Proofs.Ytpnomiepbbbnbaa
open Go.RowKit

/-- The sum of the distances from 0. -/
def absSum : List Int → Int
  | [] => 0
  | x :: xs => max x (-x) + absSum xs
theorem absSum_append (a b : List Int) : absSum (a ++ b) = absSum a + absSum b := by
  induction a with
  | nil => simp [absSum]
  | cons x a ih => simp only [List.cons_append, absSum, ih]; omega
theorem absSum_snoc (xs : List Int) (i : Nat) (h : i < xs.length) : absSum (xs.take (i + 1)) = absSum (xs.take i) + max xs[i] (-xs[i]) := by
  rw [List.take_succ_eq_append_getElem h, absSum_append]
  simp [absSum]
theorem absSum_bound (xs : List Int) (h : ∀ x ∈ xs, -2147483648 < x ∧ x < 2147483648) : 0 ≤ absSum xs ∧ absSum xs ≤ 2147483648 * (xs.length : Int) := by
  induction xs with
  | nil => simp [absSum]
  | cons x xs ih =>
    have h1 := ih (fun y hy => h y (List.mem_cons_of_mem _ hy))
    have h2 := h x (by simp)
    simp only [absSum, List.length_cons]
    omega
theorem resO_length (cs : List Int) (sh : Int) (xs : List Int) : (resO cs sh xs).length ≤ xs.length := by
  unfold resO
  split
  · rw [leftL_length]; omega
  · simp
theorem resO_in (cs : List Int) (sh : Int) (xs : List Int) : ∀ x ∈ resO cs sh xs, -2147483648 < x ∧ x < 2147483648 := by
  unfold resO
  split
  · rename_i h
    cases hb : (leftL cs sh xs).all inB
    · unfold resE at h
      rw [if_pos hb] at h
      repeat' split at h
      all_goals omega
    · exact all_inB hb
  · simp
theorem absSum_step (xs : List Int) (h : ∀ x ∈ xs, -2147483648 < x ∧ x < 2147483648) (hl : xs.length ≤ 1000000) (i : Nat) (hi : i < xs.length) (x : Int) (hx : xs[i] = x) :
    absSum (xs.take (i + 1)) = absSum (xs.take i) + max x (-x) ∧ -2147483648 < x ∧ x < 2147483648 ∧ 0 ≤ absSum (xs.take i) ∧ absSum (xs.take i) ≤ 2147483648000000 := by
  have h1 := absSum_snoc xs i hi
  rw [hx] at h1
  have h2 := h x (hx ▸ List.getElem_mem hi)
  have h3 := absSum_bound (xs.take i) (fun y hy => h y (List.mem_of_mem_take hy))
  have h4 : (xs.take i).length ≤ 1000000 := by simp; omega
  exact ⟨h1, h2.1, h2.2, h3.1, by omega⟩
/-- Cost's answer. -/
def costN (cs : List Int) (sh : Int) (xs : List Int) : Int := absSum (resO cs sh xs)

set_option maxHeartbeats 2000000 in
theorem cost_calls (cs xs : List Int) (sh : Int) (m n : Nat) (hm : m = cs.length) (a b : Option Addr) (c d : Nat) (w : World) (hn : n = xs.length) (hd : xs.length ≤ d) (hl : xs.length ≤ 1000000)
    (hc : Hid (Rd w .i64 a cs)) (hx : Hid (Rd w .i64 b xs)) :
    Calls Try.prog 19 #[.agg #[.slice a m c, .int .i64 sh], .slice b n d] w fun e w' =>
      e = .returned (.tuple #[.int .i64 (costN cs sh xs), .int .i64 (resE cs sh xs)]) ∧ Keeps [] w w' := by
  subst hm hn
  have HK0 : Hid (Keeps [] w (w.alloc (.cells #[.slice a cs.length c, .int .i64 sh] 26))) := (Keeps.refl _ _).alloc _
  have HC : Hid (Rd (w.alloc (.cells #[.slice a cs.length c, .int .i64 sh] 26)) .i64 a cs) := hc.out.new HK0.out
  have HX : Hid (Rd (w.alloc (.cells #[.slice a cs.length c, .int .i64 sh] 26)) .i64 b xs) := hx.out.new HK0.out
  have hrl := resO_length cs sh xs
  have HRI := Lib.hid (resO_in cs sh xs)
  have HCN : Hid (costN cs sh xs = absSum (resO cs sh xs)) := rfl
  obtain ⟨E, hE⟩ : ∃ E, resE cs sh xs = E := ⟨_, rfl⟩
  have HE := Lib.hid hE
  clear hE
  generalize costN cs sh xs = CN at *
  go_enter Try.func19, Try.ntmps19
  go_wp2_with (first
    | (go_at_call 13; go_must (with_reducible refine (residual_calls cs xs sh _ _ rfl a b c d _ rfl hd hl HC HX).mono ?_); rw [HE.out]; rintro e w2 ⟨v2, rfl, hr2, hf2, hk2⟩; obtain ⟨a2, c2, rfl, hrd2⟩ := hr2.rd; have HR2 := Lib.hid hrd2; have HK2 := Lib.hid (HK0.out.new hk2); clear hrd2 hr2 hf2 hk2))
  generalize resO cs sh xs = L at *
  have hLl : L.length ≤ 1000000 := by omega
  clear hrl
  go_loopg [8, 10, 19] (L.length + 1) (fun q v8 v10 v19 w4 => ∃ (i : Nat) (s : Int), v19 = .int .i64 i ∧ v8 = .int .i64 s ∧ i ≤ L.length ∧ Hid (s = absSum (L.take i)) ∧ Hid (i + q = L.length + 1) ∧ Hid (Keeps [] w2 w4))
  case atStart => exact ⟨0, 0, rfl, rfl, by omega, (show _ = _ from by simp [absSum]), (show _ = _ from by omega), Keeps.refl _ _⟩
  case round =>
    obtain ⟨i, s, rfl, rfl, hi, HS, HQ, HK⟩ := hrel
    by_cases hlt : i < L.length
    · obtain ⟨b3, o3, hb3, hc3⟩ := (HR2.out.new HK.out).cellAt i hlt
      subst hb3
      obtain ⟨x, hx1⟩ : ∃ x, L[i] = x := ⟨_, rfl⟩
      obtain ⟨hst, x0, x1, s0, s1⟩ := absSum_step L HRI.out hLl i hlt x hx1
      rw [← HS.out] at hst s0 s1
      have HST := Lib.hid hst
      rw [hx1] at hc3
      clear hst hx1
      go_wp2_with fail
      all_goals
        go_roundg (L.length - i)
        case measure => have := HQ.out; omega
        case rel => exact ⟨i + 1, s + max x (-x), by go_num, (by first | rfl | (congr 1; omega)), by omega, HST.out.symm, (show _ = _ from by omega), HK.out⟩
    · obtain rfl : i = L.length := by omega
      go_wp2_with fail
      go_ret2
      refine ⟨?_, HK2.out.new HK.out⟩
      rw [HCN.out, HS.out, HE.out, List.take_of_length_le (Nat.le_refl _)]
      rfl

set_option maxHeartbeats 2000000 in
theorem docCost_calls (cs xs : List Int) (sh : Int) (m n : Nat) (hm : m = cs.length) (a b : Option Addr) (c d : Nat) (w : World) (hn : n = xs.length) (hd : xs.length ≤ d) (hl : xs.length ≤ 1000000)
    (hc : Hid (Rd w .i64 a cs)) (hx : Hid (Rd w .i64 b xs)) :
    Calls Try.prog 18 #[.agg #[.slice a m c, .int .i64 sh], .slice b n d] w fun e w' =>
      e = .returned (.tuple #[.int .i64 (costN cs sh xs), .int .i64 (resE cs sh xs)]) ∧ Keeps [] w w' := by
  subst hm hn
  have HK0 : Hid (Keeps [] w (w.alloc (.cells #[.slice a cs.length c, .int .i64 sh] 34))) := (Keeps.refl _ _).alloc _
  have HC : Hid (Rd (w.alloc (.cells #[.slice a cs.length c, .int .i64 sh] 34)) .i64 a cs) := hc.out.new HK0.out
  have HX : Hid (Rd (w.alloc (.cells #[.slice a cs.length c, .int .i64 sh] 34)) .i64 b xs) := hx.out.new HK0.out
  have hrl := resO_length cs sh xs
  have HRI := Lib.hid (resO_in cs sh xs)
  have HCN : Hid (costN cs sh xs = absSum (resO cs sh xs)) := rfl
  obtain ⟨E, hE⟩ : ∃ E, resE cs sh xs = E := ⟨_, rfl⟩
  have HE := Lib.hid hE
  clear hE
  generalize costN cs sh xs = CN at *
  go_enter Try.func18, Try.ntmps18
  go_wp2_with (first
    | (go_at_call 16; go_must (with_reducible refine (docResidual_calls cs xs sh _ _ rfl a b c d _ rfl hd hl HC HX).mono ?_); rw [HE.out]; rintro e w2 ⟨v2, rfl, hr2, hf2, hk2⟩; obtain ⟨a2, c2, rfl, hrd2⟩ := hr2.rd; have HR2 := Lib.hid hrd2; have HK2 := Lib.hid (HK0.out.new hk2); clear hrd2 hr2 hf2 hk2))
  generalize resO cs sh xs = L at *
  have hLl : L.length ≤ 1000000 := by omega
  clear hrl
  go_loopg [8, 9] (L.length + 1) (fun q v8 v9 w4 => ∃ (i : Nat) (s : Int), v9 = .int .i64 i ∧ v8 = .int .i64 s ∧ i ≤ L.length ∧ Hid (s = absSum (L.take i)) ∧ Hid (i + q = L.length + 1) ∧ Hid (Keeps [] w2 w4))
  case atStart => exact ⟨0, 0, rfl, rfl, by omega, (show _ = _ from by simp [absSum]), (show _ = _ from by omega), Keeps.refl _ _⟩
  case round =>
    obtain ⟨i, s, rfl, rfl, hi, HS, HQ, HK⟩ := hrel
    by_cases hlt : i < L.length
    · obtain ⟨b3, o3, hb3, hc3⟩ := (HR2.out.new HK.out).cellAt i hlt
      subst hb3
      obtain ⟨x, hx1⟩ : ∃ x, L[i] = x := ⟨_, rfl⟩
      obtain ⟨hst, x0, x1, s0, s1⟩ := absSum_step L HRI.out hLl i hlt x hx1
      rw [← HS.out] at hst s0 s1
      have HST := Lib.hid hst
      rw [hx1] at hc3
      clear hst hx1
      go_wp2_with fail
      go_quiet (fail)
      go_wp2
      all_goals
        go_roundg (L.length - i)
        case measure => have := HQ.out; omega
        case rel => exact ⟨i + 1, s + max x (-x), by go_num, (by first | rfl | (congr 1; omega)), by omega, HST.out.symm, (show _ = _ from by omega), HK.out.drewN _⟩
    · obtain rfl : i = L.length := by omega
      go_wp2_with fail
      go_ret2
      refine ⟨?_, HK2.out.new HK.out⟩
      rw [HCN.out, HS.out, HE.out, List.take_of_length_le (Nat.le_refl _)]
      rfl

end Go.Proofs.Ytpnomiepbbbnbaa
