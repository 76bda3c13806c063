/-
  Layer 6 (rice): what Write puts, as Read reads it; Read on a Reader that the run has made; the document's Same.
-/
import Derived.Test.YtepbngdoeolepaaRice19
import Derived.Test.YtepbngdoeolepaaRice17
set_option linter.unusedVariables false
set_option linter.unusedSimpArgs false
namespace Go.Proofs.Ytepbngdoeolepaa
open Go.RowKit Go.Proofs.Ytepbngdoeolepaa.Pure

theorem size_small (L : List Int) (order : Nat) (hl : L.length ≤ 600) (hin : ∀ n ∈ L, -2147483648 < n ∧ n < 2147483648) : (chooseS L order).2.2.2 ≤ 30000 := by
  have hok := bestS_ok L hin
  have e : partsS L order 0 = [L] := by unfold partsS; simp [chunks]
  have hf : farB 30 (L.map foldS) = false := far30 _ (fun f hf => by
    obtain ⟨n, hn, rfl⟩ := List.mem_map.1 hf
    have := foldS_far n (hin n hn)
    omega)
  have h1 := (bestS_leastK L 1 30 (by decide) hf).2
  have h2 : ∀ c : List Int, (∀ n ∈ c, -2147483648 < n ∧ n < 2147483648) → sumK 30 (c.map foldS) ≤ 4 * c.length := by
    intro c
    induction c with
    | nil => intro _; simp [sumK]
    | cons n c ih =>
      intro h
      have h3 := ih (fun x hx => h x (List.mem_cons_of_mem _ hx))
      have h4 := foldS_far n (h n List.mem_cons_self)
      unfold sumK at h3 ⊢
      rw [List.map_cons, List.map_cons, List.sum_cons, List.length_cons]
      have h5 : foldS n / 2 ^ 30 ≤ 4 := by
        have : (2 : Int) ^ 30 = 1073741824 := by decide
        rw [this]
        omega
      omega
  have h3 := h2 L hin
  have h4 : szK 30 (L.map foldS) = 31 * L.length + sumK 30 (L.map foldS) := by
    unfold szK
    rw [List.length_map]
    omega
  have hcand : (candGo 1 (partsS L order 0) [] 6).2.2 = true ∧ (candGo 1 (partsS L order 0) [] 6).2.1 ≤ 11 + szK 30 (L.map foldS) := by
    rw [e]
    unfold candGo
    rw [if_pos hok]
    refine ⟨rfl, ?_⟩
    show (6 : Int) + ((4 + 1 : Nat) + (bestS L 1).1.2.2) ≤ _
    omega
  have := choose_least0 (order := order) hl hin 1 (by omega) hcand.1
  omega
theorem rw_ok (L : List Int) (order : Int) (he : rchkE L order = 0) : ∃ o : Nat, order = o ∧ o ≤ 8 ∧ L.length ≤ 512 ∧ rightB ((L.length : Int) + order) order = true ∧ (∀ n ∈ L, -2147483648 < n ∧ n < 2147483648) ∧ (rwB L order).length ≤ 30000 ∧ ((rwB L order).length : Int) = rsizeN L order ∧
    ∀ R, blockS ((L.length : Int) + order) order (rwB L order ++ R) = (L, 0, (rwB L order).length) := by
  obtain ⟨⟨g1, g2, g3, g4⟩, hin⟩ := rchk_ok L order he
  obtain ⟨o, rfl⟩ : ∃ o : Nat, order = (o : Int) := ⟨order.toNat, by omega⟩
  have hr : rightB ((L.length : Int) + (o : Int)) (o : Int) = true := decide_eq_true (by omega)
  have e1 : rwB L (o : Int) = writeB L o := by unfold rwB; rw [if_pos he, Int.toNat_natCast]
  have e2 : rsizeN L (o : Int) = (chooseS L o).2.2.2 := by unfold rsizeN; rw [if_pos he, Int.toNat_natCast]
  have hb := fun R => back_block L o R (by omega) hin hr
  have hs := size_small L o (by omega) hin
  rw [e1, e2]
  exact ⟨o, rfl, by omega, by omega, hr, hin, by have := (hb []).2; omega, (hb []).2, fun R => (hb R).1⟩
theorem rw_no (L : List Int) (order : Int) (he : rchkE L order ≠ 0) : rwB L order = [] ∧ rsizeN L order = 0 := by
  exact ⟨by unfold rwB; rw [if_neg he], by unfold rsizeN; rw [if_neg he]⟩

theorem rsRead (n order : Int) {w0 w : World} {q : Nat} {bs : List Int} {t : Nat} (hR : Hid (RS w0 w q bs t)) (h1 : -9223372036854775808 ≤ n ∧ n ≤ 9223372036854775807) (h2 : -9223372036854775808 ≤ order ∧ order ≤ 9223372036854775807) (hs : bs.length ≤ 1000000) :
    Calls Try.prog 18 #[.pointer (some ⟨q, 0, none⟩), .int .i64 n, .int .i64 order] w fun e w' => ∃ v, e = .returned (.tuple #[v, .int .i64 (blockS n order (restB bs t)).2.1]) ∧ Row w' .i64 3 v (blockS n order (restB bs t)).1 ∧ RS w0 w' q bs (t + (blockS n order (restB bs t)).2.2) ∧ Keeps [q] w w' ∧ (∀ b, b ∈ fp v → w.heap.size ≤ b) := by
  obtain ⟨k1, sv, k2, k3⟩ := hR.out
  refine (rread_calls q sv bs t n order w (Lib.hid k2) h1 h2 hs).mono ?_
  rintro e w' ⟨v, rfl, r1, r2, r3, r4⟩
  exact ⟨v, rfl, r1, RS.read k1 k3 r2 r3, r3, r4⟩

theorem u64_modR (a : Int) (m : Nat) (h0 : 0 < m) (h1 : m ≤ 4611686018427387904) : ∃ k : Nat, k < m ∧ wrap64 ((IntKind.u64.wrap a).tmod m) = k := by
  have e : IntKind.u64.wrap a = a % 18446744073709551616 := IntKind.wrap_u64 a
  have h2 : 0 ≤ IntKind.u64.wrap a := by rw [e]; omega
  rw [Int.tmod_eq_emod_of_nonneg h2]
  have h3 := Int.emod_nonneg (IntKind.u64.wrap a) (show (m : Int) ≠ 0 by omega)
  have h4 := Int.emod_lt_of_pos (IntKind.u64.wrap a) (show (0 : Int) < m by omega)
  refine ⟨((IntKind.u64.wrap a) % m).toNat, by omega, ?_⟩
  unfold wrap64
  omega
theorem rsame_step (xs ys : List Int) (h : xs.length = ys.length) (i : Nat) (hi : i < xs.length) (hp : xs.take i = ys.take i) (he : xs[i] = ys[i]'(h ▸ hi)) : xs.take (i + 1) = ys.take (i + 1) := by
  rw [List.take_succ_eq_append_getElem hi, List.take_succ_eq_append_getElem (h ▸ hi), hp, he]
set_option maxHeartbeats 1000000 in
theorem rsame_q (xs ys : List Int) (m n : Nat) (hm : m = xs.length) (hn : n = ys.length) (a b : Option Addr) (c d : Nat) (w : World) (hx : Hid (Rd w .i64 a xs)) (hy : Hid (Rd w .i64 b ys)) :
    Calls Try.prog 25 #[.slice a m c, .slice b n d] w fun e w' => e = .returned (.bool (decide (xs = ys))) ∧ ∃ m, w' = w.drewN m := by
  subst hm hn
  have hxl := hx.out.small
  have hyl := hy.out.small
  by_cases hlen : xs.length = ys.length
  · have hne : ((xs.length : Int) != (ys.length : Int)) = false := by simp [hlen]
    go_enter Try.func25, Try.ntmps25
    go_wp2_with fail
    go_loopg [5] (xs.length + 1) (fun q v5 w2 => ∃ (i : Nat), v5 = .int .i64 i ∧ i ≤ xs.length ∧ Hid (xs.take i = ys.take i) ∧ Hid (i + q = xs.length + 1) ∧ Hid (∃ m, w2 = w.drewN m))
    case atStart => exact ⟨0, rfl, by omega, (show _ = _ from by simp), (show _ = _ from by omega), ⟨0, rfl⟩⟩
    case round =>
      obtain ⟨i, rfl, hi, HT, HQ, HN⟩ := hrel
      have HK : Hid (Keeps [] w wr) := by
        obtain ⟨m, hm⟩ := HN.out
        rw [hm]
        exact (Keeps.refl _ _).drewN m
      have HNX : Hid (∀ k, ∃ m, wr.drewN k = w.drewN m) := by
        intro k
        obtain ⟨m, hm⟩ := HN.out
        exact ⟨m + k, by rw [hm, World.drewN_drewN]⟩
      by_cases hlt : i < xs.length
      · obtain ⟨b1, o1, rfl, hc1⟩ := (hx.out.new HK.out).at_ i hlt
        obtain ⟨b2, o2, rfl, hc2⟩ := (hy.out.new HK.out).at_ i (hlen ▸ hlt)
        obtain ⟨x, hx1⟩ : ∃ x, xs[i] = x := ⟨_, rfl⟩
        obtain ⟨y, hy1⟩ : ∃ y, ys[i]'(hlen ▸ hlt) = y := ⟨_, rfl⟩
        rw [hx1] at hc1
        rw [hy1] at hc2
        have HX := Lib.hid hx1
        have HY := Lib.hid hy1
        clear hx1 hy1
        have hlt2 : i < ys.length := by omega
        by_cases hxy : x = y
        · subst hxy
          go_wp2_with fail
          go_quiet (fail)
          go_wp2
          go_roundg (xs.length - i)
          case measure => have := HQ.out; omega
          case rel => exact ⟨i + 1, by go_num, by omega, rsame_step xs ys hlen i hlt HT.out (by rw [HX.out, HY.out]), (show _ = _ from by omega), HNX.out _⟩
        · have hb : (x != y) = true := by simp [hxy]
          have HXY := Lib.hid hxy
          clear hxy
          go_wp2_with fail
          go_quiet (fail)
          go_wp2
          go_ret
          refine ⟨?_, HNX.out _⟩
          have : ¬ xs = ys := by
            intro h
            subst h
            exact HXY.out (HX.out.symm.trans HY.out)
          simp [this]
      · obtain rfl : i = xs.length := by omega
        go_wp2
        go_ret
        refine ⟨?_, HN.out⟩
        have : xs = ys := by
          have := HT.out
          rw [List.take_of_length_le (Nat.le_refl _), List.take_of_length_le (by omega)] at this
          exact this
        simp [this]
  · have hne : ((xs.length : Int) != (ys.length : Int)) = true := by simp; omega
    go_enter Try.func25, Try.ntmps25
    go_wp2
    go_ret
    refine ⟨?_, 0, rfl⟩
    have : ¬ xs = ys := by intro h; subst h; omega
    simp [this]
theorem rsame_calls (xs ys : List Int) (m n : Nat) (hm : m = xs.length) (hn : n = ys.length) (a b : Option Addr) (c d : Nat) (w : World) (hx : Hid (Rd w .i64 a xs)) (hy : Hid (Rd w .i64 b ys)) :
    Calls Try.prog 25 #[.slice a m c, .slice b n d] w fun e w' => e = .returned (.bool (decide (xs = ys))) ∧ Keeps [] w w' :=
  (rsame_q xs ys m n hm hn a b c d w hx hy).mono fun e w' ⟨h1, k, h2⟩ => ⟨h1, by rw [h2]; exact (Keeps.refl _ _).drewN k⟩
end Go.Proofs.Ytepbngdoeolepaa
