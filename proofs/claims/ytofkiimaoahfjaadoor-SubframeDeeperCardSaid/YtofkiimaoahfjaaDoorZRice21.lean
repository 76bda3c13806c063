/-
  Layer 6 (rice): what Write puts, as Read reads it; Read on a Reader that the run has made; the document's Same.
  Layer 6 (rice), the document's side: Block, number.
  Layer 6 (rice), the document's side: fold, size, Check.
-/
import Derived.Test.YtofkiimaoahfjaaDoorZRice19
import Derived.Test.YtofkiimaoahfjaaDoorZRice17
import Derived.Test.YtofkiimaoahfjaaDoorZRice14
import Derived.Test.YtofkiimaoahfjaaDoorZRef3c
set_option maxRecDepth 100000
set_option linter.unusedVariables false
set_option linter.unusedSimpArgs false
namespace Go.Proofs.YtofkiimaoahfjaaDoor
open Go.RowKit Go.Proofs.YtofkiimaoahfjaaDoor.Pure

theorem size_small (L : List Int) (order : Nat) (hl : L.length ≤ 600) (hin : ∀ n ∈ L, -2147483648 < n ∧ n < 2147483648) : (chooseS L order).2.2.2 ≤ 30000 := by
  have hok := bestS_ok L hin
  have e : partsS L order 0 = [L] := by unfold partsS; simp [chunks]
  have hf : farB 30 (L.map foldS) = false := far30 _ (fun f hf => by
    obtain ⟨n, hn, rfl⟩ := List.mem_map.1 hf
    have := foldS_far n (hin n hn)
    omega)
  have h1 := (bestS_leastK L 1 30 (by decide) hf).2
  have h2 : ∀ c : List Int, (∀ n ∈ c, -2147483648 < n ∧ n < 2147483648) → sumK 30 (c.map foldS) ≤ 4 * c.length := by
    intro c
    induction c with
    | nil => intro _; simp [sumK]
    | cons n c ih =>
      intro h
      have h3 := ih (fun x hx => h x (List.mem_cons_of_mem _ hx))
      have h4 := foldS_far n (h n List.mem_cons_self)
      unfold sumK at h3 ⊢
      rw [List.map_cons, List.map_cons, List.sum_cons, List.length_cons]
      have h5 : foldS n / 2 ^ 30 ≤ 4 := by
        have : (2 : Int) ^ 30 = 1073741824 := by decide
        rw [this]
        omega
      omega
  have h3 := h2 L hin
  have h4 : szK 30 (L.map foldS) = 31 * L.length + sumK 30 (L.map foldS) := by
    unfold szK
    rw [List.length_map]
    omega
  have hcand : (candGo 1 (partsS L order 0) [] 6).2.2 = true ∧ (candGo 1 (partsS L order 0) [] 6).2.1 ≤ 11 + szK 30 (L.map foldS) := by
    rw [e]
    unfold candGo
    rw [if_pos hok]
    refine ⟨rfl, ?_⟩
    show (6 : Int) + ((4 + 1 : Nat) + (bestS L 1).1.2.2) ≤ _
    omega
  have := choose_least0 (order := order) hl hin 1 (by omega) hcand.1
  omega
theorem rw_ok (L : List Int) (order : Int) (he : rchkE L order = 0) : ∃ o : Nat, order = o ∧ o ≤ 8 ∧ L.length ≤ 512 ∧ rblockB ((L.length : Int) + order) order = true ∧ (∀ n ∈ L, -2147483648 < n ∧ n < 2147483648) ∧ (rwB L order).length ≤ 30000 ∧ ((rwB L order).length : Int) = rsizeN L order ∧
    ∀ R, blockS ((L.length : Int) + order) order (rwB L order ++ R) = (L, 0, (rwB L order).length) := by
  obtain ⟨⟨g1, g2, g3, g4⟩, hin⟩ := rchk_ok L order he
  obtain ⟨o, rfl⟩ : ∃ o : Nat, order = (o : Int) := ⟨order.toNat, by omega⟩
  have hr : rblockB ((L.length : Int) + (o : Int)) (o : Int) = true := decide_eq_true (by omega)
  have e1 : rwB L (o : Int) = writeB L o := by unfold rwB; rw [if_pos he, Int.toNat_natCast]
  have e2 : rsizeN L (o : Int) = (chooseS L o).2.2.2 := by unfold rsizeN; rw [if_pos he, Int.toNat_natCast]
  have hb := fun R => back_block L o R (by omega) hin hr
  have hs := size_small L o (by omega) hin
  rw [e1, e2]
  exact ⟨o, rfl, by omega, by omega, hr, hin, by have := (hb []).2; omega, (hb []).2, fun R => (hb R).1⟩
theorem rw_no (L : List Int) (order : Int) (he : rchkE L order ≠ 0) : rwB L order = [] ∧ rsizeN L order = 0 := by
  exact ⟨by unfold rwB; rw [if_neg he], by unfold rsizeN; rw [if_neg he]⟩

theorem rsRead (n order : Int) {w0 w : World} {q : Nat} {bs : List Int} {t : Nat} (hR : Hid (RS w0 w q bs t)) (h1 : -9223372036854775808 ≤ n ∧ n ≤ 9223372036854775807) (h2 : -9223372036854775808 ≤ order ∧ order ≤ 9223372036854775807) (hs : bs.length ≤ 1000000) :
    Calls Tryd.prog 78 #[.pointer (some ⟨q, 0, none⟩), .int .i64 n, .int .i64 order] w fun e w' => ∃ v, e = .returned (.tuple #[v, .int .i64 (blockS n order (restB bs t)).2.1]) ∧ Row w' .i64 3 v (blockS n order (restB bs t)).1 ∧ RS w0 w' q bs (t + (blockS n order (restB bs t)).2.2) ∧ Keeps [q] w w' ∧ (∀ b, b ∈ fp v → w.heap.size ≤ b) := by
  obtain ⟨k1, sv, k2, k3⟩ := hR.out
  refine (rread_calls q sv bs t n order w (Lib.hid k2) h1 h2 hs).mono ?_
  rintro e w' ⟨v, rfl, r1, r2, r3, r4⟩
  exact ⟨v, rfl, r1, RS.read k1 k3 r2 r3, r3, r4⟩

theorem u64_modR (a : Int) (m : Nat) (h0 : 0 < m) (h1 : m ≤ 4611686018427387904) : ∃ k : Nat, k < m ∧ wrap64 ((IntKind.u64.wrap a).tmod m) = k := by
  have e : IntKind.u64.wrap a = a % 18446744073709551616 := IntKind.wrap_u64 a
  have h2 : 0 ≤ IntKind.u64.wrap a := by rw [e]; omega
  rw [Int.tmod_eq_emod_of_nonneg h2]
  have h3 := Int.emod_nonneg (IntKind.u64.wrap a) (show (m : Int) ≠ 0 by omega)
  have h4 := Int.emod_lt_of_pos (IntKind.u64.wrap a) (show (0 : Int) < m by omega)
  refine ⟨((IntKind.u64.wrap a) % m).toNat, by omega, ?_⟩
  unfold wrap64
  omega
theorem rsame_step (xs ys : List Int) (h : xs.length = ys.length) (i : Nat) (hi : i < xs.length) (hp : xs.take i = ys.take i) (he : xs[i] = ys[i]'(h ▸ hi)) : xs.take (i + 1) = ys.take (i + 1) := by
  rw [List.take_succ_eq_append_getElem hi, List.take_succ_eq_append_getElem (h ▸ hi), hp, he]
set_option maxHeartbeats 1000000 in
theorem rsame_q (xs ys : List Int) (m n : Nat) (hm : m = xs.length) (hn : n = ys.length) (a b : Option Addr) (c d : Nat) (w : World) (hx : Hid (Rd w .i64 a xs)) (hy : Hid (Rd w .i64 b ys)) :
    Calls Tryd.prog 24 #[.slice a m c, .slice b n d] w fun e w' => e = .returned (.bool (decide (xs = ys))) ∧ ∃ m, w' = w.drewN m := by
  subst hm hn
  have hxl := hx.out.small
  have hyl := hy.out.small
  by_cases hlen : xs.length = ys.length
  · have hne : ((xs.length : Int) != (ys.length : Int)) = false := by simp [hlen]
    go_enter Tryd.func24, Tryd.ntmps24
    go_wp2_with fail
    go_loopg [5] (xs.length + 1) (fun q v5 w2 => ∃ (i : Nat), v5 = .int .i64 i ∧ i ≤ xs.length ∧ Hid (xs.take i = ys.take i) ∧ Hid (i + q = xs.length + 1) ∧ Hid (∃ m, w2 = w.drewN m))
    case atStart => exact ⟨0, rfl, by omega, (show _ = _ from by simp), (show _ = _ from by omega), ⟨0, rfl⟩⟩
    case round =>
      obtain ⟨i, rfl, hi, HT, HQ, HN⟩ := hrel
      have HK : Hid (Keeps [] w wr) := by
        obtain ⟨m, hm⟩ := HN.out
        rw [hm]
        exact (Keeps.refl _ _).drewN m
      have HNX : Hid (∀ k, ∃ m, wr.drewN k = w.drewN m) := by
        intro k
        obtain ⟨m, hm⟩ := HN.out
        exact ⟨m + k, by rw [hm, World.drewN_drewN]⟩
      by_cases hlt : i < xs.length
      · obtain ⟨b1, o1, rfl, hc1⟩ := (hx.out.new HK.out).at_ i hlt
        obtain ⟨b2, o2, rfl, hc2⟩ := (hy.out.new HK.out).at_ i (hlen ▸ hlt)
        obtain ⟨x, hx1⟩ : ∃ x, xs[i] = x := ⟨_, rfl⟩
        obtain ⟨y, hy1⟩ : ∃ y, ys[i]'(hlen ▸ hlt) = y := ⟨_, rfl⟩
        rw [hx1] at hc1
        rw [hy1] at hc2
        have HX := Lib.hid hx1
        have HY := Lib.hid hy1
        clear hx1 hy1
        have hlt2 : i < ys.length := by omega
        by_cases hxy : x = y
        · subst hxy
          go_wp2_with fail
          go_quiet (fail)
          go_wp2
          go_roundg (xs.length - i)
          case measure => have := HQ.out; omega
          case rel => exact ⟨i + 1, by go_num, by omega, rsame_step xs ys hlen i hlt HT.out (by rw [HX.out, HY.out]), (show _ = _ from by omega), HNX.out _⟩
        · have hb : (x != y) = true := by simp [hxy]
          have HXY := Lib.hid hxy
          clear hxy
          go_wp2_with fail
          go_quiet (fail)
          go_wp2
          go_ret
          refine ⟨?_, HNX.out _⟩
          have : ¬ xs = ys := by
            intro h
            subst h
            exact HXY.out (HX.out.symm.trans HY.out)
          simp [this]
      · obtain rfl : i = xs.length := by omega
        go_wp2
        go_ret
        refine ⟨?_, HN.out⟩
        have : xs = ys := by
          have := HT.out
          rw [List.take_of_length_le (Nat.le_refl _), List.take_of_length_le (by omega)] at this
          exact this
        simp [this]
  · have hne : ((xs.length : Int) != (ys.length : Int)) = true := by simp; omega
    go_enter Tryd.func24, Tryd.ntmps24
    go_wp2
    go_ret
    refine ⟨?_, 0, rfl⟩
    have : ¬ xs = ys := by intro h; subst h; omega
    simp [this]
theorem rsame_calls (xs ys : List Int) (m n : Nat) (hm : m = xs.length) (hn : n = ys.length) (a b : Option Addr) (c d : Nat) (w : World) (hx : Hid (Rd w .i64 a xs)) (hy : Hid (Rd w .i64 b ys)) :
    Calls Tryd.prog 24 #[.slice a m c, .slice b n d] w fun e w' => e = .returned (.bool (decide (xs = ys))) ∧ Keeps [] w w' :=
  (rsame_q xs ys m n hm hn a b c d w hx hy).mono fun e w' ⟨h1, k, h2⟩ => ⟨h1, by rw [h2]; exact (Keeps.refl _ _).drewN k⟩
end Go.Proofs.YtofkiimaoahfjaaDoor

set_option maxRecDepth 100000
set_option linter.unusedVariables false
set_option linter.unusedSimpArgs false
namespace Go.Proofs.YtofkiimaoahfjaaDoor
open Go.RowKit Go.Proofs.YtofkiimaoahfjaaDoor.Pure

set_option maxHeartbeats 2000000 in
theorem dblock_calls (n order : Int) (w : World) :
    Calls Tryd.prog 112 #[.int .i64 n, .int .i64 order] w fun e w' => e = .returned (.bool (rblockB n order)) ∧ w = w' := by
  by_cases a1 : 1 ≤ n
  · by_cases a2 : n ≤ 512
    · by_cases a3 : 0 ≤ order
      · by_cases a4 : order ≤ 8
        · by_cases a5 : order ≤ n
          · have e : rblockB n order = true := decide_eq_true ⟨a1, a2, a3, a4, a5⟩
            rw [e]
            clear e
            go_enter Tryd.func112, Tryd.ntmps112
            go_wp2
            go_ret
            exact ⟨rfl, rfl⟩
          · have e : rblockB n order = false := decide_eq_false (by omega)
            rw [e]
            clear e
            go_enter Tryd.func112, Tryd.ntmps112
            go_wp2
            go_ret
            exact ⟨rfl, rfl⟩
        · have e : rblockB n order = false := decide_eq_false (by omega)
          rw [e]
          clear e
          go_enter Tryd.func112, Tryd.ntmps112
          go_wp2
          go_ret
          exact ⟨rfl, rfl⟩
      · have e : rblockB n order = false := decide_eq_false (by omega)
        rw [e]
        clear e
        go_enter Tryd.func112, Tryd.ntmps112
        go_wp2
        go_ret
        exact ⟨rfl, rfl⟩
    · have e : rblockB n order = false := decide_eq_false (by omega)
      rw [e]
      clear e
      go_enter Tryd.func112, Tryd.ntmps112
      go_wp2
      go_ret
      exact ⟨rfl, rfl⟩
  · have e : rblockB n order = false := decide_eq_false (by omega)
    rw [e]
    clear e
    go_enter Tryd.func112, Tryd.ntmps112
    go_wp2
    go_ret
    exact ⟨rfl, rfl⟩

set_option maxHeartbeats 2000000 in
theorem dnum_esc (g : Nat) (U : List Bool) (t : Nat) (k wd : Int) (w : World) (hD : Hid (IsD w g U t)) :
    Calls Tryd.prog 113 #[.pointer (some ⟨g, 0, none⟩), .int .i64 k, .bool true, .int .i64 wd] w fun e w' => e = .returned (.tuple #[.int .i64 (oneS true 0 wd (U.drop t)).1, .int .i64 (oneS true 0 wd (U.drop t)).2.1]) ∧ IsD w' g U (t + (oneS true 0 wd (U.drop t)).2.2) ∧ Keeps [g] w w' := by
  have HG := Lib.hid (dGetSigned_calls g U t wd w hD)
  have e : oneS true 0 wd (U.drop t) = (gsN wd (U.drop t), gtE wd (U.drop t), gtT wd (U.drop t)) := rfl
  rw [e]
  clear e
  generalize U.drop t = R at *
  go_enter Tryd.func113, Tryd.ntmps113
  go_wp2_with (first
    | (go_at_call 80; go_must (refine HG.out.mono ?_); rintro e w1 ⟨rfl, hR1, hk1⟩))
  go_ret2
  exact ⟨rfl, hR1, hk1⟩

set_option maxHeartbeats 2000000 in
theorem dnum_plain (g : Nat) (U : List Bool) (t : Nat) (k wd : Int) (w : World) (hD : Hid (IsD w g U t)) (h0 : 0 ≤ k) (h1 : k ≤ 31) (hs : U.length ≤ 8000000) :
    Calls Tryd.prog 113 #[.pointer (some ⟨g, 0, none⟩), .int .i64 k, .bool false, .int .i64 wd] w fun e w' => e = .returned (.tuple #[.int .i64 (oneS false k 0 (U.drop t)).1, .int .i64 (oneS false k 0 (U.drop t)).2.1]) ∧ IsD w' g U (t + (oneS false k 0 (U.drop t)).2.2) ∧ Keeps [g] w w' := by
  have e : oneS false k 0 (U.drop t) = numS k (U.drop t) := rfl
  rw [e]
  clear e
  obtain ⟨kN, rfl⟩ : ∃ kN : Nat, k = kN := ⟨k.toNat, by omega⟩
  have HU := Lib.hid (dUnary_calls g U t w hD)
  obtain ⟨R, hRe⟩ : ∃ R, U.drop t = R := ⟨_, rfl⟩
  have hRl : R.length ≤ 8000000 := by rw [← hRe, List.length_drop]; omega
  rw [hRe] at HU ⊢
  cases hc : cnt R with
  | none =>
    obtain ⟨e1, e2, e3⟩ := unR_none hc
    have hn : numS kN R = (0, 10, 0) := by unfold numS; rw [e1, e3]; rfl
    rw [e1, e2, e3] at HU
    rw [hn]
    clear hn e1 e2 e3 hc
    go_enter Tryd.func113, Tryd.ntmps113
    go_wp2_with (first
      | (go_at_call 47; go_must (refine HU.out.mono ?_); rintro e w1 ⟨rfl, hR1, hk1⟩))
    go_ret2
    exact ⟨rfl, hR1, hk1⟩
  | some n =>
    obtain ⟨e1, e2, e3⟩ := unR_some hc
    have hnl := cnt_lt R n hc
    rw [e1, e2, e3] at HU
    have HG := Lib.hid (fun W (h : Hid (IsD W g U (t + (n + 1)))) => dGet_calls g U (t + (n + 1)) (kN : Int) W h)
    have hRa : U.drop (t + (n + 1)) = R.drop (n + 1) := by rw [← List.drop_drop, hRe]
    rw [hRa] at HG
    have hunf : numS kN R = if gtE kN (R.drop (n + 1)) ≠ 0 then (0, gtE kN (R.drop (n + 1)), n + 1 + gtT kN (R.drop (n + 1))) else if 4294967295 ≤ (n : Int) * 2 ^ kN + gtN kN (R.drop (n + 1)) then (0, 12, n + 1 + gtT kN (R.drop (n + 1))) else (unfoldS ((n : Int) * 2 ^ kN + gtN kN (R.drop (n + 1))), 0, n + 1 + gtT kN (R.drop (n + 1))) := by
      unfold numS
      rw [e1, e2, e3, Int.toNat_natCast]
      rfl
    rw [hunf]
    clear hunf e1 e2 e3 hc hRe hRa
    generalize R.drop (n + 1) = R2 at *
    by_cases hl : R2.length < kN
    · obtain ⟨f1, f2, f3⟩ := gt_tail (by omega) hl
      rw [f1, f2, f3] at HG
      rw [f1, f3]
      rw [if_pos (by decide)]
      clear f1 f2 f3 hl
      go_enter Tryd.func113, Tryd.ntmps113
      go_wp2_with (first
        | (go_at_call 47; go_must (refine HU.out.mono ?_); rintro e w1 ⟨rfl, hR1, hk1⟩; have HR1 := Lib.hid hR1; have HK1 := Lib.hid hk1; clear hR1 hk1)
        | (go_at_call 46; go_must (refine (HG.out _ HR1).mono ?_); rintro e w2 ⟨rfl, hR2, hk2⟩))
      go_ret2
      exact ⟨rfl, hR2, HK1.out.then_ hk2 (fun b hb _ => hb)⟩
    · obtain ⟨f1, f2, f3⟩ := gt_ok (k := kN) (R := R2) (by omega) (by omega)
      rw [f1, f2, f3] at HG
      rw [f1, f2, f3, if_neg (by decide)]
      have hdv := val_take_lt R2 kN
      generalize val (R2.take kN) = d at *
      have hP32 : 2 ^ kN ≤ 2 ^ 31 := Nat.pow_le_pow_right (by omega) (by omega)
      obtain ⟨P, hP⟩ : ∃ P : Nat, 2 ^ kN = P := ⟨_, rfl⟩
      have hPi : (2 : Int) ^ kN = (P : Int) := by rw [← hP]; simp
      rw [hP] at hdv hP32
      rw [hPi]
      have hnp : n * P ≤ 8000000 * 2 ^ 31 := Nat.mul_le_mul (by omega) hP32
      obtain ⟨F, hF⟩ : ∃ F : Nat, n * P = F := ⟨_, rfl⟩
      have hFi : (n : Int) * (P : Int) = (F : Int) := by rw [← hF]; simp
      rw [hF] at hnp
      rw [hFi]
      obtain ⟨S, hS⟩ : ∃ S : Int, (F : Int) + (d : Int) = S := ⟨_, rfl⟩
      have hS0 : 0 ≤ S := by omega
      rw [hS]
      have hF9 : F ≤ 17179869184000000 := by omega
      have hS9 : S ≤ 17179871331483648 := by omega
      have hki : (0 : Int) ≤ (kN : Int) := by omega
      clear f1 f2 f3 hl hF hP hnp hP32 hdv
      by_cases hbig : 4294967295 ≤ S
      · rw [if_pos hbig]
        go_enter Tryd.func113, Tryd.ntmps113
        go_wp2_with (first
          | (go_at_call 47; go_must (refine HU.out.mono ?_); rintro e w1 ⟨rfl, hR1, hk1⟩; have HR1 := Lib.hid hR1; have HK1 := Lib.hid hk1; clear hR1 hk1)
          | (go_at_call 46; go_must (refine (HG.out _ HR1).mono ?_); rintro e w2 ⟨rfl, hR2, hk2⟩; have HR2 := Lib.hid hR2; have HK2 := Lib.hid (HK1.out.then_ hk2 (fun b hb _ => hb)); clear hR2 hk2))
        go_ret2
        exact ⟨rfl, by rw [← Nat.add_assoc]; exact HR2.out, HK2.out⟩
      · rw [if_neg hbig]
        obtain ⟨u, hu⟩ : ∃ u : Int, (S = 2 * u ∧ S.tmod 2 = 0 ∧ S.tdiv 2 = u ∧ unfoldS S = u) ∨ (S = 2 * u + 1 ∧ S.tmod 2 = 1 ∧ (-(S + 1)).tdiv 2 = -(u + 1) ∧ unfoldS S = -(u + 1)) := by
          rcases (show S % 2 = 0 ∨ S % 2 = 1 by omega) with h | h
          · refine ⟨S / 2, .inl ⟨by omega, ?_, ?_, ?_⟩⟩
            · rw [Int.tmod_eq_emod_of_nonneg hS0]; exact h
            · rw [Int.tdiv_eq_ediv_of_nonneg hS0]
            · unfold unfoldS; rw [if_neg (by omega)]
          · refine ⟨S / 2, .inr ⟨by omega, ?_, ?_, ?_⟩⟩
            · rw [Int.tmod_eq_emod_of_nonneg hS0]; exact h
            · rw [Int.neg_tdiv, Int.tdiv_eq_ediv_of_nonneg (by omega)]; omega
            · unfold unfoldS; rw [if_pos h]; omega
        rcases hu with ⟨hu0, hu1, hu2, hu3⟩ | ⟨hu0, hu1, hu2, hu3⟩
        · rw [hu3]
          have hub : 0 ≤ u ∧ u ≤ 4294967296 := by omega
          clear hu0 hu3
          go_enter Tryd.func113, Tryd.ntmps113
          go_wp2_with (first
            | (go_at_call 47; go_must (refine HU.out.mono ?_); rintro e w1 ⟨rfl, hR1, hk1⟩; have HR1 := Lib.hid hR1; have HK1 := Lib.hid hk1; clear hR1 hk1)
            | (go_at_call 46; go_must (refine (HG.out _ HR1).mono ?_); rintro e w2 ⟨rfl, hR2, hk2⟩; have HR2 := Lib.hid hR2; have HK2 := Lib.hid (HK1.out.then_ hk2 (fun b hb _ => hb)); clear hR2 hk2))
          go_ret2
          exact ⟨rfl, by rw [← Nat.add_assoc]; exact HR2.out, HK2.out⟩
        · rw [hu3]
          have hub : 0 ≤ u ∧ u ≤ 4294967296 := by omega
          have hneg : IntKind.i64.wrap (-(S + 1)) = -(S + 1) := IntWalk.i64_in _ (by omega)
          clear hu0 hu3
          go_enter Tryd.func113, Tryd.ntmps113
          go_wp2_with (first
            | (go_at_call 47; go_must (refine HU.out.mono ?_); rintro e w1 ⟨rfl, hR1, hk1⟩; have HR1 := Lib.hid hR1; have HK1 := Lib.hid hk1; clear hR1 hk1)
            | (go_at_call 46; go_must (refine (HG.out _ HR1).mono ?_); rintro e w2 ⟨rfl, hR2, hk2⟩; have HR2 := Lib.hid hR2; have HK2 := Lib.hid (HK1.out.then_ hk2 (fun b hb _ => hb)); clear hR2 hk2))
          go_ret2
          exact ⟨rfl, by rw [← Nat.add_assoc]; exact HR2.out, HK2.out⟩
end Go.Proofs.YtofkiimaoahfjaaDoor

set_option maxRecDepth 100000
set_option linter.unusedVariables false
set_option linter.unusedSimpArgs false
namespace Go.Proofs.YtofkiimaoahfjaaDoor
open Go.RowKit Go.Proofs.YtofkiimaoahfjaaDoor.Pure

theorem dfold_calls (n : Int) (w : World) (h : -4294967296 ≤ n ∧ n ≤ 4294967296) :
    Calls Tryd.prog 103 #[.int .i64 n] w fun e w' => e = .returned (.int .i64 (foldS n)) ∧ w = w' := by
  unfold foldS
  by_cases h0 : n < 0
  · rw [if_pos h0]
    go_enter Tryd.func103, Tryd.ntmps103
    go_wp2
    go_ret
    exact ⟨rfl, rfl⟩
  · rw [if_neg h0]
    go_enter Tryd.func103, Tryd.ntmps103
    go_wp2
    go_ret
    exact ⟨rfl, rfl⟩

/-- The document's size. -/
def dsizeS (k : Nat) (F : List Int) : Int := if farB k F = true then -1 else szK k F
theorem szK_add (k : Nat) (F : List Int) (f : Int) : szK k (F ++ [f]) = szK k F + f / 2 ^ k + 1 + k := by
  unfold szK
  rw [sumK_snoc, List.length_append, List.length_singleton, Int.natCast_add, Int.mul_add]
  omega
theorem farB_take (k : Nat) (F : List Int) (i : Nat) (h : farB k (F.take i) = true) : farB k F = true := by
  unfold farB at h ⊢
  rw [List.any_eq_true] at h ⊢
  obtain ⟨x, h1, h2⟩ := h
  exact ⟨x, List.mem_of_mem_take h1, h2⟩

set_option maxHeartbeats 4000000 in
theorem dsize_calls (L : List Int) (k n : Nat) (hn : n = L.length) (a : Option Addr) (c : Nat) (w : World) (hk : k ≤ 31) (hl : L.length ≤ 600) (hin : ∀ x ∈ L, -2147483648 < x ∧ x < 2147483648) (hx : Hid (Rd w .i64 a L)) :
    Calls Tryd.prog 116 #[.slice a n c, .int .i64 k] w fun e w' => e = .returned (.int .i64 (dsizeS k (L.map foldS))) ∧ Keeps [] w w' := by
  subst hn
  obtain ⟨P, hP⟩ : ∃ P : Nat, 2 ^ k = P := ⟨_, rfl⟩
  have hPi : (2 : Int) ^ k = (P : Int) := by rw [← hP]; simp
  have HPI := Lib.hid hPi
  have hki : (0 : Int) ≤ (k : Int) := by omega
  have HIN := Lib.hid hin
  clear hP hin
  go_enter Tryd.func116, Tryd.ntmps116
  go_wp2_with fail
  go_loopg [5, 6] (L.length + 1) (fun q v5 v6 w2 => ∃ (i : Nat) (S : Int), v6 = .int .i64 i ∧ v5 = .int .i64 S ∧ i ≤ L.length ∧ 0 ≤ S ∧ S ≤ 4294967360 * i ∧ Hid (S = szK k ((L.take i).map foldS)) ∧ Hid (farB k ((L.take i).map foldS) = false) ∧ Hid (i + q = L.length + 1) ∧ Hid (Keeps [] w w2))
  case atStart => exact ⟨0, 0, rfl, rfl, by omega, by omega, by omega, (show _ = _ from by simp [szK, sumK]), (show _ = _ from by simp [farB]), (show _ = _ from by omega), Keeps.refl _ _⟩
  case round =>
    obtain ⟨i, S, rfl, rfl, hi, hS0, hS1, HS, HF, HQ, HK⟩ := hrel
    obtain ⟨q1, rfl⟩ : ∃ g : Nat, g = gk := ⟨_, rfl⟩
    obtain ⟨wa, rfl⟩ : ∃ y : World, y = wr := ⟨_, rfl⟩
    by_cases hlt : i < L.length
    · obtain ⟨b1, o1, rfl, hc1⟩ := (hx.out.new HK.out).at_ i hlt
      obtain ⟨x, hxe⟩ : ∃ x, L[i] = x := ⟨_, rfl⟩
      rw [hxe] at hc1
      have hxr : -2147483648 < x ∧ x < 2147483648 := by rw [← hxe]; exact HIN.out _ (List.getElem_mem _)
      have hfr := foldS_range x hxr
      have htk : (L.take (i + 1)).map foldS = (L.take i).map foldS ++ [foldS x] := by rw [List.take_succ_eq_append_getElem hlt, hxe, List.map_append]; rfl
      have HFX := Lib.hid (fun W => dfold_calls x W (by omega))
      obtain ⟨f, hf⟩ : ∃ f, foldS x = f := ⟨_, rfl⟩
      rw [hf] at HFX htk hfr
      have hD := div_pow_range f k hfr.1 hfr.2
      have hszn := szK_add k ((L.take i).map foldS) f
      have hfan := farB_snoc k ((L.take i).map foldS) f
      rw [← htk, HF.out, Bool.false_or] at hfan
      rw [← htk, ← HS.out] at hszn
      rw [hPi] at hD hszn hfan
      obtain ⟨D, hDe⟩ : ∃ D, f / (P : Int) = D := ⟨_, rfl⟩
      rw [hDe] at hD hszn hfan
      by_cases hfar : 65536 < D
      · rw [decide_eq_true hfar] at hfan
        have hres : dsizeS k (L.map foldS) = -1 := by
          unfold dsizeS
          rw [if_pos]
          rw [List.map_take] at hfan
          exact farB_take k _ (i + 1) hfan
        have HRES := Lib.hid hres
        clear hres hszn htk hf hxe hfan
        go_wp2_with (first
          | (go_at_call 103; go_must (refine (HFX.out _).mono ?_); rintro e w3 ⟨rfl, rfl⟩))
        go_ret
        exact ⟨by rw [HRES.out]; rfl, HK.out⟩
      · rw [decide_eq_false hfar] at hfan
        have HFN := Lib.hid hfan
        have HSN := Lib.hid hszn
        clear hszn htk hf hxe hfan
        go_wp2_with (first
          | (go_at_call 103; go_must (refine (HFX.out _).mono ?_); rintro e w3 ⟨rfl, rfl⟩))
        go_roundg (L.length - i)
        case measure => have := HQ.out; omega
        case rel => exact ⟨i + 1, S + D + 1 + k, by go_num, by first | rfl | (congr 1; omega), by omega, by omega, by omega, HSN.out.symm, HFN.out, (show _ = _ from by have := HQ.out; omega), HK.out⟩
    · obtain rfl : i = L.length := by omega
      have h1 := HS.out
      have h2 := HF.out
      rw [List.take_of_length_le (Nat.le_refl _)] at h1 h2
      have hres : dsizeS k (L.map foldS) = S := by unfold dsizeS; rw [h2, if_neg (by simp), h1]
      have HRES := Lib.hid hres
      clear hres h1 h2
      go_wp2_with fail
      go_ret
      exact ⟨by rw [HRES.out]; rfl, HK.out⟩

set_option maxHeartbeats 4000000 in
theorem dcheck_calls (L : List Int) (order : Int) (n : Nat) (hn : n = L.length) (a : Option Addr) (c : Nat) (w : World) (h1 : -9223372036854775808 ≤ order ∧ order ≤ 9223372036854775807) (hl : L.length ≤ 17592186043904) (hx : Hid (Rd w .i64 a L)) :
    Calls Tryd.prog 99 #[.slice a n c, .int .i64 order] w fun e w' => e = .returned (.int .i64 (rchkE L order)) ∧ Keeps [] w w' := by
  subst hn
  by_cases g1 : order < 0
  · have e : rchkE L order = 1 := by unfold rchkE; rw [show rblockB (L.length + order) order = false from decide_eq_false (by omega)]; rfl
    rw [e]
    go_enter Tryd.func99, Tryd.ntmps99
    go_wp2
    go_ret
    exact ⟨rfl, Keeps.refl _ _⟩
  · by_cases g2 : 8 < order
    · have e : rchkE L order = 1 := by unfold rchkE; rw [show rblockB (L.length + order) order = false from decide_eq_false (by omega)]; rfl
      rw [e]
      go_enter Tryd.func99, Tryd.ntmps99
      go_wp2
      go_ret
      exact ⟨rfl, Keeps.refl _ _⟩
    · obtain ⟨N, hN⟩ : ∃ N, (L.length : Int) + order = N := ⟨_, rfl⟩
      have HBL := Lib.hid (fun W => dblock_calls N order W)
      have hch : rchkE L order = if rblockB N order then (if L.all inB then 0 else 12) else 1 := by unfold rchkE; rw [hN]
      rw [hch]
      clear hch
      cases hb : rblockB N order with
      | false =>
        rw [hb] at HBL
        rw [if_neg (by simp)]
        clear hb
        go_enter Tryd.func99, Tryd.ntmps99
        go_wp2_with (first
          | (go_at_call 112; go_must (refine (HBL.out _).mono ?_); rintro e w3 ⟨rfl, rfl⟩))
        go_ret
        exact ⟨rfl, Keeps.refl _ _⟩
      | true =>
        rw [hb] at HBL
        rw [if_pos rfl]
        obtain ⟨RS, hRS⟩ : ∃ RS : Int, (if L.all inB then 0 else 12) = RS := ⟨_, rfl⟩
        rw [hRS]
        have HRS := Lib.hid hRS
        clear hb hRS
        go_enter Tryd.func99, Tryd.ntmps99
        go_wp2_with (first
          | (go_at_call 112; go_must (refine (HBL.out _).mono ?_); rintro e w3 ⟨rfl, rfl⟩))
        go_loopg [5] (L.length + 1) (fun q v5 w2 => ∃ (i : Nat), v5 = .int .i64 i ∧ i ≤ L.length ∧ Hid ((L.take i).all inB = true) ∧ Hid (i + q = L.length + 1) ∧ Hid (Keeps [] w w2))
        case atStart => exact ⟨0, rfl, by omega, (show _ = _ from by simp), (show _ = _ from by omega), Keeps.refl _ _⟩
        case round =>
          obtain ⟨i, rfl, hi, HA, HQ, HK⟩ := hrel
          obtain ⟨q1, rfl⟩ : ∃ g : Nat, g = gk := ⟨_, rfl⟩
          obtain ⟨wa, rfl⟩ : ∃ y : World, y = wr := ⟨_, rfl⟩
          by_cases hlt : i < L.length
          · obtain ⟨b1, o1, rfl, hc1⟩ := (hx.out.new HK.out).at_ i hlt
            obtain ⟨x, hxe⟩ : ∃ x, L[i] = x := ⟨_, rfl⟩
            rw [hxe] at hc1
            have hall : (L.take (i + 1)).all inB = inB x := by rw [List.take_succ_eq_append_getElem hlt, hxe, List.all_append, HA.out]; simp
            have hmem : x ∈ L := by rw [← hxe]; exact List.getElem_mem _
            by_cases hlo : x ≤ -2147483648
            · have hbad : L.all inB = false := by
                rw [List.all_eq_false]
                exact ⟨x, hmem, fun h => by have := (inB_iff x).1 h; omega⟩
              have HBAD := Lib.hid hbad
              clear hall hmem hbad hxe
              go_wp2_with fail
              go_ret
              exact ⟨by rw [← HRS.out, HBAD.out, if_neg (by simp)]; rfl, HK.out⟩
            · by_cases hhi : 2147483648 ≤ x
              · have hbad : L.all inB = false := by
                  rw [List.all_eq_false]
                  exact ⟨x, hmem, fun h => by have := (inB_iff x).1 h; omega⟩
                have HBAD := Lib.hid hbad
                clear hall hmem hbad hxe
                go_wp2_with fail
                go_ret
                exact ⟨by rw [← HRS.out, HBAD.out, if_neg (by simp)]; rfl, HK.out⟩
              · have hok : inB x = true := (inB_iff x).2 (by omega)
                rw [hok] at hall
                have HAN := Lib.hid hall
                clear hall hmem hok hxe
                go_wp2_with fail
                go_roundg (L.length - i)
                case measure => have := HQ.out; omega
                case rel => exact ⟨i + 1, by go_num, by omega, HAN.out, (show _ = _ from by have := HQ.out; omega), HK.out⟩
          · obtain rfl : i = L.length := by omega
            have h2 := HA.out
            rw [List.take_of_length_le (Nat.le_refl _)] at h2
            have HGOOD := Lib.hid h2
            clear h2
            go_wp2_with fail
            go_ret
            exact ⟨by rw [← HRS.out, HGOOD.out, if_pos rfl]; rfl, HK.out⟩
end Go.Proofs.YtofkiimaoahfjaaDoor
