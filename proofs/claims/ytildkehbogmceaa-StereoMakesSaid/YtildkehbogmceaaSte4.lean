/-
  Layer 8 (stereo): Ints, rough, Join. (Written by gen_ste4.py.)
-/
import Derived.Test.YtildkehbogmceaaSte3
set_option linter.unusedVariables false
set_option linter.unusedSimpArgs false
namespace Go.Proofs.Ytildkehbogmceaa
open Go.RowKit

theorem ints_step (xs ys : List Int) (h : xs.length = ys.length) (i : Nat) (hi : i < xs.length) (hp : xs.take i = ys.take i) (he : xs[i] = ys[i]'(h ▸ hi)) : xs.take (i + 1) = ys.take (i + 1) := by
  rw [List.take_succ_eq_append_getElem hi, List.take_succ_eq_append_getElem (h ▸ hi), hp, he]
set_option maxHeartbeats 1000000 in
theorem ints_q (xs ys : List Int) (m n : Nat) (hm : m = xs.length) (hn : n = ys.length) (a b : Option Addr) (c d : Nat) (w : World) (hx : Hid (Rd w .i64 a xs)) (hy : Hid (Rd w .i64 b ys)) :
    Calls Try.prog 8 #[.slice a m c, .slice b n d] w fun e w' => e = .returned (.bool (decide (xs = ys))) ∧ ∃ m, w' = w.drewN m := by
  subst hm hn
  have hxl := hx.out.small
  have hyl := hy.out.small
  by_cases hlen : xs.length = ys.length
  · have hne : ((xs.length : Int) != (ys.length : Int)) = false := by simp [hlen]
    go_enter Try.func8, Try.ntmps8
    go_wp2_with fail
    go_loopg [5] (xs.length + 1) (fun q v5 w2 => ∃ (i : Nat), v5 = .int .i64 i ∧ i ≤ xs.length ∧ Hid (xs.take i = ys.take i) ∧ Hid (i + q = xs.length + 1) ∧ Hid (∃ m, w2 = w.drewN m))
    case atStart => exact ⟨0, rfl, by omega, (show _ = _ from by simp), (show _ = _ from by omega), ⟨0, rfl⟩⟩
    case round =>
      obtain ⟨i, rfl, hi, HT, HQ, HN⟩ := hrel
      have HK : Hid (Keeps [] w wr) := by
        obtain ⟨m, hm⟩ := HN.out
        rw [hm]
        exact (Keeps.refl _ _).drewN m
      have HNX : Hid (∀ k, ∃ m, wr.drewN k = w.drewN m) := by
        intro k
        obtain ⟨m, hm⟩ := HN.out
        exact ⟨m + k, by rw [hm, World.drewN_drewN]⟩
      by_cases hlt : i < xs.length
      · obtain ⟨b1, o1, rfl, hc1⟩ := (hx.out.new HK.out).at_ i hlt
        obtain ⟨b2, o2, rfl, hc2⟩ := (hy.out.new HK.out).at_ i (hlen ▸ hlt)
        obtain ⟨x, hx1⟩ : ∃ x, xs[i] = x := ⟨_, rfl⟩
        obtain ⟨y, hy1⟩ : ∃ y, ys[i]'(hlen ▸ hlt) = y := ⟨_, rfl⟩
        rw [hx1] at hc1
        rw [hy1] at hc2
        have HX := Lib.hid hx1
        have HY := Lib.hid hy1
        clear hx1 hy1
        have hlt2 : i < ys.length := by omega
        by_cases hxy : x = y
        · subst hxy
          go_wp2_with fail
          go_quiet (fail)
          go_wp2
          go_roundg (xs.length - i)
          case measure => have := HQ.out; omega
          case rel => exact ⟨i + 1, by go_num, by omega, ints_step xs ys hlen i hlt HT.out (by rw [HX.out, HY.out]), (show _ = _ from by omega), HNX.out _⟩
        · have hb : (x != y) = true := by simp [hxy]
          have HXY := Lib.hid hxy
          clear hxy
          go_wp2_with fail
          go_quiet (fail)
          go_wp2
          go_ret
          refine ⟨?_, HNX.out _⟩
          have : ¬ xs = ys := by
            intro h
            subst h
            exact HXY.out (HX.out.symm.trans HY.out)
          simp [this]
      · obtain rfl : i = xs.length := by omega
        go_wp2
        go_ret
        refine ⟨?_, HN.out⟩
        have : xs = ys := by
          have := HT.out
          rw [List.take_of_length_le (Nat.le_refl _), List.take_of_length_le (by omega)] at this
          exact this
        simp [this]
  · have hne : ((xs.length : Int) != (ys.length : Int)) = true := by simp; omega
    go_enter Try.func8, Try.ntmps8
    go_wp2
    go_ret
    refine ⟨?_, 0, rfl⟩
    have : ¬ xs = ys := by intro h; subst h; omega
    simp [this]
theorem ints_calls (xs ys : List Int) (m n : Nat) (hm : m = xs.length) (hn : n = ys.length) (a b : Option Addr) (c d : Nat) (w : World) (hx : Hid (Rd w .i64 a xs)) (hy : Hid (Rd w .i64 b ys)) :
    Calls Try.prog 8 #[.slice a m c, .slice b n d] w fun e w' => e = .returned (.bool (decide (xs = ys))) ∧ Keeps [] w w' :=
  (ints_q xs ys m n hm hn a b c d w hx hy).mono fun e w' ⟨h1, k, h2⟩ => ⟨h1, by rw [h2]; exact (Keeps.refl _ _).drewN k⟩

/-- How rough a list is. -/
def rgh (last : Int) : List Int → Int
  | [] => 0
  | x :: xs => ((x - last).natAbs : Int) + rgh x xs
theorem rgh_range : ∀ (L : List Int) (last : Int), (∀ x ∈ L, -100000000 ≤ x ∧ x ≤ 100000000) → -100000000 ≤ last ∧ last ≤ 100000000 → 0 ≤ rgh last L ∧ rgh last L ≤ 200000000 * L.length := by
  intro L
  induction L with
  | nil => intro last _ _; exact ⟨Int.le_refl _, by simp [rgh]⟩
  | cons x L ih =>
    intro last h hl
    have hx := h x List.mem_cons_self
    obtain ⟨q1, q2⟩ := ih x (fun y hy => h y (List.mem_cons_of_mem _ hy)) hx
    unfold rgh
    rw [List.length_cons]
    omega
set_option maxHeartbeats 2000000 in
theorem rough_calls (L : List Int) (n : Nat) (hn : n = L.length) (a : Option Addr) (c : Nat) (w : World) (hl : L.length ≤ 8192) (hin : ∀ x ∈ L, -100000000 ≤ x ∧ x ≤ 100000000) (hx : Hid (Rd w .i64 a L)) :
    Calls Try.prog 18 #[.slice a n c] w fun e w' => e = .returned (.int .i64 (rgh 0 L)) ∧ w' = w := by
  subst hn
  have HIN := Lib.hid hin
  obtain ⟨G, hG⟩ : ∃ G, rgh 0 L = G := ⟨_, rfl⟩
  have hGr : 0 ≤ G ∧ G ≤ 200000000 * 8192 := by have := rgh_range L 0 hin (by omega); omega
  rw [hG]
  have HG := Lib.hid hG
  clear hin hG
  go_enter Try.func18, Try.ntmps18
  go_wp2_with fail
  go_loopg [3, 4, 9] (L.length + 1) (fun q v3 v4 v9 wr => ∃ (i : Nat) (s last : Int), v9 = .int .i64 i ∧ v3 = .int .i64 s ∧ v4 = .int .i64 last ∧ i ≤ L.length ∧ 0 ≤ s ∧ -100000000 ≤ last ∧ last ≤ 100000000 ∧ Hid (s + rgh last (L.drop i) = G) ∧ Hid (i + q = L.length + 1) ∧ Hid (wr = w))
  case atStart => exact ⟨0, 0, 0, rfl, rfl, rfl, by omega, by omega, by omega, by omega, (show _ = _ from by rw [List.drop_zero, HG.out]; omega), (show _ = _ from by omega), (show _ = _ from rfl)⟩
  case round =>
    obtain ⟨i, s, last, rfl, rfl, rfl, hi, hs0, hl0, hl1, HS, HQ, HW⟩ := hrel
    obtain ⟨q1, rfl⟩ : ∃ g : Nat, g = gk := ⟨_, rfl⟩
    obtain rfl := HW.out
    obtain ⟨wa, rfl⟩ : ∃ y : World, y = wr := ⟨_, rfl⟩
    by_cases hlt : i < L.length
    · obtain ⟨b1, o1, rfl, hc1⟩ := hx.out.at_ i hlt
      obtain ⟨x, hxe⟩ : ∃ x, L[i] = x := ⟨_, rfl⟩
      rw [hxe] at hc1
      have hxr := HIN.out x (by rw [← hxe]; exact List.getElem_mem _)
      have hd : L.drop i = x :: L.drop (i + 1) := by rw [List.drop_eq_getElem_cons hlt, hxe]
      have hst := HS.out
      rw [hd] at hst
      unfold rgh at hst
      have hrr := rgh_range (L.drop (i + 1)) x (fun y hy => HIN.out y (List.mem_of_mem_drop hy)) hxr
      obtain ⟨D, hD⟩ : ∃ D : Nat, (x - last).natAbs = D := ⟨_, rfl⟩
      rw [hD] at hst
      have HSN : Hid (s + D + rgh x (L.drop (i + 1)) = G) := (show _ = _ from by omega)
      have hmx : (if last - x > x - last then last - x else x - last) = (D : Int) := by split <;> omega
      have hb : s + D ≤ 200000000 * 8192 := by omega
      have hD0 : D ≤ 200000000 := by omega
      clear hd hst hrr hxe hD
      go_wp2_with fail
      go_roundg (L.length - i)
      case measure => have := HQ.out; omega
      case rel => exact ⟨i + 1, s + D, x, by go_num, by first | rfl | (congr 1; omega), rfl, by omega, by omega, hxr.1, hxr.2, HSN.out, (show _ = _ from by have := HQ.out; omega), (show _ = _ from rfl)⟩
    · obtain rfl : i = L.length := by omega
      have hst := HS.out
      rw [List.drop_length] at hst
      unfold rgh at hst
      have hsG : s = G := by omega
      subst hsG
      clear hst
      go_wp2_with fail
      go_ret
      exact ⟨rfl, rfl⟩
end Go.Proofs.Ytildkehbogmceaa
