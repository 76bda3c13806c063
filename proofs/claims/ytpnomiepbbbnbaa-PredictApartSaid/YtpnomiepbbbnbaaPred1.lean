/-
  Layer 7 (predict), the small functions: Same, in, all, floor, wide, ContainsFunc.
-/
import Derived.Test.YtpnomiepbbbnbaaMem
import Derived.Test.YtpnomiepbbbnbaaProg
import Derived.WalkSpells
import Derived.WalkLawsBesides
import Derived.BigQuiet
set_option linter.unusedVariables false
set_option linter.unusedSimpArgs false
namespace Go.Proofs.Ytpnomiepbbbnbaa
open Go.RowKit

theorem Rd.cellAt {w : World} {k : IntKind} {a : Option Addr} {xs : List Int} (h : Rd w k a xs) (i : Nat) (hi : i < xs.length) : ∃ b o, a = some ⟨b, o, none⟩ ∧ w.cell? ⟨b, o + i, none⟩ = some (.int k xs[i]) := h.at_ i hi

theorem same_step (xs ys : List Int) (h : xs.length = ys.length) (i : Nat) (hi : i < xs.length) (hp : xs.take i = ys.take i) (he : xs[i] = ys[i]'(h ▸ hi)) : xs.take (i + 1) = ys.take (i + 1) := by
  rw [List.take_succ_eq_append_getElem hi, List.take_succ_eq_append_getElem (h ▸ hi), hp, he]

set_option maxHeartbeats 1000000 in
theorem same_calls (xs ys : List Int) (m n : Nat) (hm : m = xs.length) (hn : n = ys.length) (a b : Option Addr) (c d : Nat) (w : World) (hx : Hid (Rd w .i64 a xs)) (hy : Hid (Rd w .i64 b ys)) :
    Calls Try.prog 14 #[.slice a m c, .slice b n d] w fun e w' => e = .returned (.bool (decide (xs = ys))) ∧ Keeps [] w w' := by
  subst hm hn
  have hxl := hx.out.small
  have hyl := hy.out.small
  by_cases hlen : xs.length = ys.length
  · have hne : ((xs.length : Int) != (ys.length : Int)) = false := by simp [hlen]
    go_enter Try.func14, Try.ntmps14
    go_wp2_with fail
    go_loopg [5] (xs.length + 1) (fun q v5 w2 => ∃ (i : Nat), v5 = .int .i64 i ∧ i ≤ xs.length ∧ Hid (xs.take i = ys.take i) ∧ Hid (i + q = xs.length + 1) ∧ Hid (Keeps [] w w2))
    case atStart => exact ⟨0, rfl, by omega, (show _ = _ from by simp), (show _ = _ from by omega), Keeps.refl _ _⟩
    case round =>
      obtain ⟨i, rfl, hi, HT, HQ, HK⟩ := hrel
      by_cases hlt : i < xs.length
      · obtain ⟨b1, o1, rfl, hc1⟩ := (hx.out.new HK.out).cellAt i hlt
        obtain ⟨b2, o2, rfl, hc2⟩ := (hy.out.new HK.out).cellAt i (hlen ▸ hlt)
        obtain ⟨x, hx1⟩ : ∃ x, xs[i] = x := ⟨_, rfl⟩
        obtain ⟨y, hy1⟩ : ∃ y, ys[i]'(hlen ▸ hlt) = y := ⟨_, rfl⟩
        rw [hx1] at hc1
        rw [hy1] at hc2
        have HX := Lib.hid hx1
        have HY := Lib.hid hy1
        clear hx1 hy1
        have hlt2 : i < ys.length := by omega
        by_cases hxy : x = y
        · subst hxy
          go_wp2_with fail
          go_quiet (fail)
          go_wp2
          go_roundg (xs.length - i)
          case measure => have := HQ.out; omega
          case rel => exact ⟨i + 1, by go_num, by omega, same_step xs ys hlen i hlt HT.out (by rw [HX.out, HY.out]), (show _ = _ from by omega), HK.out.drewN _⟩
        · have hb : (x != y) = true := by simp [hxy]
          have HXY := Lib.hid hxy
          clear hxy
          go_wp2_with fail
          go_quiet (fail)
          go_wp2
          go_ret
          refine ⟨?_, HK.out.drewN _⟩
          have : ¬ xs = ys := by
            intro h
            subst h
            exact HXY.out (HX.out.symm.trans HY.out)
          simp [this]
      · obtain rfl : i = xs.length := by omega
        go_wp2
        go_ret
        refine ⟨?_, HK.out⟩
        have : xs = ys := by
          have := HT.out
          rw [List.take_of_length_le (Nat.le_refl _), List.take_of_length_le (by omega)] at this
          exact this
        simp [this]
  · have hne : ((xs.length : Int) != (ys.length : Int)) = true := by simp; omega
    go_enter Try.func14, Try.ntmps14
    go_wp2
    go_ret
    refine ⟨?_, Keeps.refl _ _⟩
    have : ¬ xs = ys := by intro h; subst h; omega
    simp [this]
end Go.Proofs.Ytpnomiepbbbnbaa
