/-
  Layer 7 (predict): the program's predict.
-/
import Derived.Test.YtpnomiepbbbnbaaPred4
set_option linter.unusedVariables false
set_option linter.unusedSimpArgs false
namespace Go.Proofs.Ytpnomiepbbbnbaa
open Go.RowKit

set_option maxHeartbeats 2000000 in
theorem predict_calls (cs xs : List Int) (sh : Int) (m n : Nat) (hm : m = cs.length) (a b : Option Addr) (c d : Nat) (w : World) (hs0 : 0 ≤ sh) (hs1 : sh ≤ 15) (hn : n = xs.length)
    (hc : Hid (Rd w .i64 a cs)) (hx : Hid (Rd w .i64 b xs)) (hF : Hid (Fit cs xs)) :
    Calls Try.prog 31 #[.agg #[.slice a m c, .int .i64 sh], .slice b n d] w fun e w' => e = .returned (.int .i64 (predI cs sh xs)) ∧ Keeps [] w w' := by
  subst hm hn
  have hxl := hx.out.small
  have hce := hF.out.enough
  have hcf := hF.out.few
  have hb0 := Box.made w (.slice a cs.length c) (.int .i64 sh) 26
  have HK0 : Hid (Keeps [] w (w.alloc (.cells #[.slice a cs.length c, .int .i64 sh] 26))) := (Keeps.refl _ _).alloc _
  have HC : Hid (Rd (w.alloc (.cells #[.slice a cs.length c, .int .i64 sh] 26)) .i64 a cs) := hc.out.new HK0.out
  have HX : Hid (Rd (w.alloc (.cells #[.slice a cs.length c, .int .i64 sh] 26)) .i64 b xs) := hx.out.new HK0.out
  have HB := Lib.hid hb0
  clear hb0
  go_enter Try.func31, Try.ntmps31
  go_wp2_with fail
  generalize w.heap.size = g at *
  generalize w.alloc (.cells #[.slice a cs.length c, .int .i64 sh] 26) = w1 at *
  go_loopg [5, 6, 7, 11] (cs.length + 1) (fun q v5 v6 v7 v11 w2 => w2 = w1 ∧ ∃ (j : Nat) (sum : Int), v11 = .int .i64 j ∧ v5 = .int .i64 sum ∧ j ≤ cs.length ∧ Hid (sum = dotp (cs.take j) xs.reverse) ∧ Hid (j + q = cs.length + 1))
  case atStart => exact ⟨rfl, 0, 0, rfl, rfl, by omega, (show _ = _ from by simp [dotp]), (show _ = _ from by omega)⟩
  case round =>
    obtain ⟨rfl, j, sum, rfl, rfl, hj, HS, HQ⟩ := hrel
    obtain ⟨hb0, hb1⟩ := HB.out
    by_cases hlt : j < cs.length
    · obtain ⟨b1, o1, ha1, hc1⟩ := HC.out.cellAt j hlt
      obtain ⟨b2, o2, ha2, hc2⟩ := HX.out.cellAt (xs.length - 1 - j) (by omega)
      subst ha1 ha2
      obtain ⟨y, hy1⟩ : ∃ y, cs[j] = y := ⟨_, rfl⟩
      obtain ⟨x, hx1⟩ : ∃ x, xs[xs.length - 1 - j]'(by omega) = x := ⟨_, rfl⟩
      rw [hy1] at hc1
      rw [hx1] at hc2
      obtain ⟨hst, p0, p1, s0, s1⟩ := hF.out.step j hlt y x hy1 hx1
      rw [← HS.out] at hst s0 s1
      have HST := Lib.hid hst
      clear hst hx1 hy1
      go_wp2_with fail
      go_roundg (cs.length - j)
      case measure => have := HQ.out; omega
      case rel => exact ⟨rfl, j + 1, sum + y * x, by go_num, rfl, by omega, HST.out.symm, (show _ = _ from by omega)⟩
    · obtain rfl : j = cs.length := by omega
      obtain ⟨t0, t1⟩ := hF.out.total
      have HS2 : Hid (predI cs sh xs = sum / 2 ^ sh.toNat) := by
        show _ = _
        rw [HS.out, List.take_of_length_le (Nat.le_refl _)]
        rfl
      rw [show dotp cs xs.reverse = sum by rw [HS.out, List.take_of_length_le (Nat.le_refl _)]] at t0 t1
      go_wp2_with fail
      go_ret
      refine ⟨?_, HK0.out⟩
      rw [HS2.out]
      rfl
end Go.Proofs.Ytpnomiepbbbnbaa
