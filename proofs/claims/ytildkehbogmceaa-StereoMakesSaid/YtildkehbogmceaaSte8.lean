/-
  Layer 8 (stereo): Same of complex numbers. (Written by gen_ste8.py.)
-/
import Derived.Test.YtildkehbogmceaaSte7
set_option linter.unusedVariables false
set_option linter.unusedSimpArgs false
namespace Go.Proofs.Ytildkehbogmceaa
open Go.RowKit

theorem run_cne (x y : Int) (hx : Sm x) (hy : Sm y) (W : World) : (binOp .neq 37 (cx x y) (cx x y)).run Try.prog W = .ok (.bool false) W := by
  have h1 : FloatKind.f64.format.order (FI x) (FI x) = some (compare x x) := order_FI x x hx.lt hx.lt
  have h2 : FloatKind.f64.format.order (FI y) (FI y) = some (compare y y) := order_FI y y hy.lt hy.lt
  rw [Int.compare_eq_eq.2 rfl] at h1 h2
  simp [binOp, Op.complexOp, Op.Complex.cmp, Op.floatCmp, go_sem, h1, h2, Op.floatEq]
theorem run_inv0 (W : World) : (binOp .quo 38 (.float .f64 4607182418800017408) (.float .f64 (FI 0))).run Try.prog W = .ok (.float .f64 9218868437227405312) W :=
  run_float_arith W .quo _ .f64 _ _ _ (by decide)
theorem inf_pos : (FloatKind.f64.format.order 9218868437227405312 0 == some Ordering.lt) = false := by decide
theorem eq0_FI (x : Int) (hx : Sm x) : (FloatKind.f64.format.order (FI x) 0 == some Ordering.eq) = decide (x = 0) := by
  have := eq_FI x 0 hx.lt (by decide)
  rw [FI_zero] at this
  exact this

set_option maxHeartbeats 4000000 in
set_option maxRecDepth 100000 in
theorem csame_calls (zs : List (Int × Int)) (n m : Nat) (hn : n = zs.length) (hm : m = zs.length) (a b : Option Addr) (c d : Nat) (w : World) (hin : ∀ z ∈ zs, InC z) (hx : Hid (RdV w a (cxs zs))) (hy : Hid (RdV w b (cxs zs))) :
    Calls Try.prog 12 #[.slice a n c, .slice b m d] w fun e w' => e = .returned (.bool true) ∧ ∃ k, w' = w.drewN k := by
  subst hn hm
  have HIN := Lib.hid hin
  have hsm : zs.length ≤ 9223372036854775807 := by have := hx.out.small; rwa [cxs_length] at this
  clear hin
  go_enter Try.func12, Try.ntmps12
  go_wp2_with fail
  go_loopg [5] (zs.length + 1) (fun q v5 wr => ∃ (i : Nat), v5 = .int .i64 i ∧ i ≤ zs.length ∧ Hid (i + q = zs.length + 1) ∧ Hid (∃ k, wr = w.drewN k))
  case atStart => exact ⟨0, rfl, by omega, (show _ = _ from by omega), ⟨0, rfl⟩⟩
  case round =>
    obtain ⟨i, rfl, hi, HQ, HN⟩ := hrel
    obtain ⟨q1, rfl⟩ : ∃ g : Nat, g = gk := ⟨_, rfl⟩
    have HK : Hid (Keeps [] w wr) := by
      obtain ⟨k, hk⟩ := HN.out
      rw [hk]
      exact (Keeps.refl _ _).drewN k
    have HNX : Hid (∀ k, ∃ m, wr.drewN k = w.drewN m) := by
      intro k
      obtain ⟨m, hm⟩ := HN.out
      exact ⟨m + k, by rw [hm, World.drewN_drewN]⟩
    by_cases hlt : i < zs.length
    · obtain ⟨b1, o1, rfl, hc1⟩ := (hx.out.new HK.out).at_ i (by rw [cxs_length]; exact hlt)
      obtain ⟨b2, o2, rfl, hc2⟩ := (hy.out.new HK.out).at_ i (by rw [cxs_length]; exact hlt)
      rw [cxs_get zs i hlt] at hc1 hc2
      have hr := HIN.out zs[i] (List.getElem_mem _)
      obtain ⟨x, hxe⟩ : ∃ x, zs[i].1 = x := ⟨_, rfl⟩
      obtain ⟨y, hye⟩ : ∃ y, zs[i].2 = y := ⟨_, rfl⟩
      unfold InC at hr
      rw [hxe, hye] at hr
      rw [hxe, hye] at hc1 hc2
      obtain ⟨⟨r1, r2⟩, r3, r4⟩ := hr
      have hcne := fun W => run_cne x y (by constructor <;> omega) (by constructor <;> omega) W
      have hinv := run_inv0
      have hinf := inf_pos
      have hzx := eq0_FI x (by constructor <;> omega)
      have hzy := eq0_FI y (by constructor <;> omega)
      clear hxe hye r1 r2 r3 r4
      by_cases hx0 : x = 0
      · subst hx0
        rw [decide_eq_true rfl] at hzx
        by_cases hy0 : y = 0
        · subst hy0
          rw [decide_eq_true rfl] at hzy
          go_wp2_with fail
          go_quiet (fail)
          go_wp2
          go_roundg (zs.length - i)
          case measure => have := HQ.out; omega
          case rel => exact ⟨i + 1, by go_num, by omega, (show _ = _ from by have := HQ.out; omega), HNX.out _⟩
        · rw [decide_eq_false hy0] at hzy
          clear hy0
          go_wp2_with fail
          go_quiet (fail)
          go_wp2
          go_roundg (zs.length - i)
          case measure => have := HQ.out; omega
          case rel => exact ⟨i + 1, by go_num, by omega, (show _ = _ from by have := HQ.out; omega), HNX.out _⟩
      · rw [decide_eq_false hx0] at hzx
        clear hx0
        by_cases hy0 : y = 0
        · subst hy0
          rw [decide_eq_true rfl] at hzy
          go_wp2_with fail
          go_quiet (fail)
          go_wp2
          go_roundg (zs.length - i)
          case measure => have := HQ.out; omega
          case rel => exact ⟨i + 1, by go_num, by omega, (show _ = _ from by have := HQ.out; omega), HNX.out _⟩
        · rw [decide_eq_false hy0] at hzy
          clear hy0
          go_wp2_with fail
          go_quiet (fail)
          go_wp2
          go_roundg (zs.length - i)
          case measure => have := HQ.out; omega
          case rel => exact ⟨i + 1, by go_num, by omega, (show _ = _ from by have := HQ.out; omega), HNX.out _⟩
    · obtain rfl : i = zs.length := by omega
      go_wp2_with fail
      go_ret
      exact ⟨rfl, HN.out⟩
end Go.Proofs.Ytildkehbogmceaa
