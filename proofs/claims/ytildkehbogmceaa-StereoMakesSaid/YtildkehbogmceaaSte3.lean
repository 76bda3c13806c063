/-
  Layer 8 (stereo): check, rough, Ints, Join.
-/
import Derived.Test.YtildkehbogmceaaSte2
set_option linter.unusedVariables false
set_option linter.unusedSimpArgs false
namespace Go.Proofs.Ytildkehbogmceaa
open Go.RowKit

theorem FI_far : FI 16777216 = 4715268809856909312 := by decide
/-- A pair within the bounds. -/
abbrev InC (z : Int × Int) : Prop := (-16777216 ≤ z.1 ∧ z.1 ≤ 16777216) ∧ (-16777216 ≤ z.2 ∧ z.2 ≤ 16777216)

theorem run_fmax (P : Program) (ts : Array TypeId) (t : TypeId) (X Y : Nat) (hX : Sm (X : Int)) (hY : Sm (Y : Int)) (W : World) :
    Sem.run P (Builtin.max_ ts t #[.float .f64 (FI (X : Int)), .float .f64 (FI (Y : Int))]) W = .ok (.float .f64 (FI ((max X Y : Nat) : Int))) W := by
  have hor : FloatKind.f64.format.order (FI (X : Int)) (FI (Y : Int)) = some (compare (X : Int) (Y : Int)) := order_FI _ _ hX.lt hY.lt
  have e : Builtin.max_ ts t #[.float .f64 (FI (X : Int)), .float .f64 (FI (Y : Int))] = Builtin.max2 (.float .f64 (FI (X : Int))) (.float .f64 (FI (Y : Int))) := by
    simp [Builtin.max_]
  rw [e]
  rcases Int.lt_trichotomy (X : Int) (Y : Int) with h | h | h
  · rw [Int.compare_eq_lt.2 h] at hor
    rw [show max X Y = Y by omega]
    simp only [Builtin.max2, hor]
    rfl
  · rw [Int.compare_eq_eq.2 h] at hor
    have h2 : X = Y := by omega
    subst h2
    rw [show max X X = X by omega]
    simp only [Builtin.max2, hor]
    split <;> rfl
  · rw [Int.compare_eq_gt.2 h] at hor
    rw [show max X Y = X by omega]
    simp only [Builtin.max2, hor]
    rfl
theorem run_index2 (u v : Value) (W : World) : Sem.run Try.prog (Instr.index 53 (.agg #[u, v]) (.int .i64 0)) W = .ok u W ∧ Sem.run Try.prog (Instr.index 53 (.agg #[u, v]) (.int .i64 1)) W = .ok v W := ⟨by kernel_rfl, by kernel_rfl⟩

set_option maxHeartbeats 4000000 in
set_option maxRecDepth 100000 in
theorem scheck_calls (zs : List (Int × Int)) (n : Nat) (hn : n = zs.length) (a : Option Addr) (c : Nat) (w : World) (hl : zs.length ≤ 8192) (hin : ∀ z ∈ zs, InC z) (hx : Hid (RdV w a (cxs zs))) :
    Calls Try.prog 15 #[.slice a n c] w fun e w' => e = .returned (.int .i64 0) ∧ w' = w := by
  subst hn
  have HIN := Lib.hid hin
  clear hin
  go_enter Try.func15, Try.ntmps15
  go_wp2_with fail
  go_loopg [14] (zs.length + 1) (fun q v14 wr => ∃ (i : Nat), v14 = .int .i64 i ∧ i ≤ zs.length ∧ Hid (i + q = zs.length + 1) ∧ Hid (wr = w))
  case atStart => exact ⟨0, rfl, by omega, (show _ = _ from by omega), (show _ = _ from rfl)⟩
  case round =>
    obtain ⟨i, rfl, hi, HQ, HW⟩ := hrel
    obtain ⟨q1, rfl⟩ : ∃ g : Nat, g = gk := ⟨_, rfl⟩
    obtain rfl := HW.out
    obtain ⟨wa, rfl⟩ : ∃ y : World, y = wr := ⟨_, rfl⟩
    by_cases hlt : i < zs.length
    · obtain ⟨b1, o1, rfl, hc1⟩ := hx.out.at_ i (by rw [cxs_length]; exact hlt)
      rw [cxs_get zs i hlt] at hc1
      have hr := HIN.out zs[i] (List.getElem_mem _)
      obtain ⟨x, hxe⟩ : ∃ x, zs[i].1 = x := ⟨_, rfl⟩
      obtain ⟨y, hye⟩ : ∃ y, zs[i].2 = y := ⟨_, rfl⟩
      unfold InC at hr
      rw [hxe, hye] at hr
      rw [hxe, hye] at hc1
      obtain ⟨⟨r1, r2⟩, r3, r4⟩ := hr
      have hix0 := fun W => (run_index2 (.float .f64 (FI x)) (.float .f64 (FI y)) W).1
      have hix1 := fun W => (run_index2 (.float .f64 (FI x)) (.float .f64 (FI y)) W).2
      have HT := Lib.hid (fun (v : Int) (hv : Sm v) W => trunc_calls v W hv)
      have HI := Lib.hid (fun (v : Int) (hv : Sm v) W => isInf_calls v W hv)
      have hex : (FloatKind.f64.format.order (FI x) (FI x) != some Ordering.eq) = false := by
        have : FloatKind.f64.format.order (FI x) (FI x) = some (compare x x) := order_FI x x (by omega) (by omega)
        rw [this, Int.compare_eq_eq.2 rfl]
        rfl
      have hey : (FloatKind.f64.format.order (FI y) (FI y) != some Ordering.eq) = false := by
        have : FloatKind.f64.format.order (FI y) (FI y) = some (compare y y) := order_FI y y (by omega) (by omega)
        rw [this, Int.compare_eq_eq.2 rfl]
        rfl
      clear hxe hye
      go_wp2_with fail
      go_loopg [23] 3 (fun q v23 wq => ∃ (j : Nat), v23 = .int .i64 j ∧ j ≤ 2 ∧ Hid (j + q = 3) ∧ Hid (wq = wa))
      case atStart => exact ⟨0, rfl, by omega, (show _ = _ from by omega), (show _ = _ from rfl)⟩
      case round =>
        obtain ⟨j, rfl, hj, HQ2, HW2⟩ := hrel
        obtain ⟨q2, rfl⟩ : ∃ g : Nat, g = gk := ⟨_, rfl⟩
        obtain rfl := HW2.out
        rcases (show j = 0 ∨ j = 1 ∨ j = 2 by omega) with rfl | rfl | rfl
        · go_wp2_with (first
            | (go_at_call 24; go_must (refine (HT.out x (by constructor <;> omega) _).mono ?_); rintro e w3 ⟨rfl, rfl⟩)
            | (go_at_call 25; go_must (refine (HI.out x (by constructor <;> omega) _).mono ?_); rintro e w4 ⟨rfl, rfl⟩))
          go_roundg 2
          case measure => have := HQ2.out; omega
          case rel => exact ⟨1, by go_num, by omega, (show _ = _ from by omega), (show _ = _ from rfl)⟩
        · go_wp2_with (first
            | (go_at_call 24; go_must (refine (HT.out y (by constructor <;> omega) _).mono ?_); rintro e w3 ⟨rfl, rfl⟩)
            | (go_at_call 25; go_must (refine (HI.out y (by constructor <;> omega) _).mono ?_); rintro e w4 ⟨rfl, rfl⟩))
          go_roundg 1
          case measure => have := HQ2.out; omega
          case rel => exact ⟨2, by go_num, by omega, (show _ = _ from by omega), (show _ = _ from rfl)⟩
        · go_wp2_with fail
          go_roundg (zs.length - i)
          case measure => have := HQ.out; omega
          case rel => exact ⟨i + 1, by go_num, by omega, (show _ = _ from by have := HQ.out; omega), (show _ = _ from rfl)⟩
    · obtain rfl : i = zs.length := by omega
      clear HQ HW
      go_wp2_with fail
      go_loopg [38] (zs.length + 1) (fun q v38 wr => ∃ (i : Nat), v38 = .int .i64 i ∧ i ≤ zs.length ∧ Hid (i + q = zs.length + 1) ∧ Hid (wr = wa))
      case atStart => exact ⟨0, rfl, by omega, (show _ = _ from by omega), (show _ = _ from rfl)⟩
      case round =>
        obtain ⟨i, rfl, hi, HQ, HW⟩ := hrel
        obtain ⟨q1, rfl⟩ : ∃ g : Nat, g = gk := ⟨_, rfl⟩
        obtain rfl := HW.out
        obtain ⟨wa, rfl⟩ : ∃ y : World, y = wr := ⟨_, rfl⟩
        by_cases hlt : i < zs.length
        · obtain ⟨b1, o1, rfl, hc1⟩ := hx.out.at_ i (by rw [cxs_length]; exact hlt)
          rw [cxs_get zs i hlt] at hc1
          have hr := HIN.out zs[i] (List.getElem_mem _)
          obtain ⟨x, hxe⟩ : ∃ x, zs[i].1 = x := ⟨_, rfl⟩
          obtain ⟨y, hye⟩ : ∃ y, zs[i].2 = y := ⟨_, rfl⟩
          unfold InC at hr
          rw [hxe, hye] at hr
          rw [hxe, hye] at hc1
          obtain ⟨⟨r1, r2⟩, r3, r4⟩ := hr
          have HA := Lib.hid (fun (v : Int) (hv : Sm v) W => abs_calls v W hv)
          obtain ⟨X, hX⟩ : ∃ X : Nat, x.natAbs = X := ⟨_, rfl⟩
          obtain ⟨Y, hY⟩ : ∃ Y : Nat, y.natAbs = Y := ⟨_, rfl⟩
          have HAX : Hid (∀ W, Calls Try.prog 26 #[.float .f64 (FI x)] W fun e w' => e = .returned (.float .f64 (FI (X : Int))) ∧ w' = W) := by
            intro W
            have := abs_calls x W (by constructor <;> omega)
            rwa [hX] at this
          have HAY : Hid (∀ W, Calls Try.prog 26 #[.float .f64 (FI y)] W fun e w' => e = .returned (.float .f64 (FI (Y : Int))) ∧ w' = W) := by
            intro W
            have := abs_calls y W (by constructor <;> omega)
            rwa [hY] at this
          have hmx := fun W => run_fmax Try.prog #[38, 38] 38 X Y (by constructor <;> omega) (by constructor <;> omega) W
          obtain ⟨M, hM⟩ : ∃ M, max X Y = M := ⟨_, rfl⟩
          rw [hM] at hmx
          have hgm : (FloatKind.f64.format.order (FI (M : Int)) 4715268809856909312 == some Ordering.gt) = false := by
            rw [← FI_far, gt_FI _ _ (by simp; omega) (by decide), decide_eq_false (by omega)]
          clear hxe hye hX hY hM
          go_wp2_with (first
            | (go_at_call 26; go_must (first | (with_reducible refine (HAX.out _).mono ?_; rintro e w3 ⟨rfl, rfl⟩) | (with_reducible refine (HAY.out _).mono ?_; rintro e w4 ⟨rfl, rfl⟩))))
          go_roundg (zs.length - i)
          case measure => have := HQ.out; omega
          case rel => exact ⟨i + 1, by go_num, by omega, (show _ = _ from by have := HQ.out; omega), (show _ = _ from rfl)⟩
        · obtain rfl : i = zs.length := by omega
          go_wp2_with fail
          go_ret
          exact ⟨rfl, rfl⟩
end Go.Proofs.Ytildkehbogmceaa
