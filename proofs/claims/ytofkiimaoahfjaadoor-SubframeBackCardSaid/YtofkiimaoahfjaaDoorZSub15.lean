/-
  Layer 9 (subframe): known, cut.
-/
import Derived.Test.YtofkiimaoahfjaaDoorZSub10
set_option maxRecDepth 100000
set_option linter.unusedVariables false
set_option linter.unusedSimpArgs false
namespace Go.Proofs.YtofkiimaoahfjaaDoor
open Go.RowKit Go.Proofs.YtofkiimaoahfjaaDoor.Pure

theorem kn9 : schkE [5, 5, 5] 8 = 0 ∧ sputB [5, 5, 5] 8 = [false, false, false, false, false, false, false, false, false, false, false, false, false, true, false, true] := by decide +kernel
theorem kn9Pack : pack [false, false, false, false, false, false, false, false, false, false, false, false, false, true, false, true] = [0, 5] := by decide +kernel

set_option maxHeartbeats 4000000 in
theorem sknown_calls (w : World) (hT : Hid (Tab w)) :
    Calls Tryd.prog 9 #[] w fun e w' => e = .returned (.bool true) ∧ Keeps [] w w' := by
  have HK0 : Hid (Keeps [] w w) := Keeps.refl _ _
  go_enter Tryd.func9, Tryd.ntmps9
  go_upto_region 2 with (first
    | (go_at_call 11; go_must (refine (wsNew w _ HK0).mono ?_); rintro e w1 ⟨p, rfl, hW1, hk1, -⟩; have HW1 := Lib.hid hW1; have HT1 := Lib.hid (hT.out.new hk1); clear hW1 hk1))
  have hKA : Keeps [] w1 (w1.alloc (.cells #[.int .i64 5, .int .i64 5, .int .i64 5] 3)) := (Keeps.refl _ _).alloc _
  have HTA := Lib.hid (HT1.out.new hKA)
  have HWA := Lib.hid (HW1.out.new hKA)
  have HRD : Hid (Rd (w1.alloc (.cells #[.int .i64 5, .int .i64 5, .int .i64 5] 3)) .i64 (some ⟨w1.heap.size, 0, none⟩) [5, 5, 5]) := Rd.lit0 w1 .i64 3 #[.int .i64 5, .int .i64 5, .int .i64 5] [5, 5, 5] rfl (by simp)
  have HRR : Hid (∀ x ∈ ([5, 5, 5] : List Int), -9223372036854775808 ≤ x ∧ x ≤ 9223372036854775807) := fun x hx => by
    have : x = 5 := by simpa using hx
    omega
  go_wp2_with (first
    | (go_at_call 13; go_must (with_reducible refine (wsSub [5, 5, 5] 8 3 rfl _ 3 _ _ _ [] HRR HRD HTA HWA (by simp)).mono ?_); rw [kn9.1, kn9.2]; rintro e w2 ⟨rfl, hW2⟩; have HW2 := Lib.hid hW2; clear hW2)
    | (go_at_call 16; go_must (with_reducible refine (wsLen HW2).mono ?_); rintro e w5 ⟨rfl, rfl⟩)
    | (go_at_call 18; go_must (with_reducible refine (wsBytes HW2).mono ?_); rw [List.nil_append, kn9Pack]; rintro e w5 ⟨v5, rfl, hr5, hf5, hk5⟩; have hcv := hr5.textv (P := Tryd.prog) 36 5 9 Tryd.underlying36 Tryd.underlying5 Tryd.underlying9; have hstr : strOfNums [0, 5] = ⟨#[0, 5]⟩ := rfl; rw [hstr] at hcv; clear hstr; have HK5 : Hid (Keeps [] w w5) := HW2.out.keeps.new hk5))
  go_ret
  exact ⟨rfl, HK5.out⟩

theorem scut_calls (n c : Nat) (k : Nat) (a : Option Addr) (w : World) (hn : n ≤ 9223372036854775807) (hc : n ≤ c) (hk : k ≤ 1000) :
    Calls Tryd.prog 10 #[.slice a n c, .int .i64 k] w fun e w' => e = .returned (.slice a (min n k) c) ∧ w = w' := by
  by_cases h : n ≤ k
  · have e : min n k = n := by omega
    rw [e]
    go_enter Tryd.func10, Tryd.ntmps10
    go_wp2
    go_ret
    exact ⟨congrArg (fun k => Ending.returned (Value.slice a k c)) (show (min (n : Int) (k : Int)).toNat = n by omega), rfl⟩
  · have e : min n k = k := by omega
    rw [e]
    go_enter Tryd.func10, Tryd.ntmps10
    go_wp2
    go_ret
    exact ⟨congrArg (fun k => Ending.returned (Value.slice a k c)) (show (min (n : Int) (k : Int)).toNat = k by omega), rfl⟩
end Go.Proofs.YtofkiimaoahfjaaDoor
