/-
  Layer 6 (rice): Write on a Writer that the run has made; the law's known and cut; the least size.
-/
import Derived.Test.YtepbngdoeolepaaRice12
set_option linter.unusedVariables false
set_option linter.unusedSimpArgs false
namespace Go.Proofs.Ytepbngdoeolepaa
open Go.RowKit Go.Proofs.Ytepbngdoeolepaa.Pure

theorem wsRice (L : List Int) (order : Int) (n : Nat) (hn : n = L.length) (a : Option Addr) (c : Nat) {w0 w1 w : World} {p : Nat} {l : List Bool} (hW : Hid (WS w0 w1 p l)) (hk : Hid (Keeps [] w1 w)) (hnc : a = none → c = 0) (hl : L.length ≤ 600) (hc : L.length ≤ c) (h1 : -9223372036854775808 ≤ order ∧ order ≤ 9223372036854775807) (hx : Hid (Rd w .i64 a L))
    (hb : l.length ≤ 1000000000) (hf : ∀ ad, a = some ad → 0 < L.length → ad.block < w0.heap.size ∨ w1.heap.size ≤ ad.block) :
    Calls Try.prog 16 #[.pointer (some ⟨p, 0, none⟩), .slice a n c, .int .i64 order] w fun e w' => e = .returned (.int .i64 (rchkE L order)) ∧ WS w0 w' p (l ++ rwB L order) := by
  obtain ⟨k1, sv, k2, k3, k4⟩ := hW.out
  have hpl := k2.duo.lt
  have hsl := k2.row.lt
  refine (rwrite_calls L order n hn a c w p sv l hnc hl hc h1 hx (Lib.hid (k2.new hk.out)) hb ?_).mono fun e w' ⟨he, hw⟩ => ⟨he, WS.wrote (k1.new hk.out) k3 k4 hw⟩
  intro ad e h0 hm
  rcases List.mem_cons.1 hm with hm | hm
  · rcases hf ad e h0 with h | h <;> omega
  · have h5 := k4 _ hm
    have h6 := hsl _ hm
    rcases hf ad e h0 with h | h <;> omega

theorem kn6 : rchkE [1, -1] 0 = 0 ∧ rwB [1, -1] 0 = [false, false, false, false, false, false, false, false, false, false, false, false, true, false, true] := by decide +kernel
theorem kn6Pack : pack [false, false, false, false, false, false, false, false, false, false, false, false, true, false, true] = [0, 10] := by decide +kernel

set_option maxHeartbeats 4000000 in
theorem rknown_calls (w : World) :
    Calls Try.prog 8 #[] w fun e w' => e = .returned (.bool true) ∧ Keeps [] w w' := by
  have HK0 : Hid (Keeps [] w w) := Keeps.refl _ _
  go_enter Try.func8, Try.ntmps8
  go_upto_region 2 with (first
    | (go_at_call 13; go_must (refine (wsNew w _ HK0).mono ?_); rintro e w1 ⟨p, rfl, hW1, -, -⟩; have HW1 := Lib.hid hW1; clear hW1))
  have HKA : Hid (Keeps [] w1 (w1.alloc (.cells #[.int .i64 1, .int .i64 (-1)] 3))) := (Keeps.refl _ _).alloc _
  have HRD : Hid (Rd (w1.alloc (.cells #[.int .i64 1, .int .i64 (-1)] 3)) .i64 (some ⟨w1.heap.size, 0, none⟩) [1, -1]) := Rd.lit0 w1 .i64 3 #[.int .i64 1, .int .i64 (-1)] [1, -1] rfl (by simp)
  go_wp2_with (first
    | (go_at_call 16; go_must (with_reducible refine (wsRice [1, -1] 0 2 rfl _ 2 HW1 HKA (fun h => by cases h) (by simp) (by simp) (by omega) HRD (by simp) (fun ad e _ => by cases e; exact .inr (Nat.le_refl _))).mono ?_); rw [kn6.1, kn6.2]; rintro e w2 ⟨rfl, hW2⟩; have HW2 := Lib.hid hW2; clear hW2)
    | (go_at_call 21; go_must (with_reducible refine (wsLen HW2).mono ?_); rintro e w5 ⟨rfl, rfl⟩)
    | (go_at_call 19; go_must (with_reducible refine (wsBytes HW2).mono ?_); rw [List.nil_append, kn6Pack]; rintro e w5 ⟨v5, rfl, hr5, hf5, hk5⟩; have hcv := hr5.textv (P := Try.prog) 40 5 9 Try.underlying40 Try.underlying5 Try.underlying9; have hstr : strOfNums [0, 10] = ⟨#[0, 10]⟩ := rfl; rw [hstr] at hcv; clear hstr; have HK5 : Hid (Keeps [] w w5) := HW2.out.keeps.new hk5))
  go_ret
  exact ⟨rfl, HK5.out⟩

theorem rcut_law (n c : Nat) (a : Option Addr) (w : World) (hn : n ≤ 9223372036854775807) (hc : n ≤ c) :
    Calls Try.prog 9 #[.slice a n c] w fun e w' => e = .returned (.slice a (min n 513) c) ∧ w = w' := by
  by_cases h : n ≤ 513
  · have e : min n 513 = n := by omega
    rw [e]
    go_enter Try.func9, Try.ntmps9
    go_wp2
    go_ret
    exact ⟨congrArg (fun k => Ending.returned (Value.slice a k c)) (show (min (n : Int) 513).toNat = n by omega), rfl⟩
  · have e : min n 513 = 513 := by omega
    rw [e]
    go_enter Try.func9, Try.ntmps9
    go_wp2
    go_ret
    exact ⟨congrArg (fun k => Ending.returned (Value.slice a k c)) (show (min (n : Int) 513).toNat = 513 by omega), rfl⟩
end Go.Proofs.Ytepbngdoeolepaa
