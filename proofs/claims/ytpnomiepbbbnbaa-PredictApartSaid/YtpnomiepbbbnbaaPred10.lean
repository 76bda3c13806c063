/-
  Layer 7 (predict): same, cut, of.
-/
import Derived.Test.YtpnomiepbbbnbaaPred9
set_option linter.unusedVariables false
set_option linter.unusedSimpArgs false
namespace Go.Proofs.Ytpnomiepbbbnbaa
open Go.RowKit

set_option maxHeartbeats 1000000 in
theorem sameM_calls (cs ds : List Int) (sh th : Int) (m n : Nat) (hm : m = cs.length) (hn : n = ds.length) (a b : Option Addr) (c d : Nat) (w : World) (hc : Hid (Rd w .i64 a cs)) (hd : Hid (Rd w .i64 b ds)) :
    Calls Try.prog 23 #[.agg #[.slice a m c, .int .i64 sh], .agg #[.slice b n d, .int .i64 th]] w fun e w' => e = .returned (.bool (decide (cs = ds) && decide (sh = th))) ∧ Keeps [] w w' := by
  subst hm hn
  have HK : ∀ o1 o2, Hid (Keeps [] w ((w.alloc o1).alloc o2)) := fun o1 o2 => ((Keeps.refl _ _).alloc _).alloc _
  have HC : ∀ o1 o2, Hid (Rd ((w.alloc o1).alloc o2) .i64 a cs) := fun o1 o2 => hc.out.new (HK o1 o2).out
  have HD : ∀ o1 o2, Hid (Rd ((w.alloc o1).alloc o2) .i64 b ds) := fun o1 o2 => hd.out.new (HK o1 o2).out
  have HB1 := Lib.hid ((Box.made w (.slice a cs.length c) (.int .i64 sh) 26).new ((Keeps.refl _ _).alloc (.cells #[.slice b ds.length d, .int .i64 th] 34)))
  have HB2 := Lib.hid (Box.made (w.alloc (.cells #[.slice a cs.length c, .int .i64 sh] 26)) (.slice b ds.length d) (.int .i64 th) 34)
  by_cases h1 : cs = ds
  · have H1 : Hid (decide (cs = ds) = true) := decide_eq_true h1
    clear h1
    by_cases h2 : sh = th
    all_goals
      have H2 := Lib.hid h2
      first
        | (have hb : (sh == th) = true := beq_iff_eq.2 h2; clear h2)
        | (have hb : (sh == th) = false := beq_eq_false_iff_ne.2 h2; clear h2)
      go_enter Try.func23, Try.ntmps23
      go_wp2_with (first
        | (go_at_call 14; go_must (with_reducible refine (same_calls cs ds _ _ rfl rfl a b c d _ (HC _ _) (HD _ _)).mono ?_); rw [H1.out]; rintro e w2 ⟨rfl, hk2⟩; obtain ⟨hb0, hb1⟩ := HB1.out.new hk2; obtain ⟨hb2, hb3⟩ := HB2.out.new hk2; simp only [World.size_alloc] at hb2 hb3))
      go_ret
      refine ⟨?_, (HK _ _).out.new hk2⟩
      rw [H1.out]
      simp [H2.out]
  · have H1 : Hid (decide (cs = ds) = false) := decide_eq_false h1
    clear h1
    go_enter Try.func23, Try.ntmps23
    go_wp2_with (first
      | (go_at_call 14; go_must (with_reducible refine (same_calls cs ds _ _ rfl rfl a b c d _ (HC _ _) (HD _ _)).mono ?_); rw [H1.out]; rintro e w2 ⟨rfl, hk2⟩))
    go_ret
    refine ⟨?_, (HK _ _).out.new hk2⟩
    rw [H1.out]
    rfl

theorem cut_calls (n c : Nat) (a : Option Addr) (w : World) (hn : n ≤ 9223372036854775807) (hc : n ≤ c) :
    Calls Try.prog 15 #[.slice a n c] w fun e w' => e = .returned (.slice a (min n 600) c) ∧ w = w' := by
  by_cases h : n ≤ 600
  · have e : min n 600 = n := by omega
    rw [e]
    go_enter Try.func15, Try.ntmps15
    go_wp2
    go_ret
    exact ⟨rfl, rfl⟩
  · have e : min n 600 = 600 := by omega
    rw [e]
    go_enter Try.func15, Try.ntmps15
    go_wp2
    go_ret
    exact ⟨rfl, rfl⟩
end Go.Proofs.Ytpnomiepbbbnbaa
