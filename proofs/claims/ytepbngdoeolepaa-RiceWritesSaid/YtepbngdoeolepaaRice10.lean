/-
  Layer 6 (rice): Size.
-/
import Derived.Test.YtepbngdoeolepaaRice9
set_option linter.unusedVariables false
set_option linter.unusedSimpArgs false
namespace Go.Proofs.Ytepbngdoeolepaa
open Go.RowKit Go.Proofs.Ytepbngdoeolepaa.Pure

theorem rchk_ok (L : List Int) (order : Int) (h : rchkE L order = 0) : (1 ≤ (L.length : Int) + order ∧ (L.length : Int) + order ≤ 512 ∧ 0 ≤ order ∧ order ≤ 8) ∧ (∀ n ∈ L, -2147483648 < n ∧ n < 2147483648) := by
  unfold rchkE at h
  cases hr : rightB (L.length + order) order
  · rw [hr] at h; cases h
  · rw [hr] at h
    cases hi : L.all inB
    · rw [hi] at h; cases h
    · have h1 := of_decide_eq_true hr
      refine ⟨⟨h1.1, h1.2.1, h1.2.2.1, h1.2.2.2.1⟩, fun n hn => ?_⟩
      have := List.all_eq_true.1 hi n hn
      exact (inB_iff n).1 this
/-- Size's number and error. -/
def rsizeN (L : List Int) (order : Int) : Int := if rchkE L order = 0 then (chooseS L order.toNat).2.2.2 else 0

set_option maxHeartbeats 1000000 in
theorem rsize_calls (L : List Int) (order : Int) (n : Nat) (hn : n = L.length) (a : Option Addr) (c : Nat) (w : World) (hnc : a = none → c = 0) (hl : L.length ≤ 600) (hc : L.length ≤ c) (h1 : -9223372036854775808 ≤ order ∧ order ≤ 9223372036854775807) (hx : Hid (Rd w .i64 a L)) :
    Calls Try.prog 10 #[.slice a n c, .int .i64 order] w fun e w' => e = .returned (.tuple #[.int .i64 (rsizeN L order), .int .i64 (rchkE L order)]) ∧ Keeps [] w w' := by
  subst hn
  have HCK := Lib.hid (fun W (hk : Keeps [] w W) => rcheck_calls L order _ rfl a c W h1 (by omega) (Lib.hid (hx.out.new hk)))
  by_cases he : rchkE L order = 0
  · obtain ⟨⟨g1, g2, g3, g4⟩, hin⟩ := rchk_ok L order he
    obtain ⟨o, rfl⟩ : ∃ o : Nat, order = (o : Int) := ⟨order.toNat, by omega⟩
    have hz : rsizeN L (o : Int) = (chooseS L o).2.2.2 := by unfold rsizeN; rw [if_pos he, Int.toNat_natCast]
    rw [hz, he]
    rw [he] at HCK
    have HCH := Lib.hid (choose_calls L o _ rfl a c w hnc hl hc (by omega) (Lib.hid hin) hx)
    clear he hz hin hnc
    generalize chooseS L o = CH at *
    have hfd : ∀ (x y : Int) (av : Option Addr) (n c : Nat) (s : Int) (W : World), (Instr.field 59 (.agg #[.int .i64 x, .int .i64 y, .slice av n c, .int .i64 s]) 3).run Try.prog W = .ok (.int .i64 s) W := fun _ _ _ _ _ _ _ => by kernel_rfl
    go_enter Try.func10, Try.ntmps10
    go_wp2_with (first
      | (go_at_call 28; go_must (refine (HCK.out _ (Keeps.refl _ _)).mono ?_; rintro e w1 ⟨rfl, rfl⟩))
      | (go_at_call 29; go_must (refine HCH.out.mono ?_; rintro e w2 ⟨v, rfl, hr2, -, hk2⟩; obtain ⟨av, cv, hv⟩ := hr2.slice; subst hv; clear hr2)))
    go_ret2
    exact ⟨rfl, hk2⟩
  · have hz : rsizeN L order = 0 := by unfold rsizeN; rw [if_neg he]
    rw [hz]
    have heb : (rchkE L order != 0) = true := by simp [he]
    obtain ⟨E, hE⟩ : ∃ E, rchkE L order = E := ⟨_, rfl⟩
    rw [hE] at HCK heb ⊢
    clear hE hz he hnc
    go_enter Try.func10, Try.ntmps10
    go_wp2_with (first
      | (go_at_call 28; go_must (refine (HCK.out _ (Keeps.refl _ _)).mono ?_; rintro e w1 ⟨rfl, rfl⟩)))
    go_ret2
    exact ⟨rfl, Keeps.refl _ _⟩
end Go.Proofs.Ytepbngdoeolepaa
