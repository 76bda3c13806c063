/-
  The statements CodeOnly and CodeBack of layer 5: the walks.
-/
import Derived.Test.YtjgljjpgknjihaaCodeP
import Derived.Test.YtjgljjpgknjihaaCode3
set_option linter.unusedVariables false
set_option linter.unusedSimpArgs false
namespace Go.Proofs.Ytjgljjpgknjihaa
open Go.RowKit Go.Proofs.Ytjgljjpgknjihaa.Pure

theorem get_res (b : List Int) (n k e : Int) (hg : getS b = (n, k, e)) (a : Option Addr) (c : Nat) (w : World) (hr : Rd w .u8 a b) (hb : Hid (∀ x ∈ b, 0 ≤ x ∧ x ≤ 255)) (hl : b.length ≤ 1000000000) :
    Calls Try.prog 19 #[.slice a b.length c] w fun r w' => r = .returned (.tuple #[.int .i64 n, .int .i64 k, .int .i64 e]) ∧ Keeps [] w w' := by
  have := get_calls b a c w hr hb hl
  unfold GetRes at this
  rw [hg] at this
  exact this

theorem get_resN (b : List Int) (m : Nat) (hm : m = b.length) (n k e : Int) (hg : getS b = (n, k, e)) (a : Option Addr) (c : Nat) (w : World) (hr : Rd w .u8 a b) (hb : Hid (∀ x ∈ b, 0 ≤ x ∧ x ≤ 255)) (hl : b.length ≤ 1000000000) :
    Calls Try.prog 19 #[.slice a m c] w fun r w' => r = .returned (.tuple #[.int .i64 n, .int .i64 k, .int .i64 e]) ∧ Keeps [] w w' := by
  subst hm
  exact get_res b n k e hg a c w hr hb hl

set_option maxHeartbeats 2000000 in
theorem codeOnly_walk (a : Option Addr) (n c : Nat) (z : List Int) (w : World) (w0 : InRow .u8 w a n c z) :
    Calls Try.prog 7 #[.slice a n c] w fun e w' => e = .returned (.bool true) ∧ Below w.heap.size w w' := by
  obtain ⟨hr, hl, hw, hcap⟩ := w0.rd
  generalize z.take n = b at *
  subst hl
  have hb : ∀ x ∈ b, 0 ≤ x ∧ x ≤ 255 := fun x hx => wf_u8 (hw x hx)
  have HB := Lib.hid hb
  have HR := Lib.hid hr
  have HK : Hid (Keeps [] w w) := Keeps.refl _ _
  clear hw w0 hr
  by_cases hlen : 2000 < b.length
  · clear hb
    go_enter Try.func7, Try.ntmps7
    go_wp2_with (first
      | (go_at_call 9; go_must (refine (known_calls _).mono ?_); rintro e w1 ⟨rfl, hk1⟩; replace HK : Hid (Keeps [] w w1) := HK.out.new hk1; clear hk1))
    go_ret
    exact ⟨rfl, HK.out.below⟩
  · rcases get_err b with ⟨n, k, hg⟩ | hg | hg
    · obtain ⟨h0, h1, rfl, h2, h3⟩ := put_get b hb n k hg
      have HG := Lib.hid hg
      have HP := Lib.hid h3
      have hp0 : 0 < (putS n).length := by rw [putS_length]; unfold sizeB; repeat (first | omega | split)
      obtain ⟨bl, o, rfl, _⟩ := HR.out.form (by omega)
      have HPL : Hid ((b.take (putS n).length).length = (putS n).length) := by show _ = _; simp; omega
      clear hg h3 hb
      go_enter Try.func7, Try.ntmps7
      go_upto_region 7 with (first
        | (go_at_call 9; go_must (refine (known_calls _).mono ?_); rintro e w1 ⟨rfl, hk1⟩)
        | (go_at_call 19; go_must (refine (get_res b _ _ _ HG.out _ _ _ (HR.out.new hk1) HB (by omega)).mono ?_); rintro e w2 ⟨rfl, hk2⟩)
        | (go_at_call 17; go_must (refine (put_calls _ _ h0 h1).mono ?_); rintro e w3 ⟨v3, rfl, hr3, hf3, hk3⟩))
      have hc1 := hr3.textN (P := Try.prog) 30 5 9 Try.underlying30 Try.underlying5 Try.underlying9
      have hc2 := fun c => (((HR.out.new hk1).new hk2).new hk3).take (putS n).length |>.textN (P := Try.prog) 30 5 9 Try.underlying30 Try.underlying5 Try.underlying9 (putS n).length c HPL.out.symm
      rw [HP.out] at hc2
      obtain ⟨a3, c3, rfl, -⟩ := hr3.rd
      clear hr3 hf3
      have hd : decide ((putS n).length ≤ b.length) = true := by simp; omega
      go_quiet (fail)
      go_wp2
      go_ret
      exact ⟨rfl, (((hk1.new hk2).new hk3).drewN nq).below⟩
    all_goals
      have HG := Lib.hid hg
      clear hg hb
      go_enter Try.func7, Try.ntmps7
      go_wp2_with (first
        | (go_at_call 9; go_must (refine (known_calls _).mono ?_); rintro e w1 ⟨rfl, hk1⟩)
        | (go_at_call 19; go_must (refine (get_res b _ _ _ HG.out _ _ _ (HR.out.new hk1) HB (by omega)).mono ?_); rintro e w2 ⟨rfl, hk2⟩))
      go_ret
      exact ⟨rfl, (hk1.new hk2).below⟩
end Go.Proofs.Ytjgljjpgknjihaa
