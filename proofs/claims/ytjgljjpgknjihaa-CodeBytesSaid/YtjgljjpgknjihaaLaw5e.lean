/-
  The statement CodeBytes of layer 5: the walk.
-/
import Derived.Test.YtjgljjpgknjihaaLaw5c
import Derived.Test.YtjgljjpgknjihaaRef5b
import Derived.Test.YtjgljjpgknjihaaRef5c
set_option linter.unusedVariables false
set_option linter.unusedSimpArgs false
namespace Go.Proofs.Ytjgljjpgknjihaa
open Go.RowKit Go.Proofs.Ytjgljjpgknjihaa.Pure

theorem docGet_res (b : List Int) (w : World) (hb : Hid (∀ x ∈ b, 0 ≤ x ∧ x ≤ 255)) (hl : b.length ≤ 1000000) (n k e : Int) (hg : getS b = (n, k, e)) :
    Calls Try.prog 18 #[.string (strOfNums b)] w fun r w' => r = .returned (.tuple #[.int .i64 n, .int .i64 k, .int .i64 e]) ∧ Keeps [] w w' := by
  have := docGet_calls b w hb hl
  unfold GetRes at this
  rw [hg] at this
  exact this

set_option maxHeartbeats 2000000 in
theorem codeBytes_walk (n : Int) (a : Option Addr) (len c : Nat) (z : List Int) (w : World) (w0 : (Lit.int .i64 n).wf = true) (w1 : InRow .u8 w a len c z) :
    Calls Try.prog 5 #[.int .i64 n, .slice a len c] w fun e w' => e = .returned (.bool true) ∧ Below w.heap.size w w' := by
  obtain ⟨hr, hl, hw, hcap⟩ := w1.rd
  generalize z.take len = b at *
  subst hl
  have hb : ∀ x ∈ b, 0 ≤ x ∧ x ≤ 255 := fun x hx => wf_u8 (hw x hx)
  have HB := Lib.hid hb
  have HR := Lib.hid hr
  have HK : Hid (Keeps [] w w) := Keeps.refl _ _
  clear hw w1 hr
  by_cases hlen : 2000 < b.length
  · clear hb
    go_enter Try.func5, Try.ntmps5
    go_wp2_with (first
      | (go_at_call 9; go_must (refine (known_calls _).mono ?_); rintro e w1 ⟨rfl, hk1⟩; replace HK : Hid (Keeps [] w w1) := HK.out.new hk1; clear hk1))
    go_ret
    exact ⟨rfl, HK.out.below⟩
  · obtain ⟨gn, gk, ge, hg⟩ : ∃ gn gk ge, getS b = (gn, gk, ge) := ⟨_, _, _, rfl⟩
    have HG := Lib.hid hg
    clear hg hb
    by_cases hn : 0 ≤ n ∧ n ≤ 68719476735
    · obtain ⟨h0, h1⟩ := hn
      go_enter Try.func5, Try.ntmps5
      have hc0 : ∀ v : World, True := fun _ => trivial
      go_upto_region 5 with (first
        | (go_at_call 9; go_must (refine (known_calls _).mono ?_); rintro e w1 ⟨rfl, hk1⟩)
        | (go_at_call 16; go_must (refine (docPut_calls _ _ h0 h1).mono ?_); rintro e w2 ⟨rfl, hk2⟩)
        | (go_at_call 17; go_must (refine (put_calls _ _ h0 h1).mono ?_); rintro e w3 ⟨v3, rfl, hr3, hf3, hk3⟩))
      have HK3 : Hid (Keeps [] w w3) := (hk1.new hk2).new hk3
      have HR3 := Lib.hid (HR.out.new HK3.out)
      have HV3 := Lib.hid hr3
      have hc1 := HR3.out.text (P := Try.prog) 30 5 9 Try.underlying30 Try.underlying5 Try.underlying9 c
      obtain ⟨a3, c3, rfl, -⟩ := hr3.rd
      clear hr3 hf3 hk1 hk2 hk3
      go_upto_region 7 with (first
        | (go_at_call 18; go_must (refine (docGet_res b _ HB (by omega) _ _ _ HG.out).mono ?_); rintro e w4 ⟨rfl, hk4⟩)
        | (go_at_call 19; go_must (refine (get_res b _ _ _ HG.out _ _ _ (HR3.out.new hk4) HB (by omega)).mono ?_); rintro e w5 ⟨rfl, hk5⟩))
      have hc2 := ((HV3.out.keeps hk4 (fun _ _ => by simp)).keeps hk5 (fun _ _ => by simp)).textv (P := Try.prog) 30 5 9 Try.underlying30 Try.underlying5 Try.underlying9
      go_wp2
      go_ret
      exact ⟨rfl, ((HK3.out.new hk4).new hk5).below⟩
    · have hn' : n < 0 ∨ 68719476735 < n := by omega
      have HN := Lib.hid hn'
      clear hn hn'
      go_enter Try.func5, Try.ntmps5
      go_upto_region 5 with (first
        | (go_at_call 9; go_must (refine (known_calls _).mono ?_); rintro e w1 ⟨rfl, hk1⟩)
        | (go_at_call 16; go_must (refine (docPut_err _ _ HN.out).mono ?_); rintro e w' ⟨rfl, rfl⟩)
        | (go_at_call 17; go_must (refine (put_err _ _ HN.out).mono ?_); rintro e w' ⟨rfl, rfl⟩))
      have HR3 := Lib.hid (HR.out.new hk1)
      have hc1 := HR3.out.text (P := Try.prog) 30 5 9 Try.underlying30 Try.underlying5 Try.underlying9 c
      go_upto_region 7 with (first
        | (go_at_call 18; go_must (refine (docGet_res b _ HB (by omega) _ _ _ HG.out).mono ?_); rintro e w4 ⟨rfl, hk4⟩)
        | (go_at_call 19; go_must (refine (get_res b _ _ _ HG.out _ _ _ (HR3.out.new hk4) HB (by omega)).mono ?_); rintro e w5 ⟨rfl, hk5⟩))
      have hc2 := (Row.nil w5 .u8 5).textv (P := Try.prog) 30 5 9 Try.underlying30 Try.underlying5 Try.underlying9
      rw [show strOfNums [] = ⟨#[]⟩ from rfl] at hc2
      go_wp2
      go_ret
      exact ⟨rfl, ((hk1.new hk4).new hk5).below⟩
end Go.Proofs.Ytjgljjpgknjihaa
