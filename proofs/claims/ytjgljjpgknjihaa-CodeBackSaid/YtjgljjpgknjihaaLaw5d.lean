/-
  The statement CodeBack of layer 5: the walk.
-/
import Derived.Test.YtjgljjpgknjihaaLaw5c
set_option linter.unusedVariables false
set_option linter.unusedSimpArgs false
namespace Go.Proofs.Ytjgljjpgknjihaa
open Go.RowKit Go.Proofs.Ytjgljjpgknjihaa.Pure

theorem sizeB_mono (n m : Int) (h : n ≤ m) : sizeB n ≤ sizeB m := by
  unfold sizeB
  repeat (first | omega | split)
theorem putS_mono (n m : Int) (h : n ≤ m) : (putS n).length ≤ (putS m).length := by
  rw [putS_length, putS_length]
  have := sizeB_mono n m h
  have h2 : ¬ m < 128 → 2 ≤ sizeB m := fun h => by unfold sizeB; repeat (first | omega | split)
  split <;> split <;> omega
theorem putS_inj (n m : Int) (h0 : 0 ≤ n) (h1 : n ≤ 68719476735) (h2 : 0 ≤ m) (h3 : m ≤ 68719476735) (h : putS n = putS m) : n = m := by
  have a := get_put n h0 h1 []
  have b := get_put m h2 h3 []
  rw [h, b] at a
  simp at a
  exact a.symm
theorem putS_text (n m : Int) (h0 : 0 ≤ n) (h1 : n ≤ 68719476735) (h2 : 0 ≤ m) (h3 : m ≤ 68719476735) (h : n ≠ m) : strOfNums (putS n) ≠ strOfNums (putS m) :=
  fun e => h (putS_inj n m h0 h1 h2 h3 (strOfNums_inj (putS_range n h0 h1) (putS_range m h2 h3) e))
theorem putS_bound (n : Int) : 0 < (putS n).length ∧ (putS n).length ≤ 7 := by
  rw [putS_length]
  have := sizeB_le n
  have h2 : ¬ n < 128 → 2 ≤ sizeB n := fun h => by unfold sizeB; repeat (first | omega | split)
  split <;> omega

set_option maxHeartbeats 2000000 in
theorem codeBack_walk (n m : Int) (a : Option Addr) (len c : Nat) (z : List Int) (w : World) (w0 : (Lit.int .i64 n).wf = true) (w1 : (Lit.int .i64 m).wf = true) (w2 : InRow .u8 w a len c z) :
    Calls Try.prog 6 #[.int .i64 n, .int .i64 m, .slice a len c] w fun e w' => e = .returned (.bool true) ∧ Below w.heap.size w w' := by
  obtain ⟨hr, hl, hw, hcap⟩ := w2.rd
  have hnc := w2.nil_cap
  generalize z.take len = b at *
  subst hl
  have HB : Hid (∀ x ∈ b, 0 ≤ x ∧ x ≤ 255) := fun x hx => wf_u8 (hw x hx)
  have HR := Lib.hid hr
  have HNC := Lib.hid hnc
  have HK : Hid (Keeps [] w w) := Keeps.refl _ _
  clear hw w0 w1 w2 hr hnc
  by_cases hlen : 2000 < b.length
  · go_enter Try.func6, Try.ntmps6
    go_wp2_with (first
      | (go_at_call 9; go_must (refine (known_calls _).mono ?_); rintro e w1 ⟨rfl, hk1⟩; replace HK : Hid (Keeps [] w w1) := HK.out.new hk1; clear hk1))
    go_ret
    exact ⟨rfl, HK.out.below⟩
  · by_cases hn : 0 ≤ n ∧ n ≤ 68719476735
    · obtain ⟨hn0, hn1⟩ := hn
      obtain ⟨hp0, hp7⟩ := putS_bound n
      go_enter Try.func6, Try.ntmps6
      go_upto_region 6 with (first
        | (go_at_call 9; go_must (refine (known_calls _).mono ?_); rintro e w1 ⟨rfl, hk1⟩)
        | (go_at_call 17; go_must (refine (put_calls _ _ hn0 hn1).mono ?_); rintro e w2 ⟨v2, rfl, hr2, hf2, hk2⟩))
      obtain ⟨g2, c2, rfl⟩ := hr2.form hp0
      have HKA : Hid (Keeps [] w w2) := hk1.new hk2
      have hk1' : Hid (Keeps [] w w2) := HKA
      have hcc2 : (putS n).length ≤ c2 := hr2.cap_le
      have HR' := Lib.hid (HR.out.new HKA.out)
      have HF2 := Lib.hid hf2
      have HR2 := Lib.hid hr2
      have HRD2 : Hid (Rd w2 .u8 (some ⟨g2, 0, none⟩) (putS n)) := by
        obtain ⟨a', c', e', h'⟩ := hr2.rd
        cases e'
        exact h'
      have HL1 : Hid ((([] : List Int).length + (putS n).length) * 1 ≤ 140737488355328) := by show _ ≤ _; simp; omega
      have HL2 : Hid (((putS n).length + b.length) * 1 ≤ 140737488355328) := by show _ ≤ _; omega
      have HL3 : Hid ((putS n ++ b).length ≤ 1000000000) := by show _ ≤ _; simp; omega
      have HB4 : Hid (∀ x ∈ putS n ++ b, 0 ≤ x ∧ x ≤ 255) := fun x hx => by
        rcases List.mem_append.1 hx with h | h
        · exact putS_range n hn0 hn1 x h
        · exact HB.out x h
      have HG4 := Lib.hid (get_put n hn0 hn1 b)
      have HSP := Lib.hid HR'.out.spot
      have HNN : (some (⟨g2, 0, none⟩ : Addr) = none → c2 = 0) := fun h => by cases h
      have HSP2 := Lib.hid HRD2.out.spot
      clear hk1 hk2 HR HK hf2 hr2
      go_upto_region 9 with (first
        | (at_builtin; refine wp_appR (W := w2.alloc (.cells #[] 5)) ?hg (.tmp 49) (.tmp 50) 30 5 .u8 1 ?ho Try.underlying30 c_info_u8 (by decide) (.slice (some ⟨w2.heap.size, 0, none⟩) 0 0) [] (putS n) ?hs (some ⟨g2, 0, none⟩) c2 ?hx (Row.litNil w2 .u8 5) (HRD2.out.new ((Keeps.refl _ _).alloc _)) HNN HSP2.out HL1.out ?_; (case ho => rfl); (case hg => rfl); (case hs => rfl); (case hx => rfl); intro v3 w3 hr3 hk3 hf3; replace HKA : Hid (Keeps [] w w3) := (HKA.out.alloc _).then_ hk3 (fun b hb hlt => by have h1 := HKA.out.size; rw [fp_some, List.mem_singleton] at hb; omega); have HK3 : Hid (Keeps [] w2 w3) := ((Keeps.refl _ _).alloc _).then_ hk3 (fun b hb hlt => by rw [fp_some, List.mem_singleton] at hb; omega); rw [List.nil_append] at hr3; have HR3 := Lib.hid hr3; have HF3 := Lib.hid hf3; clear hr3 hk3 hf3)
        | (at_builtin; go_must (refine wp_appR (W := w3) ?hg (.tmp 51) (.tmp 52) 30 5 .u8 1 ?ho Try.underlying30 c_info_u8 (by decide) v3 (putS n) b ?hs a c ?hx HR3.out (HR'.out.new HK3.out) HNC.out HSP.out HL2.out ?_; (case ho => rfl); (case hg => rfl); (case hs => rfl); (case hx => rfl)); intro v4 w4 hr4 hk4 hf4; obtain ⟨a4, c4, rfl, hrd4⟩ := hr4.rd; have HRD4 := Lib.hid hrd4; have HK4 := Lib.hid hk4; clear hr4 hk4 hf4 hrd4)
        | (go_at_call 19; go_must (with_reducible refine (get_resN (putS n ++ b) _ List.length_append.symm _ _ _ HG4.out _ _ _ HRD4.out HB4 HL3.out).mono ?_); rintro e w5 ⟨rfl, hk5⟩))
      have HK25 : Hid (Keeps [] w2 w5) := (HK3.out.then_ HK4.out (fun b hb hlt => by
        rcases HF3.out b hb with h | h
        · rw [fp_some, List.mem_singleton] at h; omega
        · rw [World.size_alloc] at h; omega)).new hk5
      have HKB : Hid (Keeps [] w w5) := (HKA.out.then_ HK4.out (fun b hb hlt => by
        have h1 := (hk1'.out).size
        rcases HF3.out b hb with h | h
        · rw [fp_some, List.mem_singleton] at h; omega
        · rw [World.size_alloc] at h; omega)).new hk5
      clear HL1 HL2 HL3 HB4 HG4 HSP HSP2 HKA HK3 HR3 HF3 HRD4 HK4 hk5
      obtain ⟨wo, rfl⟩ : ∃ wo : World, wo = w5 := ⟨_, rfl⟩
      have HBP : ∀ i, Hid (∀ x ∈ (putS n).take i, 0 ≤ x ∧ x ≤ 255) := fun i x hx => putS_range n hn0 hn1 x (List.mem_of_mem_take hx)
      go_wp2_with fail
      go_loopg [12] 8 (fun q v12 w6 => ∃ i : Nat, v12 = .int .i64 i ∧ i ≤ (putS n).length ∧ Hid (i + q = 8) ∧ Hid (Keeps [] wo w6))
      case atStart => exact ⟨0, rfl, by omega, (show _ = _ from by omega), Keeps.refl _ _⟩
      case round =>
        obtain ⟨i, rfl, hi, HQ, HK6⟩ := hrel
        by_cases hlt : i < (putS n).length
        · have HG := Lib.hid (get_cut n hn0 hn1 i hlt)
          have HLn : i = ((putS n).take i).length := by simp; omega
          have HLN := Lib.hid HLn
          have hcap2 : i ≤ c2 := by
            have := hcc2
            omega
          clear HLn
          go_wp2_with (first
            | (go_at_call 19; go_must (with_reducible refine (get_resN ((putS n).take i) _ HLN.out _ _ _ HG.out _ _ _ (((HRD2.out.new HK25.out).new HK6.out).take i) (HBP i) (by simp; omega)).mono ?_); rintro e w7 ⟨rfl, hk7⟩))
          go_roundg (7 - i)
          case measure => have := HQ.out; omega
          case rel => exact ⟨i + 1, by go_num, by omega, (show _ = _ from by omega), HK6.out.new hk7⟩
        · have hd : decide ((i : Int) < ((putS n).length : Int)) = false := by simp; omega
          have hrow := (HR2.out.keeps HK25.out (fun _ _ => by simp)).keeps HK6.out (fun _ _ => by simp)
          by_cases hm : 0 ≤ m ∧ m ≤ 68719476735
          · obtain ⟨hm0, hm1⟩ := hm
            have HROW := Lib.hid hrow
            have HM1 := Lib.hid (putS_mono n m)
            have HM2 := Lib.hid (putS_mono m n)
            have HT := Lib.hid (putS_text n m hn0 hn1 hm0 hm1)
            clear hrow
            go_upto_region 18 with (first
              | (go_at_call 17; go_must (refine (put_calls _ _ hm0 hm1).mono ?_); rintro e w7 ⟨v7, rfl, hr7, hf7, hk7⟩))
            have hc1 := (HROW.out.keeps hk7 (fun _ _ => by simp)).textv (P := Try.prog) 30 5 9 Try.underlying30 Try.underlying5 Try.underlying9
            have hc2 := hr7.textv (P := Try.prog) 30 5 9 Try.underlying30 Try.underlying5 Try.underlying9
            obtain ⟨a7, c7, rfl, -⟩ := hr7.rd
            have HK8 : Hid (Keeps [] w w7) := ((HKB.out.new HK6.out).new hk7)
            clear hr7 hf7 hk7
            rcases Int.lt_trichotomy n m with h | h | h
            · have h1 := HM1.out (Int.le_of_lt h)
              have hb1 := text_ne (HT.out (by omega))
              have hb2 : (n == m) = false := beq_eq_false_iff_ne.2 (by omega)
              clear HT HM1 HM2
              go_wp2
              go_ret
              exact ⟨rfl, HK8.out.below⟩
            · subst h
              clear HT HM1 HM2
              go_wp2
              go_ret
              exact ⟨rfl, HK8.out.below⟩
            · have h1 := HM2.out (Int.le_of_lt h)
              have hb1 := text_ne (HT.out (by omega))
              have hb2 : (n == m) = false := beq_eq_false_iff_ne.2 (by omega)
              clear HT HM1 HM2
              go_wp2
              go_ret
              exact ⟨rfl, HK8.out.below⟩
          · have HM : Hid (m < 0 ∨ 68719476735 < m) := (show _ ∨ _ from by omega)
            clear hrow
            go_wp2_with (first
              | (go_at_call 17; go_must (refine (put_err _ _ HM.out).mono ?_); rintro e w' ⟨rfl, rfl⟩))
            go_ret
            exact ⟨rfl, (HKB.out.new HK6.out).below⟩
    · have hn' : n < 0 ∨ 68719476735 < n := by omega
      have HN := Lib.hid hn'
      rcases hn' with hn' | hn'
      all_goals
        go_enter Try.func6, Try.ntmps6
        go_wp2_with (first
          | (go_at_call 9; go_must (refine (known_calls _).mono ?_); rintro e w1 ⟨rfl, hk1⟩)
          | (go_at_call 17; go_must (refine (put_err _ _ HN.out).mono ?_); rintro e w' ⟨rfl, rfl⟩))
        go_ret
        exact ⟨rfl, hk1.below⟩
end Go.Proofs.Ytjgljjpgknjihaa
