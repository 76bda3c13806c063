/-
  Layer 8 (stereo): Choose. (Written by gen_ste7.py.)
-/
import Derived.Test.YtildkehbogmceaaSte6
set_option linter.unusedVariables false
set_option linter.unusedSimpArgs false
namespace Go.Proofs.Ytildkehbogmceaa
open Go.RowKit

/-- How rough a mode leaves a pair. -/
def rghM (zs : List (Int × Int)) (m : Int) : Int := rgh 0 (zs.map (apA m)) + rgh 0 (zs.map (apB m))
def stepC (zs : List (Int × Int)) (st : Int × Int) (m : Int) : Int × Int := if st.2 < 0 ∨ rghM zs m < st.2 then (m, rghM zs m) else st
def chooseC (zs : List (Int × Int)) : Int := (stepC zs (stepC zs (stepC zs (stepC zs (0, -1) 0) 8) 9) 10).1
theorem ap_range (m : Int) (z : Int × Int) (h : InC z) : (-100000000 ≤ apA m z ∧ apA m z ≤ 100000000) ∧ (-100000000 ≤ apB m z ∧ apB m z ≤ 100000000) := by
  unfold InC at h
  unfold apA apB
  split <;> split <;> (try split) <;> omega
theorem rghM_range (zs : List (Int × Int)) (m : Int) (hl : zs.length ≤ 8192) (hin : ∀ z ∈ zs, InC z) : 0 ≤ rghM zs m ∧ rghM zs m ≤ 4000000000000 := by
  have h1 := rgh_range (zs.map (apA m)) 0 (fun x hx => by obtain ⟨z, hz, rfl⟩ := List.mem_map.1 hx; exact (ap_range m z (hin z hz)).1) (by omega)
  have h2 := rgh_range (zs.map (apB m)) 0 (fun x hx => by obtain ⟨z, hz, rfl⟩ := List.mem_map.1 hx; exact (ap_range m z (hin z hz)).2) (by omega)
  rw [List.length_map] at h1 h2
  unfold rghM
  omega
theorem run_index40 (W : World) : Sem.run Try.prog (Instr.index 43 (.agg #[.int .i64 0, .int .i64 8, .int .i64 9, .int .i64 10]) (.int .i64 0)) W = .ok (.int .i64 0) W := by kernel_rfl
theorem run_index41 (W : World) : Sem.run Try.prog (Instr.index 43 (.agg #[.int .i64 0, .int .i64 8, .int .i64 9, .int .i64 10]) (.int .i64 1)) W = .ok (.int .i64 8) W := by kernel_rfl
theorem run_index42 (W : World) : Sem.run Try.prog (Instr.index 43 (.agg #[.int .i64 0, .int .i64 8, .int .i64 9, .int .i64 10]) (.int .i64 2)) W = .ok (.int .i64 9) W := by kernel_rfl
theorem run_index43 (W : World) : Sem.run Try.prog (Instr.index 43 (.agg #[.int .i64 0, .int .i64 8, .int .i64 9, .int .i64 10]) (.int .i64 3)) W = .ok (.int .i64 10) W := by kernel_rfl

set_option maxHeartbeats 8000000 in
set_option maxRecDepth 100000 in
theorem choose_calls (zs : List (Int × Int)) (n : Nat) (hn : n = zs.length) (a : Option Addr) (c : Nat) (w : World) (hl : zs.length ≤ 8192) (hin : ∀ z ∈ zs, InC z) (hx : Hid (RdV w a (cxs zs))) :
    Calls Try.prog 9 #[.slice a n c] w fun e w' => e = .returned (.tuple #[.int .i64 (chooseC zs), .int .i64 0]) ∧ Keeps [] w w' := by
  subst hn
  have HAP := Lib.hid (fun (m : Int) (hm : m = 0 ∨ m = 8 ∨ m = 9 ∨ m = 10) W (hk : Keeps [] w W) => apart_calls m hm zs _ rfl a c W hl hin (Lib.hid (hx.out.new hk)))
  have HRG := Lib.hid (fun m => rghM_range zs m hl hin)
  have HRO := Lib.hid (fun (L : List Int) a c W (h : Hid (Rd W .i64 a L)) (h2 : L.length ≤ 8192) (h3 : ∀ x ∈ L, -100000000 ≤ x ∧ x ≤ 100000000) => rough_calls L _ rfl a c W h2 h3 h)
  have HRA : Hid (∀ m, (∀ x ∈ zs.map (apA m), -100000000 ≤ x ∧ x ≤ 100000000) ∧ (∀ x ∈ zs.map (apB m), -100000000 ≤ x ∧ x ≤ 100000000)) := by
    intro m
    exact ⟨fun x hx => by obtain ⟨z, hz, rfl⟩ := List.mem_map.1 hx; exact (ap_range m z (hin z hz)).1, fun x hx => by obtain ⟨z, hz, rfl⟩ := List.mem_map.1 hx; exact (ap_range m z (hin z hz)).2⟩
  have hix0 := run_index40
  have hix1 := run_index41
  have hix2 := run_index42
  have hix3 := run_index43
  obtain ⟨Z, hZ⟩ : ∃ Z, chooseC zs = Z := ⟨_, rfl⟩
  rw [hZ]
  have HZ := Lib.hid hZ
  clear hZ hin
  go_enter Try.func9, Try.ntmps9
  go_wp2_with fail
  go_loopg [4, 5, 13] 5 (fun q v4 v5 v13 wr => ∃ (j : Nat) (b s : Int), v13 = .int .i64 j ∧ v4 = .int .i64 b ∧ v5 = .int .i64 s ∧ j ≤ 4 ∧ (s = -1 ∨ 0 ≤ s) ∧ s ≤ 4000000000000 ∧ Hid ((j = 0 ∧ (b, s) = (0, -1)) ∨ (j = 1 ∧ (b, s) = stepC zs (0, -1) 0) ∨ (j = 2 ∧ (b, s) = stepC zs (stepC zs (0, -1) 0) 8) ∨ (j = 3 ∧ (b, s) = stepC zs (stepC zs (stepC zs (0, -1) 0) 8) 9) ∨ (j = 4 ∧ b = Z)) ∧ Hid (j + q = 5) ∧ Hid (Keeps [] w wr))
  case atStart => exact ⟨0, 0, -1, rfl, rfl, rfl, by omega, .inl rfl, by omega, .inl ⟨rfl, rfl⟩, (show _ = _ from by omega), Keeps.refl _ _⟩
  case round =>
    obtain ⟨j, b, s, rfl, rfl, rfl, hj, hs0, hs1, HST, HQ, HK⟩ := hrel
    obtain ⟨q1, rfl⟩ : ∃ g : Nat, g = gk := ⟨_, rfl⟩
    obtain ⟨wa, rfl⟩ : ∃ y : World, y = wr := ⟨_, rfl⟩
    rcases (show j = 0 ∨ j = 1 ∨ j = 2 ∨ j = 3 ∨ j = 4 by omega) with rfl | rfl | rfl | rfl | rfl
    · have hst : (b, s) = (0, -1) := by rcases HST.out with h | h | h | h | h <;> first | exact h.2 | (exact absurd h.1 (by decide))
      have hcall := HAP.out 0 (by omega) wa HK.out
      have HC := Lib.hid hcall
      obtain ⟨hz0, hz1⟩ := HRG.out 0
      obtain ⟨X, hX⟩ : ∃ X, rgh 0 (zs.map (apA 0)) = X := ⟨_, rfl⟩
      obtain ⟨Y, hY⟩ : ∃ Y, rgh 0 (zs.map (apB 0)) = Y := ⟨_, rfl⟩
      have hXr := rgh_range (zs.map (apA 0)) 0 (HRA.out 0).1 (by omega)
      have hYr := rgh_range (zs.map (apB 0)) 0 (HRA.out 0).2 (by omega)
      rw [hX, List.length_map] at hXr
      rw [hY, List.length_map] at hYr
      have hXY : rghM zs 0 = X + Y := by unfold rghM; rw [hX, hY]
      have HR1 : Hid (∀ a c W, Hid (Rd W .i64 a (zs.map (apA 0))) → Calls Try.prog 18 #[.slice a zs.length c] W fun e w' => e = .returned (.int .i64 X) ∧ w' = W) := by
        intro a c W h
        have := HRO.out (zs.map (apA 0)) a c W h (by rw [List.length_map]; exact hl) (HRA.out 0).1
        rwa [List.length_map, hX] at this
      have HR2 : Hid (∀ a c W, Hid (Rd W .i64 a (zs.map (apB 0))) → Calls Try.prog 18 #[.slice a zs.length c] W fun e w' => e = .returned (.int .i64 Y) ∧ w' = W) := by
        intro a c W h
        have := HRO.out (zs.map (apB 0)) a c W h (by rw [List.length_map]; exact hl) (HRA.out 0).2
        rwa [List.length_map, hY] at this
      rw [hXY] at hz0 hz1
      by_cases hs : s < 0
      · have hnew : stepC zs ((0, -1)) 0 = (0, X + Y) := by rw [← hst]; unfold stepC; rw [hXY]; rw [if_pos (.inl hs)]
        have HNEW : Hid ((0, X + Y) = stepC zs ((0, -1)) 0) := hnew.symm
        clear hst hX hY hXY hcall hnew
        go_wp2_with (first
          | (go_at_call 7; go_must (with_reducible refine HC.out.mono ?_); rintro e w3 ⟨va, vb, rfl, hab⟩; obtain ⟨aA, cA, hvA, hrdA⟩ := hab.ra.rd; obtain ⟨aB, cB, hvB, hrdB⟩ := hab.rb.rd; rw [List.length_map] at hvA hvB; subst hvA hvB; have HRD1 := Lib.hid hrdA; have HRD2 := Lib.hid hrdB; have HKB := Lib.hid (HK.out.new hab.keep); clear hrdA hrdB hab)
          | (go_at_call 18; go_must (first
              | (with_reducible refine (HR1.out aA cA _ HRD1).mono ?_; rintro e w4 ⟨rfl, rfl⟩)
              | (with_reducible refine (HR2.out aB cB _ HRD2).mono ?_; rintro e w5 ⟨rfl, rfl⟩))))
        go_roundg 4
        case measure => have := HQ.out; omega
        case rel => exact ⟨1, 0, X + Y, by go_num, rfl, rfl, by omega, .inr (by omega), by omega, .inr (.inl ⟨rfl, HNEW.out⟩), (show _ = _ from by have := HQ.out; omega), HKB.out⟩
      · by_cases hlt : X + Y < s
        · have hnew : stepC zs ((0, -1)) 0 = (0, X + Y) := by rw [← hst]; unfold stepC; rw [hXY]; rw [if_pos (.inr hlt)]
          have HNEW : Hid ((0, X + Y) = stepC zs ((0, -1)) 0) := hnew.symm
          clear hst hX hY hXY hcall hnew
          go_wp2_with (first
          | (go_at_call 7; go_must (with_reducible refine HC.out.mono ?_); rintro e w3 ⟨va, vb, rfl, hab⟩; obtain ⟨aA, cA, hvA, hrdA⟩ := hab.ra.rd; obtain ⟨aB, cB, hvB, hrdB⟩ := hab.rb.rd; rw [List.length_map] at hvA hvB; subst hvA hvB; have HRD1 := Lib.hid hrdA; have HRD2 := Lib.hid hrdB; have HKB := Lib.hid (HK.out.new hab.keep); clear hrdA hrdB hab)
          | (go_at_call 18; go_must (first
              | (with_reducible refine (HR1.out aA cA _ HRD1).mono ?_; rintro e w4 ⟨rfl, rfl⟩)
              | (with_reducible refine (HR2.out aB cB _ HRD2).mono ?_; rintro e w5 ⟨rfl, rfl⟩))))
          go_roundg 4
          case measure => have := HQ.out; omega
          case rel => exact ⟨1, 0, X + Y, by go_num, rfl, rfl, by omega, .inr (by omega), by omega, .inr (.inl ⟨rfl, HNEW.out⟩), (show _ = _ from by have := HQ.out; omega), HKB.out⟩
        · have hnew : stepC zs ((0, -1)) 0 = (b, s) := by rw [← hst]; unfold stepC; rw [hXY]; rw [if_neg (by simp only; omega)]
          have HNEW : Hid ((b, s) = stepC zs ((0, -1)) 0) := hnew.symm
          clear hst hX hY hXY hcall hnew
          go_wp2_with (first
          | (go_at_call 7; go_must (with_reducible refine HC.out.mono ?_); rintro e w3 ⟨va, vb, rfl, hab⟩; obtain ⟨aA, cA, hvA, hrdA⟩ := hab.ra.rd; obtain ⟨aB, cB, hvB, hrdB⟩ := hab.rb.rd; rw [List.length_map] at hvA hvB; subst hvA hvB; have HRD1 := Lib.hid hrdA; have HRD2 := Lib.hid hrdB; have HKB := Lib.hid (HK.out.new hab.keep); clear hrdA hrdB hab)
          | (go_at_call 18; go_must (first
              | (with_reducible refine (HR1.out aA cA _ HRD1).mono ?_; rintro e w4 ⟨rfl, rfl⟩)
              | (with_reducible refine (HR2.out aB cB _ HRD2).mono ?_; rintro e w5 ⟨rfl, rfl⟩))))
          go_roundg 4
          case measure => have := HQ.out; omega
          case rel => exact ⟨1, b, s, by go_num, rfl, rfl, by omega, hs0, by omega, .inr (.inl ⟨rfl, HNEW.out⟩), (show _ = _ from by have := HQ.out; omega), HKB.out⟩
    · have hst : (b, s) = stepC zs (0, -1) 0 := by rcases HST.out with h | h | h | h | h <;> first | exact h.2 | (exact absurd h.1 (by decide))
      have hcall := HAP.out 8 (by omega) wa HK.out
      have HC := Lib.hid hcall
      obtain ⟨hz0, hz1⟩ := HRG.out 8
      obtain ⟨X, hX⟩ : ∃ X, rgh 0 (zs.map (apA 8)) = X := ⟨_, rfl⟩
      obtain ⟨Y, hY⟩ : ∃ Y, rgh 0 (zs.map (apB 8)) = Y := ⟨_, rfl⟩
      have hXr := rgh_range (zs.map (apA 8)) 0 (HRA.out 8).1 (by omega)
      have hYr := rgh_range (zs.map (apB 8)) 0 (HRA.out 8).2 (by omega)
      rw [hX, List.length_map] at hXr
      rw [hY, List.length_map] at hYr
      have hXY : rghM zs 8 = X + Y := by unfold rghM; rw [hX, hY]
      have HR1 : Hid (∀ a c W, Hid (Rd W .i64 a (zs.map (apA 8))) → Calls Try.prog 18 #[.slice a zs.length c] W fun e w' => e = .returned (.int .i64 X) ∧ w' = W) := by
        intro a c W h
        have := HRO.out (zs.map (apA 8)) a c W h (by rw [List.length_map]; exact hl) (HRA.out 8).1
        rwa [List.length_map, hX] at this
      have HR2 : Hid (∀ a c W, Hid (Rd W .i64 a (zs.map (apB 8))) → Calls Try.prog 18 #[.slice a zs.length c] W fun e w' => e = .returned (.int .i64 Y) ∧ w' = W) := by
        intro a c W h
        have := HRO.out (zs.map (apB 8)) a c W h (by rw [List.length_map]; exact hl) (HRA.out 8).2
        rwa [List.length_map, hY] at this
      rw [hXY] at hz0 hz1
      by_cases hs : s < 0
      · have hnew : stepC zs (stepC zs (0, -1) 0) 8 = (8, X + Y) := by rw [← hst]; unfold stepC; rw [hXY]; rw [if_pos (.inl hs)]
        have HNEW : Hid ((8, X + Y) = stepC zs (stepC zs (0, -1) 0) 8) := hnew.symm
        clear hst hX hY hXY hcall hnew
        go_wp2_with (first
          | (go_at_call 7; go_must (with_reducible refine HC.out.mono ?_); rintro e w3 ⟨va, vb, rfl, hab⟩; obtain ⟨aA, cA, hvA, hrdA⟩ := hab.ra.rd; obtain ⟨aB, cB, hvB, hrdB⟩ := hab.rb.rd; rw [List.length_map] at hvA hvB; subst hvA hvB; have HRD1 := Lib.hid hrdA; have HRD2 := Lib.hid hrdB; have HKB := Lib.hid (HK.out.new hab.keep); clear hrdA hrdB hab)
          | (go_at_call 18; go_must (first
              | (with_reducible refine (HR1.out aA cA _ HRD1).mono ?_; rintro e w4 ⟨rfl, rfl⟩)
              | (with_reducible refine (HR2.out aB cB _ HRD2).mono ?_; rintro e w5 ⟨rfl, rfl⟩))))
        go_roundg 3
        case measure => have := HQ.out; omega
        case rel => exact ⟨2, 8, X + Y, by go_num, rfl, rfl, by omega, .inr (by omega), by omega, .inr (.inr (.inl ⟨rfl, HNEW.out⟩)), (show _ = _ from by have := HQ.out; omega), HKB.out⟩
      · by_cases hlt : X + Y < s
        · have hnew : stepC zs (stepC zs (0, -1) 0) 8 = (8, X + Y) := by rw [← hst]; unfold stepC; rw [hXY]; rw [if_pos (.inr hlt)]
          have HNEW : Hid ((8, X + Y) = stepC zs (stepC zs (0, -1) 0) 8) := hnew.symm
          clear hst hX hY hXY hcall hnew
          go_wp2_with (first
          | (go_at_call 7; go_must (with_reducible refine HC.out.mono ?_); rintro e w3 ⟨va, vb, rfl, hab⟩; obtain ⟨aA, cA, hvA, hrdA⟩ := hab.ra.rd; obtain ⟨aB, cB, hvB, hrdB⟩ := hab.rb.rd; rw [List.length_map] at hvA hvB; subst hvA hvB; have HRD1 := Lib.hid hrdA; have HRD2 := Lib.hid hrdB; have HKB := Lib.hid (HK.out.new hab.keep); clear hrdA hrdB hab)
          | (go_at_call 18; go_must (first
              | (with_reducible refine (HR1.out aA cA _ HRD1).mono ?_; rintro e w4 ⟨rfl, rfl⟩)
              | (with_reducible refine (HR2.out aB cB _ HRD2).mono ?_; rintro e w5 ⟨rfl, rfl⟩))))
          go_roundg 3
          case measure => have := HQ.out; omega
          case rel => exact ⟨2, 8, X + Y, by go_num, rfl, rfl, by omega, .inr (by omega), by omega, .inr (.inr (.inl ⟨rfl, HNEW.out⟩)), (show _ = _ from by have := HQ.out; omega), HKB.out⟩
        · have hnew : stepC zs (stepC zs (0, -1) 0) 8 = (b, s) := by rw [← hst]; unfold stepC; rw [hXY]; rw [if_neg (by simp only; omega)]
          have HNEW : Hid ((b, s) = stepC zs (stepC zs (0, -1) 0) 8) := hnew.symm
          clear hst hX hY hXY hcall hnew
          go_wp2_with (first
          | (go_at_call 7; go_must (with_reducible refine HC.out.mono ?_); rintro e w3 ⟨va, vb, rfl, hab⟩; obtain ⟨aA, cA, hvA, hrdA⟩ := hab.ra.rd; obtain ⟨aB, cB, hvB, hrdB⟩ := hab.rb.rd; rw [List.length_map] at hvA hvB; subst hvA hvB; have HRD1 := Lib.hid hrdA; have HRD2 := Lib.hid hrdB; have HKB := Lib.hid (HK.out.new hab.keep); clear hrdA hrdB hab)
          | (go_at_call 18; go_must (first
              | (with_reducible refine (HR1.out aA cA _ HRD1).mono ?_; rintro e w4 ⟨rfl, rfl⟩)
              | (with_reducible refine (HR2.out aB cB _ HRD2).mono ?_; rintro e w5 ⟨rfl, rfl⟩))))
          go_roundg 3
          case measure => have := HQ.out; omega
          case rel => exact ⟨2, b, s, by go_num, rfl, rfl, by omega, hs0, by omega, .inr (.inr (.inl ⟨rfl, HNEW.out⟩)), (show _ = _ from by have := HQ.out; omega), HKB.out⟩
    · have hst : (b, s) = stepC zs (stepC zs (0, -1) 0) 8 := by rcases HST.out with h | h | h | h | h <;> first | exact h.2 | (exact absurd h.1 (by decide))
      have hcall := HAP.out 9 (by omega) wa HK.out
      have HC := Lib.hid hcall
      obtain ⟨hz0, hz1⟩ := HRG.out 9
      obtain ⟨X, hX⟩ : ∃ X, rgh 0 (zs.map (apA 9)) = X := ⟨_, rfl⟩
      obtain ⟨Y, hY⟩ : ∃ Y, rgh 0 (zs.map (apB 9)) = Y := ⟨_, rfl⟩
      have hXr := rgh_range (zs.map (apA 9)) 0 (HRA.out 9).1 (by omega)
      have hYr := rgh_range (zs.map (apB 9)) 0 (HRA.out 9).2 (by omega)
      rw [hX, List.length_map] at hXr
      rw [hY, List.length_map] at hYr
      have hXY : rghM zs 9 = X + Y := by unfold rghM; rw [hX, hY]
      have HR1 : Hid (∀ a c W, Hid (Rd W .i64 a (zs.map (apA 9))) → Calls Try.prog 18 #[.slice a zs.length c] W fun e w' => e = .returned (.int .i64 X) ∧ w' = W) := by
        intro a c W h
        have := HRO.out (zs.map (apA 9)) a c W h (by rw [List.length_map]; exact hl) (HRA.out 9).1
        rwa [List.length_map, hX] at this
      have HR2 : Hid (∀ a c W, Hid (Rd W .i64 a (zs.map (apB 9))) → Calls Try.prog 18 #[.slice a zs.length c] W fun e w' => e = .returned (.int .i64 Y) ∧ w' = W) := by
        intro a c W h
        have := HRO.out (zs.map (apB 9)) a c W h (by rw [List.length_map]; exact hl) (HRA.out 9).2
        rwa [List.length_map, hY] at this
      rw [hXY] at hz0 hz1
      by_cases hs : s < 0
      · have hnew : stepC zs (stepC zs (stepC zs (0, -1) 0) 8) 9 = (9, X + Y) := by rw [← hst]; unfold stepC; rw [hXY]; rw [if_pos (.inl hs)]
        have HNEW : Hid ((9, X + Y) = stepC zs (stepC zs (stepC zs (0, -1) 0) 8) 9) := hnew.symm
        clear hst hX hY hXY hcall hnew
        go_wp2_with (first
          | (go_at_call 7; go_must (with_reducible refine HC.out.mono ?_); rintro e w3 ⟨va, vb, rfl, hab⟩; obtain ⟨aA, cA, hvA, hrdA⟩ := hab.ra.rd; obtain ⟨aB, cB, hvB, hrdB⟩ := hab.rb.rd; rw [List.length_map] at hvA hvB; subst hvA hvB; have HRD1 := Lib.hid hrdA; have HRD2 := Lib.hid hrdB; have HKB := Lib.hid (HK.out.new hab.keep); clear hrdA hrdB hab)
          | (go_at_call 18; go_must (first
              | (with_reducible refine (HR1.out aA cA _ HRD1).mono ?_; rintro e w4 ⟨rfl, rfl⟩)
              | (with_reducible refine (HR2.out aB cB _ HRD2).mono ?_; rintro e w5 ⟨rfl, rfl⟩))))
        go_roundg 2
        case measure => have := HQ.out; omega
        case rel => exact ⟨3, 9, X + Y, by go_num, rfl, rfl, by omega, .inr (by omega), by omega, .inr (.inr (.inr (.inl ⟨rfl, HNEW.out⟩))), (show _ = _ from by have := HQ.out; omega), HKB.out⟩
      · by_cases hlt : X + Y < s
        · have hnew : stepC zs (stepC zs (stepC zs (0, -1) 0) 8) 9 = (9, X + Y) := by rw [← hst]; unfold stepC; rw [hXY]; rw [if_pos (.inr hlt)]
          have HNEW : Hid ((9, X + Y) = stepC zs (stepC zs (stepC zs (0, -1) 0) 8) 9) := hnew.symm
          clear hst hX hY hXY hcall hnew
          go_wp2_with (first
          | (go_at_call 7; go_must (with_reducible refine HC.out.mono ?_); rintro e w3 ⟨va, vb, rfl, hab⟩; obtain ⟨aA, cA, hvA, hrdA⟩ := hab.ra.rd; obtain ⟨aB, cB, hvB, hrdB⟩ := hab.rb.rd; rw [List.length_map] at hvA hvB; subst hvA hvB; have HRD1 := Lib.hid hrdA; have HRD2 := Lib.hid hrdB; have HKB := Lib.hid (HK.out.new hab.keep); clear hrdA hrdB hab)
          | (go_at_call 18; go_must (first
              | (with_reducible refine (HR1.out aA cA _ HRD1).mono ?_; rintro e w4 ⟨rfl, rfl⟩)
              | (with_reducible refine (HR2.out aB cB _ HRD2).mono ?_; rintro e w5 ⟨rfl, rfl⟩))))
          go_roundg 2
          case measure => have := HQ.out; omega
          case rel => exact ⟨3, 9, X + Y, by go_num, rfl, rfl, by omega, .inr (by omega), by omega, .inr (.inr (.inr (.inl ⟨rfl, HNEW.out⟩))), (show _ = _ from by have := HQ.out; omega), HKB.out⟩
        · have hnew : stepC zs (stepC zs (stepC zs (0, -1) 0) 8) 9 = (b, s) := by rw [← hst]; unfold stepC; rw [hXY]; rw [if_neg (by simp only; omega)]
          have HNEW : Hid ((b, s) = stepC zs (stepC zs (stepC zs (0, -1) 0) 8) 9) := hnew.symm
          clear hst hX hY hXY hcall hnew
          go_wp2_with (first
          | (go_at_call 7; go_must (with_reducible refine HC.out.mono ?_); rintro e w3 ⟨va, vb, rfl, hab⟩; obtain ⟨aA, cA, hvA, hrdA⟩ := hab.ra.rd; obtain ⟨aB, cB, hvB, hrdB⟩ := hab.rb.rd; rw [List.length_map] at hvA hvB; subst hvA hvB; have HRD1 := Lib.hid hrdA; have HRD2 := Lib.hid hrdB; have HKB := Lib.hid (HK.out.new hab.keep); clear hrdA hrdB hab)
          | (go_at_call 18; go_must (first
              | (with_reducible refine (HR1.out aA cA _ HRD1).mono ?_; rintro e w4 ⟨rfl, rfl⟩)
              | (with_reducible refine (HR2.out aB cB _ HRD2).mono ?_; rintro e w5 ⟨rfl, rfl⟩))))
          go_roundg 2
          case measure => have := HQ.out; omega
          case rel => exact ⟨3, b, s, by go_num, rfl, rfl, by omega, hs0, by omega, .inr (.inr (.inr (.inl ⟨rfl, HNEW.out⟩))), (show _ = _ from by have := HQ.out; omega), HKB.out⟩
    · have hst : (b, s) = stepC zs (stepC zs (stepC zs (0, -1) 0) 8) 9 := by rcases HST.out with h | h | h | h | h <;> first | exact h.2 | (exact absurd h.1 (by decide))
      have hcall := HAP.out 10 (by omega) wa HK.out
      have HC := Lib.hid hcall
      obtain ⟨hz0, hz1⟩ := HRG.out 10
      obtain ⟨X, hX⟩ : ∃ X, rgh 0 (zs.map (apA 10)) = X := ⟨_, rfl⟩
      obtain ⟨Y, hY⟩ : ∃ Y, rgh 0 (zs.map (apB 10)) = Y := ⟨_, rfl⟩
      have hXr := rgh_range (zs.map (apA 10)) 0 (HRA.out 10).1 (by omega)
      have hYr := rgh_range (zs.map (apB 10)) 0 (HRA.out 10).2 (by omega)
      rw [hX, List.length_map] at hXr
      rw [hY, List.length_map] at hYr
      have hXY : rghM zs 10 = X + Y := by unfold rghM; rw [hX, hY]
      have HR1 : Hid (∀ a c W, Hid (Rd W .i64 a (zs.map (apA 10))) → Calls Try.prog 18 #[.slice a zs.length c] W fun e w' => e = .returned (.int .i64 X) ∧ w' = W) := by
        intro a c W h
        have := HRO.out (zs.map (apA 10)) a c W h (by rw [List.length_map]; exact hl) (HRA.out 10).1
        rwa [List.length_map, hX] at this
      have HR2 : Hid (∀ a c W, Hid (Rd W .i64 a (zs.map (apB 10))) → Calls Try.prog 18 #[.slice a zs.length c] W fun e w' => e = .returned (.int .i64 Y) ∧ w' = W) := by
        intro a c W h
        have := HRO.out (zs.map (apB 10)) a c W h (by rw [List.length_map]; exact hl) (HRA.out 10).2
        rwa [List.length_map, hY] at this
      rw [hXY] at hz0 hz1
      by_cases hs : s < 0
      · have hnew : stepC zs (stepC zs (stepC zs (stepC zs (0, -1) 0) 8) 9) 10 = (10, X + Y) := by rw [← hst]; unfold stepC; rw [hXY]; rw [if_pos (.inl hs)]
        have HNEW : Hid (10 = Z) := by show _ = _; rw [← HZ.out]; unfold chooseC; rw [hnew]
        clear hst hX hY hXY hcall hnew
        go_wp2_with (first
          | (go_at_call 7; go_must (with_reducible refine HC.out.mono ?_); rintro e w3 ⟨va, vb, rfl, hab⟩; obtain ⟨aA, cA, hvA, hrdA⟩ := hab.ra.rd; obtain ⟨aB, cB, hvB, hrdB⟩ := hab.rb.rd; rw [List.length_map] at hvA hvB; subst hvA hvB; have HRD1 := Lib.hid hrdA; have HRD2 := Lib.hid hrdB; have HKB := Lib.hid (HK.out.new hab.keep); clear hrdA hrdB hab)
          | (go_at_call 18; go_must (first
              | (with_reducible refine (HR1.out aA cA _ HRD1).mono ?_; rintro e w4 ⟨rfl, rfl⟩)
              | (with_reducible refine (HR2.out aB cB _ HRD2).mono ?_; rintro e w5 ⟨rfl, rfl⟩))))
        go_roundg 1
        case measure => have := HQ.out; omega
        case rel => exact ⟨4, 10, X + Y, by go_num, rfl, rfl, by omega, .inr (by omega), by omega, .inr (.inr (.inr (.inr ⟨rfl, HNEW.out⟩))), (show _ = _ from by have := HQ.out; omega), HKB.out⟩
      · by_cases hlt : X + Y < s
        · have hnew : stepC zs (stepC zs (stepC zs (stepC zs (0, -1) 0) 8) 9) 10 = (10, X + Y) := by rw [← hst]; unfold stepC; rw [hXY]; rw [if_pos (.inr hlt)]
          have HNEW : Hid (10 = Z) := by show _ = _; rw [← HZ.out]; unfold chooseC; rw [hnew]
          clear hst hX hY hXY hcall hnew
          go_wp2_with (first
          | (go_at_call 7; go_must (with_reducible refine HC.out.mono ?_); rintro e w3 ⟨va, vb, rfl, hab⟩; obtain ⟨aA, cA, hvA, hrdA⟩ := hab.ra.rd; obtain ⟨aB, cB, hvB, hrdB⟩ := hab.rb.rd; rw [List.length_map] at hvA hvB; subst hvA hvB; have HRD1 := Lib.hid hrdA; have HRD2 := Lib.hid hrdB; have HKB := Lib.hid (HK.out.new hab.keep); clear hrdA hrdB hab)
          | (go_at_call 18; go_must (first
              | (with_reducible refine (HR1.out aA cA _ HRD1).mono ?_; rintro e w4 ⟨rfl, rfl⟩)
              | (with_reducible refine (HR2.out aB cB _ HRD2).mono ?_; rintro e w5 ⟨rfl, rfl⟩))))
          go_roundg 1
          case measure => have := HQ.out; omega
          case rel => exact ⟨4, 10, X + Y, by go_num, rfl, rfl, by omega, .inr (by omega), by omega, .inr (.inr (.inr (.inr ⟨rfl, HNEW.out⟩))), (show _ = _ from by have := HQ.out; omega), HKB.out⟩
        · have hnew : stepC zs (stepC zs (stepC zs (stepC zs (0, -1) 0) 8) 9) 10 = (b, s) := by rw [← hst]; unfold stepC; rw [hXY]; rw [if_neg (by simp only; omega)]
          have HNEW : Hid (b = Z) := by show _ = _; rw [← HZ.out]; unfold chooseC; rw [hnew]
          clear hst hX hY hXY hcall hnew
          go_wp2_with (first
          | (go_at_call 7; go_must (with_reducible refine HC.out.mono ?_); rintro e w3 ⟨va, vb, rfl, hab⟩; obtain ⟨aA, cA, hvA, hrdA⟩ := hab.ra.rd; obtain ⟨aB, cB, hvB, hrdB⟩ := hab.rb.rd; rw [List.length_map] at hvA hvB; subst hvA hvB; have HRD1 := Lib.hid hrdA; have HRD2 := Lib.hid hrdB; have HKB := Lib.hid (HK.out.new hab.keep); clear hrdA hrdB hab)
          | (go_at_call 18; go_must (first
              | (with_reducible refine (HR1.out aA cA _ HRD1).mono ?_; rintro e w4 ⟨rfl, rfl⟩)
              | (with_reducible refine (HR2.out aB cB _ HRD2).mono ?_; rintro e w5 ⟨rfl, rfl⟩))))
          go_roundg 1
          case measure => have := HQ.out; omega
          case rel => exact ⟨4, b, s, by go_num, rfl, rfl, by omega, hs0, by omega, .inr (.inr (.inr (.inr ⟨rfl, HNEW.out⟩))), (show _ = _ from by have := HQ.out; omega), HKB.out⟩
    · have hb : b = Z := by rcases HST.out with h | h | h | h | h <;> first | exact h.2 | (exact absurd h.1 (by decide))
      subst hb
      go_wp2_with fail
      go_ret2
      exact ⟨rfl, HK.out⟩
end Go.Proofs.Ytildkehbogmceaa
