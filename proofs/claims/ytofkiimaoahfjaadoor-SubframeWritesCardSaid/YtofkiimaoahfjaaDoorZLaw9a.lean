/-
  The statement SubframeWrites of layer 9: the walk.
-/
import Derived.Test.YtofkiimaoahfjaaDoorZSub14
import Derived.Test.YtofkiimaoahfjaaDoorZSub15
import Derived.Test.YtofkiimaoahfjaaDoorZIn
set_option maxRecDepth 100000
set_option linter.unusedVariables false
set_option linter.unusedSimpArgs false
namespace Go.Proofs.YtofkiimaoahfjaaDoor
open Go.RowKit Go.Proofs.YtofkiimaoahfjaaDoor.Pure

theorem knP2 : putE 2 2 = 0 ∧ putB 2 2 = [true, false] := by decide +kernel
theorem hid2 : Hid (-9223372036854775808 ≤ (2 : Int) ∧ (2 : Int) ≤ 9223372036854775807) := (show _ ∧ _ from by omega)
set_option maxHeartbeats 16000000 in
theorem subframeWrites_walk (a0 : Option Addr) (len0 cap0 : Nat) (z0 : List Int) (a1 : Int) (w : World) (w0 : InRow .i64 w a0 len0 cap0 z0) (s0 : cap0 * 8 ≤ 140737488351232) (w1 : (Lit.int .i64 a1).wf = true) (hT : Hid (Tab w)) :
    Calls Tryd.prog 3 #[.slice a0 len0 cap0, .int .i64 a1] w fun e w' => e = .returned (.bool true) ∧ Below w.heap.size w w' := by
  obtain ⟨hr, hl, hw, hcap⟩ := w0.rd
  have hwf1 := wf_i64 w1
  have HRG0 : Hid (∀ x ∈ z0.take len0, -9223372036854775808 ≤ x ∧ x ≤ 9223372036854775807) := fun x hx => wf_i64 (hw x hx)
  generalize z0.take len0 = L at *
  subst hl
  have HK : Hid (Keeps [] w w) := Keeps.refl _ _
  have hxl : L.length ≤ 17592186043904 := by omega
  have hLc : L.length ≤ cap0 := by omega
  have HR0 := Lib.hid hr
  clear w0 s0 w1 hw hr
  by_cases h5 : L.length ≤ 512
  · have h5i : (L.length : Int) ≤ 512 := by omega
    have HCT : Hid (∀ W, Calls Tryd.prog 10 #[.slice a0 L.length cap0, .int .i64 80] W fun e w' => e = .returned (.slice a0 (min L.length 80) cap0) ∧ W = w') := fun W => scut_calls L.length cap0 80 a0 W (by omega) hLc (by omega)
    have HLE : (L.take 80).length = min L.length 80 := by rw [List.length_take]; omega
    rw [← HLE] at HCT
    have HR : Hid (Rd w .i64 a0 (L.take 80)) := HR0.out.take 80
    have HRG : Hid (∀ x ∈ L.take 80, -9223372036854775808 ≤ x ∧ x ≤ 9223372036854775807) := fun x hx => HRG0.out x (List.mem_of_mem_take hx)
    generalize L.take 80 = S at *
    clear HLE
    by_cases he : schkE S a1 = 0
    · have HP : Hid (∀ W1 p, Hid (WS w W1 p []) → Calls Tryd.prog 12 #[.pointer (some ⟨p, 0, none⟩), .int .i64 2, .int .i64 2] W1 fun e w' => e = .returned (.int .i64 0) ∧ WS w w' p [true, false]) := by
        intro W1 p h
        have := wsPut 2 2 h hid2 (by simp)
        rwa [knP2.1, knP2.2, List.nil_append] at this
      have HWR := Lib.hid (fun W1 p (hW : Hid (WS w W1 p [true, false])) => wsSub S a1 _ rfl a0 cap0 w W1 p [true, false] HRG (Lib.hid (HR.out.new hW.out.keeps)) (Lib.hid (hT.out.new hW.out.keeps)) hW (by simp))
      have HKD := Lib.hid (fun W (hW : Keeps [] w W) => skind_calls S a1 _ rfl a0 cap0 W HRG (Lib.hid (HR.out.new hW)) (Lib.hid (hT.out.new hW)))
      have HCK := Lib.hid (fun W (hW : Keeps [] w W) => (dcheck9_calls S a1 _ rfl a0 cap0 W (Lib.hid (HR.out.new hW))).mono (R' := fun e w' => e = .returned (.int .i64 (schkE S a1)) ∧ W = w') (fun e w' h => ⟨h.1, h.2.symm⟩))
      have HWN := Lib.hid (fun W => (swrite_nil S a1 S.length a0 cap0 W).mono (R' := fun e w' => e = .returned (.int .i64 1) ∧ W = w') (fun e w' h => ⟨h.1, h.2.symm⟩))
      have hok := s_ok S a1 he
      have HDC := Lib.hid (fun W (hW : Keeps [] w W) => ddoc_calls S a1 hok _ rfl a0 cap0 W (Lib.hid (HR.out.new hW)))
      have HE0 : Hid (sputB S a1 = swB S a1 ∧ skindN S a1 = (planS S a1).kd) := by show _ ∧ _; unfold sputB skindN; rw [if_pos he, if_pos he]; exact ⟨rfl, rfl⟩
      have hsl : (swB S a1).length ≤ 200000 := by
        have h1 := sw_len S a1 hok
        have h2 := hok.k
        have h3 := pl_sz (by have := hok.len; have := hok.n; omega) hok.is
        omega
      rw [he, HE0.out.1] at HWR
      rw [he, HE0.out.2] at HKD
      rw [he] at HCK
      obtain ⟨kd, ekd⟩ : ∃ kd, (planS S a1).kd = kd := ⟨_, rfl⟩
      obtain ⟨SB, eSB⟩ : ∃ SB, swB S a1 = SB := ⟨_, rfl⟩
      rw [ekd] at HKD HDC
      rw [eSB] at HWR HDC hsl
      obtain ⟨DD, hD⟩ : ∃ D, [true, false] ++ SB = D := ⟨_, rfl⟩
      rw [hD] at HWR
      have hadd : ∀ W, (Op.stringOp .add ⟨#[49, 48]⟩ (dstr SB)).run Tryd.prog W = .ok (.string (dstr DD)) W := by
        intro W
        have := run_dstr_add Tryd.prog [true, false] SB (by simp; omega) W
        rw [hD] at this
        exact this
      have hsz := dstr_size SB
      obtain ⟨nb, hnb⟩ : ∃ nb, SB.length = nb := ⟨_, rfl⟩
      obtain ⟨nd, hnd⟩ : ∃ nd, DD.length = nd := ⟨_, rfl⟩
      rw [hnb] at hsl hsz
      have hnbd : (2 : Int) + (nb : Int) = (nd : Int) := by rw [← hnd, ← hD]; simp; omega
      have hD9 : DD.length ≤ 1000000000 := by omega
      have HND := Lib.hid hnd
      have hkk : (kd == kd) = true := beq_self_eq_true kd
      have hwr : IntKind.i64.wrap (nd : Int) = (nd : Int) := IntWalk.i64_in _ (by omega)
      clear he hok ekd eSB hD hnb hnd HE0
      go_enter Tryd.func3, Tryd.ntmps3
      go_upto_region 15 with (first
        | (go_at_call 9; go_must (refine (sknown_calls _ hT).mono ?_); rintro e wk ⟨rfl, hk1⟩; replace HK : Hid (Keeps [] w wk) := HK.out.new hk1; clear hk1)
        | (go_at_call 10; go_must (with_reducible refine (HCT.out _).mono ?_); rintro e wc2 ⟨rfl, rfl⟩)
        | (go_at_call 11; go_must (refine (wsNew w _ HK).mono ?_); rintro e w3 ⟨p, rfl, hW3, -, -⟩; have HWa := Lib.hid hW3; clear hW3)
        | (go_at_call 12; go_must (with_reducible refine (HP.out _ _ HWa).mono ?_); rintro e w4 ⟨rfl, hW4⟩; have HWb := Lib.hid hW4; clear hW4)
        | (go_at_call 13; with_reducible refine (HWR.out _ _ HWb).mono ?_; rintro e w6 ⟨rfl, hW6⟩; have HWd := Lib.hid hW6; clear hW6)
        | (go_at_call 14; go_must (with_reducible refine (HKD.out _ HWd.out.keeps).mono ?_); rintro e w7 ⟨rfl, hk7⟩; have HWe := Lib.hid (HWd.out.new hk7); clear hk7)
        | (go_at_call 15; go_must (with_reducible refine (HCK.out _ HWe.out.keeps).mono ?_); rintro e w8 ⟨rfl, rfl⟩)
        | (go_at_call 13; with_reducible refine (HWN.out _).mono ?_; rintro e w9 ⟨rfl, rfl⟩)
        | (go_at_call 17; go_must (with_reducible refine (HDC.out _ HWe.out.keeps).mono ?_); rintro e w10 ⟨rfl, hk10⟩; have HWf := Lib.hid (HWe.out.new hk10); clear hk10))
      have HW0 := Lib.hid (HWf.out.new ((Keeps.refl [] w10).drew))
      clear HP HWR HKD HCK HWN HDC HWa HWb HWd HWe HWf HCT
      refine wp_region_any (by kernel_rfl) ?_
      change wpAny _ _ _ _ _ _ _ (World.drew _)
      refine wpAny_take (i := 0) (v := ?_) rfl (by kernel_rfl) (by kernel_rfl) (by kernel_rfl) (fun _ _ _ h => h) (Or.inl ⟨by rfl, ?_⟩) ?_
      rotate_left 1
      · (intro w; go_simp; try with_reducible rfl)
      simp only [Act.put, List.setIfInBounds_toArray, List.set_cons_zero, List.set_cons_succ, List.getElem_toArray, List.getElem_cons_zero, List.getElem_cons_succ]
      refine wpAny_take (i := 1) (v := ?_) rfl (by kernel_rfl) (by kernel_rfl) (by kernel_rfl) (fun _ _ _ h => h) (Or.inl ⟨by rfl, ?_⟩) ?_
      rotate_left 1
      · (intro w; go_simp; try with_reducible rfl)
      simp only [Act.put, List.setIfInBounds_toArray, List.set_cons_zero, List.set_cons_succ, List.getElem_toArray, List.getElem_cons_zero, List.getElem_cons_succ]
      refine wpAny_take (i := 2) (v := ?_) rfl (by kernel_rfl) (by kernel_rfl) (by kernel_rfl) (fun _ _ _ h => h) (Or.inl ⟨by rfl, ?_⟩) ?_
      rotate_left 1
      · (intro w; go_simp; try with_reducible rfl)
      simp only [Act.put, List.setIfInBounds_toArray, List.set_cons_zero, List.set_cons_succ, List.getElem_toArray, List.getElem_cons_zero, List.getElem_cons_succ]
      refine wpAny_take (i := 3) (v := ?_) rfl (by kernel_rfl) (by kernel_rfl) (by kernel_rfl) (fun _ _ _ h => h) (Or.inl ⟨by rfl, ?_⟩) ?_
      rotate_left 1
      · (intro w; go_simp; try with_reducible rfl)
      simp only [Act.put, List.setIfInBounds_toArray, List.set_cons_zero, List.set_cons_succ, List.getElem_toArray, List.getElem_cons_zero, List.getElem_cons_succ]
      refine wpAny_take (i := 4) (v := ?_) rfl (by kernel_rfl) (by kernel_rfl) (by kernel_rfl) (fun _ _ _ h => h) (Or.inl ⟨by rfl, ?_⟩) ?_
      rotate_left 1
      · (intro w; go_simp; try with_reducible rfl)
      simp only [Act.put, List.setIfInBounds_toArray, List.set_cons_zero, List.set_cons_succ, List.getElem_toArray, List.getElem_cons_zero, List.getElem_cons_succ]
      refine wpAny_take (i := 6) (v := ?_) rfl (by kernel_rfl) (by kernel_rfl) (by kernel_rfl) (fun _ _ _ h => h) (Or.inl ⟨by rfl, ?_⟩) ?_
      rotate_left 1
      · (intro w; go_simp; try with_reducible rfl)
      simp only [Act.put, List.setIfInBounds_toArray, List.set_cons_zero, List.set_cons_succ, List.getElem_toArray, List.getElem_cons_zero, List.getElem_cons_succ]
      refine wpAny_take (i := 7) (v := ?_) rfl (by kernel_rfl) (by kernel_rfl) (by kernel_rfl) (fun _ _ _ h => h) (Or.inl ⟨by rfl, ?_⟩) ?_
      rotate_left 1
      · (intro w; go_simp; try with_reducible rfl)
      simp only [Act.put, List.setIfInBounds_toArray, List.set_cons_zero, List.set_cons_succ, List.getElem_toArray, List.getElem_cons_zero, List.getElem_cons_succ]
      refine wpAny_take (i := 8) (v := ?_) rfl (by kernel_rfl) (by kernel_rfl) (by kernel_rfl) (fun _ _ _ h => h) (Or.inl ⟨by rfl, ?_⟩) ?_
      rotate_left 1
      · (intro w; go_simp; try with_reducible rfl)
      simp only [Act.put, List.setIfInBounds_toArray, List.set_cons_zero, List.set_cons_succ, List.getElem_toArray, List.getElem_cons_zero, List.getElem_cons_succ]
      refine wpAny_ready (rs := [5]) (by kernel_rfl) (by simp) (AllReady.cons rfl (fun K hK => ?_) AllReady.nil)
      go_simp
      (go_at_call 16; with_reducible refine (wsLen HW0).mono ?_; rw [HND.out]; rintro e w5 ⟨rfl, rfl⟩)
      go_wp2_with fail
      (try (refine hK _ _ ?_; clear hK K))
      (try simp only [Act.put, List.setIfInBounds_toArray, List.set_cons_zero, List.set_cons_succ, List.getElem_toArray, List.getElem_cons_zero, List.getElem_cons_succ])
      refine wpAny_take (i := 9) (v := ?_) rfl (by kernel_rfl) (by kernel_rfl) (by kernel_rfl) (fun _ _ _ h => h) (Or.inl ⟨by rfl, ?_⟩) ?_
      rotate_left 1
      · (intro w; go_simp; try with_reducible rfl)
      simp only [Act.put, List.setIfInBounds_toArray, List.set_cons_zero, List.set_cons_succ, List.getElem_toArray, List.getElem_cons_zero, List.getElem_cons_succ]
      refine wpAny_take (i := 10) (v := ?_) rfl (by kernel_rfl) (by kernel_rfl) (by kernel_rfl) (fun _ _ _ h => h) (Or.inl ⟨by rfl, ?_⟩) ?_
      rotate_left 1
      · (intro w; go_simp; try with_reducible rfl)
      simp only [Act.put, List.setIfInBounds_toArray, List.set_cons_zero, List.set_cons_succ, List.getElem_toArray, List.getElem_cons_zero, List.getElem_cons_succ]
      refine wpAny_take (i := 11) (v := ?_) rfl (by kernel_rfl) (by kernel_rfl) (by kernel_rfl) (fun _ _ _ h => h) (Or.inl ⟨by rfl, ?_⟩) ?_
      rotate_left 1
      · (intro w; go_simp; try with_reducible rfl)
      simp only [Act.put, List.setIfInBounds_toArray, List.set_cons_zero, List.set_cons_succ, List.getElem_toArray, List.getElem_cons_zero, List.getElem_cons_succ]
      refine wpAny_take (i := 12) (v := ?_) rfl (by kernel_rfl) (by kernel_rfl) (by kernel_rfl) (fun _ _ _ h => h) (Or.inl ⟨by rfl, ?_⟩) ?_
      rotate_left 1
      · (intro w; go_simp; try with_reducible rfl)
      simp only [Act.put, List.setIfInBounds_toArray, List.set_cons_zero, List.set_cons_succ, List.getElem_toArray, List.getElem_cons_zero, List.getElem_cons_succ]
      refine wpAny_take (i := 15) (v := ?_) rfl (by kernel_rfl) (by kernel_rfl) (by kernel_rfl) (fun _ _ _ h => h) (Or.inl ⟨by rfl, ?_⟩) ?_
      rotate_left 1
      · (intro w; go_simp; try with_reducible rfl)
      simp only [Act.put, List.setIfInBounds_toArray, List.set_cons_zero, List.set_cons_succ, List.getElem_toArray, List.getElem_cons_zero, List.getElem_cons_succ]
      refine wpAny_take (i := 16) (v := ?_) rfl (by kernel_rfl) (by kernel_rfl) (by kernel_rfl) (fun _ _ _ h => h) (Or.inl ⟨by rfl, ?_⟩) ?_
      rotate_left 1
      · (intro w; go_simp; try with_reducible rfl)
      simp only [Act.put, List.setIfInBounds_toArray, List.set_cons_zero, List.set_cons_succ, List.getElem_toArray, List.getElem_cons_zero, List.getElem_cons_succ]
      refine wpAny_ready (rs := [13]) (by kernel_rfl) (by simp) (AllReady.cons rfl (fun K hK => ?_) AllReady.nil)
      go_simp
      (go_at_call 18; with_reducible refine (wsBytes HW0).mono ?_; rintro e wB1 ⟨vB1, rfl, hrB1, -, hkB1⟩; have HWB1 := Lib.hid (HW0.out.new hkB1); have HRB1 := Lib.hid hrB1; have hcv1 := hrB1.textv (P := Tryd.prog) 36 5 9 Tryd.underlying36 Tryd.underlying5 Tryd.underlying9; clear hrB1 hkB1)
      go_wp2_with fail
      (try (refine hK _ _ ?_; clear hK K))
      (try simp only [Act.put, List.setIfInBounds_toArray, List.set_cons_zero, List.set_cons_succ, List.getElem_toArray, List.getElem_cons_zero, List.getElem_cons_succ])
      refine wpAny_ready (rs := [14, 17]) (by kernel_rfl) (by simp) (AllReady.cons rfl (fun K hK => ?_) (AllReady.cons rfl (fun K hK => ?_) AllReady.nil))
      · go_simp
        (try (refine hK _ _ ?_; clear hK K))
        (try simp only [Act.put, List.setIfInBounds_toArray, List.set_cons_zero, List.set_cons_succ, List.getElem_toArray, List.getElem_cons_zero, List.getElem_cons_succ])
        refine wpAny_ready (rs := [17]) (by kernel_rfl) (by simp) (AllReady.cons rfl (fun K hK => ?_) AllReady.nil)
        go_simp
        (go_at_call 19; with_reducible refine (bytes_calls DD _ hD9).mono ?_; rintro e wR2 ⟨vR2, rfl, hrR2, -, hkR2⟩; have HWE := Lib.hid (HWB1.out.new hkR2); have hcv2 := hrR2.textv (P := Tryd.prog) 36 5 9 Tryd.underlying36 Tryd.underlying5 Tryd.underlying9; have hcv3 := (HRB1.out.keeps hkR2 (fun _ _ => by simp)).textv (P := Tryd.prog) 36 5 9 Tryd.underlying36 Tryd.underlying5 Tryd.underlying9; clear hrR2 hkR2)
        go_wp2_with fail
        (try (refine hK _ _ ?_; clear hK K))
        (try simp only [Act.put, List.setIfInBounds_toArray, List.set_cons_zero, List.set_cons_succ, List.getElem_toArray, List.getElem_cons_zero, List.getElem_cons_succ])
        refine wpAny_ready (rs := [18]) (by kernel_rfl) (by simp) (AllReady.cons rfl (fun K hK => ?_) AllReady.nil)
        go_simp
        (try (refine hK _ _ ?_; clear hK K))
        (try simp only [Act.put, List.setIfInBounds_toArray, List.set_cons_zero, List.set_cons_succ, List.getElem_toArray, List.getElem_cons_zero, List.getElem_cons_succ])
        refine wpAny_take (i := 19) (v := ?_) rfl (by kernel_rfl) (by kernel_rfl) (by kernel_rfl) (fun _ _ _ h => h) (Or.inl ⟨by rfl, ?_⟩) ?_
        rotate_left 1
        · (intro w; go_simp; try with_reducible rfl)
        simp only [Act.put, List.setIfInBounds_toArray, List.set_cons_zero, List.set_cons_succ, List.getElem_toArray, List.getElem_cons_zero, List.getElem_cons_succ]
        refine wpAny_take (i := 20) (v := ?_) rfl (by kernel_rfl) (by kernel_rfl) (by kernel_rfl) (fun _ _ _ h => h) (Or.inl ⟨by rfl, ?_⟩) ?_
        rotate_left 1
        · (intro w; go_simp; try with_reducible rfl)
        simp only [Act.put, List.setIfInBounds_toArray, List.set_cons_zero, List.set_cons_succ, List.getElem_toArray, List.getElem_cons_zero, List.getElem_cons_succ]
        refine wpAny_take (i := 21) (v := ?_) rfl (by kernel_rfl) (by kernel_rfl) (by kernel_rfl) (fun _ _ _ h => h) (Or.inl ⟨by rfl, ?_⟩) ?_
        rotate_left 1
        · (intro w; go_simp; try with_reducible rfl)
        simp only [Act.put, List.setIfInBounds_toArray, List.set_cons_zero, List.set_cons_succ, List.getElem_toArray, List.getElem_cons_zero, List.getElem_cons_succ]
        refine wpAny_done (by kernel_rfl) ?_ _
        go_wp2_with fail
        go_ret
        exact ⟨rfl, HWE.out.keeps.below⟩
      · go_simp
        (go_at_call 19; with_reducible refine (bytes_calls DD _ hD9).mono ?_; rintro e wR2 ⟨vR2, rfl, hrR2, -, hkR2⟩; have HWE := Lib.hid (HWB1.out.new hkR2); have hcv2 := hrR2.textv (P := Tryd.prog) 36 5 9 Tryd.underlying36 Tryd.underlying5 Tryd.underlying9; have hcv3 := (HRB1.out.keeps hkR2 (fun _ _ => by simp)).textv (P := Tryd.prog) 36 5 9 Tryd.underlying36 Tryd.underlying5 Tryd.underlying9; clear hrR2 hkR2)
        go_wp2_with fail
        (try (refine hK _ _ ?_; clear hK K))
        (try simp only [Act.put, List.setIfInBounds_toArray, List.set_cons_zero, List.set_cons_succ, List.getElem_toArray, List.getElem_cons_zero, List.getElem_cons_succ])
        refine wpAny_ready (rs := [14, 18]) (by kernel_rfl) (by simp) (AllReady.cons rfl (fun K hK => ?_) (AllReady.cons rfl (fun K hK => ?_) AllReady.nil))
        · go_simp
          (try (refine hK _ _ ?_; clear hK K))
          (try simp only [Act.put, List.setIfInBounds_toArray, List.set_cons_zero, List.set_cons_succ, List.getElem_toArray, List.getElem_cons_zero, List.getElem_cons_succ])
          refine wpAny_ready (rs := [18]) (by kernel_rfl) (by simp) (AllReady.cons rfl (fun K hK => ?_) AllReady.nil)
          go_simp
          (try (refine hK _ _ ?_; clear hK K))
          (try simp only [Act.put, List.setIfInBounds_toArray, List.set_cons_zero, List.set_cons_succ, List.getElem_toArray, List.getElem_cons_zero, List.getElem_cons_succ])
          refine wpAny_take (i := 19) (v := ?_) rfl (by kernel_rfl) (by kernel_rfl) (by kernel_rfl) (fun _ _ _ h => h) (Or.inl ⟨by rfl, ?_⟩) ?_
          rotate_left 1
          · (intro w; go_simp; try with_reducible rfl)
          simp only [Act.put, List.setIfInBounds_toArray, List.set_cons_zero, List.set_cons_succ, List.getElem_toArray, List.getElem_cons_zero, List.getElem_cons_succ]
          refine wpAny_take (i := 20) (v := ?_) rfl (by kernel_rfl) (by kernel_rfl) (by kernel_rfl) (fun _ _ _ h => h) (Or.inl ⟨by rfl, ?_⟩) ?_
          rotate_left 1
          · (intro w; go_simp; try with_reducible rfl)
          simp only [Act.put, List.setIfInBounds_toArray, List.set_cons_zero, List.set_cons_succ, List.getElem_toArray, List.getElem_cons_zero, List.getElem_cons_succ]
          refine wpAny_take (i := 21) (v := ?_) rfl (by kernel_rfl) (by kernel_rfl) (by kernel_rfl) (fun _ _ _ h => h) (Or.inl ⟨by rfl, ?_⟩) ?_
          rotate_left 1
          · (intro w; go_simp; try with_reducible rfl)
          simp only [Act.put, List.setIfInBounds_toArray, List.set_cons_zero, List.set_cons_succ, List.getElem_toArray, List.getElem_cons_zero, List.getElem_cons_succ]
          refine wpAny_done (by kernel_rfl) ?_ _
          go_wp2_with fail
          go_ret
          exact ⟨rfl, HWE.out.keeps.below⟩
        · go_simp
          (try (refine hK _ _ ?_; clear hK K))
          (try simp only [Act.put, List.setIfInBounds_toArray, List.set_cons_zero, List.set_cons_succ, List.getElem_toArray, List.getElem_cons_zero, List.getElem_cons_succ])
          refine wpAny_ready (rs := [14]) (by kernel_rfl) (by simp) (AllReady.cons rfl (fun K hK => ?_) AllReady.nil)
          go_simp
          (try (refine hK _ _ ?_; clear hK K))
          (try simp only [Act.put, List.setIfInBounds_toArray, List.set_cons_zero, List.set_cons_succ, List.getElem_toArray, List.getElem_cons_zero, List.getElem_cons_succ])
          refine wpAny_take (i := 19) (v := ?_) rfl (by kernel_rfl) (by kernel_rfl) (by kernel_rfl) (fun _ _ _ h => h) (Or.inl ⟨by rfl, ?_⟩) ?_
          rotate_left 1
          · (intro w; go_simp; try with_reducible rfl)
          simp only [Act.put, List.setIfInBounds_toArray, List.set_cons_zero, List.set_cons_succ, List.getElem_toArray, List.getElem_cons_zero, List.getElem_cons_succ]
          refine wpAny_take (i := 20) (v := ?_) rfl (by kernel_rfl) (by kernel_rfl) (by kernel_rfl) (fun _ _ _ h => h) (Or.inl ⟨by rfl, ?_⟩) ?_
          rotate_left 1
          · (intro w; go_simp; try with_reducible rfl)
          simp only [Act.put, List.setIfInBounds_toArray, List.set_cons_zero, List.set_cons_succ, List.getElem_toArray, List.getElem_cons_zero, List.getElem_cons_succ]
          refine wpAny_take (i := 21) (v := ?_) rfl (by kernel_rfl) (by kernel_rfl) (by kernel_rfl) (fun _ _ _ h => h) (Or.inl ⟨by rfl, ?_⟩) ?_
          rotate_left 1
          · (intro w; go_simp; try with_reducible rfl)
          simp only [Act.put, List.setIfInBounds_toArray, List.set_cons_zero, List.set_cons_succ, List.getElem_toArray, List.getElem_cons_zero, List.getElem_cons_succ]
          refine wpAny_done (by kernel_rfl) ?_ _
          go_wp2_with fail
          go_ret
          exact ⟨rfl, HWE.out.keeps.below⟩
    · have HP : Hid (∀ W1 p, Hid (WS w W1 p []) → Calls Tryd.prog 12 #[.pointer (some ⟨p, 0, none⟩), .int .i64 2, .int .i64 2] W1 fun e w' => e = .returned (.int .i64 0) ∧ WS w w' p [true, false]) := by
        intro W1 p h
        have := wsPut 2 2 h hid2 (by simp)
        rwa [knP2.1, knP2.2, List.nil_append] at this
      have HWR := Lib.hid (fun W1 p (hW : Hid (WS w W1 p [true, false])) => wsSub S a1 _ rfl a0 cap0 w W1 p [true, false] HRG (Lib.hid (HR.out.new hW.out.keeps)) (Lib.hid (hT.out.new hW.out.keeps)) hW (by simp))
      have HKD := Lib.hid (fun W (hW : Keeps [] w W) => skind_calls S a1 _ rfl a0 cap0 W HRG (Lib.hid (HR.out.new hW)) (Lib.hid (hT.out.new hW)))
      have HCK := Lib.hid (fun W (hW : Keeps [] w W) => (dcheck9_calls S a1 _ rfl a0 cap0 W (Lib.hid (HR.out.new hW))).mono (R' := fun e w' => e = .returned (.int .i64 (schkE S a1)) ∧ W = w') (fun e w' h => ⟨h.1, h.2.symm⟩))
      have HWN := Lib.hid (fun W => (swrite_nil S a1 S.length a0 cap0 W).mono (R' := fun e w' => e = .returned (.int .i64 1) ∧ W = w') (fun e w' h => ⟨h.1, h.2.symm⟩))
      have HE0 : Hid (sputB S a1 = [] ∧ skindN S a1 = 0) := by show _ ∧ _; unfold sputB skindN; rw [if_neg he, if_neg he]; exact ⟨rfl, rfl⟩
      obtain ⟨E, hE⟩ : ∃ E, schkE S a1 = E := ⟨_, rfl⟩
      rw [hE, HE0.out.1] at HWR
      rw [hE, HE0.out.2] at HKD
      rw [hE] at HCK he
      have hEb : (E != 0) = true := by simp [he]
      have hEE : (E != E) = false := by simp
      clear hE
      go_enter Tryd.func3, Tryd.ntmps3
      go_wp2_with (first
        | (go_at_call 9; go_must (refine (sknown_calls _ hT).mono ?_); rintro e wk ⟨rfl, hk1⟩; replace HK : Hid (Keeps [] w wk) := HK.out.new hk1; clear hk1)
        | (go_at_call 10; go_must (with_reducible refine (HCT.out _).mono ?_); rintro e wc2 ⟨rfl, rfl⟩)
        | (go_at_call 11; go_must (refine (wsNew w _ HK).mono ?_); rintro e w3 ⟨p, rfl, hW3, -, -⟩; have HWa := Lib.hid hW3; clear hW3)
        | (go_at_call 12; go_must (with_reducible refine (HP.out _ _ HWa).mono ?_); rintro e w4 ⟨rfl, hW4⟩; have HWb := Lib.hid hW4; clear hW4)
        | (go_at_call 13; with_reducible refine (HWR.out _ _ HWb).mono ?_; rintro e w6 ⟨rfl, hW6⟩; have HWd := Lib.hid hW6; clear hW6)
        | (go_at_call 14; go_must (with_reducible refine (HKD.out _ HWd.out.keeps).mono ?_); rintro e w7 ⟨rfl, hk7⟩; have HWe := Lib.hid (HWd.out.new hk7); clear hk7)
        | (go_at_call 15; go_must (with_reducible refine (HCK.out _ HWe.out.keeps).mono ?_); rintro e w8 ⟨rfl, rfl⟩)
        | (go_at_call 13; with_reducible refine (HWN.out _).mono ?_; rintro e w9 ⟨rfl, rfl⟩)
        | (go_at_call 16; go_must (with_reducible refine (wsLen HWe).mono ?_); rintro e w5 ⟨rfl, rfl⟩))
      go_ret
      exact ⟨rfl, HWe.out.keeps.below⟩
  · have h5i : ¬ (L.length : Int) ≤ 512 := by omega
    have he : ¬ schkE L a1 = 0 := by
      have : sbrB L.length a1 = false := decide_eq_false (by omega)
      rw [schk_one this]
      omega
    have HR := HR0
    have HRG := HRG0
    generalize hLS : L = S at *
    have HP : Hid (∀ W1 p, Hid (WS w W1 p []) → Calls Tryd.prog 12 #[.pointer (some ⟨p, 0, none⟩), .int .i64 2, .int .i64 2] W1 fun e w' => e = .returned (.int .i64 0) ∧ WS w w' p [true, false]) := by
      intro W1 p h
      have := wsPut 2 2 h hid2 (by simp)
      rwa [knP2.1, knP2.2, List.nil_append] at this
    have HWR := Lib.hid (fun W1 p (hW : Hid (WS w W1 p [true, false])) => wsSub S a1 _ rfl a0 cap0 w W1 p [true, false] HRG (Lib.hid (HR.out.new hW.out.keeps)) (Lib.hid (hT.out.new hW.out.keeps)) hW (by simp))
    have HKD := Lib.hid (fun W (hW : Keeps [] w W) => skind_calls S a1 _ rfl a0 cap0 W HRG (Lib.hid (HR.out.new hW)) (Lib.hid (hT.out.new hW)))
    have HCK := Lib.hid (fun W (hW : Keeps [] w W) => (dcheck9_calls S a1 _ rfl a0 cap0 W (Lib.hid (HR.out.new hW))).mono (R' := fun e w' => e = .returned (.int .i64 (schkE S a1)) ∧ W = w') (fun e w' h => ⟨h.1, h.2.symm⟩))
    have HWN := Lib.hid (fun W => (swrite_nil S a1 S.length a0 cap0 W).mono (R' := fun e w' => e = .returned (.int .i64 1) ∧ W = w') (fun e w' h => ⟨h.1, h.2.symm⟩))
    have HE0 : Hid (sputB S a1 = [] ∧ skindN S a1 = 0) := by show _ ∧ _; unfold sputB skindN; rw [if_neg he, if_neg he]; exact ⟨rfl, rfl⟩
    obtain ⟨E, hE⟩ : ∃ E, schkE S a1 = E := ⟨_, rfl⟩
    rw [hE, HE0.out.1] at HWR
    rw [hE, HE0.out.2] at HKD
    rw [hE] at HCK he
    have hEb : (E != 0) = true := by simp [he]
    have hEE : (E != E) = false := by simp
    clear hE
    go_enter Tryd.func3, Tryd.ntmps3
    go_wp2_with (first
      | (go_at_call 9; go_must (refine (sknown_calls _ hT).mono ?_); rintro e wk ⟨rfl, hk1⟩; replace HK : Hid (Keeps [] w wk) := HK.out.new hk1; clear hk1)
      | (go_at_call 11; go_must (refine (wsNew w _ HK).mono ?_); rintro e w3 ⟨p, rfl, hW3, -, -⟩; have HWa := Lib.hid hW3; clear hW3)
      | (go_at_call 12; go_must (with_reducible refine (HP.out _ _ HWa).mono ?_); rintro e w4 ⟨rfl, hW4⟩; have HWb := Lib.hid hW4; clear hW4)
      | (go_at_call 13; with_reducible refine (HWR.out _ _ HWb).mono ?_; rintro e w6 ⟨rfl, hW6⟩; have HWd := Lib.hid hW6; clear hW6)
      | (go_at_call 14; go_must (with_reducible refine (HKD.out _ HWd.out.keeps).mono ?_); rintro e w7 ⟨rfl, hk7⟩; have HWe := Lib.hid (HWd.out.new hk7); clear hk7)
      | (go_at_call 15; go_must (with_reducible refine (HCK.out _ HWe.out.keeps).mono ?_); rintro e w8 ⟨rfl, rfl⟩)
      | (go_at_call 13; with_reducible refine (HWN.out _).mono ?_; rintro e w9 ⟨rfl, rfl⟩)
      | (go_at_call 16; go_must (with_reducible refine (wsLen HWe).mono ?_); rintro e w5 ⟨rfl, rfl⟩))
    go_ret
    exact ⟨rfl, HWe.out.keeps.below⟩
end Go.Proofs.YtofkiimaoahfjaaDoor
