/-
  Layer 7 (predict): the document's Restore.
-/
import Derived.Test.YtpnomiepbbbnbaaPred14
set_option linter.unusedVariables false
set_option linter.unusedSimpArgs false
namespace Go.Proofs.Ytpnomiepbbbnbaa
open Go.RowKit

set_option maxHeartbeats 2000000 in
theorem docRestore_calls (cs ws rs : List Int) (sh : Int) (m n l : Nat) (hm : m = cs.length) (a b g : Option Addr) (c d f : Nat) (w : World) (hn : n = ws.length) (hnl : l = rs.length) (hnd : b = none → d = 0) (hwl : ws.length ≤ 17592186043904) (hl : rs.length ≤ 1000000)
    (hc : Hid (Rd w .i64 a cs)) (hx : Hid (Rd w .i64 b ws)) (hy : Hid (Rd w .i64 g rs)) :
    Calls Try.prog 24 #[.agg #[.slice a m c, .int .i64 sh], .slice b n d, .slice g l f] w fun e w' =>
      ∃ v, e = .returned (.tuple #[v, .int .i64 (rstE cs sh ws rs)]) ∧ Row w' .i64 3 v (rstO cs sh ws rs) ∧ (∀ b, b ∈ fp v → w.heap.size ≤ b) ∧ Keeps [] w w' := by
  subst hm hn hnl
  have hcl := hc.out.small
  have HK0 : Hid (Keeps [] w (w.alloc (.cells #[.slice a cs.length c, .int .i64 sh] 34))) := (Keeps.refl _ _).alloc _
  have HC : Hid (Rd (w.alloc (.cells #[.slice a cs.length c, .int .i64 sh] 34)) .i64 a cs) := hc.out.new HK0.out
  have HX : Hid (Rd (w.alloc (.cells #[.slice a cs.length c, .int .i64 sh] 34)) .i64 b ws) := hx.out.new HK0.out
  have HY : Hid (Rd (w.alloc (.cells #[.slice a cs.length c, .int .i64 sh] 34)) .i64 g rs) := hy.out.new HK0.out
  have HB := Lib.hid (Box.made w (.slice a cs.length c) (.int .i64 sh) 34)
  have HSZ : Hid (∀ w' : World, Keeps [] (w.alloc (.cells #[.slice a cs.length c, .int .i64 sh] 34)) w' → w.heap.size < w'.heap.size) := fun w' h => by
    have := h.size
    rw [World.size_alloc] at this
    omega
  obtain ⟨E, hE⟩ : ∃ E, rstE cs sh ws rs = E := ⟨_, rfl⟩
  obtain ⟨O, hO⟩ : ∃ O, rstO cs sh ws rs = O := ⟨_, rfl⟩
  rw [hE, hO]
  cases hr : rightB cs sh
  · have HCE := Lib.hid hr
    have hR := rstE_bad ws rs hr
    rw [hE, hO] at hR
    obtain ⟨rfl, rfl⟩ := hR
    clear hr hE hO
    go_enter Try.func24, Try.ntmps24
    go_wp2_with (first
      | (go_at_call 22; go_must (with_reducible refine (right_calls cs sh _ rfl a c _ HC).mono ?_); rw [HCE.out]; rintro e w2 ⟨rfl, hk2⟩))
    go_ret2
    exact ⟨_, rfl, Row.nil _ _ _, (fun b hb => by cases hb), HK0.out.new hk2⟩
  · have HCE := Lib.hid hr
    by_cases hlen : ws.length = cs.length
    · have hne : ((ws.length : Int) != (cs.length : Int)) = false := by simp [hlen]
      cases hwi : ws.all inB
      · have hR := rstE_wide ws rs hr hlen (.inl hwi)
        rw [hE, hO] at hR
        obtain ⟨rfl, rfl⟩ := hR
        have HWI := Lib.hid hwi
        have HLEN := Lib.hid hlen
        clear hr hE hO hwi hlen
        go_enter Try.func24, Try.ntmps24
        go_wp2_with (first
          | (go_at_call 22; go_must (with_reducible refine (right_calls cs sh _ rfl a c _ HC).mono ?_); rw [HCE.out]; rintro e w2 ⟨rfl, hk2⟩; obtain ⟨hb0, hb1⟩ := HB.out.new hk2)
          | (go_at_call 32; go_must (with_reducible refine (all_calls ws _ rfl b d _ (Lib.hid (HX.out.new hk2))).mono ?_); rw [HWI.out]; rintro e w3 ⟨rfl, rfl⟩))
        go_ret2
        exact ⟨_, rfl, Row.nil _ _ _, (fun b hb => by cases hb), HK0.out.new hk2⟩
      · cases hri : rs.all inB
        · have hR := rstE_wide ws rs hr hlen (.inr hri)
          rw [hE, hO] at hR
          obtain ⟨rfl, rfl⟩ := hR
          have HWI := Lib.hid hwi
          have HRI := Lib.hid hri
          have HLEN := Lib.hid hlen
          clear hr hE hO hwi hri hlen
          go_enter Try.func24, Try.ntmps24
          go_wp2_with (first
            | (go_at_call 22; go_must (with_reducible refine (right_calls cs sh _ rfl a c _ HC).mono ?_); rw [HCE.out]; rintro e w2 ⟨rfl, hk2⟩; obtain ⟨hb0, hb1⟩ := HB.out.new hk2)
            | (go_at_call_of 32 (Value.slice b ws.length d); go_must (with_reducible refine (all_calls ws _ rfl b d _ (Lib.hid (HX.out.new hk2))).mono ?_); rw [HWI.out]; rintro e w3 ⟨rfl, rfl⟩)
            | (go_at_call 32; go_must (with_reducible refine (all_calls rs _ rfl g f _ (Lib.hid (HY.out.new hk2))).mono ?_); rw [HRI.out]; rintro e w3 ⟨rfl, rfl⟩))
          go_ret2
          exact ⟨_, rfl, Row.nil _ _ _, (fun b hb => by cases hb), HK0.out.new hk2⟩
        · obtain ⟨hbad, hgood⟩ := rstE_res ws rs hr hlen hwi hri
          rw [hE, hO] at hbad
          have HBAD := Lib.hid hbad
          have HGOOD : Hid (∀ O', restR cs sh ws rs = some O' → E = 0 ∧ O = O') := fun O' h => by
            have := hgood O' h
            rw [hE, hO] at this
            exact this
          have HFIT : Hid (Fit cs ws) := by
            have := Fit.of hr hwi ws.length (by omega) (Nat.le_refl _)
            rwa [List.take_length] at this
          obtain ⟨r1, r2, r3, r4⟩ := (rightB_iff cs sh).1 hr
          have HALL := Lib.hid (all_inB hri)
          have HWI := Lib.hid hwi
          have HRI := Lib.hid hri
          have HLEN := Lib.hid hlen
          clear hr hE hO hwi hri hbad hgood r4 hlen
          go_enter Try.func24, Try.ntmps24
          go_wp2_with (first
            | (go_at_call 22; go_must (with_reducible refine (right_calls cs sh _ rfl a c _ HC).mono ?_); rw [HCE.out]; rintro e w2 ⟨rfl, hk2⟩; obtain ⟨hb0, hb1⟩ := HB.out.new hk2)
            | (go_at_call_of 32 (Value.slice b ws.length d); go_must (with_reducible refine (all_calls ws _ rfl b d _ (Lib.hid (HX.out.new hk2))).mono ?_); rw [HWI.out]; rintro e w3 ⟨rfl, rfl⟩)
            | (go_at_call 32; go_must (with_reducible refine (all_calls rs _ rfl g f _ (Lib.hid (HY.out.new hk2))).mono ?_); rw [HRI.out]; rintro e w3 ⟨rfl, rfl⟩)
            | (at_builtin; refine wp_appR (W := w2.alloc (.cells #[] 3)) ?hg (.tmp 28) (.tmp 29) 22 3 .i64 8 ?ho Try.underlying22 info_i64 (by decide) (.slice (some ⟨w2.heap.size, 0, none⟩) 0 0) [] ws ?hs b d ?hx (Row.litNil w2 .i64 3) ((HX.out.new hk2).new ((Keeps.refl _ _).alloc _)) hnd (HX.out.spot) (by simp; omega) ?_; (case ho => rfl); (case hg => rfl); (case hs => rfl); (case hx => rfl); intro v4 w4 hr4 hk4' hf4'))
          rw [List.nil_append] at hr4
          have hk4 : Keeps [] w2 w4 := ((Keeps.refl _ _).alloc _).then_ hk4' (fun b hb hlt => by rw [fp_some, List.mem_singleton] at hb; omega)
          have hf4 : ∀ b, b ∈ fp v4 → w2.heap.size ≤ b := by
            intro b hb
            rcases hf4' b hb with h | h
            · rw [fp_some, List.mem_singleton] at h; omega
            · rw [World.size_alloc] at h; omega
          clear hk4' hf4'
          have HC2 := Lib.hid (HC.out.new hk2)
          have HY2 := Lib.hid (HY.out.new hk2)
          have HB2 := Lib.hid (HB.out.new hk2)
          have HS2 := Lib.hid (HSZ.out _ hk2)
          have HK2 := Lib.hid ((HK0.out.new hk2).new hk4)
          have HR4 := Lib.hid hr4
          have HF4 := Lib.hid hf4
          have HK4 := Lib.hid hk4
          clear HC HX HY HB HSZ HK0 hk2 hk4 hb0 hb1 hr4 hf4
          go_loopg [8, 9, 10] (rs.length + 1) (fun q v8 v9 v10 w5 => ∃ (i : Nat) (O' : List Int), v9 = .int .i64 i ∧ i ≤ rs.length ∧ Hid (O'.length = ws.length + i) ∧ Hid (Row w5 .i64 3 v8 O') ∧ Hid (∀ b, b ∈ fp v8 → w2.heap.size ≤ b) ∧ Hid (Fit cs O') ∧ Hid (restR cs sh O' (rs.drop i) = restR cs sh ws rs) ∧ Hid (i + q = rs.length + 1) ∧ Hid (Keeps [] w w5) ∧ Hid (Keeps [] w2 w5))
          case atStart => exact ⟨0, ws, rfl, by omega, (show _ = _ from rfl), HR4.out, HF4.out, HFIT.out, (show _ = _ from by simp), (show _ = _ from by omega), HK2.out, HK4.out⟩
          case round =>
            obtain ⟨i, O', rfl, hi, hOl, HROW, HFR, HFI, HT, HQ, HKA, HKB⟩ := hrel
            by_cases hlt : i < rs.length
            · obtain ⟨p0, p1⟩ := predI_bound (sh := sh) HFI.out
              obtain ⟨b2, o2, hb2, hc2⟩ := (HY2.out.new HKB.out).cellAt i hlt
              subst hb2
              obtain ⟨hbx0, hbx1⟩ := HB2.out.new HKB.out
              obtain ⟨x, hx1⟩ : ∃ x, rs[i] = x := ⟨_, rfl⟩
              obtain ⟨x0, x1⟩ := HALL.out x (hx1 ▸ List.getElem_mem hlt)
              rw [hx1] at hc2
              obtain ⟨y, hy⟩ : ∃ y, predI cs sh O' = y := ⟨_, rfl⟩
              have HST := Lib.hid (restR_step cs sh O' rs i hlt x hx1 y hy)
              clear hx1
              have HC5 := Lib.hid (HC2.out.new HKB.out)
              rw [hy] at p0 p1
              have HY5 := Lib.hid hy
              clear hy
              obtain ⟨a8, c8, hv8, hrd8⟩ := HROW.out.rd
              subst hv8
              have HRD8 := Lib.hid hrd8
              clear hrd8
              obtain ⟨wo, rfl⟩ : ∃ wo : World, wo = wr := ⟨_, rfl⟩
              have hz0 : -35186519572480 ≤ x + y := by omega
              have hz1 : x + y ≤ 35186519572480 := by omega
              have hkk : Keeps [] wo wo := Keeps.refl _ _
              have hii : (0 : Int) ≤ (i : Int) := by omega
              have hsub : IntKind.i64.wrap (x + y) = x + y := IntWalk.i64_in _ (by omega)
              have HTK : Hid (Fit cs (O'.take O'.length)) := by show Fit _ _; rw [List.take_length]; exact HFI.out
              have HY6 : Hid (predI cs sh (O'.take O'.length) = y) := by show _ = _; rw [List.take_length]; exact HY5.out
              go_upto_region 11 with fail
              go_region_held3 (fun w' => w'.cell? ⟨b2, o2 + i, none⟩ = some (.int .i64 x) ∧ w'.cell? ⟨w.heap.size, 0, none⟩ = some (.slice a cs.length c) ∧ w'.cell? ⟨w.heap.size, 1, none⟩ = some (.int .i64 sh) ∧ Keeps [] wo w') (first | (exact ⟨hc2, hbx0, hbx1, hkk.drew⟩) | (exact ⟨hk6.cell hc2 (by simp), hk6.cell hbx0 (by simp), hk6.cell hbx1 (by simp), hkk.drew.new hk6⟩) | go_keep)
                (first | (go_at_call 33; go_must (with_reducible refine (refPredict_calls cs O' sh O'.length _ _ rfl a a8 c c8 _ r2 r3 (Nat.le_refl _) rfl (Lib.hid (HC5.out.new hkk.drew)) (Lib.hid (HRD8.out.new hkk.drew)) HTK).mono ?_); rw [HY6.out]; rintro e w6 ⟨rfl, hk6⟩))
              have HK6 : Hid (Keeps [] wo w6) := hkk.drew.new hk6
              clear hsub hii hkk hk6 hbx0 hbx1 hc2
              cases hzb : inB (x + y)
              · have HZB := Lib.hid hzb
                have HEND : Hid (E = 12 ∧ O = []) := HBAD.out (by rw [← HT.out]; exact HST.out.2 hzb)
                clear hzb
                go_wp2_with (first
                  | (go_at_call 35; go_must (refine (in_calls _ _).mono ?_); rw [HZB.out]; rintro e w7 ⟨rfl, rfl⟩))
                go_ret2
                obtain ⟨rfl, rfl⟩ := HEND.out
                exact ⟨_, rfl, Row.nil _ _ _, (fun b hb => by cases hb), HKA.out.new HK6.out⟩
              · have HZB := Lib.hid hzb
                have HNX := Lib.hid (HST.out.1 hzb)
                have HFN := Lib.hid (HFI.out.snoc (x + y) hzb)
                have HBD : Hid ((O'.length + 1) * 8 ≤ 140737488355328) := by show _ ≤ _; have h1 := hOl.out; have h2 := HLEN.out; omega
                clear hzb
                go_wp2_with (first
                  | (go_at_call 35; go_must (refine (in_calls _ _).mono ?_); rw [HZB.out]; rintro e w7 ⟨rfl, rfl⟩)
                  | (at_builtin; go_must (refine wp_app1 (W := w6) rfl (.tmp 50) (.tmp 52) 22 3 .i64 8 rfl Try.underlying22 info_i64 (by decide) _ O' (x + y) rfl rfl (HROW.out.keeps HK6.out (fun _ _ => by simp)) HBD.out ?_); intro v7 w7 hr7 hk7 hf7))
                go_roundg (rs.length - i)
                case measure => have := HQ.out; omega
                case rel =>
                  refine ⟨i + 1, O' ++ [x + y], by go_num, by omega, (show _ = _ from by have := hOl.out; simp; omega), hr7, ?_, HFN.out, (show _ = _ from HNX.out.symm.trans HT.out), (show _ = _ from by have := HQ.out; omega), ?_, ?_⟩
                  · intro b hb
                    rcases hf7 b hb with h | h
                    · exact HFR.out b h
                    · have h1 := (HKB.out.new HK6.out).size
                      omega
                  · exact (HKA.out.new HK6.out).then_ hk7 (fun b hb hlt => by have h1 := HFR.out b hb; have h2 := HS2.out; omega)
                  · exact (HKB.out.new HK6.out).then_ hk7 (fun b hb hlt => by have h1 := HFR.out b hb; omega)
            · obtain rfl : i = rs.length := by omega
              have HEND : Hid (E = 0 ∧ O = O') := HGOOD.out O' (by rw [← HT.out]; simp [restR])
              go_wp2_with fail
              go_ret2
              obtain ⟨rfl, rfl⟩ := HEND.out
              exact ⟨_, rfl, HROW.out, (fun b hb => by have h1 := HFR.out b hb; have h2 := HS2.out; omega), HKA.out⟩
    · have hne : ((ws.length : Int) != (cs.length : Int)) = true := by simp; omega
      have hR := rstE_len ws rs hr hlen
      rw [hE, hO] at hR
      obtain ⟨rfl, rfl⟩ := hR
      clear hr hE hO
      go_enter Try.func24, Try.ntmps24
      go_wp2_with (first
        | (go_at_call 22; go_must (with_reducible refine (right_calls cs sh _ rfl a c _ HC).mono ?_); rw [HCE.out]; rintro e w2 ⟨rfl, hk2⟩; obtain ⟨hb0, hb1⟩ := HB.out.new hk2))
      go_ret2
      exact ⟨_, rfl, Row.nil _ _ _, (fun b hb => by cases hb), HK0.out.new hk2⟩
end Go.Proofs.Ytpnomiepbbbnbaa
