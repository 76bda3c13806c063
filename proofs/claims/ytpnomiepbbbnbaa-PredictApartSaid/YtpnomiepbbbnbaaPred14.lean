/-
  Layer 7 (predict): slices.Clone; the samples of which so much is left (Restore).
-/
import Derived.Test.YtpnomiepbbbnbaaPred13
set_option linter.unusedVariables false
set_option linter.unusedSimpArgs false
namespace Go.Proofs.Ytpnomiepbbbnbaa
open Go.RowKit

set_option maxHeartbeats 1000000 in
theorem clone_calls (xs : List Int) (m : Nat) (hm : m = xs.length) (a : Option Addr) (c : Nat) (w : World) (hn : a = none → c = 0) (hl : xs.length ≤ 17592186043904) (hx : Hid (Rd w .i64 a xs)) :
    Calls Try.prog 36 #[.slice a m c] w fun e w' => ∃ v, e = .returned v ∧ Row w' .i64 3 v xs ∧ (∀ b, b ∈ fp v → w.heap.size ≤ b) ∧ Keeps [] w w' := by
  subst hm
  cases a with
  | none =>
    have h0 : xs = [] := by
      rcases Nat.eq_zero_or_pos xs.length with h0 | h0
      · exact List.eq_nil_of_length_eq_zero h0
      · obtain ⟨b, o', e', _⟩ := hx.out.form h0
        cases e'
    have hc := hn rfl
    subst h0 hc
    show Calls Try.prog 36 #[.slice none 0 0] w _
    have he : ∀ w : World, (binOp .eql 22 (.slice none 0 0) (.slice none 0 0)).run Try.prog w = .ok (.bool true) w := fun _ => rfl
    go_enter Try.func36, Try.ntmps36
    go_wp2
    go_ret
    exact ⟨_, rfl, Row.nil _ _ _, (fun b hb => by cases hb), Keeps.refl _ _⟩
  | some ad =>
    have HNN : (some ad = none → c = 0) := hn
    have HSP := Lib.hid hx.out.spot
    have he : ∀ w : World, (binOp .eql 22 (.slice (some ad) xs.length c) (.slice none 0 0)).run Try.prog w = .ok (.bool false) w := fun _ => rfl
    go_enter Try.func36, Try.ntmps36
    go_wp2_with (first
      | (at_builtin; refine wp_appR (W := w.alloc (.cells #[] 3)) ?hg (.tmp 5) (.tmp 6) 22 3 .i64 8 ?ho Try.underlying22 info_i64 (by decide) (.slice (some ⟨w.heap.size, 0, none⟩) 0 0) [] xs ?hs (some ad) c ?hx (Row.litNil w .i64 3) (hx.out.new ((Keeps.refl _ _).alloc _)) HNN HSP.out (by simp; omega) ?_; (case ho => rfl); (case hg => rfl); (case hs => rfl); (case hx => rfl); intro v3 w3 hr3 hk3 hf3))
    rw [List.nil_append] at hr3
    go_ret
    refine ⟨_, rfl, hr3, ?_, ((Keeps.refl _ _).alloc _).then_ hk3 (fun b hb hlt => by rw [fp_some, List.mem_singleton] at hb; omega)⟩
    intro b hb
    rcases hf3 b hb with h | h
    · rw [fp_some, List.mem_singleton] at h; omega
    · rw [World.size_alloc] at h; omega

/-- The samples behind some, of which so much is left; none: one isn't a sample. -/
def restR (cs : List Int) (sh : Int) : List Int → List Int → Option (List Int)
  | out, [] => some out
  | out, r :: rs => if inB (r + predI cs sh out) then restR cs sh (out ++ [r + predI cs sh out]) rs else none
/-- Restore's error. -/
def rstE (cs : List Int) (sh : Int) (warm res : List Int) : Int :=
  if rightB cs sh = false then 2 else if warm.length ≠ cs.length then 1 else if warm.all inB = false ∨ res.all inB = false then 12 else
  match restR cs sh warm res with
  | none => 12
  | some _ => 0
/-- Restore's answer. -/
def rstO (cs : List Int) (sh : Int) (warm res : List Int) : List Int := if rstE cs sh warm res = 0 then (restR cs sh warm res).getD [] else []
theorem restR_step (cs : List Int) (sh : Int) (O res : List Int) (i : Nat) (h : i < res.length) (r : Int) (hr : res[i] = r) (p : Int) (hp : predI cs sh O = p) :
    (inB (r + p) = true → restR cs sh O (res.drop i) = restR cs sh (O ++ [r + p]) (res.drop (i + 1))) ∧ (inB (r + p) = false → restR cs sh O (res.drop i) = none) := by
  rw [List.drop_eq_getElem_cons h, hr, restR, hp]
  exact ⟨fun h => by rw [if_pos h], fun h => by rw [if_neg (by rw [h]; simp)]⟩
theorem Fit.snoc {cs O : List Int} (h : Fit cs O) (x : Int) (hx : inB x = true) : Fit cs (O ++ [x]) := by
  refine ⟨h.few, by have := h.enough; simp; omega, h.c, fun y hy => ?_⟩
  rcases List.mem_append.1 hy with h1 | h1
  · exact h.x y h1
  · rw [List.mem_singleton] at h1
    subst h1
    exact (inB_iff _).1 hx

theorem rstE_bad {cs : List Int} {sh : Int} (warm res : List Int) (h : rightB cs sh = false) : rstE cs sh warm res = 2 ∧ rstO cs sh warm res = [] := by
  have : rstE cs sh warm res = 2 := by unfold rstE; rw [if_pos h]
  exact ⟨this, by unfold rstO; rw [this]; rfl⟩
theorem rstE_len {cs : List Int} {sh : Int} (warm res : List Int) (h : rightB cs sh = true) (h1 : warm.length ≠ cs.length) : rstE cs sh warm res = 1 ∧ rstO cs sh warm res = [] := by
  have : rstE cs sh warm res = 1 := by unfold rstE; rw [if_neg (by rw [h]; simp), if_pos h1]
  exact ⟨this, by unfold rstO; rw [this]; rfl⟩
theorem rstE_wide {cs : List Int} {sh : Int} (warm res : List Int) (h : rightB cs sh = true) (h1 : warm.length = cs.length) (h2 : warm.all inB = false ∨ res.all inB = false) : rstE cs sh warm res = 12 ∧ rstO cs sh warm res = [] := by
  have : rstE cs sh warm res = 12 := by unfold rstE; rw [if_neg (by rw [h]; simp), if_neg (by simpa using h1), if_pos h2]
  exact ⟨this, by unfold rstO; rw [this]; rfl⟩
theorem rstE_res {cs : List Int} {sh : Int} (warm res : List Int) (h : rightB cs sh = true) (h1 : warm.length = cs.length) (h2 : warm.all inB = true) (h3 : res.all inB = true) :
    (restR cs sh warm res = none → rstE cs sh warm res = 12 ∧ rstO cs sh warm res = []) ∧ (∀ O, restR cs sh warm res = some O → rstE cs sh warm res = 0 ∧ rstO cs sh warm res = O) := by
  have e : rstE cs sh warm res = match restR cs sh warm res with
    | none => 12
    | some _ => 0 := by unfold rstE; rw [if_neg (by rw [h]; simp), if_neg (by simpa using h1), if_neg (by rw [h2, h3]; simp)]
  refine ⟨fun hn => ?_, fun O hO => ?_⟩
  · rw [hn] at e
    exact ⟨e, by unfold rstO; rw [e]; rfl⟩
  · rw [hO] at e
    refine ⟨e, ?_⟩
    unfold rstO
    rw [if_pos e, hO]
    rfl

set_option maxHeartbeats 2000000 in
theorem restore_calls (cs ws rs : List Int) (sh : Int) (m n l : Nat) (hm : m = cs.length) (a b g : Option Addr) (c d f : Nat) (w : World) (hn : n = ws.length) (hnl : l = rs.length) (hnd : b = none → d = 0) (hwl : ws.length ≤ 17592186043904) (hl : rs.length ≤ 1000000)
    (hc : Hid (Rd w .i64 a cs)) (hx : Hid (Rd w .i64 b ws)) (hy : Hid (Rd w .i64 g rs)) :
    Calls Try.prog 25 #[.agg #[.slice a m c, .int .i64 sh], .slice b n d, .slice g l f] w fun e w' =>
      ∃ v, e = .returned (.tuple #[v, .int .i64 (rstE cs sh ws rs)]) ∧ Row w' .i64 3 v (rstO cs sh ws rs) ∧ (∀ b, b ∈ fp v → w.heap.size ≤ b) ∧ Keeps [] w w' := by
  subst hm hn hnl
  have hcl := hc.out.small
  have HK0 : Hid (Keeps [] w (w.alloc (.cells #[.slice a cs.length c, .int .i64 sh] 26))) := (Keeps.refl _ _).alloc _
  have HC : Hid (Rd (w.alloc (.cells #[.slice a cs.length c, .int .i64 sh] 26)) .i64 a cs) := hc.out.new HK0.out
  have HX : Hid (Rd (w.alloc (.cells #[.slice a cs.length c, .int .i64 sh] 26)) .i64 b ws) := hx.out.new HK0.out
  have HY : Hid (Rd (w.alloc (.cells #[.slice a cs.length c, .int .i64 sh] 26)) .i64 g rs) := hy.out.new HK0.out
  have HB := Lib.hid (Box.made w (.slice a cs.length c) (.int .i64 sh) 26)
  have HSZ : Hid (∀ w' : World, Keeps [] (w.alloc (.cells #[.slice a cs.length c, .int .i64 sh] 26)) w' → w.heap.size < w'.heap.size) := fun w' h => by
    have := h.size
    rw [World.size_alloc] at this
    omega
  obtain ⟨E, hE⟩ : ∃ E, rstE cs sh ws rs = E := ⟨_, rfl⟩
  obtain ⟨O, hO⟩ : ∃ O, rstO cs sh ws rs = O := ⟨_, rfl⟩
  rw [hE, hO]
  cases hr : rightB cs sh
  · have HCE : Hid (checkE cs sh = 2) := by show _ = _; unfold checkE; rw [hr]; rfl
    have hR := rstE_bad ws rs hr
    rw [hE, hO] at hR
    obtain ⟨rfl, rfl⟩ := hR
    clear hr hE hO
    go_enter Try.func25, Try.ntmps25
    go_wp2_with (first
      | (go_at_call 21; go_must (with_reducible refine (check_calls cs sh _ rfl a c _ HC).mono ?_); rw [HCE.out]; rintro e w2 ⟨rfl, hk2⟩))
    go_ret2
    exact ⟨_, rfl, Row.nil _ _ _, (fun b hb => by cases hb), HK0.out.new hk2⟩
  · have HCE : Hid (checkE cs sh = 0) := by show _ = _; unfold checkE; rw [hr]; rfl
    by_cases hlen : ws.length = cs.length
    · have hne : ((ws.length : Int) != (cs.length : Int)) = false := by simp [hlen]
      cases hwi : ws.all inB
      · have hR := rstE_wide ws rs hr hlen (.inl hwi)
        rw [hE, hO] at hR
        obtain ⟨rfl, rfl⟩ := hR
        have HWI := Lib.hid hwi
        have HLEN := Lib.hid hlen
        clear hr hE hO hwi hlen
        go_enter Try.func25, Try.ntmps25
        go_wp2_with (first
          | (go_at_call 21; go_must (with_reducible refine (check_calls cs sh _ rfl a c _ HC).mono ?_); rw [HCE.out]; rintro e w2 ⟨rfl, hk2⟩; obtain ⟨hb0, hb1⟩ := HB.out.new hk2)
          | (go_at_call 29; go_must (with_reducible refine (contains_wide ws _ rfl b d _ (Lib.hid (HX.out.new hk2))).mono ?_); rw [HWI.out]; rintro e w3 ⟨rfl, rfl⟩))
        go_ret2
        exact ⟨_, rfl, Row.nil _ _ _, (fun b hb => by cases hb), HK0.out.new hk2⟩
      · cases hri : rs.all inB
        · have hR := rstE_wide ws rs hr hlen (.inr hri)
          rw [hE, hO] at hR
          obtain ⟨rfl, rfl⟩ := hR
          have HWI := Lib.hid hwi
          have HRI := Lib.hid hri
          have HLEN := Lib.hid hlen
          clear hr hE hO hwi hri hlen
          go_enter Try.func25, Try.ntmps25
          go_wp2_with (first
            | (go_at_call 21; go_must (with_reducible refine (check_calls cs sh _ rfl a c _ HC).mono ?_); rw [HCE.out]; rintro e w2 ⟨rfl, hk2⟩; obtain ⟨hb0, hb1⟩ := HB.out.new hk2)
            | (go_at_call_of 29 (Value.slice b ws.length d); go_must (with_reducible refine (contains_wide ws _ rfl b d _ (Lib.hid (HX.out.new hk2))).mono ?_); rw [HWI.out]; rintro e w3 ⟨rfl, rfl⟩)
            | (go_at_call 29; go_must (with_reducible refine (contains_wide rs _ rfl g f _ (Lib.hid (HY.out.new hk2))).mono ?_); rw [HRI.out]; rintro e w3 ⟨rfl, rfl⟩))
          go_ret2
          exact ⟨_, rfl, Row.nil _ _ _, (fun b hb => by cases hb), HK0.out.new hk2⟩
        · obtain ⟨hbad, hgood⟩ := rstE_res ws rs hr hlen hwi hri
          rw [hE, hO] at hbad
          have HBAD := Lib.hid hbad
          have HGOOD : Hid (∀ O', restR cs sh ws rs = some O' → E = 0 ∧ O = O') := fun O' h => by
            have := hgood O' h
            rw [hE, hO] at this
            exact this
          have HFIT : Hid (Fit cs ws) := by
            have := Fit.of hr hwi ws.length (by omega) (Nat.le_refl _)
            rwa [List.take_length] at this
          obtain ⟨r1, r2, r3, r4⟩ := (rightB_iff cs sh).1 hr
          have HALL := Lib.hid (all_inB hri)
          have HWI := Lib.hid hwi
          have HRI := Lib.hid hri
          have HLEN := Lib.hid hlen
          clear hr hE hO hwi hri hbad hgood r4 hlen
          go_enter Try.func25, Try.ntmps25
          go_wp2_with (first
            | (go_at_call 21; go_must (with_reducible refine (check_calls cs sh _ rfl a c _ HC).mono ?_); rw [HCE.out]; rintro e w2 ⟨rfl, hk2⟩; obtain ⟨hb0, hb1⟩ := HB.out.new hk2)
            | (go_at_call_of 29 (Value.slice b ws.length d); go_must (with_reducible refine (contains_wide ws _ rfl b d _ (Lib.hid (HX.out.new hk2))).mono ?_); rw [HWI.out]; rintro e w3 ⟨rfl, rfl⟩)
            | (go_at_call 29; go_must (with_reducible refine (contains_wide rs _ rfl g f _ (Lib.hid (HY.out.new hk2))).mono ?_); rw [HRI.out]; rintro e w3 ⟨rfl, rfl⟩)
            | (go_at_call 36; go_must (with_reducible refine (clone_calls ws _ rfl b d _ hnd hwl (Lib.hid (HX.out.new hk2))).mono ?_); rintro e w4 ⟨v4, rfl, hr4, hf4, hk4⟩))
          have HC2 := Lib.hid (HC.out.new hk2)
          have HY2 := Lib.hid (HY.out.new hk2)
          have HB2 := Lib.hid (HB.out.new hk2)
          have HS2 := Lib.hid (HSZ.out _ hk2)
          have HK2 := Lib.hid ((HK0.out.new hk2).new hk4)
          have HR4 := Lib.hid hr4
          have HF4 := Lib.hid hf4
          have HK4 := Lib.hid hk4
          clear HC HX HY HB HSZ HK0 hk2 hk4 hb0 hb1 hr4 hf4
          go_loopg [8, 10, 33] (rs.length + 1) (fun q v8 v10 v33 w5 => ∃ (i : Nat) (O' : List Int), v33 = .int .i64 i ∧ i ≤ rs.length ∧ Hid (O'.length = ws.length + i) ∧ Hid (Row w5 .i64 3 v8 O') ∧ Hid (∀ b, b ∈ fp v8 → w2.heap.size ≤ b) ∧ Hid (Fit cs O') ∧ Hid (restR cs sh O' (rs.drop i) = restR cs sh ws rs) ∧ Hid (i + q = rs.length + 1) ∧ Hid (Keeps [] w w5) ∧ Hid (Keeps [] w2 w5))
          case atStart => exact ⟨0, ws, rfl, by omega, (show _ = _ from rfl), HR4.out, HF4.out, HFIT.out, (show _ = _ from by simp), (show _ = _ from by omega), HK2.out, HK4.out⟩
          case round =>
            obtain ⟨i, O', rfl, hi, hOl, HROW, HFR, HFI, HT, HQ, HKA, HKB⟩ := hrel
            by_cases hlt : i < rs.length
            · obtain ⟨p0, p1⟩ := predI_bound (sh := sh) HFI.out
              obtain ⟨b2, o2, hb2, hc2⟩ := (HY2.out.new HKB.out).cellAt i hlt
              subst hb2
              obtain ⟨hbx0, hbx1⟩ := HB2.out.new HKB.out
              obtain ⟨x, hx1⟩ : ∃ x, rs[i] = x := ⟨_, rfl⟩
              obtain ⟨x0, x1⟩ := HALL.out x (hx1 ▸ List.getElem_mem hlt)
              rw [hx1] at hc2
              obtain ⟨y, hy⟩ : ∃ y, predI cs sh O' = y := ⟨_, rfl⟩
              have HST := Lib.hid (restR_step cs sh O' rs i hlt x hx1 y hy)
              clear hx1
              have HC5 := Lib.hid (HC2.out.new HKB.out)
              rw [hy] at p0 p1
              have HY5 := Lib.hid hy
              clear hy
              obtain ⟨a8, c8, hv8, hrd8⟩ := HROW.out.rd
              subst hv8
              have HRD8 := Lib.hid hrd8
              clear hrd8
              obtain ⟨wo, rfl⟩ : ∃ wo : World, wo = wr := ⟨_, rfl⟩
              have hz0 : -35186519572480 ≤ x + y := by omega
              have hz1 : x + y ≤ 35186519572480 := by omega
              cases hzb : inB (x + y)
              · have HZB := Lib.hid hzb
                have HEND : Hid (E = 12 ∧ O = []) := HBAD.out (by rw [← HT.out]; exact HST.out.2 hzb)
                clear hzb
                go_wp2_with (first
                  | (go_at_call 31; go_must (with_reducible refine (predict_calls cs O' sh _ _ rfl a a8 c c8 _ r2 r3 rfl HC5 HRD8 HFI).mono ?_); rw [HY5.out]; rintro e w6 ⟨rfl, hk6⟩)
                  | (go_at_call 30; go_must (refine (wide_calls _ _).mono ?_); rw [HZB.out]; rintro e w7 ⟨rfl, rfl⟩))
                go_ret2
                obtain ⟨rfl, rfl⟩ := HEND.out
                exact ⟨_, rfl, Row.nil _ _ _, (fun b hb => by cases hb), HKA.out.new hk6⟩
              · have HZB := Lib.hid hzb
                have HNX := Lib.hid (HST.out.1 hzb)
                have HFN := Lib.hid (HFI.out.snoc (x + y) hzb)
                have HBD : Hid ((O'.length + 1) * 8 ≤ 140737488355328) := by show _ ≤ _; have h1 := hOl.out; have h2 := HLEN.out; omega
                clear hzb
                go_wp2_with (first
                  | (go_at_call 31; go_must (with_reducible refine (predict_calls cs O' sh _ _ rfl a a8 c c8 _ r2 r3 rfl HC5 HRD8 HFI).mono ?_); rw [HY5.out]; rintro e w6 ⟨rfl, hk6⟩)
                  | (go_at_call 30; go_must (refine (wide_calls _ _).mono ?_); rw [HZB.out]; rintro e w7 ⟨rfl, rfl⟩)
                  | (at_builtin; go_must (refine wp_app1 (W := w6) rfl (.tmp 44) (.tmp 46) 22 3 .i64 8 rfl Try.underlying22 info_i64 (by decide) _ O' (x + y) rfl rfl (HROW.out.keeps hk6 (fun _ _ => by simp)) HBD.out ?_); intro v7 w7 hr7 hk7 hf7))
                go_roundg (rs.length - i)
                case measure => have := HQ.out; omega
                case rel =>
                  refine ⟨i + 1, O' ++ [x + y], by go_num, by omega, (show _ = _ from by have := hOl.out; simp; omega), hr7, ?_, HFN.out, (show _ = _ from HNX.out.symm.trans HT.out), (show _ = _ from by have := HQ.out; omega), ?_, ?_⟩
                  · intro b hb
                    rcases hf7 b hb with h | h
                    · exact HFR.out b h
                    · have h1 := (HKB.out.new hk6).size
                      omega
                  · exact (HKA.out.new hk6).then_ hk7 (fun b hb hlt => by have h1 := HFR.out b hb; have h2 := HS2.out; omega)
                  · exact (HKB.out.new hk6).then_ hk7 (fun b hb hlt => by have h1 := HFR.out b hb; omega)
            · obtain rfl : i = rs.length := by omega
              have HEND : Hid (E = 0 ∧ O = O') := HGOOD.out O' (by rw [← HT.out]; simp [restR])
              go_wp2_with fail
              go_ret2
              obtain ⟨rfl, rfl⟩ := HEND.out
              exact ⟨_, rfl, HROW.out, (fun b hb => by have h1 := HFR.out b hb; have h2 := HS2.out; omega), HKA.out⟩
    · have hne : ((ws.length : Int) != (cs.length : Int)) = true := by simp; omega
      have hR := rstE_len ws rs hr hlen
      rw [hE, hO] at hR
      obtain ⟨rfl, rfl⟩ := hR
      clear hr hE hO
      go_enter Try.func25, Try.ntmps25
      go_wp2_with (first
        | (go_at_call 21; go_must (with_reducible refine (check_calls cs sh _ rfl a c _ HC).mono ?_); rw [HCE.out]; rintro e w2 ⟨rfl, hk2⟩; obtain ⟨hb0, hb1⟩ := HB.out.new hk2))
      go_ret2
      exact ⟨_, rfl, Row.nil _ _ _, (fun b hb => by cases hb), HK0.out.new hk2⟩
end Go.Proofs.Ytpnomiepbbbnbaa
