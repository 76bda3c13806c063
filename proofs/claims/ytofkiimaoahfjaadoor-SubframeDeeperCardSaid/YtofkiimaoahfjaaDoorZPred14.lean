/-
  Layer 7 (predict): slices.Clone; the samples of which so much is left (Restore).
  Layer 7 (predict): the document's Restore.
  Layer 7 (predict): what Search begins with.
-/
import Derived.Test.YtofkiimaoahfjaaDoorZPred9
set_option maxRecDepth 100000
set_option linter.unusedVariables false
set_option linter.unusedSimpArgs false
namespace Go.Proofs.YtofkiimaoahfjaaDoor
open Go.RowKit

set_option maxHeartbeats 1000000 in
theorem clone_calls (xs : List Int) (m : Nat) (hm : m = xs.length) (a : Option Addr) (c : Nat) (w : World) (hn : a = none → c = 0) (hl : xs.length ≤ 17592186043904) (hx : Hid (Rd w .i64 a xs)) :
    Calls Tryd.prog 91 #[.slice a m c] w fun e w' => ∃ v, e = .returned v ∧ Row w' .i64 3 v xs ∧ (∀ b, b ∈ fp v → w.heap.size ≤ b) ∧ Keeps [] w w' := by
  subst hm
  cases a with
  | none =>
    have h0 : xs = [] := by
      rcases Nat.eq_zero_or_pos xs.length with h0 | h0
      · exact List.eq_nil_of_length_eq_zero h0
      · obtain ⟨b, o', e', _⟩ := hx.out.form h0
        cases e'
    have hc := hn rfl
    subst h0 hc
    show Calls Tryd.prog 91 #[.slice none 0 0] w _
    have he : ∀ w : World, (binOp .eql 22 (.slice none 0 0) (.slice none 0 0)).run Tryd.prog w = .ok (.bool true) w := fun _ => rfl
    go_enter Tryd.func91, Tryd.ntmps91
    go_wp2
    go_ret
    exact ⟨_, rfl, Row.nil _ _ _, (fun b hb => by cases hb), Keeps.refl _ _⟩
  | some ad =>
    have HNN : (some ad = none → c = 0) := hn
    have HSP := Lib.hid hx.out.spot
    have he : ∀ w : World, (binOp .eql 22 (.slice (some ad) xs.length c) (.slice none 0 0)).run Tryd.prog w = .ok (.bool false) w := fun _ => rfl
    go_enter Tryd.func91, Tryd.ntmps91
    go_wp2_with (first
      | (at_builtin; refine wp_appR (W := w.alloc (.cells #[] 3)) ?hg (.tmp 5) (.tmp 6) 22 3 .i64 8 ?ho Tryd.underlying22 info_i64 (by decide) (.slice (some ⟨w.heap.size, 0, none⟩) 0 0) [] xs ?hs (some ad) c ?hx (Row.litNil w .i64 3) (hx.out.new ((Keeps.refl _ _).alloc _)) HNN HSP.out (by simp; omega) ?_; (case ho => rfl); (case hg => rfl); (case hs => rfl); (case hx => rfl); intro v3 w3 hr3 hk3 hf3))
    rw [List.nil_append] at hr3
    go_ret
    refine ⟨_, rfl, hr3, ?_, ((Keeps.refl _ _).alloc _).then_ hk3 (fun b hb hlt => by rw [fp_some, List.mem_singleton] at hb; omega)⟩
    intro b hb
    rcases hf3 b hb with h | h
    · rw [fp_some, List.mem_singleton] at h; omega
    · rw [World.size_alloc] at h; omega

/-- The samples behind some, of which so much is left; none: one isn't a sample. -/
def restR (cs : List Int) (sh : Int) : List Int → List Int → Option (List Int)
  | out, [] => some out
  | out, r :: rs => if inB (r + predI cs sh out) then restR cs sh (out ++ [r + predI cs sh out]) rs else none
/-- Restore's error. -/
def rstE (cs : List Int) (sh : Int) (warm res : List Int) : Int :=
  if rightB cs sh = false then 2 else if warm.length ≠ cs.length then 1 else if warm.all inB = false ∨ res.all inB = false then 12 else
  match restR cs sh warm res with
  | none => 12
  | some _ => 0
/-- Restore's answer. -/
def rstO (cs : List Int) (sh : Int) (warm res : List Int) : List Int := if rstE cs sh warm res = 0 then (restR cs sh warm res).getD [] else []
theorem restR_step (cs : List Int) (sh : Int) (O res : List Int) (i : Nat) (h : i < res.length) (r : Int) (hr : res[i] = r) (p : Int) (hp : predI cs sh O = p) :
    (inB (r + p) = true → restR cs sh O (res.drop i) = restR cs sh (O ++ [r + p]) (res.drop (i + 1))) ∧ (inB (r + p) = false → restR cs sh O (res.drop i) = none) := by
  rw [List.drop_eq_getElem_cons h, hr, restR, hp]
  exact ⟨fun h => by rw [if_pos h], fun h => by rw [if_neg (by rw [h]; simp)]⟩
theorem Fit.snoc {cs O : List Int} (h : Fit cs O) (x : Int) (hx : inB x = true) : Fit cs (O ++ [x]) := by
  refine ⟨h.few, by have := h.enough; simp; omega, h.c, fun y hy => ?_⟩
  rcases List.mem_append.1 hy with h1 | h1
  · exact h.x y h1
  · rw [List.mem_singleton] at h1
    subst h1
    exact (inB_iff _).1 hx

theorem rstE_bad {cs : List Int} {sh : Int} (warm res : List Int) (h : rightB cs sh = false) : rstE cs sh warm res = 2 ∧ rstO cs sh warm res = [] := by
  have : rstE cs sh warm res = 2 := by unfold rstE; rw [if_pos h]
  exact ⟨this, by unfold rstO; rw [this]; rfl⟩
theorem rstE_len {cs : List Int} {sh : Int} (warm res : List Int) (h : rightB cs sh = true) (h1 : warm.length ≠ cs.length) : rstE cs sh warm res = 1 ∧ rstO cs sh warm res = [] := by
  have : rstE cs sh warm res = 1 := by unfold rstE; rw [if_neg (by rw [h]; simp), if_pos h1]
  exact ⟨this, by unfold rstO; rw [this]; rfl⟩
theorem rstE_wide {cs : List Int} {sh : Int} (warm res : List Int) (h : rightB cs sh = true) (h1 : warm.length = cs.length) (h2 : warm.all inB = false ∨ res.all inB = false) : rstE cs sh warm res = 12 ∧ rstO cs sh warm res = [] := by
  have : rstE cs sh warm res = 12 := by unfold rstE; rw [if_neg (by rw [h]; simp), if_neg (by simpa using h1), if_pos h2]
  exact ⟨this, by unfold rstO; rw [this]; rfl⟩
theorem rstE_res {cs : List Int} {sh : Int} (warm res : List Int) (h : rightB cs sh = true) (h1 : warm.length = cs.length) (h2 : warm.all inB = true) (h3 : res.all inB = true) :
    (restR cs sh warm res = none → rstE cs sh warm res = 12 ∧ rstO cs sh warm res = []) ∧ (∀ O, restR cs sh warm res = some O → rstE cs sh warm res = 0 ∧ rstO cs sh warm res = O) := by
  have e : rstE cs sh warm res = match restR cs sh warm res with
    | none => 12
    | some _ => 0 := by unfold rstE; rw [if_neg (by rw [h]; simp), if_neg (by simpa using h1), if_neg (by rw [h2, h3]; simp)]
  refine ⟨fun hn => ?_, fun O hO => ?_⟩
  · rw [hn] at e
    exact ⟨e, by unfold rstO; rw [e]; rfl⟩
  · rw [hO] at e
    refine ⟨e, ?_⟩
    unfold rstO
    rw [if_pos e, hO]
    rfl

set_option maxHeartbeats 2000000 in
theorem restore_calls (cs ws rs : List Int) (sh : Int) (m n l : Nat) (hm : m = cs.length) (a b g : Option Addr) (c d f : Nat) (w : World) (hn : n = ws.length) (hnl : l = rs.length) (hnd : b = none → d = 0) (hwl : ws.length ≤ 17592186043904) (hl : rs.length ≤ 1000000)
    (hc : Hid (Rd w .i64 a cs)) (hx : Hid (Rd w .i64 b ws)) (hy : Hid (Rd w .i64 g rs)) :
    Calls Tryd.prog 79 #[.agg #[.slice a m c, .int .i64 sh], .slice b n d, .slice g l f] w fun e w' =>
      ∃ v, e = .returned (.tuple #[v, .int .i64 (rstE cs sh ws rs)]) ∧ Row w' .i64 3 v (rstO cs sh ws rs) ∧ (∀ b, b ∈ fp v → w.heap.size ≤ b) ∧ Keeps [] w w' := by
  subst hm hn hnl
  have hcl := hc.out.small
  have HK0 : Hid (Keeps [] w (w.alloc (.cells #[.slice a cs.length c, .int .i64 sh] 59))) := (Keeps.refl _ _).alloc _
  have HC : Hid (Rd (w.alloc (.cells #[.slice a cs.length c, .int .i64 sh] 59)) .i64 a cs) := hc.out.new HK0.out
  have HX : Hid (Rd (w.alloc (.cells #[.slice a cs.length c, .int .i64 sh] 59)) .i64 b ws) := hx.out.new HK0.out
  have HY : Hid (Rd (w.alloc (.cells #[.slice a cs.length c, .int .i64 sh] 59)) .i64 g rs) := hy.out.new HK0.out
  have HB := Lib.hid (Box.made w (.slice a cs.length c) (.int .i64 sh) 59)
  have HSZ : Hid (∀ w' : World, Keeps [] (w.alloc (.cells #[.slice a cs.length c, .int .i64 sh] 59)) w' → w.heap.size < w'.heap.size) := fun w' h => by
    have := h.size
    rw [World.size_alloc] at this
    omega
  obtain ⟨E, hE⟩ : ∃ E, rstE cs sh ws rs = E := ⟨_, rfl⟩
  obtain ⟨O, hO⟩ : ∃ O, rstO cs sh ws rs = O := ⟨_, rfl⟩
  rw [hE, hO]
  cases hr : rightB cs sh
  · have HCE : Hid (checkE cs sh = 2) := by show _ = _; unfold checkE; rw [hr]; rfl
    have hR := rstE_bad ws rs hr
    rw [hE, hO] at hR
    obtain ⟨rfl, rfl⟩ := hR
    clear hr hE hO
    go_enter Tryd.func79, Tryd.ntmps79
    go_wp2_with (first
      | (go_at_call 110; go_must (with_reducible refine (check_calls cs sh _ rfl a c _ HC).mono ?_); rw [HCE.out]; rintro e w2 ⟨rfl, hk2⟩))
    go_ret2
    exact ⟨_, rfl, Row.nil _ _ _, (fun b hb => by cases hb), HK0.out.new hk2⟩
  · have HCE : Hid (checkE cs sh = 0) := by show _ = _; unfold checkE; rw [hr]; rfl
    by_cases hlen : ws.length = cs.length
    · have hne : ((ws.length : Int) != (cs.length : Int)) = false := by simp [hlen]
      cases hwi : ws.all inB
      · have hR := rstE_wide ws rs hr hlen (.inl hwi)
        rw [hE, hO] at hR
        obtain ⟨rfl, rfl⟩ := hR
        have HWI := Lib.hid hwi
        have HLEN := Lib.hid hlen
        clear hr hE hO hwi hlen
        go_enter Tryd.func79, Tryd.ntmps79
        go_wp2_with (first
          | (go_at_call 110; go_must (with_reducible refine (check_calls cs sh _ rfl a c _ HC).mono ?_); rw [HCE.out]; rintro e w2 ⟨rfl, hk2⟩; obtain ⟨hb0, hb1⟩ := HB.out.new hk2)
          | (go_at_call 50; go_must (with_reducible refine (contains_wide ws _ rfl b d _ (Lib.hid (HX.out.new hk2))).mono ?_); rw [HWI.out]; rintro e w3 ⟨rfl, rfl⟩))
        go_ret2
        exact ⟨_, rfl, Row.nil _ _ _, (fun b hb => by cases hb), HK0.out.new hk2⟩
      · cases hri : rs.all inB
        · have hR := rstE_wide ws rs hr hlen (.inr hri)
          rw [hE, hO] at hR
          obtain ⟨rfl, rfl⟩ := hR
          have HWI := Lib.hid hwi
          have HRI := Lib.hid hri
          have HLEN := Lib.hid hlen
          clear hr hE hO hwi hri hlen
          go_enter Tryd.func79, Tryd.ntmps79
          go_wp2_with (first
            | (go_at_call 110; go_must (with_reducible refine (check_calls cs sh _ rfl a c _ HC).mono ?_); rw [HCE.out]; rintro e w2 ⟨rfl, hk2⟩; obtain ⟨hb0, hb1⟩ := HB.out.new hk2)
            | (go_at_call_of 50 (Value.slice b ws.length d); go_must (with_reducible refine (contains_wide ws _ rfl b d _ (Lib.hid (HX.out.new hk2))).mono ?_); rw [HWI.out]; rintro e w3 ⟨rfl, rfl⟩)
            | (go_at_call 50; go_must (with_reducible refine (contains_wide rs _ rfl g f _ (Lib.hid (HY.out.new hk2))).mono ?_); rw [HRI.out]; rintro e w3 ⟨rfl, rfl⟩))
          go_ret2
          exact ⟨_, rfl, Row.nil _ _ _, (fun b hb => by cases hb), HK0.out.new hk2⟩
        · obtain ⟨hbad, hgood⟩ := rstE_res ws rs hr hlen hwi hri
          rw [hE, hO] at hbad
          have HBAD := Lib.hid hbad
          have HGOOD : Hid (∀ O', restR cs sh ws rs = some O' → E = 0 ∧ O = O') := fun O' h => by
            have := hgood O' h
            rw [hE, hO] at this
            exact this
          have HFIT : Hid (Fit cs ws) := by
            have := Fit.of hr hwi ws.length (by omega) (Nat.le_refl _)
            rwa [List.take_length] at this
          obtain ⟨r1, r2, r3, r4⟩ := (rightB_iff cs sh).1 hr
          have HALL := Lib.hid (all_inB hri)
          have HWI := Lib.hid hwi
          have HRI := Lib.hid hri
          have HLEN := Lib.hid hlen
          clear hr hE hO hwi hri hbad hgood r4 hlen
          go_enter Tryd.func79, Tryd.ntmps79
          go_wp2_with (first
            | (go_at_call 110; go_must (with_reducible refine (check_calls cs sh _ rfl a c _ HC).mono ?_); rw [HCE.out]; rintro e w2 ⟨rfl, hk2⟩; obtain ⟨hb0, hb1⟩ := HB.out.new hk2)
            | (go_at_call_of 50 (Value.slice b ws.length d); go_must (with_reducible refine (contains_wide ws _ rfl b d _ (Lib.hid (HX.out.new hk2))).mono ?_); rw [HWI.out]; rintro e w3 ⟨rfl, rfl⟩)
            | (go_at_call 50; go_must (with_reducible refine (contains_wide rs _ rfl g f _ (Lib.hid (HY.out.new hk2))).mono ?_); rw [HRI.out]; rintro e w3 ⟨rfl, rfl⟩)
            | (go_at_call 91; go_must (with_reducible refine (clone_calls ws _ rfl b d _ hnd hwl (Lib.hid (HX.out.new hk2))).mono ?_); rintro e w4 ⟨v4, rfl, hr4, hf4, hk4⟩))
          have HC2 := Lib.hid (HC.out.new hk2)
          have HY2 := Lib.hid (HY.out.new hk2)
          have HB2 := Lib.hid (HB.out.new hk2)
          have HS2 := Lib.hid (HSZ.out _ hk2)
          have HK2 := Lib.hid ((HK0.out.new hk2).new hk4)
          have HR4 := Lib.hid hr4
          have HF4 := Lib.hid hf4
          have HK4 := Lib.hid hk4
          clear HC HX HY HB HSZ HK0 hk2 hk4 hb0 hb1 hr4 hf4
          go_loopg [8, 10, 33] (rs.length + 1) (fun q v8 v10 v33 w5 => ∃ (i : Nat) (O' : List Int), v33 = .int .i64 i ∧ i ≤ rs.length ∧ Hid (O'.length = ws.length + i) ∧ Hid (Row w5 .i64 3 v8 O') ∧ Hid (∀ b, b ∈ fp v8 → w2.heap.size ≤ b) ∧ Hid (Fit cs O') ∧ Hid (restR cs sh O' (rs.drop i) = restR cs sh ws rs) ∧ Hid (i + q = rs.length + 1) ∧ Hid (Keeps [] w w5) ∧ Hid (Keeps [] w2 w5))
          case atStart => exact ⟨0, ws, rfl, by omega, (show _ = _ from rfl), HR4.out, HF4.out, HFIT.out, (show _ = _ from by simp), (show _ = _ from by omega), HK2.out, HK4.out⟩
          case round =>
            obtain ⟨i, O', rfl, hi, hOl, HROW, HFR, HFI, HT, HQ, HKA, HKB⟩ := hrel
            by_cases hlt : i < rs.length
            · obtain ⟨p0, p1⟩ := predI_bound (sh := sh) HFI.out
              obtain ⟨b2, o2, hb2, hc2⟩ := (HY2.out.new HKB.out).cellAt i hlt
              subst hb2
              obtain ⟨hbx0, hbx1⟩ := HB2.out.new HKB.out
              obtain ⟨x, hx1⟩ : ∃ x, rs[i] = x := ⟨_, rfl⟩
              obtain ⟨x0, x1⟩ := HALL.out x (hx1 ▸ List.getElem_mem hlt)
              rw [hx1] at hc2
              obtain ⟨y, hy⟩ : ∃ y, predI cs sh O' = y := ⟨_, rfl⟩
              have HST := Lib.hid (restR_step cs sh O' rs i hlt x hx1 y hy)
              clear hx1
              have HC5 := Lib.hid (HC2.out.new HKB.out)
              rw [hy] at p0 p1
              have HY5 := Lib.hid hy
              clear hy
              obtain ⟨a8, c8, hv8, hrd8⟩ := HROW.out.rd
              subst hv8
              have HRD8 := Lib.hid hrd8
              clear hrd8
              obtain ⟨wo, rfl⟩ : ∃ wo : World, wo = wr := ⟨_, rfl⟩
              have hz0 : -35186519572480 ≤ x + y := by omega
              have hz1 : x + y ≤ 35186519572480 := by omega
              cases hzb : inB (x + y)
              · have HZB := Lib.hid hzb
                have HEND : Hid (E = 12 ∧ O = []) := HBAD.out (by rw [← HT.out]; exact HST.out.2 hzb)
                clear hzb
                go_wp2_with (first
                  | (go_at_call 111; go_must (with_reducible refine (predict_calls cs O' sh _ _ rfl a a8 c c8 _ r2 r3 rfl HC5 HRD8 HFI).mono ?_); rw [HY5.out]; rintro e w6 ⟨rfl, hk6⟩)
                  | (go_at_call 88; go_must (refine (wide_calls _ _).mono ?_); rw [HZB.out]; rintro e w7 ⟨rfl, rfl⟩))
                go_ret2
                obtain ⟨rfl, rfl⟩ := HEND.out
                exact ⟨_, rfl, Row.nil _ _ _, (fun b hb => by cases hb), HKA.out.new hk6⟩
              · have HZB := Lib.hid hzb
                have HNX := Lib.hid (HST.out.1 hzb)
                have HFN := Lib.hid (HFI.out.snoc (x + y) hzb)
                have HBD : Hid ((O'.length + 1) * 8 ≤ 140737488355328) := by show _ ≤ _; have h1 := hOl.out; have h2 := HLEN.out; omega
                clear hzb
                go_wp2_with (first
                  | (go_at_call 111; go_must (with_reducible refine (predict_calls cs O' sh _ _ rfl a a8 c c8 _ r2 r3 rfl HC5 HRD8 HFI).mono ?_); rw [HY5.out]; rintro e w6 ⟨rfl, hk6⟩)
                  | (go_at_call 88; go_must (refine (wide_calls _ _).mono ?_); rw [HZB.out]; rintro e w7 ⟨rfl, rfl⟩)
                  | (at_builtin; go_must (refine wp_app1 (W := w6) rfl (.tmp 44) (.tmp 46) 22 3 .i64 8 rfl Tryd.underlying22 info_i64 (by decide) _ O' (x + y) rfl rfl (HROW.out.keeps hk6 (fun _ _ => by simp)) HBD.out ?_); intro v7 w7 hr7 hk7 hf7))
                go_roundg (rs.length - i)
                case measure => have := HQ.out; omega
                case rel =>
                  refine ⟨i + 1, O' ++ [x + y], by go_num, by omega, (show _ = _ from by have := hOl.out; simp; omega), hr7, ?_, HFN.out, (show _ = _ from HNX.out.symm.trans HT.out), (show _ = _ from by have := HQ.out; omega), ?_, ?_⟩
                  · intro b hb
                    rcases hf7 b hb with h | h
                    · exact HFR.out b h
                    · have h1 := (HKB.out.new hk6).size
                      omega
                  · exact (HKA.out.new hk6).then_ hk7 (fun b hb hlt => by have h1 := HFR.out b hb; have h2 := HS2.out; omega)
                  · exact (HKB.out.new hk6).then_ hk7 (fun b hb hlt => by have h1 := HFR.out b hb; omega)
            · obtain rfl : i = rs.length := by omega
              have HEND : Hid (E = 0 ∧ O = O') := HGOOD.out O' (by rw [← HT.out]; simp [restR])
              go_wp2_with fail
              go_ret2
              obtain ⟨rfl, rfl⟩ := HEND.out
              exact ⟨_, rfl, HROW.out, (fun b hb => by have h1 := HFR.out b hb; have h2 := HS2.out; omega), HKA.out⟩
    · have hne : ((ws.length : Int) != (cs.length : Int)) = true := by simp; omega
      have hR := rstE_len ws rs hr hlen
      rw [hE, hO] at hR
      obtain ⟨rfl, rfl⟩ := hR
      clear hr hE hO
      go_enter Tryd.func79, Tryd.ntmps79
      go_wp2_with (first
        | (go_at_call 110; go_must (with_reducible refine (check_calls cs sh _ rfl a c _ HC).mono ?_); rw [HCE.out]; rintro e w2 ⟨rfl, hk2⟩; obtain ⟨hb0, hb1⟩ := HB.out.new hk2))
      go_ret2
      exact ⟨_, rfl, Row.nil _ _ _, (fun b hb => by cases hb), HK0.out.new hk2⟩
end Go.Proofs.YtofkiimaoahfjaaDoor

set_option maxRecDepth 100000
set_option linter.unusedVariables false
set_option linter.unusedSimpArgs false
namespace Go.Proofs.YtofkiimaoahfjaaDoor
open Go.RowKit

set_option maxHeartbeats 2000000 in
theorem docRestore_calls (cs ws rs : List Int) (sh : Int) (m n l : Nat) (hm : m = cs.length) (a b g : Option Addr) (c d f : Nat) (w : World) (hn : n = ws.length) (hnl : l = rs.length) (hnd : b = none → d = 0) (hwl : ws.length ≤ 17592186043904) (hl : rs.length ≤ 1000000)
    (hc : Hid (Rd w .i64 a cs)) (hx : Hid (Rd w .i64 b ws)) (hy : Hid (Rd w .i64 g rs)) :
    Calls Tryd.prog 83 #[.agg #[.slice a m c, .int .i64 sh], .slice b n d, .slice g l f] w fun e w' =>
      ∃ v, e = .returned (.tuple #[v, .int .i64 (rstE cs sh ws rs)]) ∧ Row w' .i64 3 v (rstO cs sh ws rs) ∧ (∀ b, b ∈ fp v → w.heap.size ≤ b) ∧ Keeps [] w w' := by
  subst hm hn hnl
  have hcl := hc.out.small
  have HK0 : Hid (Keeps [] w (w.alloc (.cells #[.slice a cs.length c, .int .i64 sh] 71))) := (Keeps.refl _ _).alloc _
  have HC : Hid (Rd (w.alloc (.cells #[.slice a cs.length c, .int .i64 sh] 71)) .i64 a cs) := hc.out.new HK0.out
  have HX : Hid (Rd (w.alloc (.cells #[.slice a cs.length c, .int .i64 sh] 71)) .i64 b ws) := hx.out.new HK0.out
  have HY : Hid (Rd (w.alloc (.cells #[.slice a cs.length c, .int .i64 sh] 71)) .i64 g rs) := hy.out.new HK0.out
  have HB := Lib.hid (Box.made w (.slice a cs.length c) (.int .i64 sh) 71)
  have HSZ : Hid (∀ w' : World, Keeps [] (w.alloc (.cells #[.slice a cs.length c, .int .i64 sh] 71)) w' → w.heap.size < w'.heap.size) := fun w' h => by
    have := h.size
    rw [World.size_alloc] at this
    omega
  obtain ⟨E, hE⟩ : ∃ E, rstE cs sh ws rs = E := ⟨_, rfl⟩
  obtain ⟨O, hO⟩ : ∃ O, rstO cs sh ws rs = O := ⟨_, rfl⟩
  rw [hE, hO]
  cases hr : rightB cs sh
  · have HCE := Lib.hid hr
    have hR := rstE_bad ws rs hr
    rw [hE, hO] at hR
    obtain ⟨rfl, rfl⟩ := hR
    clear hr hE hO
    go_enter Tryd.func83, Tryd.ntmps83
    go_wp2_with (first
      | (go_at_call 97; go_must (with_reducible refine (right_calls cs sh _ rfl a c _ HC).mono ?_); rw [HCE.out]; rintro e w2 ⟨rfl, hk2⟩))
    go_ret2
    exact ⟨_, rfl, Row.nil _ _ _, (fun b hb => by cases hb), HK0.out.new hk2⟩
  · have HCE := Lib.hid hr
    by_cases hlen : ws.length = cs.length
    · have hne : ((ws.length : Int) != (cs.length : Int)) = false := by simp [hlen]
      cases hwi : ws.all inB
      · have hR := rstE_wide ws rs hr hlen (.inl hwi)
        rw [hE, hO] at hR
        obtain ⟨rfl, rfl⟩ := hR
        have HWI := Lib.hid hwi
        have HLEN := Lib.hid hlen
        clear hr hE hO hwi hlen
        go_enter Tryd.func83, Tryd.ntmps83
        go_wp2_with (first
          | (go_at_call 97; go_must (with_reducible refine (right_calls cs sh _ rfl a c _ HC).mono ?_); rw [HCE.out]; rintro e w2 ⟨rfl, hk2⟩; obtain ⟨hb0, hb1⟩ := HB.out.new hk2)
          | (go_at_call 69; go_must (with_reducible refine (all_calls ws _ rfl b d _ (Lib.hid (HX.out.new hk2))).mono ?_); rw [HWI.out]; rintro e w3 ⟨rfl, rfl⟩))
        go_ret2
        exact ⟨_, rfl, Row.nil _ _ _, (fun b hb => by cases hb), HK0.out.new hk2⟩
      · cases hri : rs.all inB
        · have hR := rstE_wide ws rs hr hlen (.inr hri)
          rw [hE, hO] at hR
          obtain ⟨rfl, rfl⟩ := hR
          have HWI := Lib.hid hwi
          have HRI := Lib.hid hri
          have HLEN := Lib.hid hlen
          clear hr hE hO hwi hri hlen
          go_enter Tryd.func83, Tryd.ntmps83
          go_wp2_with (first
            | (go_at_call 97; go_must (with_reducible refine (right_calls cs sh _ rfl a c _ HC).mono ?_); rw [HCE.out]; rintro e w2 ⟨rfl, hk2⟩; obtain ⟨hb0, hb1⟩ := HB.out.new hk2)
            | (go_at_call_of 69 (Value.slice b ws.length d); go_must (with_reducible refine (all_calls ws _ rfl b d _ (Lib.hid (HX.out.new hk2))).mono ?_); rw [HWI.out]; rintro e w3 ⟨rfl, rfl⟩)
            | (go_at_call 69; go_must (with_reducible refine (all_calls rs _ rfl g f _ (Lib.hid (HY.out.new hk2))).mono ?_); rw [HRI.out]; rintro e w3 ⟨rfl, rfl⟩))
          go_ret2
          exact ⟨_, rfl, Row.nil _ _ _, (fun b hb => by cases hb), HK0.out.new hk2⟩
        · obtain ⟨hbad, hgood⟩ := rstE_res ws rs hr hlen hwi hri
          rw [hE, hO] at hbad
          have HBAD := Lib.hid hbad
          have HGOOD : Hid (∀ O', restR cs sh ws rs = some O' → E = 0 ∧ O = O') := fun O' h => by
            have := hgood O' h
            rw [hE, hO] at this
            exact this
          have HFIT : Hid (Fit cs ws) := by
            have := Fit.of hr hwi ws.length (by omega) (Nat.le_refl _)
            rwa [List.take_length] at this
          obtain ⟨r1, r2, r3, r4⟩ := (rightB_iff cs sh).1 hr
          have HALL := Lib.hid (all_inB hri)
          have HWI := Lib.hid hwi
          have HRI := Lib.hid hri
          have HLEN := Lib.hid hlen
          clear hr hE hO hwi hri hbad hgood r4 hlen
          go_enter Tryd.func83, Tryd.ntmps83
          go_wp2_with (first
            | (go_at_call 97; go_must (with_reducible refine (right_calls cs sh _ rfl a c _ HC).mono ?_); rw [HCE.out]; rintro e w2 ⟨rfl, hk2⟩; obtain ⟨hb0, hb1⟩ := HB.out.new hk2)
            | (go_at_call_of 69 (Value.slice b ws.length d); go_must (with_reducible refine (all_calls ws _ rfl b d _ (Lib.hid (HX.out.new hk2))).mono ?_); rw [HWI.out]; rintro e w3 ⟨rfl, rfl⟩)
            | (go_at_call 69; go_must (with_reducible refine (all_calls rs _ rfl g f _ (Lib.hid (HY.out.new hk2))).mono ?_); rw [HRI.out]; rintro e w3 ⟨rfl, rfl⟩)
            | (at_builtin; refine wp_appR (W := w2.alloc (.cells #[] 3)) ?hg (.tmp 28) (.tmp 29) 22 3 .i64 8 ?ho Tryd.underlying22 info_i64 (by decide) (.slice (some ⟨w2.heap.size, 0, none⟩) 0 0) [] ws ?hs b d ?hx (Row.litNil w2 .i64 3) ((HX.out.new hk2).new ((Keeps.refl _ _).alloc _)) hnd (HX.out.spot) (by simp; omega) ?_; (case ho => rfl); (case hg => rfl); (case hs => rfl); (case hx => rfl); intro v4 w4 hr4 hk4' hf4'))
          rw [List.nil_append] at hr4
          have hk4 : Keeps [] w2 w4 := ((Keeps.refl _ _).alloc _).then_ hk4' (fun b hb hlt => by rw [fp_some, List.mem_singleton] at hb; omega)
          have hf4 : ∀ b, b ∈ fp v4 → w2.heap.size ≤ b := by
            intro b hb
            rcases hf4' b hb with h | h
            · rw [fp_some, List.mem_singleton] at h; omega
            · rw [World.size_alloc] at h; omega
          clear hk4' hf4'
          have HC2 := Lib.hid (HC.out.new hk2)
          have HY2 := Lib.hid (HY.out.new hk2)
          have HB2 := Lib.hid (HB.out.new hk2)
          have HS2 := Lib.hid (HSZ.out _ hk2)
          have HK2 := Lib.hid ((HK0.out.new hk2).new hk4)
          have HR4 := Lib.hid hr4
          have HF4 := Lib.hid hf4
          have HK4 := Lib.hid hk4
          clear HC HX HY HB HSZ HK0 hk2 hk4 hb0 hb1 hr4 hf4
          go_loopg [8, 9, 10] (rs.length + 1) (fun q v8 v9 v10 w5 => ∃ (i : Nat) (O' : List Int), v9 = .int .i64 i ∧ i ≤ rs.length ∧ Hid (O'.length = ws.length + i) ∧ Hid (Row w5 .i64 3 v8 O') ∧ Hid (∀ b, b ∈ fp v8 → w2.heap.size ≤ b) ∧ Hid (Fit cs O') ∧ Hid (restR cs sh O' (rs.drop i) = restR cs sh ws rs) ∧ Hid (i + q = rs.length + 1) ∧ Hid (Keeps [] w w5) ∧ Hid (Keeps [] w2 w5))
          case atStart => exact ⟨0, ws, rfl, by omega, (show _ = _ from rfl), HR4.out, HF4.out, HFIT.out, (show _ = _ from by simp), (show _ = _ from by omega), HK2.out, HK4.out⟩
          case round =>
            obtain ⟨i, O', rfl, hi, hOl, HROW, HFR, HFI, HT, HQ, HKA, HKB⟩ := hrel
            by_cases hlt : i < rs.length
            · obtain ⟨p0, p1⟩ := predI_bound (sh := sh) HFI.out
              obtain ⟨b2, o2, hb2, hc2⟩ := (HY2.out.new HKB.out).cellAt i hlt
              subst hb2
              obtain ⟨hbx0, hbx1⟩ := HB2.out.new HKB.out
              obtain ⟨x, hx1⟩ : ∃ x, rs[i] = x := ⟨_, rfl⟩
              obtain ⟨x0, x1⟩ := HALL.out x (hx1 ▸ List.getElem_mem hlt)
              rw [hx1] at hc2
              obtain ⟨y, hy⟩ : ∃ y, predI cs sh O' = y := ⟨_, rfl⟩
              have HST := Lib.hid (restR_step cs sh O' rs i hlt x hx1 y hy)
              clear hx1
              have HC5 := Lib.hid (HC2.out.new HKB.out)
              rw [hy] at p0 p1
              have HY5 := Lib.hid hy
              clear hy
              obtain ⟨a8, c8, hv8, hrd8⟩ := HROW.out.rd
              subst hv8
              have HRD8 := Lib.hid hrd8
              clear hrd8
              obtain ⟨wo, rfl⟩ : ∃ wo : World, wo = wr := ⟨_, rfl⟩
              have hz0 : -35186519572480 ≤ x + y := by omega
              have hz1 : x + y ≤ 35186519572480 := by omega
              have hkk : Keeps [] wo wo := Keeps.refl _ _
              have hii : (0 : Int) ≤ (i : Int) := by omega
              have hsub : IntKind.i64.wrap (x + y) = x + y := IntWalk.i64_in _ (by omega)
              have HTK : Hid (Fit cs (O'.take O'.length)) := by show Fit _ _; rw [List.take_length]; exact HFI.out
              have HY6 : Hid (predI cs sh (O'.take O'.length) = y) := by show _ = _; rw [List.take_length]; exact HY5.out
              go_upto_region 11 with fail
              go_region_held3 (fun w' => w'.cell? ⟨b2, o2 + i, none⟩ = some (.int .i64 x) ∧ w'.cell? ⟨w.heap.size, 0, none⟩ = some (.slice a cs.length c) ∧ w'.cell? ⟨w.heap.size, 1, none⟩ = some (.int .i64 sh) ∧ Keeps [] wo w') (first | (exact ⟨hc2, hbx0, hbx1, hkk.drew⟩) | (exact ⟨hk6.cell hc2 (by simp), hk6.cell hbx0 (by simp), hk6.cell hbx1 (by simp), hkk.drew.new hk6⟩) | go_keep)
                (first | (go_at_call 98; go_must (with_reducible refine (refPredict_calls cs O' sh O'.length _ _ rfl a a8 c c8 _ r2 r3 (Nat.le_refl _) rfl (Lib.hid (HC5.out.new hkk.drew)) (Lib.hid (HRD8.out.new hkk.drew)) HTK).mono ?_); rw [HY6.out]; rintro e w6 ⟨rfl, hk6⟩))
              have HK6 : Hid (Keeps [] wo w6) := hkk.drew.new hk6
              clear hsub hii hkk hk6 hbx0 hbx1 hc2
              cases hzb : inB (x + y)
              · have HZB := Lib.hid hzb
                have HEND : Hid (E = 12 ∧ O = []) := HBAD.out (by rw [← HT.out]; exact HST.out.2 hzb)
                clear hzb
                go_wp2_with (first
                  | (go_at_call 104; go_must (refine (in_calls _ _).mono ?_); rw [HZB.out]; rintro e w7 ⟨rfl, rfl⟩))
                go_ret2
                obtain ⟨rfl, rfl⟩ := HEND.out
                exact ⟨_, rfl, Row.nil _ _ _, (fun b hb => by cases hb), HKA.out.new HK6.out⟩
              · have HZB := Lib.hid hzb
                have HNX := Lib.hid (HST.out.1 hzb)
                have HFN := Lib.hid (HFI.out.snoc (x + y) hzb)
                have HBD : Hid ((O'.length + 1) * 8 ≤ 140737488355328) := by show _ ≤ _; have h1 := hOl.out; have h2 := HLEN.out; omega
                clear hzb
                go_wp2_with (first
                  | (go_at_call 104; go_must (refine (in_calls _ _).mono ?_); rw [HZB.out]; rintro e w7 ⟨rfl, rfl⟩)
                  | (at_builtin; go_must (refine wp_app1 (W := w6) rfl (.tmp 50) (.tmp 52) 22 3 .i64 8 rfl Tryd.underlying22 info_i64 (by decide) _ O' (x + y) rfl rfl (HROW.out.keeps HK6.out (fun _ _ => by simp)) HBD.out ?_); intro v7 w7 hr7 hk7 hf7))
                go_roundg (rs.length - i)
                case measure => have := HQ.out; omega
                case rel =>
                  refine ⟨i + 1, O' ++ [x + y], by go_num, by omega, (show _ = _ from by have := hOl.out; simp; omega), hr7, ?_, HFN.out, (show _ = _ from HNX.out.symm.trans HT.out), (show _ = _ from by have := HQ.out; omega), ?_, ?_⟩
                  · intro b hb
                    rcases hf7 b hb with h | h
                    · exact HFR.out b h
                    · have h1 := (HKB.out.new HK6.out).size
                      omega
                  · exact (HKA.out.new HK6.out).then_ hk7 (fun b hb hlt => by have h1 := HFR.out b hb; have h2 := HS2.out; omega)
                  · exact (HKB.out.new HK6.out).then_ hk7 (fun b hb hlt => by have h1 := HFR.out b hb; omega)
            · obtain rfl : i = rs.length := by omega
              have HEND : Hid (E = 0 ∧ O = O') := HGOOD.out O' (by rw [← HT.out]; simp [restR])
              go_wp2_with fail
              go_ret2
              obtain ⟨rfl, rfl⟩ := HEND.out
              exact ⟨_, rfl, HROW.out, (fun b hb => by have h1 := HFR.out b hb; have h2 := HS2.out; omega), HKA.out⟩
    · have hne : ((ws.length : Int) != (cs.length : Int)) = true := by simp; omega
      have hR := rstE_len ws rs hr hlen
      rw [hE, hO] at hR
      obtain ⟨rfl, rfl⟩ := hR
      clear hr hE hO
      go_enter Tryd.func83, Tryd.ntmps83
      go_wp2_with (first
        | (go_at_call 97; go_must (with_reducible refine (right_calls cs sh _ rfl a c _ HC).mono ?_); rw [HCE.out]; rintro e w2 ⟨rfl, hk2⟩; obtain ⟨hb0, hb1⟩ := HB.out.new hk2))
      go_ret2
      exact ⟨_, rfl, Row.nil _ _ _, (fun b hb => by cases hb), HK0.out.new hk2⟩
end Go.Proofs.YtofkiimaoahfjaaDoor

set_option maxRecDepth 100000
set_option linter.unusedVariables false
set_option linter.unusedSimpArgs false
namespace Go.Proofs.YtofkiimaoahfjaaDoor
open Go.RowKit

/-- What Search begins with. -/
def beginL (k : Nat) : List Int := (fixL (min k 4)).map (16 * ·) ++ List.replicate (k - min k 4) 0
/-- The same, on the way. -/
def beginAt (k i : Nat) : List Int := ((fixL (min k 4)).map (16 * ·)).take i ++ List.replicate (k - i) 0
theorem beginAt_zero (k : Nat) : beginAt k 0 = List.replicate k 0 := by simp [beginAt]
theorem beginAt_end (k : Nat) (hk : k ≤ 8) : beginAt k (min k 4) = beginL k := by
  have : ∀ k, k < 9 → beginAt k (min k 4) = beginL k := by decide
  exact this k (by omega)
theorem beginAt_step (k i : Nat) (hk : k ≤ 8) (hi : i < min k 4) : beginAt k (i + 1) = (beginAt k i).set i (16 * (fixL (min k 4)).getD i 0) := by
  have : ∀ k, k < 9 → ∀ i, i < 4 → i < min k 4 → beginAt k (i + 1) = (beginAt k i).set i (16 * (fixL (min k 4)).getD i 0) := by decide
  exact this k (by omega) i (by omega) hi
theorem fix_small (k i : Nat) (hk : k ≤ 4) : -6 ≤ (fixL k).getD i 0 ∧ (fixL k).getD i 0 ≤ 6 := by
  have h : ∀ k, k < 5 → ∀ i, i < 4 → -6 ≤ (fixL k).getD i 0 ∧ (fixL k).getD i 0 ≤ 6 := by decide
  have h2 : (fixL k).length ≤ 4 := by
    have h2 : ∀ k, k < 5 → (fixL k).length ≤ 4 := by decide
    exact h2 k (by omega)
  by_cases hi : i < 4
  · exact h k (by omega) i hi
  · rw [List.getD_eq_getElem?_getD, List.getElem?_eq_none (by omega)]
    simp
theorem beginAt_length (k i : Nat) (hk : k ≤ 8) (hi : i ≤ min k 4) : (beginAt k i).length = k := by
  have : ∀ k, k < 9 → ∀ i, i < 5 → i ≤ min k 4 → (beginAt k i).length = k := by decide
  exact this k (by omega) i (by omega) hi
theorem fixL_len (k : Nat) (hk : k ≤ 4) : (fixL k).length = k := by
  have : ∀ k, k < 5 → (fixL k).length = k := by decide
  exact this k (by omega)

set_option maxHeartbeats 4000000 in
theorem begin_calls (k : Nat) (w : World) (hk : k ≤ 8) :
    Calls Tryd.prog 89 #[.int .i64 k] w fun e w' => ∃ v, e = .returned (.agg #[v, .int .i64 4]) ∧ Row w' .i64 3 v (beginL k) ∧ (∀ b, b ∈ fp v → w.heap.size ≤ b) ∧ Keeps [] w w' := by
  have hmk := run_mk Tryd.prog 22 3 .i64 8 Tryd.underlying22 info_i64 .i64 .i64 k k k k rfl rfl (by omega) (by omega) (by omega)
  obtain ⟨m4, hm4⟩ : ∃ m4, min k 4 = m4 := ⟨_, rfl⟩
  have hmin : (if (4 : Int) < (k : Int) then 4 else (k : Int)) = (m4 : Int) := by split <;> omega
  have HM4 := Lib.hid hm4
  have hm44 : m4 ≤ 4 := by omega
  have hm4k : m4 ≤ k := by omega
  clear hm4
  have HFL := Lib.hid (fixL_len m4 hm44)
  go_enter Tryd.func89, Tryd.ntmps89
  go_wp2_with (first
    | (go_at_call 55; go_must (with_reducible refine (fixed_at (m4 : Int) m4 rfl hm44 _).mono ?_); rintro e wa ⟨va, rfl, hra, hfa, hka⟩; obtain ⟨aa, ca, hv, hqa⟩ := hra.rd; rw [HFL.out] at hv; subst hv))
  have HG0 : Hid (Cell2 (((w.alloc (.cells #[.slice none 0 0, .int .i64 0] 59)).alloc (.cells (madeCells #[.int .i64 0] k) 3)).alloc (.cells #[.slice (some ⟨w.heap.size + 1, 0, none⟩) k k, .int .i64 4] 59)) w.heap.size 59 (.slice none 0 0) (.int .i64 0)) := ⟨by
    repeat (first | exact heap_alloc_at _ _ _ (by simp) | rw [Below.heap_alloc _ _ _ (by simp <;> omega)])⟩
  have HG2 : Hid (Cell2 (((w.alloc (.cells #[.slice none 0 0, .int .i64 0] 59)).alloc (.cells (madeCells #[.int .i64 0] k) 3)).alloc (.cells #[.slice (some ⟨w.heap.size + 1, 0, none⟩) k k, .int .i64 4] 59)) (w.heap.size + 1 + 1) 59 (.slice (some ⟨w.heap.size + 1, 0, none⟩) k k) (.int .i64 4)) := ⟨by
    repeat (first | exact heap_alloc_at _ _ _ (by simp) | rw [Below.heap_alloc _ _ _ (by simp <;> omega)])⟩
  have HRW : Hid (Row (((w.alloc (.cells #[.slice none 0 0, .int .i64 0] 59)).alloc (.cells (madeCells #[.int .i64 0] k) 3)).alloc (.cells #[.slice (some ⟨w.heap.size + 1, 0, none⟩) k k, .int .i64 4] 59)) .i64 3 (.slice (some ⟨w.heap.size + 1, 0, none⟩) k k) (List.replicate k 0)) := by
    have h := Row.made (w.alloc (.cells #[.slice none 0 0, .int .i64 0] 59)) .i64 3 k (by omega)
    rw [World.size_alloc] at h
    exact h.keeps ((Keeps.refl [] _).alloc _) (fun _ _ => by simp)
  have HK0 : Hid (Keeps [] w (((w.alloc (.cells #[.slice none 0 0, .int .i64 0] 59)).alloc (.cells (madeCells #[.int .i64 0] k) 3)).alloc (.cells #[.slice (some ⟨w.heap.size + 1, 0, none⟩) k k, .int .i64 4] 59))) := (((Keeps.refl _ _).alloc _).alloc _).alloc _
  have HF : Hid (∀ ad, aa = some ad → w.heap.size + 1 < ad.block) := by
    intro ad e
    subst e
    have := hfa ad.block (by simp [fp, Value.ownBlock])
    simp at this
    omega
  have hkb : Keeps [] _ (wa.alloc (.cells #[.slice aa m4 ca, .int .i64 0] 59)) := hka.alloc _
  replace HG0 := Lib.hid (HG0.out.keeps hkb (by simp))
  replace HG2 := Lib.hid (HG2.out.keeps hkb (by simp))
  replace HRW := Lib.hid (HRW.out.keeps hkb (fun _ _ => by simp))
  replace HK0 := Lib.hid (HK0.out.new hkb)
  have HQ0 : Hid (Rd (wa.alloc (.cells #[.slice aa m4 ca, .int .i64 0] 59)) .i64 aa (fixL m4)) := hqa.new ((Keeps.refl _ _).alloc _)
  clear hkb hka hqa hra hfa
  generalize wa.alloc (.cells #[.slice aa m4 ca, .int .i64 0] 59) = W at *
  have HBZ := Lib.hid (beginAt_zero k)
  have HSTP : Hid (∀ i, i < m4 → beginAt k (i + 1) = (beginAt k i).set i (16 * (fixL m4).getD i 0)) := fun i hi => by
    have := beginAt_step k i hk (by have := HM4.out; omega)
    rw [HM4.out] at this
    exact this
  have HBL : Hid (∀ i, i ≤ m4 → (beginAt k i).length = k) := fun i hi => beginAt_length k i hk (by have := HM4.out; omega)
  have HBE : Hid (beginAt k m4 = beginL k) := by
    have := beginAt_end k hk
    rw [HM4.out] at this
    exact this
  have HSM : Hid (∀ i, -6 ≤ (fixL m4).getD i 0 ∧ (fixL m4).getD i 0 ≤ 6) := fun i => fix_small m4 i hm44
  go_loopg [6, 7, 20] (m4 + 1) (fun q v6 v7 v20 w5 => ∃ i : Nat, v20 = .int .i64 i ∧ i ≤ m4 ∧ Hid (Row w5 .i64 3 (.slice (some ⟨w.heap.size + 1, 0, none⟩) k k) (beginAt k i)) ∧ Hid (i + q = m4 + 1) ∧ Hid (Keeps [w.heap.size + 1] W w5))
  case atStart => exact ⟨0, rfl, by omega, (by show Row _ _ _ _ _; rw [HBZ.out]; exact HRW.out), (show _ = _ from by omega), Keeps.refl _ _⟩
  case round =>
    obtain ⟨i, rfl, hi, HR, HQ, HKW⟩ := hrel
    have HC2 := Lib.hid (HG2.out.keeps HKW.out (by simp))
    have hc0 := HC2.out.c0
    have hc1 := HC2.out.c1
    by_cases hlt : i < m4
    · have hil : i < (fixL m4).length := by rw [HFL.out]; exact hlt
      obtain ⟨b2, o2, hb2, hq2⟩ := (HQ0.out.keeps HKW.out (fun ad e => by have := HF.out ad e; simp; omega)).cellAt i hil
      subst hb2
      obtain ⟨x, hx⟩ : ∃ x, (fixL m4)[i] = x := ⟨_, rfl⟩
      have hx' : (fixL m4).getD i 0 = x := by rw [List.getD_eq_getElem?_getD, List.getElem?_eq_getElem hil, hx]; rfl
      obtain ⟨x0, x1⟩ := HSM.out i
      have HST := Lib.hid (HSTP.out i hlt)
      rw [hx'] at x0 x1 HST
      rw [hx] at hq2
      clear hx hx' hil
      have hcr := HR.out.cell i (by rw [HBL.out i hi]; omega)
      have hfz := HR.out.frozen i
      have hik : (i : Int) < (k : Int) := by omega
      go_wp2_with fail
      go_roundg (gk - 1)
      case measure => have := HQ.out; omega
      case rel =>
        refine ⟨i + 1, by go_num, by omega, ?_, (show _ = _ from by have := HQ.out; omega), HKW.out.setCell (.inl (by simp)) _⟩
        show Row _ _ _ _ _
        rw [HST.out, Int.mul_comm 16 x]
        exact HR.out.set i (x * 16)
    · obtain rfl : i = m4 := by omega
      have HC0 := Lib.hid (HG0.out.keeps HKW.out (by simp))
      have hd0 := HC0.out.c0
      have hd1 := HC0.out.c1
      have hf0 := HC0.out.frozen 0
      have hf1 := HC0.out.frozen 1
      have HROW := Lib.hid HR.out
      rw [HBE.out] at HROW
      go_wp2_with fail
      have HE1 : Hid (((wr.setCell ⟨w.heap.size, 0, none⟩ (.slice (some ⟨w.heap.size + 1, 0, none⟩) k k)).setCell ⟨w.heap.size, 1, none⟩ (.int .i64 4)).heap[w.heap.size]? = some (.cells #[.slice (some ⟨w.heap.size + 1, 0, none⟩) k k, .int .i64 4] 59 (0, 0))) :=
        blk_set (blk_set HC0.out.hp 0 _) 1 (.int .i64 4)
      have HKE : Hid (Keeps [w.heap.size] wr ((wr.setCell ⟨w.heap.size, 0, none⟩ (.slice (some ⟨w.heap.size + 1, 0, none⟩) k k)).setCell ⟨w.heap.size, 1, none⟩ (.int .i64 4))) :=
        ((Keeps.refl _ wr).setCell (.inl (by simp)) _).setCell (.inl (by simp)) _
      refine bodyPost_ret (results_cell1 rfl _ _ w.heap.size 59 #[.slice (some ⟨w.heap.size + 1, 0, none⟩) k k, .int .i64 4] (0, 0) _ rfl HE1.out Tryd.underlying59 rfl (by kernel_rfl)) rfl ?_
      refine ⟨_, rfl, HROW.out.keeps HKE.out (fun b hb h => by rw [fp_some, List.mem_singleton] at hb; rw [List.mem_singleton] at h; omega), (fun b hb => by rw [fp_some, List.mem_singleton] at hb; omega), ?_⟩
      exact (HK0.out.then_ HKW.out (fun b hb hlt => by rw [List.mem_singleton] at hb; omega)).then_ HKE.out (fun b hb hlt => by rw [List.mem_singleton] at hb; omega)
end Go.Proofs.YtofkiimaoahfjaaDoor
