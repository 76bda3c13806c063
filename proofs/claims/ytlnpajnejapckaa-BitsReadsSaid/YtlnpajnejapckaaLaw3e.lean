/-
  The statement BitsReads of layer 3: the walk.
-/
import Derived.Test.YtlnpajnejapckaaRef3d
set_option linter.unusedVariables false
set_option linter.unusedSimpArgs false
namespace Go.Proofs.Ytlnpajnejapckaa
open Go.RowKit Go.Proofs.Ytlnpajnejapckaa.Pure

/-- Since w0 old memory stands as it did; the program's Reader at q is at bit t, the document's at g at bit u. -/
def RD (w0 w : World) (q : Nat) (bs : List Int) (t g u : Nat) : Prop := Keeps [] w0 w ∧ ∃ sv, IsR w q sv bs t ∧ IsD w g (unpack bs) u ∧ w0.heap.size ≤ q ∧ w0.heap.size ≤ g ∧ q ≠ g ∧ g ∉ fp sv
theorem RD.keeps {w0 w : World} {q : Nat} {bs : List Int} {t g u : Nat} (h : RD w0 w q bs t g u) : Keeps [] w0 w := h.1
theorem RD.doc {w0 w : World} {q : Nat} {bs : List Int} {t g u : Nat} (h : RD w0 w q bs t g u) : IsD w g (unpack bs) u := by
  obtain ⟨_, sv, _, h2, _⟩ := h
  exact h2
theorem RD.new {w0 w w' : World} {q : Nat} {bs : List Int} {t g u : Nat} (h : RD w0 w q bs t g u) (hk : Keeps [] w w') : RD w0 w' q bs t g u := by
  obtain ⟨h0, sv, h1, h2, h3⟩ := h
  exact ⟨h0.new hk, sv, h1.new hk, h2.new hk, h3⟩
theorem RD.stepR {w0 w w' : World} {q : Nat} {bs : List Int} {g u t' : Nat} {sv : Value} (hk0 : Keeps [] w0 w) (h2 : IsD w g (unpack bs) u) (h3 : w0.heap.size ≤ q) (h4 : w0.heap.size ≤ g) (h5 : q ≠ g) (h6 : g ∉ fp sv) (hr : IsR w' q sv bs t') (hk : Keeps [q] w w') : RD w0 w' q bs t' g u :=
  ⟨hk0.then_ hk (fun b hb hlt => by rw [List.mem_singleton] at hb; omega), sv, hr, h2.keeps hk (by rw [List.mem_singleton]; exact fun h => h5 h.symm), h3, h4, h5, h6⟩
theorem RD.stepD {w0 w w' : World} {q : Nat} {bs : List Int} {t g u' : Nat} {sv : Value} (hk0 : Keeps [] w0 w) (h1 : IsR w q sv bs t) (h3 : w0.heap.size ≤ q) (h4 : w0.heap.size ≤ g) (h5 : q ≠ g) (h6 : g ∉ fp sv) (hd : IsD w' g (unpack bs) u') (hk : Keeps [g] w w') : RD w0 w' q bs t g u' :=
  ⟨hk0.then_ hk (fun b hb hlt => by rw [List.mem_singleton] at hb; omega), sv, h1.keeps hk (by rw [List.mem_singleton]; exact h5) (fun b hb h => by rw [List.mem_singleton] at h; subst h; exact h6 hb), hd, h3, h4, h5, h6⟩
section
variable {w0 w : World} {q : Nat} {bs : List Int} {t g u : Nat}
theorem rdGet (k : Int) (h : Hid (RD w0 w q bs t g u)) :
    Calls Try.prog 17 #[.pointer (some ⟨q, 0, none⟩), .int .i64 k] w fun e w' => e = .returned (.tuple #[.int .i64 (gtN k (restB bs t)), .int .i64 (gtE k (restB bs t))]) ∧ RD w0 w' q bs (t + gtT k (restB bs t)) g u := by
  obtain ⟨h0, sv, h1, h2, h3, h4, h5, h6⟩ := h.out
  exact (rGet_calls q sv bs t k w h1).mono fun e w' ⟨he, hr, hk⟩ => ⟨he, RD.stepR h0 h2 h3 h4 h5 h6 hr hk⟩
theorem rdGetS (k : Int) (h : Hid (RD w0 w q bs t g u)) :
    Calls Try.prog 19 #[.pointer (some ⟨q, 0, none⟩), .int .i64 k] w fun e w' => e = .returned (.tuple #[.int .i64 (gsN k (restB bs t)), .int .i64 (gtE k (restB bs t))]) ∧ RD w0 w' q bs (t + gtT k (restB bs t)) g u := by
  obtain ⟨h0, sv, h1, h2, h3, h4, h5, h6⟩ := h.out
  exact (rGetSigned_calls q sv bs t k w h1).mono fun e w' ⟨he, hr, hk⟩ => ⟨he, RD.stepR h0 h2 h3 h4 h5 h6 hr hk⟩
theorem rdUn (h : Hid (RD w0 w q bs t g u)) :
    Calls Try.prog 34 #[.pointer (some ⟨q, 0, none⟩)] w fun e w' => e = .returned (.tuple #[.int .i64 (unRN (restB bs t)), .int .i64 (unRE (restB bs t))]) ∧ RD w0 w' q bs (t + unRT (restB bs t)) g u := by
  obtain ⟨h0, sv, h1, h2, h3, h4, h5, h6⟩ := h.out
  exact (rUnary_calls q sv bs t w h1).mono fun e w' ⟨he, hr, hk⟩ => ⟨he, RD.stepR h0 h2 h3 h4 h5 h6 hr hk⟩
theorem rdAl (h : Hid (RD w0 w q bs t g u)) :
    Calls Try.prog 30 #[.pointer (some ⟨q, 0, none⟩)] w fun e w' => e = .returned (.int .i64 (alE t (restB bs t))) ∧ RD w0 w' q bs (t + alT t (restB bs t)) g u := by
  obtain ⟨h0, sv, h1, h2, h3, h4, h5, h6⟩ := h.out
  exact (rAlign_calls q sv bs t w h1).mono fun e w' ⟨he, hr, hk⟩ => ⟨he, RD.stepR h0 h2 h3 h4 h5 h6 hr hk⟩
theorem rdAt (h : Hid (RD w0 w q bs t g u)) :
    Calls Try.prog 20 #[.pointer (some ⟨q, 0, none⟩)] w fun e w' => e = .returned (.int .i64 t) ∧ Keeps [] w w' := by
  obtain ⟨h0, sv, h1, _⟩ := h.out
  exact (rAt_calls q sv bs t w h1).mono fun e w' ⟨he, hk⟩ => ⟨he, by subst hk; exact Keeps.refl _ _⟩
theorem rdLeft (h : Hid (RD w0 w q bs t g u)) :
    Calls Try.prog 16 #[.pointer (some ⟨q, 0, none⟩)] w fun e w' => e = .returned (.int .i64 ((8 * bs.length - t : Nat) : Int)) ∧ Keeps [] w w' := by
  obtain ⟨h0, sv, h1, _⟩ := h.out
  exact rLeft_calls q sv bs t w h1
theorem ddGet (k : Int) (h : Hid (RD w0 w q bs t g u)) :
    Calls Try.prog 32 #[.pointer (some ⟨g, 0, none⟩), .int .i64 k] w fun e w' => e = .returned (.tuple #[.int .i64 (gtN k (restB bs u)), .int .i64 (gtE k (restB bs u))]) ∧ RD w0 w' q bs t g (u + gtT k (restB bs u)) := by
  obtain ⟨h0, sv, h1, h2, h3, h4, h5, h6⟩ := h.out
  exact (dGet_calls g (unpack bs) u k w h2).mono fun e w' ⟨he, hr, hk⟩ => ⟨he, RD.stepD h0 h1 h3 h4 h5 h6 hr hk⟩
theorem ddGetS (k : Int) (h : Hid (RD w0 w q bs t g u)) :
    Calls Try.prog 33 #[.pointer (some ⟨g, 0, none⟩), .int .i64 k] w fun e w' => e = .returned (.tuple #[.int .i64 (gsN k (restB bs u)), .int .i64 (gtE k (restB bs u))]) ∧ RD w0 w' q bs t g (u + gtT k (restB bs u)) := by
  obtain ⟨h0, sv, h1, h2, h3, h4, h5, h6⟩ := h.out
  exact (dGetSigned_calls g (unpack bs) u k w h2).mono fun e w' ⟨he, hr, hk⟩ => ⟨he, RD.stepD h0 h1 h3 h4 h5 h6 hr hk⟩
theorem ddUn (h : Hid (RD w0 w q bs t g u)) :
    Calls Try.prog 35 #[.pointer (some ⟨g, 0, none⟩)] w fun e w' => e = .returned (.tuple #[.int .i64 (unRN (restB bs u)), .int .i64 (unRE (restB bs u))]) ∧ RD w0 w' q bs t g (u + unRT (restB bs u)) := by
  obtain ⟨h0, sv, h1, h2, h3, h4, h5, h6⟩ := h.out
  exact (dUnary_calls g (unpack bs) u w h2).mono fun e w' ⟨he, hr, hk⟩ => ⟨he, RD.stepD h0 h1 h3 h4 h5 h6 hr hk⟩
theorem ddAl (h : Hid (RD w0 w q bs t g u)) :
    Calls Try.prog 36 #[.pointer (some ⟨g, 0, none⟩)] w fun e w' => e = .returned (.int .i64 (alE u (restB bs u))) ∧ RD w0 w' q bs t g (u + alT u (restB bs u)) := by
  obtain ⟨h0, sv, h1, h2, h3, h4, h5, h6⟩ := h.out
  exact (dAlign_calls g (unpack bs) u w (by rw [unpack_length]; omega) h2).mono fun e w' ⟨he, hr, hk⟩ => ⟨he, RD.stepD h0 h1 h3 h4 h5 h6 hr hk⟩
end

set_option maxHeartbeats 8000000 in
set_option maxRecDepth 100000 in
theorem bitsReads_walk (a0 : Option Addr) (len0 cap0 : Nat) (z0 : List Int) (a1 : Option Addr) (len1 cap1 : Nat) (z1 : List (Int × Int × Int)) (w : World) (w0 : InRow .u8 w a0 len0 cap0 z0) (s0 : cap0 * 1 ≤ 140737488351232) (w1 : InOps w a1 len1 cap1 z1) (s1 : cap1 * 24 ≤ 140737488351232) :
    Calls Try.prog 7 #[.slice a0 len0 cap0, .slice a1 len1 cap1] w fun e w' => e = .returned (.bool true) ∧ Below w.heap.size w w' := by
  obtain ⟨hlc, hat⟩ := w1.at
  have HAT := Lib.hid hat
  have hlr : len1 ≤ 6000000000000 := by omega
  obtain ⟨hr, hl, hw, hcap⟩ := w0.rd
  have hnc := w0.nil_cap
  generalize z0.take len0 = bs at *
  subst hl
  have HB : Hid (∀ x ∈ bs, 0 ≤ x ∧ x ≤ 255) := fun x hx => wf_u8 (hw x hx)
  have HR := Lib.hid hr
  have HNC := Lib.hid hnc
  have HK : Hid (Keeps [] w w) := Keeps.refl _ _
  have hbl : bs.length ≤ 140737488351232 := by omega
  clear hat w1 s1 hlc hw w0 s0 hr hnc hcap
  go_enter Try.func7, Try.ntmps7
  go_upto_region 4 with (first
    | (go_at_call 9; go_must (refine (bknown_calls _).mono ?_); rintro e w1 ⟨rfl, hk1⟩; replace HK : Hid (Keeps [] w w1) := HK.out.new hk1; clear hk1)
    | (go_at_call 29; go_must (refine (bnobody_calls _).mono ?_); rintro e w2 ⟨rfl, rfl⟩)
    | (go_at_call 17; go_must (refine (nilGet_calls _ _).mono ?_); rintro e w2 ⟨rfl, rfl⟩)
    | (go_at_call 16; go_must (refine (nilLeft_calls _).mono ?_); rintro e w2 ⟨rfl, rfl⟩)
    | (go_at_call 30; go_must (refine (nilRAlign_calls _).mono ?_); rintro e w2 ⟨rfl, rfl⟩))
  by_cases hlen : 2000 < bs.length
  · go_wp2_with fail
    go_ret
    exact ⟨rfl, HK.out.below⟩
  · have HSP := Lib.hid (Rd.spot HR.out)
    have hbs : bs.length ≤ 2000 := by omega
    have HL1 : Hid ((0 + bs.length) * 1 ≤ 140737488355328) := (show _ ≤ _ from by omega)
    clear hlen hbl
    obtain ⟨wk, rfl⟩ : ∃ x : World, x = w1 := ⟨_, rfl⟩
    have HKA := Lib.hid (HK.out.alloc (.cells #[] 5))
    have HRX := Lib.hid (HR.out.new HKA.out)
    go_upto_region 8 with (first
      | (at_builtin; go_must (refine wp_appR (W := wk.alloc (.cells #[] 5)) ?hg (.tmp 40) (.tmp 41) 22 5 .u8 1 ?ho Try.underlying22 info_u8 (by decide) (.slice (some ⟨wk.heap.size, 0, none⟩) 0 0) [] bs ?hs a0 cap0 ?hx (Row.litNil wk .u8 5) HRX.out HNC.out HSP.out HL1.out ?_; (case ho => rfl); (case hg => rfl); (case hs => rfl); (case hx => rfl)); intro v3 w3 hr3 hk3 hf3; rw [List.nil_append] at hr3; obtain ⟨a3, c3, rfl, hrd3⟩ := hr3.rd; have HR3 := Lib.hid hr3; have HNC3 := Lib.hid hr3.noneCapB; have HK3 : Hid (Keeps [] wk w3) := ((Keeps.refl [] wk).alloc _).then_ hk3 (fun b hb hlt => by rw [fp_some, List.mem_singleton] at hb; omega); have HF3 : Hid (∀ b, b ∈ fp (.slice a3 bs.length c3) → wk.heap.size ≤ b) := (fun b hb => by rcases hf3 b hb with h | h; (rw [fp_some, List.mem_singleton] at h; omega); (rw [World.size_alloc] at h; omega)); have HRD3 := Lib.hid hrd3; clear hr3 hk3 hf3 hrd3)
      | (go_at_call 15; go_must (with_reducible refine (newReader_calls bs _ rfl a3 c3 _ (HNC3.out) (by omega) HB.out HRD3).mono ?_); rintro e w4 ⟨q, sv, rfl, hi4, hf4, hq4, hk4⟩; have HI4 := Lib.hid hi4; have HF4 := Lib.hid hf4; have HQ4 := Lib.hid hq4; have HK4 := Lib.hid hk4; clear hi4 hf4 hq4 hk4))
    have HR4 := Lib.hid (HR3.out.keeps HK4.out (fun _ _ => by simp))
    have HLT := Lib.hid HR3.out.lt
    have HW4 := Lib.hid ((HK.out.new HK3.out).new HK4.out)
    have HWS := Lib.hid HK.out.size
    have HS3 : Hid (w.heap.size ≤ w3.heap.size) := (HK.out.new HK3.out).size
    clear HR3 HRD3 HNC3 HK4 HKA HRX HL1 HSP HK3 HK
    go_wp2_with fail
    go_loopg [9] (bs.length + 1) (fun q' v9 wr => ∃ (j : Nat) (xs : List Int), v9 = .int .i64 j ∧ j ≤ bs.length ∧ Hid (xs.length = bs.length) ∧ Hid (j + q' = bs.length + 1) ∧
      Hid (Row wr .u8 5 (.slice a3 bs.length c3) xs) ∧ Hid (Keeps (fp (.slice a3 bs.length c3)) w4 wr))
    case atStart => exact ⟨0, _, rfl, by omega, (show _ = _ from rfl), (show _ = _ from by omega), HR4.out, Keeps.refl _ _⟩
    case round =>
      obtain ⟨j, xs, rfl, hj, HX, HJ, HRj, HKj⟩ := hrel
      by_cases hlt : j < bs.length
      · obtain ⟨g3, c', he⟩ := HRj.out.form (by have := HX.out; omega)
        simp only [Value.slice.injEq] at he
        obtain ⟨rfl, -, rfl⟩ := he
        obtain ⟨vx, hx⟩ : ∃ v, wr.cell? ⟨g3, j, none⟩ = some v := ⟨_, HRj.out.cell j (by have := HX.out; omega)⟩
        have hc := HRj.out.frozen j
        have HS := Lib.hid (HRj.out.set j 85)
        go_wp2_with fail
        go_roundg (bs.length - j)
        case measure => have := HJ.out; omega
        case rel => exact ⟨j + 1, xs.set j 85, by go_num, by omega, (show _ = _ from by rw [List.length_set]; exact HX.out), (show _ = _ from by have := HJ.out; omega), HS.out, HKj.out.setCell (.inl (by simp [fp_some])) _⟩
      · have HI5 := Lib.hid (HI4.out.keeps HKj.out (fun h => by have h1 := HLT.out _ h; have h2 := HQ4.out; omega) (fun b hb h => by have h1 := HLT.out _ h; have h2 := HF4.out b hb; omega))
        have HW5 := Lib.hid (HW4.out.then_ HKj.out (fun b hb hlt => by have h1 := HF3.out b hb; have h2 := HWS.out; omega))
        have HQ5 : Hid (w.heap.size ≤ q) := (show _ ≤ _ from Nat.le_trans HS3.out HQ4.out)
        clear HI4 HF4 HQ4 HW4 HR4 HRj HKj HLT HF3 HWS hj HJ HX
        go_upto_region 13 with (first
          | (go_at_call 31; go_must (with_reducible refine (dText_calls bs _ rfl a0 cap0 _ (by omega) HB (Lib.hid (HR.out.new HW5.out))).mono ?_); rintro e w6 ⟨rfl, hk6⟩; have HK6 := Lib.hid hk6; clear hk6))
        have hUL : (unpack bs).length ≤ 1000000000 := by rw [unpack_length]; omega
        have HRD0 : Hid (RD w (w6.alloc (.cells #[.string (dstr (unpack bs)), .int .i64 0] 54)) q bs 0 w6.heap.size 0) := by
          refine ⟨(HW5.out.new HK6.out).alloc _, sv, (HI5.out.new HK6.out).new ((Keeps.refl _ _).alloc _), ⟨⟨heap_alloc_new _ _⟩, Nat.zero_le _, hUL⟩, HQ5.out, ?_, ?_, ?_⟩
          · exact (HW5.out.new HK6.out).size
          · have h1 := (HI5.out.new HK6.out).duo.lt; omega
          · intro h; have h1 := (HI5.out.new HK6.out).row.lt _ h; omega
        clear HI5 HW5 HQ5 HS3 HB HR HNC hlt hUL
        generalize w6.alloc (.cells #[.string (dstr (unpack bs)), .int .i64 0] 54) = w7 at *
        generalize w6.heap.size = g at *
        clear HK6
        go_wp2_with fail
        go_loopg [11] 61 (fun q' v11 wr => ∃ (i t : Nat), v11 = .int .i64 i ∧ i ≤ 60 ∧ Hid (i + q' = 61) ∧ Hid (RD w wr q bs t g t))
        case atStart => exact ⟨0, 0, rfl, by omega, (show _ = _ from by omega), HRD0.out⟩
        case round =>
          obtain ⟨i, t, rfl, hi, HQ, HW⟩ := hrel
          obtain ⟨g1, rfl⟩ : ∃ g : Nat, g = gk := ⟨_, rfl⟩
          clear HRD0
          by_cases hil : i < len1
          · by_cases hi60 : i < 60
            · obtain ⟨b, o, kd, n, k, rfl, hop⟩ := HAT.out i hil
              have HO := Lib.hid (hop.new HW.out.keeps)
              have hc0 := HO.out.c0
              have hc2 := HO.out.c2
              have HOP := Lib.hid hop
              clear HAT hop
              go_upto_block 4 with fail
              go_cut [12, 13, 14, 15] (fun v12 v13 v14 v15 wx => ∃ (x e : Int) (t' : Nat), v12 = .int .i64 x ∧ v13 = .int .i64 x ∧ v14 = .int .i64 e ∧ v15 = .int .i64 e ∧ Hid (RD w wx q bs t' g t'))
              case first =>
                by_cases k1 : kd = 1
                · subst k1
                  go_wp2_with (first
                    | (go_at_call 17; go_must (with_reducible refine (rdGet k HW).mono ?_); rintro e w3 ⟨rfl, hW3⟩; have hd2 := (HOP.out.new hW3.keeps).c2; have HW3 := Lib.hid hW3; clear hW3)
                    | (go_at_call 32; go_must (with_reducible refine (ddGet k HW3).mono ?_); rintro e w4 ⟨rfl, hW4⟩; have HW4 := Lib.hid hW4; clear hW4))
                  go_meet
                  exact ⟨_, _, _, rfl, rfl, rfl, rfl, HW4.out⟩
                · by_cases k2 : kd = 2
                  · subst k2
                    go_wp2_with (first
                      | (go_at_call 19; go_must (with_reducible refine (rdGetS k HW).mono ?_); rintro e w3 ⟨rfl, hW3⟩; have hd2 := (HOP.out.new hW3.keeps).c2; have HW3 := Lib.hid hW3; clear hW3)
                      | (go_at_call 33; go_must (with_reducible refine (ddGetS k HW3).mono ?_); rintro e w4 ⟨rfl, hW4⟩; have HW4 := Lib.hid hW4; clear hW4))
                    go_meet
                    exact ⟨_, _, _, rfl, rfl, rfl, rfl, HW4.out⟩
                  · by_cases k3 : kd = 3
                    · subst k3
                      go_wp2_with (first
                        | (go_at_call 34; go_must (with_reducible refine (rdUn HW).mono ?_); rintro e w3 ⟨rfl, hW3⟩; have HW3 := Lib.hid hW3; clear hW3)
                        | (go_at_call 35; go_must (with_reducible refine (ddUn HW3).mono ?_); rintro e w4 ⟨rfl, hW4⟩; have HW4 := Lib.hid hW4; clear hW4))
                      go_meet
                      exact ⟨_, _, _, rfl, rfl, rfl, rfl, HW4.out⟩
                    · have q1 : (kd == 1) = false := beq_eq_false_iff_ne.2 k1
                      have q2 : (kd == 2) = false := beq_eq_false_iff_ne.2 k2
                      have q3 : (kd == 3) = false := beq_eq_false_iff_ne.2 k3
                      clear k1 k2 k3
                      by_cases k4 : kd = 4
                      · subst k4
                        go_wp2_with (first
                          | (go_at_call 30; go_must (with_reducible refine (rdAl HW).mono ?_); rintro e w3 ⟨rfl, hW3⟩; have HW3 := Lib.hid hW3; clear hW3)
                          | (go_at_call 36; go_must (with_reducible refine (ddAl HW3).mono ?_); rintro e w4 ⟨rfl, hW4⟩; have HW4 := Lib.hid hW4; clear hW4))
                        go_meet
                        exact ⟨_, _, _, rfl, rfl, rfl, rfl, HW4.out⟩
                      · have q4 : (kd == 4) = false := beq_eq_false_iff_ne.2 k4
                        clear k4
                        go_wp2_with fail
                        go_meet
                        exact ⟨_, _, _, rfl, rfl, rfl, rfl, HW.out⟩
              case rest =>
                clear HW hc0 hc2 HO
                obtain ⟨x, e, t1, rfl, rfl, rfl, rfl, HW⟩ := hcut
                obtain ⟨wa, rfl⟩ : ∃ x : World, x = wc := ⟨_, rfl⟩
                go_upto_region 31 with fail
                obtain ⟨N, hN⟩ : ∃ N, (unpack bs).length = N := ⟨_, rfl⟩
                have hN8 : 8 * bs.length = N := by rw [← hN, unpack_length]
                have hdl := HW.out.doc.at_le
                have hc0 := HW.out.doc.duo.c0
                have hc1 := HW.out.doc.duo.c1
                have hsz := dstr_size (unpack bs)
                rw [hN] at hsz hdl
                generalize dstr (unpack bs) = DS at *
                obtain ⟨LT, hLT⟩ : ∃ LT, N - t1 = LT := ⟨_, rfl⟩
                have hsub : IntKind.i64.wrap ((N : Int) - (t1 : Int)) = (LT : Int) := by rw [IntWalk.i64_in _ (by omega)]; omega
                have HLE : Hid (8 * bs.length - t1 = LT) := (show _ = _ from by omega)
                clear hN hN8 hLT
                go_cut [166] (fun c wx => c = .bool false ∧ Hid (RD w wx q bs t1 g t1))
                case first =>
                  go_region_held3 (fun w' => Keeps [] wa w' ∧ w'.cell? ⟨g, 0, none⟩ = some (.string DS) ∧ w'.cell? ⟨g, 1, none⟩ = some (.int .i64 t1))
                    (first
                      | (exact ⟨(Keeps.refl [] wa).drew, hc0, hc1⟩)
                      | (go_split_ands; refine ⟨Keeps.new (by assumption) hkN, hkN.cell (by assumption) (by simp), hkN.cell (by assumption) (by simp)⟩)
                      | go_keep)
                    (first
                      | (go_at_call 20; go_split_ands; go_must (with_reducible refine (rdAt (w0 := w) (q := q) (bs := bs) (t := t1) (g := g) (u := t1) ?hrd).mono ?_); (case hrd => exact Lib.hid (HW.out.new (by assumption))); rintro e wo ⟨rfl, hkN⟩)
                      | (go_at_call 16; go_split_ands; go_must (with_reducible refine (rdLeft (w0 := w) (q := q) (bs := bs) (t := t1) (g := g) (u := t1) ?hrd).mono ?_); (case hrd => exact Lib.hid (HW.out.new (by assumption))); rw [HLE.out]; rintro e wo ⟨rfl, hkN⟩))
                  all_goals
                    go_wp2_with fail
                    go_meet
                    go_split_ands
                    exact ⟨rfl, Lib.hid (HW.out.new (by assumption))⟩
                case rest =>
                  obtain ⟨rfl, HWR⟩ := hcut
                  clear HW
                  go_wp2_with fail
                  go_roundg (g1 - 1)
                  case measure => have := HQ.out; omega
                  case rel => exact ⟨i + 1, t1, by go_num, by omega, (show _ = _ from by have := HQ.out; omega), HWR.out⟩
            · go_wp2_with fail
              go_ret
              exact ⟨rfl, HW.out.keeps.below⟩
          · go_wp2_with fail
            go_ret
            exact ⟨rfl, HW.out.keeps.below⟩
end Go.Proofs.Ytlnpajnejapckaa
