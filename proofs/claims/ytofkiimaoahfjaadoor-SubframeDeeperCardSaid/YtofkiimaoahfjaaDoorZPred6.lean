/-
  Layer 7 (predict): what is left of samples, as lists.
  Layer 7 (predict): what is left of samples, by the document.
  Layer 7 (predict): how much is left (Cost and DocCost).
-/
import Derived.Test.YtofkiimaoahfjaaDoorZPred1
import Derived.Deep.RegionHeld3
import Derived.IntWalk
import Derived.Deep.AppendLies
set_option maxRecDepth 100000
set_option linter.unusedVariables false
set_option linter.unusedSimpArgs false
namespace Go.Proofs.YtofkiimaoahfjaaDoor
open Go.RowKit

/-- What is left of sample number i. -/
def leftAt (cs : List Int) (sh : Int) (xs : List Int) (i : Nat) : Int := xs.getD i 0 - predI cs sh (xs.take i)
/-- What is left of samples. -/
def leftL (cs : List Int) (sh : Int) (xs : List Int) : List Int := (List.range (xs.length - cs.length)).map fun t => leftAt cs sh xs (cs.length + t)
theorem leftL_length (cs : List Int) (sh : Int) (xs : List Int) : (leftL cs sh xs).length = xs.length - cs.length := by simp [leftL]
theorem leftL_get (cs : List Int) (sh : Int) (xs : List Int) (t : Nat) (h : t < (leftL cs sh xs).length) : (leftL cs sh xs)[t] = leftAt cs sh xs (cs.length + t) := by simp [leftL]
theorem leftL_snoc (cs : List Int) (sh : Int) (xs : List Int) (t : Nat) (h : cs.length + t < xs.length) : (leftL cs sh xs).take (t + 1) = (leftL cs sh xs).take t ++ [leftAt cs sh xs (cs.length + t)] := by
  have h1 : t < (leftL cs sh xs).length := by rw [leftL_length]; omega
  rw [List.take_succ_eq_append_getElem h1, leftL_get]

/-- Residual's error. -/
def resE (cs : List Int) (sh : Int) (xs : List Int) : Int :=
  if rightB cs sh = false then 2 else if xs.length < cs.length then 1 else if xs.all inB = false then 12 else if (leftL cs sh xs).all inB = false then 12 else 0
/-- Residual's answer. -/
def resO (cs : List Int) (sh : Int) (xs : List Int) : List Int := if resE cs sh xs = 0 then leftL cs sh xs else []

theorem all_inB {xs : List Int} (h : xs.all inB = true) : ∀ x ∈ xs, -2147483648 < x ∧ x < 2147483648 := fun x hx => (inB_iff x).1 (List.all_eq_true.1 h x hx)
theorem all_cfB {xs : List Int} (h : xs.all cfB = true) : ∀ x ∈ xs, -2048 ≤ x ∧ x ≤ 2047 := fun x hx => (cfB_iff x).1 (List.all_eq_true.1 h x hx)
theorem Fit.of {cs xs : List Int} {sh : Int} (hr : rightB cs sh = true) (hx : xs.all inB = true) (i : Nat) (h1 : cs.length ≤ i) (h2 : i ≤ xs.length) : Fit cs (xs.take i) := by
  obtain ⟨r1, r2, r3, r4⟩ := (rightB_iff cs sh).1 hr
  exact ⟨r1, by simp; omega, all_cfB r4, fun x h => all_inB hx x (List.mem_of_mem_take h)⟩
theorem predI_bound {cs xs : List Int} {sh : Int} (h : Fit cs xs) : -35184372088832 ≤ predI cs sh xs ∧ predI cs sh xs ≤ 35184372088832 := by
  obtain ⟨t0, t1⟩ := h.total
  have hd : (0 : Int) < 2 ^ sh.toNat := Int.pow_pos (by omega)
  unfold predI
  generalize dotp cs xs.reverse = n at *
  generalize (2 : Int) ^ sh.toNat = d at *
  have h2 := Int.mul_ediv_add_emod n d
  have h3 := Int.emod_nonneg n (by omega : d ≠ 0)
  have h4 := Int.emod_lt_of_pos n hd
  constructor
  · rcases Int.lt_or_le (n / d) (-35184372088832) with h | h
    · have : d * (n / d) ≤ 1 * (n / d) := Int.mul_le_mul_of_nonpos_right (by omega) (by omega)
      have : d * (n / d + 1) ≤ 1 * (n / d + 1) := Int.mul_le_mul_of_nonpos_right (by omega) (by omega)
      rw [Int.mul_add] at this
      omega
    · exact h
  · rcases Int.lt_or_le 35184372088832 (n / d) with h | h
    · have : 1 * (n / d) ≤ d * (n / d) := Int.mul_le_mul_of_nonneg_right (by omega) (by omega)
      omega
    · exact h

set_option maxHeartbeats 2000000 in
theorem residual_calls (cs xs : List Int) (sh : Int) (m n : Nat) (hm : m = cs.length) (a b : Option Addr) (c d : Nat) (w : World) (hn : n = xs.length) (hd : xs.length ≤ d) (hl : xs.length ≤ 1000000)
    (hc : Hid (Rd w .i64 a cs)) (hx : Hid (Rd w .i64 b xs)) :
    Calls Tryd.prog 86 #[.agg #[.slice a m c, .int .i64 sh], .slice b n d] w fun e w' =>
      ∃ v, e = .returned (.tuple #[v, .int .i64 (resE cs sh xs)]) ∧ Row w' .i64 3 v (resO cs sh xs) ∧ (∀ b, b ∈ fp v → w.heap.size ≤ b) ∧ Keeps [] w w' := by
  subst hm hn
  have hcl := hc.out.small
  have HK0 : Hid (Keeps [] w (w.alloc (.cells #[.slice a cs.length c, .int .i64 sh] 59))) := (Keeps.refl _ _).alloc _
  have HC : Hid (Rd (w.alloc (.cells #[.slice a cs.length c, .int .i64 sh] 59)) .i64 a cs) := hc.out.new HK0.out
  have HX : Hid (Rd (w.alloc (.cells #[.slice a cs.length c, .int .i64 sh] 59)) .i64 b xs) := hx.out.new HK0.out
  have HB := Lib.hid (Box.made w (.slice a cs.length c) (.int .i64 sh) 59)
  have HSZ : Hid (∀ w' : World, Keeps [] (w.alloc (.cells #[.slice a cs.length c, .int .i64 sh] 59)) w' → w.heap.size ≤ w'.heap.size) := fun w' h => Nat.le_trans HK0.out.size h.size
  cases hr : rightB cs sh
  · have HR : Hid (resE cs sh xs = 2 ∧ resO cs sh xs = [] ∧ checkE cs sh = 2) := by
      have : resE cs sh xs = 2 := by unfold resE; rw [if_pos hr]
      refine ⟨this, ?_, ?_⟩
      · unfold resO; rw [this]; rfl
      · unfold checkE; rw [hr]; rfl
    clear hr
    go_enter Tryd.func86, Tryd.ntmps86
    go_wp2_with (first
      | (go_at_call 110; go_must (with_reducible refine (check_calls cs sh _ rfl a c _ HC).mono ?_); rw [HR.out.2.2]; rintro e w2 ⟨rfl, hk2⟩))
    go_ret2
    refine ⟨_, by rw [HR.out.1]; rfl, ?_, ?_, HK0.out.new hk2⟩
    · rw [HR.out.2.1]; exact Row.nil _ _ _
    · intro b hb; cases hb
  · have HCE : Hid (checkE cs sh = 0) := by show _ = _; unfold checkE; rw [hr]; rfl
    by_cases hlen : xs.length < cs.length
    · have HR : Hid (resE cs sh xs = 1 ∧ resO cs sh xs = []) := by
        have : resE cs sh xs = 1 := by unfold resE; rw [if_neg (by rw [hr]; simp), if_pos hlen]
        refine ⟨this, ?_⟩
        unfold resO; rw [this]; rfl
      clear hr
      go_enter Tryd.func86, Tryd.ntmps86
      go_wp2_with (first
        | (go_at_call 110; go_must (with_reducible refine (check_calls cs sh _ rfl a c _ HC).mono ?_); rw [HCE.out]; rintro e w2 ⟨rfl, hk2⟩; obtain ⟨hb0, hb1⟩ := HB.out.new hk2))
      go_ret2
      refine ⟨_, by rw [HR.out.1]; rfl, ?_, ?_, HK0.out.new hk2⟩
      · rw [HR.out.2]; exact Row.nil _ _ _
      · intro b hb; cases hb
    · cases hin : xs.all inB
      · have HR : Hid (resE cs sh xs = 12 ∧ resO cs sh xs = []) := by
          have : resE cs sh xs = 12 := by unfold resE; rw [if_neg (by rw [hr]; simp), if_neg hlen, if_pos hin]
          refine ⟨this, ?_⟩
          unfold resO; rw [this]; rfl
        have HIN := Lib.hid hin
        clear hr hin
        go_enter Tryd.func86, Tryd.ntmps86
        go_wp2_with (first
          | (go_at_call 110; go_must (with_reducible refine (check_calls cs sh _ rfl a c _ HC).mono ?_); rw [HCE.out]; rintro e w2 ⟨rfl, hk2⟩; obtain ⟨hb0, hb1⟩ := HB.out.new hk2)
          | (go_at_call 50; go_must (with_reducible refine (contains_wide xs _ rfl b d _ (Lib.hid (HX.out.new hk2))).mono ?_); rw [HIN.out]; rintro e w3 ⟨rfl, rfl⟩))
        go_ret2
        refine ⟨_, by rw [HR.out.1]; rfl, ?_, ?_, HK0.out.new hk2⟩
        · rw [HR.out.2]; exact Row.nil _ _ _
        · intro b hb; cases hb
      · have HE : Hid (resE cs sh xs = if (leftL cs sh xs).all inB = false then 12 else 0) := by
          show _ = _
          unfold resE
          rw [if_neg (by rw [hr]; simp), if_neg hlen, if_neg (by rw [hin]; simp)]
        obtain ⟨r1, r2, r3, r4⟩ := (rightB_iff cs sh).1 hr
        have HFIT := Lib.hid (fun i => Fit.of hr hin i)
        have HIN := Lib.hid hin
        have HALL := Lib.hid (all_inB hin)
        clear hr hin r4
        go_enter Tryd.func86, Tryd.ntmps86
        go_wp2_with (first
          | (go_at_call 110; go_must (with_reducible refine (check_calls cs sh _ rfl a c _ HC).mono ?_); rw [HCE.out]; rintro e w2 ⟨rfl, hk2⟩; obtain ⟨hb0, hb1⟩ := HB.out.new hk2)
          | (go_at_call 50; go_must (with_reducible refine (contains_wide xs _ rfl b d _ (Lib.hid (HX.out.new hk2))).mono ?_); rw [HIN.out]; rintro e w3 ⟨rfl, rfl⟩))
        have HC2 := Lib.hid (HC.out.new hk2)
        have HX2 := Lib.hid (HX.out.new hk2)
        have HB2 := Lib.hid (HB.out.new hk2)
        have HS2 := Lib.hid (HSZ.out _ hk2)
        have HK2 := Lib.hid (HK0.out.new hk2)
        clear HC HX HB HSZ HK0 hk2 hb0 hb1
        go_loopg [6, 7, 8] (xs.length + 1) (fun q v6 v7 v8 w4 => ∃ (i t : Nat), v7 = .int .i64 i ∧ i ≤ xs.length ∧ Hid (i = cs.length + t) ∧ Hid (Row w4 .i64 3 v6 ((leftL cs sh xs).take t)) ∧ Hid (∀ b, b ∈ fp v6 → w2.heap.size ≤ b) ∧ Hid (((leftL cs sh xs).take t).all inB = true) ∧ Hid (t + q = xs.length + 1) ∧ Hid (Keeps [] w w4) ∧ Hid (Keeps [] w2 w4))
        case atStart => exact ⟨cs.length, 0, rfl, by omega, (show _ = _ from rfl), Row.nil _ _ _, (fun b hb => by cases hb), (show _ = _ from by simp), (show _ = _ from by omega), HK2.out, Keeps.refl _ _⟩
        case round =>
          obtain ⟨i, t, rfl, hi, HI, HROW, HFR, HTA, HQ, HKA, HKB⟩ := hrel
          by_cases hlt : i < xs.length
          · have HFI := Lib.hid (HFIT.out i (by rw [HI.out]; omega) (by omega))
            obtain ⟨p0, p1⟩ := predI_bound (sh := sh) HFI.out
            obtain ⟨b2, o2, hb2, hc2⟩ := (HX2.out.new HKB.out).cellAt i hlt
            subst hb2
            obtain ⟨hbx0, hbx1⟩ := HB2.out.new HKB.out
            obtain ⟨x, hx1⟩ : ∃ x, xs[i] = x := ⟨_, rfl⟩
            obtain ⟨x0, x1⟩ := HALL.out x (hx1 ▸ List.getElem_mem hlt)
            have HLA : Hid (leftAt cs sh xs i = x - predI cs sh (xs.take i)) := by
              show _ = _
              unfold leftAt
              rw [List.getD_eq_getElem?_getD, List.getElem?_eq_getElem hlt, hx1]
              rfl
            rw [hx1] at hc2
            clear hx1
            have HX5 := Lib.hid (HX2.out.new HKB.out)
            have HC5 := Lib.hid (HC2.out.new HKB.out)
            obtain ⟨y, hy⟩ : ∃ y, predI cs sh (xs.take i) = y := ⟨_, rfl⟩
            rw [hy] at HLA p0 p1
            have HY := Lib.hid hy
            clear hy
            obtain ⟨w5, rfl⟩ : ∃ w5 : World, w5 = wr := ⟨_, rfl⟩
            have HTL : Hid ((xs.take i).length = i) := by show _ = _; simp; omega
            go_upto_region 11 with fail
            have hkk : Keeps [] w5 w5 := Keeps.refl _ _
            have hii : (0 : Int) ≤ (i : Int) := by omega
            have hid : (i : Int) ≤ (d : Int) := by omega
            have hz0 : -35186519572480 ≤ x - y := by omega
            have hz1 : x - y ≤ 35186519572480 := by omega
            have hsub : IntKind.i64.wrap (x - y) = x - y := IntWalk.i64_in _ (by omega)
            go_region_held3 (fun w' => w'.cell? ⟨b2, o2 + i, none⟩ = some (.int .i64 x) ∧ w'.cell? ⟨w.heap.size, 0, none⟩ = some (.slice a cs.length c) ∧ w'.cell? ⟨w.heap.size, 1, none⟩ = some (.int .i64 sh) ∧ Keeps [] w5 w') (first | (exact ⟨hc2, hbx0, hbx1, hkk.drew⟩) | (exact ⟨hk6.cell hc2 (by simp), hk6.cell hbx0 (by simp), hk6.cell hbx1 (by simp), hkk.drew.new hk6⟩) | go_keep)
              (first | (go_at_call 111; go_must (with_reducible refine (predict_calls cs (xs.take i) sh _ i rfl a _ c _ _ r2 r3 HTL.out.symm (Lib.hid (HC5.out.new (hkk.drew))) (Lib.hid ((HX5.out.take i).new hkk.drew)) HFI).mono ?_); rw [HY.out]; rintro e w6 ⟨rfl, hk6⟩))
            clear hsub hii hid
            obtain ⟨z, hz⟩ : ∃ z, x - y = z := ⟨_, rfl⟩
            rw [hz] at HLA hz0 hz1 ⊢
            clear hz hkk hbx0 hbx1 hc2
            have HK6 : Hid (Keeps [] w5 w6) := ((Keeps.refl [] w5).drew).new hk6
            clear hk6
            have HTT : t < (leftL cs sh xs).length := by rw [leftL_length]; have := HI.out; omega
            have HSN := Lib.hid (leftL_snoc cs sh xs t (by have := HI.out; omega))
            rw [← HI.out, HLA.out] at HSN
            cases hzb : inB z
            · have HZB := Lib.hid hzb
              have HBAD : Hid (resE cs sh xs = 12 ∧ resO cs sh xs = []) := by
                have h1 : (leftL cs sh xs).all inB = false := by
                  rw [List.all_eq_false]
                  exact ⟨(leftL cs sh xs)[t], List.getElem_mem HTT, by rw [leftL_get, ← HI.out, HLA.out, hzb]; simp⟩
                have : resE cs sh xs = 12 := by rw [HE.out, if_pos h1]
                exact ⟨this, by unfold resO; rw [this]; rfl⟩
              clear hzb HTT
              go_wp2_with (first
                | (go_at_call 88; go_must (refine (wide_calls z _).mono ?_); rw [HZB.out]; rintro e w7 ⟨rfl, rfl⟩))
              go_ret2
              refine ⟨_, by rw [HBAD.out.1]; rfl, ?_, ?_, HKA.out.new HK6.out⟩
              · rw [HBAD.out.2]; exact Row.nil _ _ _
              · intro b hb; cases hb
            · have HZB := Lib.hid hzb
              have HTL2 : Hid (((leftL cs sh xs).take t).length = t) := by show _ = _; rw [List.length_take]; omega
              have HBD : Hid ((((leftL cs sh xs).take t).length + 1) * 8 ≤ 140737488355328) := by
                show _ ≤ _
                rw [HTL2.out]
                have := HI.out
                omega
              have HR6 := Lib.hid (HROW.out.keeps HK6.out (fun _ _ => by simp))
              have HLT := Lib.hid (HROW.out.lt)
              clear hzb HTT
              go_wp2_with (first
                | (go_at_call 88; go_must (refine (wide_calls z _).mono ?_); rw [HZB.out]; rintro e w7 ⟨rfl, rfl⟩)
                | (at_builtin; go_must (refine wp_app1 (W := w6) rfl (.tmp 44) (.tmp 46) 22 3 .i64 8 rfl Tryd.underlying22 info_i64 (by decide) _ _ z rfl rfl HR6.out HBD.out ?_); intro v7 w7 hr7 hk7 hf7))
              go_roundg (xs.length - t)
              case measure => have := HQ.out; have := HI.out; omega
              case rel =>
                have hk7' : Keeps (fp u6) w6 w7 := hk7
                have hf7' : ∀ b, b ∈ fp v7 → b ∈ fp u6 ∨ w6.heap.size ≤ b := hf7
                refine ⟨i + 1, t + 1, by go_num, by omega, (show _ = _ from by have := HI.out; omega), ?_, ?_, ?_, (show _ = _ from by have := HQ.out; have := HI.out; omega), ?_, ?_⟩
                · show Row _ _ _ _ _
                  rw [HSN.out]
                  exact hr7
                · intro b hb
                  rcases hf7' b hb with h | h
                  · exact HFR.out b h
                  · exact Nat.le_trans (HKB.out.new HK6.out).size h
                · show _ = _
                  rw [HSN.out, List.all_append, HTA.out]
                  simp [HZB.out]
                · exact (HKA.out.new HK6.out).then_ hk7' (fun b hb hlt => by have h1 := HFR.out b hb; have h2 := HS2.out; omega)
                · exact (HKB.out.new HK6.out).then_ hk7' (fun b hb hlt => by have h1 := HFR.out b hb; omega)
          · obtain rfl : i = xs.length := by omega
            have HTL : Hid ((leftL cs sh xs).take t = leftL cs sh xs) := by
              show _ = _
              rw [List.take_of_length_le]
              rw [leftL_length]
              have := HI.out
              omega
            have HZ : Hid (resE cs sh xs = 0 ∧ resO cs sh xs = leftL cs sh xs) := by
              have h1 := HTA.out
              rw [HTL.out] at h1
              have : resE cs sh xs = 0 := by rw [HE.out, if_neg (by rw [h1]; simp)]
              exact ⟨this, by unfold resO; rw [if_pos this]⟩
            go_wp2_with fail
            go_ret2
            refine ⟨_, by rw [HZ.out.1]; rfl, ?_, ?_, HKA.out⟩
            · rw [HZ.out.2, ← HTL.out]; exact HROW.out
            · intro b hb
              exact Nat.le_trans HS2.out (HFR.out b hb)
end Go.Proofs.YtofkiimaoahfjaaDoor

set_option maxRecDepth 100000
set_option linter.unusedVariables false
set_option linter.unusedSimpArgs false
namespace Go.Proofs.YtofkiimaoahfjaaDoor
open Go.RowKit

/-- append(v, y) at a step of a region that draws its order. -/
theorem step_app1 {P : Program} {ops : Array Oper} {o : Oper} {a : Act} {K : Act → World → Prop} {Q : Exit → Act → World → Prop} {E : Prop} (w : World) (hgd : o.guard = none) (s x : Operand) (t e : TypeId) (k : IntKind) (bytes : Nat)
    (ho : o.op = .call { callee := .builtin .append, args := #[s, x], argTypes := #[t, t] })
    (ht : P.underlying t = some (.slice e)) (hinfo : (P.info? e).map (fun i => (i.zero, i.size, i.bytes)) = some (some (.int k 0), 1, bytes)) (hb0 : 0 < bytes)
    (v : Value) (xs : List Int) (y : Int) (hs : a.eval s = v) (HR : Row w k e v xs) (g0 : Nat) (hx : a.eval x = .slice (some ⟨g0, 0, none⟩) 1 1) (hy : w.cell? ⟨g0, 0, none⟩ = some (.int k y))
    (hl : (xs.length + 1) * bytes ≤ 140737488355328)
    (h : ∀ v1 w1, Row w1 k e v1 (xs ++ [y]) → Keeps (fp v) w w1 → (∀ b, b ∈ fp v1 → b ∈ fp v ∨ w.heap.size ≤ b) → K (a.put o.dst v1) w1) :
    if Region.wanted o (yielded ops a.tmps) = true then Oper.wp P o a w K Q else E := by
  obtain ⟨i0, hi, hzz⟩ := Option.map_eq_some_iff.1 hinfo
  simp only [Prod.mk.injEq] at hzz
  obtain ⟨hz0, hz1, hz2⟩ := hzz
  have hlen : xs.length + 1 ≤ 140737488355328 := Nat.le_trans (Nat.le_mul_of_pos_right _ hb0) hl
  refine step_append_lies w hgd s x t ho 0 e i0 (.int k 0) 1 bytes ht hi hz0 hz1 hz2 rfl (by omega) v xs.length (nums k xs) hs HR ⟨g0, 0, none⟩ 1 1 [.int k y] hx rfl
    (fun j u hj => ?_) (fun u hu => ?_) (by omega) (by simp only [maxLen]; omega) hl (Nat.zero_le _) w.heap.size rfl ?_
  · cases j with
    | zero => simp at hj; subst hj; simpa [Addr.add] using hy
    | succ j => simp at hj
  · simp at hu; subst hu; rfl
  · intro g cap w1 hown hg hat hlt
    refine h _ w1 ?_ ((Keeps.refl _ _).grown hg (fun k hk => .inl (mem_fp.2 hk))) ?_
    · unfold Row
      rw [List.length_append, nums_append]
      exact hown
    · intro b hb
      rw [fp_some, List.mem_singleton] at hb
      subst hb
      rcases hat with h1 | h1
      · exact .inl (mem_fp.2 h1)
      · exact .inr (by omega)

set_option maxHeartbeats 2000000 in
theorem docResidual_calls (cs xs : List Int) (sh : Int) (m n : Nat) (hm : m = cs.length) (a b : Option Addr) (c d : Nat) (w : World) (hn : n = xs.length) (hd : xs.length ≤ d) (hl : xs.length ≤ 1000000)
    (hc : Hid (Rd w .i64 a cs)) (hx : Hid (Rd w .i64 b xs)) :
    Calls Tryd.prog 67 #[.agg #[.slice a m c, .int .i64 sh], .slice b n d] w fun e w' =>
      ∃ v, e = .returned (.tuple #[v, .int .i64 (resE cs sh xs)]) ∧ Row w' .i64 3 v (resO cs sh xs) ∧ (∀ b, b ∈ fp v → w.heap.size ≤ b) ∧ Keeps [] w w' := by
  subst hm hn
  have hcl := hc.out.small
  have HK0 : Hid (Keeps [] w (w.alloc (.cells #[.slice a cs.length c, .int .i64 sh] 71))) := (Keeps.refl _ _).alloc _
  have HC : Hid (Rd (w.alloc (.cells #[.slice a cs.length c, .int .i64 sh] 71)) .i64 a cs) := hc.out.new HK0.out
  have HX : Hid (Rd (w.alloc (.cells #[.slice a cs.length c, .int .i64 sh] 71)) .i64 b xs) := hx.out.new HK0.out
  have HB := Lib.hid (Box.made w (.slice a cs.length c) (.int .i64 sh) 71)
  have HSZ : Hid (∀ w' : World, Keeps [] (w.alloc (.cells #[.slice a cs.length c, .int .i64 sh] 71)) w' → w.heap.size ≤ w'.heap.size) := fun w' h => Nat.le_trans HK0.out.size h.size
  cases hr : rightB cs sh
  · have HR : Hid (resE cs sh xs = 2 ∧ resO cs sh xs = []) := by
      have : resE cs sh xs = 2 := by unfold resE; rw [if_pos hr]
      refine ⟨this, ?_⟩
      unfold resO; rw [this]; rfl
    have HCE := Lib.hid hr
    clear hr
    go_enter Tryd.func67, Tryd.ntmps67
    go_wp2_with (first
      | (go_at_call 97; go_must (with_reducible refine (right_calls cs sh _ rfl a c _ HC).mono ?_); rw [HCE.out]; rintro e w2 ⟨rfl, hk2⟩))
    go_ret2
    refine ⟨_, by rw [HR.out.1]; rfl, ?_, ?_, HK0.out.new hk2⟩
    · rw [HR.out.2]; exact Row.nil _ _ _
    · intro b hb; cases hb
  · have HCE := Lib.hid hr
    by_cases hlen : xs.length < cs.length
    · have HR : Hid (resE cs sh xs = 1 ∧ resO cs sh xs = []) := by
        have : resE cs sh xs = 1 := by unfold resE; rw [if_neg (by rw [hr]; simp), if_pos hlen]
        refine ⟨this, ?_⟩
        unfold resO; rw [this]; rfl
      clear hr
      go_enter Tryd.func67, Tryd.ntmps67
      go_wp2_with (first
        | (go_at_call 97; go_must (with_reducible refine (right_calls cs sh _ rfl a c _ HC).mono ?_); rw [HCE.out]; rintro e w2 ⟨rfl, hk2⟩; obtain ⟨hb0, hb1⟩ := HB.out.new hk2))
      go_ret2
      refine ⟨_, by rw [HR.out.1]; rfl, ?_, ?_, HK0.out.new hk2⟩
      · rw [HR.out.2]; exact Row.nil _ _ _
      · intro b hb; cases hb
    · cases hin : xs.all inB
      · have HR : Hid (resE cs sh xs = 12 ∧ resO cs sh xs = []) := by
          have : resE cs sh xs = 12 := by unfold resE; rw [if_neg (by rw [hr]; simp), if_neg hlen, if_pos hin]
          refine ⟨this, ?_⟩
          unfold resO; rw [this]; rfl
        have HIN := Lib.hid hin
        clear hr hin
        go_enter Tryd.func67, Tryd.ntmps67
        go_wp2_with (first
          | (go_at_call 97; go_must (with_reducible refine (right_calls cs sh _ rfl a c _ HC).mono ?_); rw [HCE.out]; rintro e w2 ⟨rfl, hk2⟩; obtain ⟨hb0, hb1⟩ := HB.out.new hk2)
          | (go_at_call 69; go_must (with_reducible refine (all_calls xs _ rfl b d _ (Lib.hid (HX.out.new hk2))).mono ?_); rw [HIN.out]; rintro e w3 ⟨rfl, rfl⟩))
        go_ret2
        refine ⟨_, by rw [HR.out.1]; rfl, ?_, ?_, HK0.out.new hk2⟩
        · rw [HR.out.2]; exact Row.nil _ _ _
        · intro b hb; cases hb
      · have HE : Hid (resE cs sh xs = if (leftL cs sh xs).all inB = false then 12 else 0) := by
          show _ = _
          unfold resE
          rw [if_neg (by rw [hr]; simp), if_neg hlen, if_neg (by rw [hin]; simp)]
        obtain ⟨r1, r2, r3, r4⟩ := (rightB_iff cs sh).1 hr
        have HFIT := Lib.hid (fun i => Fit.of hr hin i)
        have HIN := Lib.hid hin
        have HALL := Lib.hid (all_inB hin)
        clear hr hin r4
        go_enter Tryd.func67, Tryd.ntmps67
        go_wp2_with (first
          | (go_at_call 97; go_must (with_reducible refine (right_calls cs sh _ rfl a c _ HC).mono ?_); rw [HCE.out]; rintro e w2 ⟨rfl, hk2⟩; obtain ⟨hb0, hb1⟩ := HB.out.new hk2)
          | (go_at_call 69; go_must (with_reducible refine (all_calls xs _ rfl b d _ (Lib.hid (HX.out.new hk2))).mono ?_); rw [HIN.out]; rintro e w3 ⟨rfl, rfl⟩))
        have HC2 := Lib.hid (HC.out.new hk2)
        have HX2 := Lib.hid (HX.out.new hk2)
        have HB2 := Lib.hid (HB.out.new hk2)
        have HS2 := Lib.hid (HSZ.out _ hk2)
        have HK2 := Lib.hid (HK0.out.new hk2)
        clear HC HX HB HSZ HK0 hk2 hb0 hb1
        go_loopg [6, 7] (xs.length + 1) (fun q v6 v7 w4 => ∃ (i t : Nat), v7 = .int .i64 i ∧ i ≤ xs.length ∧ Hid (i = cs.length + t) ∧ Hid (Row w4 .i64 3 v6 ((leftL cs sh xs).take t)) ∧ Hid (∀ b, b ∈ fp v6 → w2.heap.size ≤ b) ∧ Hid (t + q = xs.length + 1) ∧ Hid (Keeps [] w w4) ∧ Hid (Keeps [] w2 w4))
        case atStart => exact ⟨cs.length, 0, rfl, by omega, (show _ = _ from rfl), Row.nil _ _ _, (fun b hb => by cases hb), (show _ = _ from by omega), HK2.out, Keeps.refl _ _⟩
        case round =>
          obtain ⟨i, t, rfl, hi, HI, HROW, HFR, HQ, HKA, HKB⟩ := hrel
          by_cases hlt : i < xs.length
          · have HFI := Lib.hid (HFIT.out i (by rw [HI.out]; omega) (by omega))
            obtain ⟨p0, p1⟩ := predI_bound (sh := sh) HFI.out
            have hb2lt := HX2.out.lt (by omega)
            obtain ⟨b2, o2, hb2, hc2⟩ := (HX2.out.new HKB.out).cellAt i hlt
            subst hb2
            have HB2LT := Lib.hid (hb2lt _ rfl)
            clear hb2lt
            obtain ⟨hbx0, hbx1⟩ := HB2.out.new HKB.out
            obtain ⟨x, hx1⟩ : ∃ x, xs[i] = x := ⟨_, rfl⟩
            obtain ⟨x0, x1⟩ := HALL.out x (hx1 ▸ List.getElem_mem hlt)
            have HLA : Hid (leftAt cs sh xs i = x - predI cs sh (xs.take i)) := by
              show _ = _
              unfold leftAt
              rw [List.getD_eq_getElem?_getD, List.getElem?_eq_getElem hlt, hx1]
              rfl
            rw [hx1] at hc2
            clear hx1
            have HX5 := Lib.hid (HX2.out.new HKB.out)
            have HC5 := Lib.hid (HC2.out.new HKB.out)
            obtain ⟨y, hy⟩ : ∃ y, predI cs sh (xs.take i) = y := ⟨_, rfl⟩
            rw [hy] at HLA p0 p1
            have HY := Lib.hid hy
            clear hy
            have HTT : t < (leftL cs sh xs).length := by rw [leftL_length]; have := HI.out; omega
            have HSN := Lib.hid (leftL_snoc cs sh xs t (by have := HI.out; omega))
            rw [← HI.out, HLA.out] at HSN
            have HTL2 : Hid (((leftL cs sh xs).take t).length = t) := by show _ = _; rw [List.length_take]; omega
            have HBD : Hid ((((leftL cs sh xs).take t).length + 1) * 8 ≤ 140737488355328) := by
              show _ ≤ _
              rw [HTL2.out]
              have := HI.out
              omega
            have HGW : Hid (w.heap.size < w2.heap.size) := World.block_lt_of_cell? w2 _ HB2.out.c0
            have HN1 : Hid (∀ b, b ∈ fp u6 → b ≠ b2) := fun b hb e => by have h1 := HFR.out b hb; have h2 := HB2LT.out; simp only at h2; omega
            have HN2 : Hid (∀ b, b ∈ fp u6 → b ≠ w.heap.size) := fun b hb e => by have h1 := HFR.out b hb; have h2 := HGW.out; omega
            clear HTT
            obtain ⟨w5, rfl⟩ : ∃ w5 : World, w5 = wr := ⟨_, rfl⟩
            go_upto_region 11 with fail
            have hkk : Keeps [] w5 w5 := Keeps.refl _ _
            have hii : (0 : Int) ≤ (i : Int) := by omega
            have hid : (i : Int) ≤ (d : Int) := by omega
            have hz0 : -35186519572480 ≤ x - y := by omega
            have hz1 : x - y ≤ 35186519572480 := by omega
            have hsub : IntKind.i64.wrap (x - y) = x - y := IntWalk.i64_in _ (by omega)
            go_region_held3 (fun w' => w'.cell? ⟨b2, o2 + i, none⟩ = some (.int .i64 x) ∧ w'.cell? ⟨w.heap.size, 0, none⟩ = some (.slice a cs.length c) ∧ w'.cell? ⟨w.heap.size, 1, none⟩ = some (.int .i64 sh))
              (first
                | (exact ⟨hc2, hbx0, hbx1⟩)
                | (exact ⟨hk6.cell hc2 (by simp), hk6.cell hbx0 (by simp), hk6.cell hbx1 (by simp)⟩)
                | (exact ⟨hk7.cell (hk6.alloc _ |>.cell hc2 (by simp)) (fun h => HN1.out _ h rfl), hk7.cell (hk6.alloc _ |>.cell hbx0 (by simp)) (fun h => HN2.out _ h rfl), hk7.cell (hk6.alloc _ |>.cell hbx1 (by simp)) (fun h => HN2.out _ h rfl)⟩)
                | (exact ⟨(hk6.alloc _).cell hc2 (by simp), (hk6.alloc _).cell hbx0 (by simp), (hk6.alloc _).cell hbx1 (by simp)⟩)
                | go_keep)
              (first
                | (go_at_call 98; go_must (with_reducible refine (refPredict_calls cs xs sh i _ _ rfl a _ c _ _ r2 r3 hi rfl (Lib.hid (HC5.out.new (hkk.drew))) (Lib.hid (HX5.out.new hkk.drew)) HFI).mono ?_); rw [HY.out]; rintro e w6 ⟨rfl, hk6⟩)
                | (refine step_app1 _ (by rfl) _ _ _ 3 .i64 8 (by rfl) Tryd.underlying22 info_i64 (by decide) u6 ((leftL cs sh xs).take t) (x - y) (by rfl) (HROW.out.keeps ((hkk.drew.new hk6).alloc _) (fun _ _ => by simp)) w6.heap.size (by rfl) ((Row.lit w6 .i64 3 #[.int .i64 (x - y)] [x - y] rfl (by simp)).cell 0 (by simp)) HBD.out ?_; intro v7 w7 hr7 hk7 hf7))
            have HKS : Hid (Keeps [] w5 (w6.alloc (.cells #[.int .i64 (x - y)] 3))) := (hkk.drew.new hk6).alloc _
            clear hsub hii hid hkk hk6 hbx0 hbx1 hc2
            go_wp2_with fail
            go_roundg (xs.length - t)
            case measure => have := HQ.out; have := HI.out; omega
            case rel =>
              refine ⟨i + 1, t + 1, by go_num, by omega, (show _ = _ from by have := HI.out; omega), ?_, ?_, (show _ = _ from by have := HQ.out; have := HI.out; omega), ?_, ?_⟩
              · show Row _ _ _ _ _
                rw [HSN.out]
                exact hr7
              · intro b hb
                rcases hf7 b hb with h | h
                · exact HFR.out b h
                · exact Nat.le_trans (HKB.out.new HKS.out).size h
              · exact (HKA.out.new HKS.out).then_ hk7 (fun b hb hlt => by have h1 := HFR.out b hb; have h2 := HS2.out; omega)
              · exact (HKB.out.new HKS.out).then_ hk7 (fun b hb hlt => by have h1 := HFR.out b hb; omega)
          · obtain rfl : i = xs.length := by omega
            have HTL : Hid ((leftL cs sh xs).take t = leftL cs sh xs) := by
              show _ = _
              rw [List.take_of_length_le]
              rw [leftL_length]
              have := HI.out
              omega
            have HROW2 := Lib.hid HROW.out
            rw [HTL.out] at HROW2
            obtain ⟨a6, c6, rfl, hrd⟩ := HROW2.out.rd
            have HRD := Lib.hid hrd
            clear hrd HROW
            cases hal : (leftL cs sh xs).all inB
            · have HAL := Lib.hid hal
              have HBAD : Hid (resE cs sh xs = 12 ∧ resO cs sh xs = []) := by
                have : resE cs sh xs = 12 := by rw [HE.out, if_pos hal]
                exact ⟨this, by unfold resO; rw [this]; rfl⟩
              clear hal
              go_wp2_with (first
                | (go_at_call 69; go_must (with_reducible refine (all_calls (leftL cs sh xs) _ rfl a6 c6 _ HRD).mono ?_); rw [HAL.out]; rintro e w7 ⟨rfl, rfl⟩))
              go_ret2
              refine ⟨_, by rw [HBAD.out.1]; rfl, ?_, ?_, HKA.out⟩
              · rw [HBAD.out.2]; exact Row.nil _ _ _
              · intro b hb; cases hb
            · have HAL := Lib.hid hal
              have HZ : Hid (resE cs sh xs = 0 ∧ resO cs sh xs = leftL cs sh xs) := by
                have : resE cs sh xs = 0 := by rw [HE.out, if_neg (by rw [hal]; simp)]
                exact ⟨this, by unfold resO; rw [if_pos this]⟩
              clear hal
              go_wp2_with (first
                | (go_at_call 69; go_must (with_reducible refine (all_calls (leftL cs sh xs) _ rfl a6 c6 _ HRD).mono ?_); rw [HAL.out]; rintro e w7 ⟨rfl, rfl⟩))
              go_ret2
              refine ⟨_, by rw [HZ.out.1]; rfl, ?_, ?_, HKA.out⟩
              · rw [HZ.out.2]; exact HROW2.out
              · intro b hb
                exact Nat.le_trans HS2.out (HFR.out b hb)
end Go.Proofs.YtofkiimaoahfjaaDoor

set_option maxRecDepth 100000
set_option linter.unusedVariables false
set_option linter.unusedSimpArgs false
namespace Go.Proofs.YtofkiimaoahfjaaDoor
open Go.RowKit

/-- The sum of the distances from 0. -/
def absSum : List Int → Int
  | [] => 0
  | x :: xs => max x (-x) + absSum xs
theorem absSum_append (a b : List Int) : absSum (a ++ b) = absSum a + absSum b := by
  induction a with
  | nil => simp [absSum]
  | cons x a ih => simp only [List.cons_append, absSum, ih]; omega
theorem absSum_snoc (xs : List Int) (i : Nat) (h : i < xs.length) : absSum (xs.take (i + 1)) = absSum (xs.take i) + max xs[i] (-xs[i]) := by
  rw [List.take_succ_eq_append_getElem h, absSum_append]
  simp [absSum]
theorem absSum_bound (xs : List Int) (h : ∀ x ∈ xs, -2147483648 < x ∧ x < 2147483648) : 0 ≤ absSum xs ∧ absSum xs ≤ 2147483648 * (xs.length : Int) := by
  induction xs with
  | nil => simp [absSum]
  | cons x xs ih =>
    have h1 := ih (fun y hy => h y (List.mem_cons_of_mem _ hy))
    have h2 := h x (by simp)
    simp only [absSum, List.length_cons]
    omega
theorem resO_length (cs : List Int) (sh : Int) (xs : List Int) : (resO cs sh xs).length ≤ xs.length := by
  unfold resO
  split
  · rw [leftL_length]; omega
  · simp
theorem resO_in (cs : List Int) (sh : Int) (xs : List Int) : ∀ x ∈ resO cs sh xs, -2147483648 < x ∧ x < 2147483648 := by
  unfold resO
  split
  · rename_i h
    cases hb : (leftL cs sh xs).all inB
    · unfold resE at h
      rw [if_pos hb] at h
      repeat' split at h
      all_goals omega
    · exact all_inB hb
  · simp
theorem absSum_step (xs : List Int) (h : ∀ x ∈ xs, -2147483648 < x ∧ x < 2147483648) (hl : xs.length ≤ 1000000) (i : Nat) (hi : i < xs.length) (x : Int) (hx : xs[i] = x) :
    absSum (xs.take (i + 1)) = absSum (xs.take i) + max x (-x) ∧ -2147483648 < x ∧ x < 2147483648 ∧ 0 ≤ absSum (xs.take i) ∧ absSum (xs.take i) ≤ 2147483648000000 := by
  have h1 := absSum_snoc xs i hi
  rw [hx] at h1
  have h2 := h x (hx ▸ List.getElem_mem hi)
  have h3 := absSum_bound (xs.take i) (fun y hy => h y (List.mem_of_mem_take hy))
  have h4 : (xs.take i).length ≤ 1000000 := by simp; omega
  exact ⟨h1, h2.1, h2.2, h3.1, by omega⟩
/-- Cost's answer. -/
def costN (cs : List Int) (sh : Int) (xs : List Int) : Int := absSum (resO cs sh xs)

set_option maxHeartbeats 2000000 in
theorem cost_calls (cs xs : List Int) (sh : Int) (m n : Nat) (hm : m = cs.length) (a b : Option Addr) (c d : Nat) (w : World) (hn : n = xs.length) (hd : xs.length ≤ d) (hl : xs.length ≤ 1000000)
    (hc : Hid (Rd w .i64 a cs)) (hx : Hid (Rd w .i64 b xs)) :
    Calls Tryd.prog 90 #[.agg #[.slice a m c, .int .i64 sh], .slice b n d] w fun e w' =>
      e = .returned (.tuple #[.int .i64 (costN cs sh xs), .int .i64 (resE cs sh xs)]) ∧ Keeps [] w w' := by
  subst hm hn
  have HK0 : Hid (Keeps [] w (w.alloc (.cells #[.slice a cs.length c, .int .i64 sh] 59))) := (Keeps.refl _ _).alloc _
  have HC : Hid (Rd (w.alloc (.cells #[.slice a cs.length c, .int .i64 sh] 59)) .i64 a cs) := hc.out.new HK0.out
  have HX : Hid (Rd (w.alloc (.cells #[.slice a cs.length c, .int .i64 sh] 59)) .i64 b xs) := hx.out.new HK0.out
  have hrl := resO_length cs sh xs
  have HRI := Lib.hid (resO_in cs sh xs)
  have HCN : Hid (costN cs sh xs = absSum (resO cs sh xs)) := rfl
  obtain ⟨E, hE⟩ : ∃ E, resE cs sh xs = E := ⟨_, rfl⟩
  have HE := Lib.hid hE
  clear hE
  generalize costN cs sh xs = CN at *
  go_enter Tryd.func90, Tryd.ntmps90
  go_wp2_with (first
    | (go_at_call 86; go_must (with_reducible refine (residual_calls cs xs sh _ _ rfl a b c d _ rfl hd hl HC HX).mono ?_); rw [HE.out]; rintro e w2 ⟨v2, rfl, hr2, hf2, hk2⟩; obtain ⟨a2, c2, rfl, hrd2⟩ := hr2.rd; have HR2 := Lib.hid hrd2; have HK2 := Lib.hid (HK0.out.new hk2); clear hrd2 hr2 hf2 hk2))
  generalize resO cs sh xs = L at *
  have hLl : L.length ≤ 1000000 := by omega
  clear hrl
  go_loopg [8, 10, 19] (L.length + 1) (fun q v8 v10 v19 w4 => ∃ (i : Nat) (s : Int), v19 = .int .i64 i ∧ v8 = .int .i64 s ∧ i ≤ L.length ∧ Hid (s = absSum (L.take i)) ∧ Hid (i + q = L.length + 1) ∧ Hid (Keeps [] w2 w4))
  case atStart => exact ⟨0, 0, rfl, rfl, by omega, (show _ = _ from by simp [absSum]), (show _ = _ from by omega), Keeps.refl _ _⟩
  case round =>
    obtain ⟨i, s, rfl, rfl, hi, HS, HQ, HK⟩ := hrel
    by_cases hlt : i < L.length
    · obtain ⟨b3, o3, hb3, hc3⟩ := (HR2.out.new HK.out).cellAt i hlt
      subst hb3
      obtain ⟨x, hx1⟩ : ∃ x, L[i] = x := ⟨_, rfl⟩
      obtain ⟨hst, x0, x1, s0, s1⟩ := absSum_step L HRI.out hLl i hlt x hx1
      rw [← HS.out] at hst s0 s1
      have HST := Lib.hid hst
      rw [hx1] at hc3
      clear hst hx1
      go_wp2_with fail
      all_goals
        go_roundg (L.length - i)
        case measure => have := HQ.out; omega
        case rel => exact ⟨i + 1, s + max x (-x), by go_num, (by first | rfl | (congr 1; omega)), by omega, HST.out.symm, (show _ = _ from by omega), HK.out⟩
    · obtain rfl : i = L.length := by omega
      go_wp2_with fail
      go_ret2
      refine ⟨?_, HK2.out.new HK.out⟩
      rw [HCN.out, HS.out, HE.out, List.take_of_length_le (Nat.le_refl _)]
      rfl

set_option maxHeartbeats 2000000 in
theorem docCost_calls (cs xs : List Int) (sh : Int) (m n : Nat) (hm : m = cs.length) (a b : Option Addr) (c d : Nat) (w : World) (hn : n = xs.length) (hd : xs.length ≤ d) (hl : xs.length ≤ 1000000)
    (hc : Hid (Rd w .i64 a cs)) (hx : Hid (Rd w .i64 b xs)) :
    Calls Tryd.prog 71 #[.agg #[.slice a m c, .int .i64 sh], .slice b n d] w fun e w' =>
      e = .returned (.tuple #[.int .i64 (costN cs sh xs), .int .i64 (resE cs sh xs)]) ∧ Keeps [] w w' := by
  subst hm hn
  have HK0 : Hid (Keeps [] w (w.alloc (.cells #[.slice a cs.length c, .int .i64 sh] 71))) := (Keeps.refl _ _).alloc _
  have HC : Hid (Rd (w.alloc (.cells #[.slice a cs.length c, .int .i64 sh] 71)) .i64 a cs) := hc.out.new HK0.out
  have HX : Hid (Rd (w.alloc (.cells #[.slice a cs.length c, .int .i64 sh] 71)) .i64 b xs) := hx.out.new HK0.out
  have hrl := resO_length cs sh xs
  have HRI := Lib.hid (resO_in cs sh xs)
  have HCN : Hid (costN cs sh xs = absSum (resO cs sh xs)) := rfl
  obtain ⟨E, hE⟩ : ∃ E, resE cs sh xs = E := ⟨_, rfl⟩
  have HE := Lib.hid hE
  clear hE
  generalize costN cs sh xs = CN at *
  go_enter Tryd.func71, Tryd.ntmps71
  go_wp2_with (first
    | (go_at_call 67; go_must (with_reducible refine (docResidual_calls cs xs sh _ _ rfl a b c d _ rfl hd hl HC HX).mono ?_); rw [HE.out]; rintro e w2 ⟨v2, rfl, hr2, hf2, hk2⟩; obtain ⟨a2, c2, rfl, hrd2⟩ := hr2.rd; have HR2 := Lib.hid hrd2; have HK2 := Lib.hid (HK0.out.new hk2); clear hrd2 hr2 hf2 hk2))
  generalize resO cs sh xs = L at *
  have hLl : L.length ≤ 1000000 := by omega
  clear hrl
  go_loopg [8, 9] (L.length + 1) (fun q v8 v9 w4 => ∃ (i : Nat) (s : Int), v9 = .int .i64 i ∧ v8 = .int .i64 s ∧ i ≤ L.length ∧ Hid (s = absSum (L.take i)) ∧ Hid (i + q = L.length + 1) ∧ Hid (Keeps [] w2 w4))
  case atStart => exact ⟨0, 0, rfl, rfl, by omega, (show _ = _ from by simp [absSum]), (show _ = _ from by omega), Keeps.refl _ _⟩
  case round =>
    obtain ⟨i, s, rfl, rfl, hi, HS, HQ, HK⟩ := hrel
    by_cases hlt : i < L.length
    · obtain ⟨b3, o3, hb3, hc3⟩ := (HR2.out.new HK.out).cellAt i hlt
      subst hb3
      obtain ⟨x, hx1⟩ : ∃ x, L[i] = x := ⟨_, rfl⟩
      obtain ⟨hst, x0, x1, s0, s1⟩ := absSum_step L HRI.out hLl i hlt x hx1
      rw [← HS.out] at hst s0 s1
      have HST := Lib.hid hst
      rw [hx1] at hc3
      clear hst hx1
      go_wp2_with fail
      go_quiet (fail)
      go_wp2
      all_goals
        go_roundg (L.length - i)
        case measure => have := HQ.out; omega
        case rel => exact ⟨i + 1, s + max x (-x), by go_num, (by first | rfl | (congr 1; omega)), by omega, HST.out.symm, (show _ = _ from by omega), HK.out.drewN _⟩
    · obtain rfl : i = L.length := by omega
      go_wp2_with fail
      go_ret2
      refine ⟨?_, HK2.out.new HK.out⟩
      rw [HCN.out, HS.out, HE.out, List.take_of_length_le (Nat.le_refl _)]
      rfl

end Go.Proofs.YtofkiimaoahfjaaDoor
