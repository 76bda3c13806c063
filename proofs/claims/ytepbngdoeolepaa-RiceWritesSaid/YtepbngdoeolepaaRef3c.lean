/-
  The document's Reader (shellacref03): Text, Get, GetSigned, Unary, Align.
-/
import Derived.Test.YtepbngdoeolepaaBits9
import Derived.Lib.AppendStr
set_option linter.unusedVariables false
set_option linter.unusedSimpArgs false
namespace Go.Proofs.Ytepbngdoeolepaa
open Go.RowKit Go.Proofs.Ytepbngdoeolepaa.Pure

theorem wrapBB (x : Int) (h0 : -9223372036854775808 ≤ x) (h1 : x ≤ 9223372036854775807) : wrap64 x = x := by unfold wrap64; omega

/-- The document's Reader at g: the digits U, t of them read. -/
structure IsD (w : World) (g : Nat) (U : List Bool) (t : Nat) : Prop where
  duo : Duo w g 49 (.string (dstr U)) (.int .i64 t)
  at_le : t ≤ U.length
  small : U.length ≤ 1000000000
theorem IsD.keeps {w w' : World} {g : Nat} {U : List Bool} {t : Nat} {F : List Nat} (h : IsD w g U t) (hk : Keeps F w w') (hg : g ∉ F) : IsD w' g U t := ⟨h.duo.keeps hk hg, h.at_le, h.small⟩
theorem IsD.new {w w' : World} {g : Nat} {U : List Bool} {t : Nat} (h : IsD w g U t) (hk : Keeps [] w w') : IsD w' g U t := h.keeps hk (by simp)
theorem IsD.move {w : World} {g : Nat} {U : List Bool} {t : Nat} (h : IsD w g U t) (t' : Nat) (ht : t' ≤ U.length) (x : Int) (hx : x = t') : IsD (w.setCell ⟨g, 1, none⟩ (.int .i64 x)) g U t' := by
  subst hx
  exact ⟨h.duo.set1 _, ht, h.small⟩
theorem dstr_dig (U : List Bool) (i : Nat) (b : Bool) (hi : i < U.length) (hb : U[i] = b) : ∀ h : i < (dstr U).size, ((dstr U)[i].toNat : Int) = dg b := by
  intro h
  rw [dstr_at, List.getElem?_eq_getElem hi, hb]
  rfl

set_option maxHeartbeats 2000000 in
theorem dGet_calls (g : Nat) (U : List Bool) (t : Nat) (k : Int) (w : World) (hD : Hid (IsD w g U t)) :
    Calls Try.prog 51 #[.pointer (some ⟨g, 0, none⟩), .int .i64 k] w fun e w' => e = .returned (.tuple #[.int .i64 (gtN k (U.drop t)), .int .i64 (gtE k (U.drop t))]) ∧ IsD w' g U (t + gtT k (U.drop t)) ∧ Keeps [g] w w' := by
  have hrl : (U.drop t).length = U.length - t := List.length_drop
  by_cases hk : k < 0 ∨ 32 < k
  · obtain ⟨e1, e2, e3⟩ := gt_one (U.drop t) hk
    rw [e1, e2, e3]
    clear e1 e2 e3 hrl
    have hk' : k < 0 ∨ (0 ≤ k ∧ 32 < k) := by omega
    clear hk
    rcases hk' with h | ⟨h0, h⟩
    all_goals
      go_enter Try.func51, Try.ntmps51
      go_wp2
      go_ret2
      exact ⟨rfl, hD.out, Keeps.refl _ _⟩
  · obtain ⟨kn, rfl⟩ : ∃ kn : Nat, k = kn := ⟨k.toNat, by omega⟩
    have hk32 : kn ≤ 32 := by omega
    have hc0 := hD.out.duo.c0
    have hc1 := hD.out.duo.c1
    have hsz := dstr_size U
    have hsm := hD.out.small
    have hat := hD.out.at_le
    clear hk
    by_cases hlt : (U.drop t).length < kn
    · obtain ⟨e1, e2, e3⟩ := gt_tail hk32 hlt
      rw [e1, e2, e3]
      rw [hrl] at hlt
      clear e1 e2 e3 hrl
      have hcmp : (U.length : Int) - (t : Int) < (kn : Int) := by omega
      have hsub : IntKind.i64.wrap ((U.length : Int) - (t : Int)) = (U.length : Int) - (t : Int) := IntWalk.i64_in _ (by omega)
      clear hlt
      go_enter Try.func51, Try.ntmps51
      go_wp2
      go_quiet (fail)
      go_wp2
      go_ret2
      exact ⟨rfl, hD.out.new ((Keeps.refl _ _).drewN _), (Keeps.refl _ _).drewN _⟩
    · have hle : kn ≤ (U.drop t).length := by omega
      obtain ⟨e1, e2, e3⟩ := gt_ok hk32 hle
      rw [e1, e2, e3]
      rw [hrl] at hlt
      clear e1 e2 e3
      have HRL := Lib.hid hrl
      clear hrl
      have HLE := Lib.hid hle
      clear hle
      have hcmp : ¬ ((U.length : Int) - (t : Int) < (kn : Int)) := by omega
      have hsub : IntKind.i64.wrap ((U.length : Int) - (t : Int)) = (U.length : Int) - (t : Int) := IntWalk.i64_in _ (by omega)
      go_enter Try.func51, Try.ntmps51
      go_wp2
      go_quiet (fail)
      have HD1 := Lib.hid (hD.out.new ((Keeps.refl [] w).drewN nq))
      have HK1 : Hid (Keeps [g] w (w.drewN nq)) := (Keeps.refl _ _).drewN nq
      generalize w.drewN nq = wq at *
      clear hc0 hc1 hcmp hsub
      go_wp2
      go_loopg [6, 7] (kn + 1) (fun q' v6 v7 w2 => ∃ (i : Nat) (n : Nat), v7 = .int .i64 i ∧ i ≤ kn ∧ v6 = .int .i64 n ∧ n < 4294967296 ∧ Hid (n = val ((U.drop t).take i)) ∧ Hid (IsD w2 g U (t + i)) ∧ Hid (i + q' = kn + 1) ∧ Hid (Keeps [g] w w2))
      case atStart => exact ⟨0, 0, rfl, by omega, rfl, by omega, (show _ = _ from by simp [val]), HD1.out, (show _ = _ from by omega), HK1.out⟩
      case round =>
        obtain ⟨i, n, rfl, hi, rfl, hn, HN, HDI, HQ, HKI⟩ := hrel
        by_cases hli : i < kn
        · have hil : i < (U.drop t).length := by have := HLE.out; omega
          obtain ⟨b, hb⟩ : ∃ b, (U.drop t)[i] = b := ⟨_, rfl⟩
          have hst := get_step (U.drop t) i hil
          rw [hb, ← HN.out] at hst
          have hil2 : t + i < U.length := by rw [HRL.out] at hil; omega
          have hub : U[t + i] = b := by rw [← hb, List.getElem_drop]
          have HDIG := Lib.hid (dstr_dig U (t + i) b hil2 hub)
          have hv := val_lt ((U.drop t).take (i + 1))
          have hv2 : 2 ^ ((U.drop t).take (i + 1)).length ≤ 2 ^ 32 := Nat.pow_le_pow_right (by omega) (by rw [List.length_take]; omega)
          rw [hst] at hv
          have HST := Lib.hid hst
          have hn2 : 2 * n + (if b then 1 else 0) < 4294967296 := by omega
          have HNX := Lib.hid hn2
          have hc0 := HDI.out.duo.c0
          have hc1 := HDI.out.duo.c1
          have hf1 := HDI.out.duo.frozen 1
          have hix : (0 : Int) ≤ (t : Int) + (i : Int) := by omega
          have hix2 : (t : Int) + (i : Int) < (U.length : Int) := by omega
          have hixn : ((t : Int) + (i : Int)).toNat = t + i := by omega
          have hw2 : IntKind.i64.wrap (2 * (n : Int)) = 2 * (n : Int) := IntWalk.i64_in _ (by omega)
          clear hst hv hv2 hn2 hb hil hub
          go_wp2_with fail
          go_quiet (fail)
          have HDN := Lib.hid (HDI.out.new ((Keeps.refl [] wr).drewN nq))
          have HKN := Lib.hid (HKI.out.drewN nq)
          generalize wr.drewN nq = wn at *
          clear hc0 hc1 hf1 hw2
          have hc1 := HDN.out.duo.c1
          have hf1 := HDN.out.duo.frozen 1
          go_wp2_with fail
          go_roundg (kn - i)
          case measure => have := HQ.out; omega
          case rel =>
            refine ⟨i + 1, 2 * n + (if b then 1 else 0), by go_num, by omega, ?_, HNX.out, HST.out.symm, HDN.out.move (t + (i + 1)) (by omega) _ (by omega), (show _ = _ from by have := HQ.out; omega), HKN.out.setCell (a := ⟨g, 1, none⟩) (.inl (by simp)) _⟩
            rw [HDIG.out]
            congr 1
            cases b <;> simp [dg]
        · obtain rfl : i = kn := by omega
          go_wp2_with fail
          go_ret2
          refine ⟨by rw [← HN.out]; rfl, HDI.out, HKI.out⟩

set_option maxHeartbeats 2000000 in
theorem dGetSigned_calls (g : Nat) (U : List Bool) (t : Nat) (k : Int) (w : World) (hD : Hid (IsD w g U t)) :
    Calls Try.prog 65 #[.pointer (some ⟨g, 0, none⟩), .int .i64 k] w fun e w' => e = .returned (.tuple #[.int .i64 (gsN k (U.drop t)), .int .i64 (gtE k (U.drop t))]) ∧ IsD w' g U (t + gtT k (U.drop t)) ∧ Keeps [g] w w' := by
  have HG := dGet_calls g U t k w hD
  generalize U.drop t = R at *
  have HGH := Lib.hid HG
  clear HG
  by_cases h0 : gtE k R = 0
  · by_cases hk0 : 0 < k
    · have hk : 0 ≤ k ∧ k ≤ 32 := by
        unfold gtE at h0
        split at h0
        · omega
        · omega
      obtain ⟨j, rfl⟩ : ∃ j : Nat, k = (j : Int) + 1 := ⟨k.toNat - 1, by omega⟩
      have hjj : ((j : Int) + 1).toNat = j + 1 := by omega
      have hgn : gtN ((j : Int) + 1) R = ((val (R.take (j + 1)) : Nat) : Int) := by unfold gtN; rw [if_pos h0, hjj]
      have hv := val_take_lt R (j + 1)
      have hgs : gsN ((j : Int) + 1) R = if 2 ^ j ≤ val (R.take (j + 1)) then ((val (R.take (j + 1)) : Nat) : Int) - 2 ^ (j + 1) else ((val (R.take (j + 1)) : Nat) : Int) := by
        unfold gsN
        rw [hgn, hjj]
        have e1 : ((2 : Int) ^ (j + 1 - 1) ≤ ((val (R.take (j + 1)) : Nat) : Int)) ↔ (2 ^ j ≤ val (R.take (j + 1))) := by
          rw [Nat.add_sub_cancel]
          exact_mod_cast Iff.rfl
        by_cases h : 2 ^ j ≤ val (R.take (j + 1))
        · rw [if_pos h, if_pos ⟨h0, hk0, e1.2 h⟩]
        · rw [if_neg h, if_neg (fun hh => h (e1.1 hh.2.2))]
      rw [hgn, h0] at HGH
      rw [hgs, h0]
      generalize val (R.take (j + 1)) = V at *
      have hpow : (2 : Nat) ^ (j + 1) ≤ 2 ^ 32 := Nat.pow_le_pow_right (by omega) (by omega)
      have hj64 : j ≤ 64 := by omega
      have hp2 : 2 ^ (j + 1) = 2 * 2 ^ j := by rw [Nat.pow_succ, Nat.mul_comm]
      have hpj : 0 < 2 ^ j := Nat.pow_pos (by omega)
      obtain ⟨P, hP⟩ : ∃ P : Nat, 2 ^ j = P := ⟨_, rfl⟩
      have hpi : (2 : Int) ^ j = (P : Int) := by rw [← hP]; simp
      have hpi2 : (2 : Int) ^ (j + 1) = 2 * (P : Int) := by rw [Int.pow_succ, hpi, Int.mul_comm]
      rw [hp2, hP] at hpow hv
      rw [hP] at hpj
      rw [hP, hpi2]
      clear hgn hgs hp2 hP hjj hk0
      have hP1 : (P : Int) ≤ 4294967296 := by omega
      have hP0 : (0 : Int) < (P : Int) := by omega
      have hV0 : (V : Int) < 2 * (P : Int) := by omega
      have HB1 : Hid (-9223372036854775808 ≤ (V : Int) - 2 * (P : Int) ∧ (V : Int) - 2 * (P : Int) ≤ 9223372036854775807) := (show _ ∧ _ from by omega)
      have HB2 : Hid (-9223372036854775808 ≤ 2 * (P : Int) ∧ 2 * (P : Int) ≤ 9223372036854775807) := (show _ ∧ _ from by omega)
      have HB3 : Hid (-9223372036854775808 ≤ (P : Int) ∧ (P : Int) ≤ 9223372036854775807) := (show _ ∧ _ from by omega)
      have hjI : (0 : Int) ≤ (j : Int) := by omega
      have hjI2 : (j : Int) ≤ 31 := by omega
      clear hpow hpj hv h0
      by_cases hb : P ≤ V
      · rw [if_pos hb]
        have hcmp : (P : Int) ≤ (V : Int) := by omega
        clear hb hk hj64
        have hsub := wrapBB _ HB1.out.1 HB1.out.2
        have hw := wrapBB _ HB3.out.1 HB3.out.2
        have hw2 := wrapBB _ HB2.out.1 HB2.out.2
        go_enter Try.func65, Try.ntmps65
        go_wp2_with (first
          | (go_at_call 51; go_must (with_reducible refine (HGH.out).mono ?_); rintro e w1 ⟨rfl, hr1, hk1⟩))
        go_ret2
        exact ⟨rfl, hr1, hk1⟩
      · rw [if_neg hb]
        have hcmp : ¬ ((P : Int) ≤ (V : Int)) := by omega
        clear hb hk hj64
        have hw := wrapBB _ HB3.out.1 HB3.out.2
        go_enter Try.func65, Try.ntmps65
        go_wp2_with (first
          | (go_at_call 51; go_must (with_reducible refine (HGH.out).mono ?_); rintro e w1 ⟨rfl, hr1, hk1⟩))
        go_ret2
        exact ⟨rfl, hr1, hk1⟩
    · have hgs : gsN k R = gtN k R := by unfold gsN; rw [if_neg (fun h => hk0 h.2.1)]
      rw [hgs, h0]
      rw [h0] at HGH
      clear hgs
      generalize gtN k R = V at *
      go_enter Try.func65, Try.ntmps65
      go_wp2_with (first
        | (go_at_call 51; go_must (with_reducible refine (HGH.out).mono ?_); rintro e w1 ⟨rfl, hr1, hk1⟩))
      go_ret2
      exact ⟨rfl, hr1, hk1⟩
  · have hgs : gsN k R = gtN k R := by unfold gsN; rw [if_neg (fun h => h0 h.1)]
    rw [hgs]
    have hne : (gtE k R == 0) = false := beq_eq_false_iff_ne.2 h0
    clear hgs h0
    generalize gtN k R = V at *
    generalize gtE k R = E at *
    go_enter Try.func65, Try.ntmps65
    go_wp2_with (first
      | (go_at_call 51; go_must (with_reducible refine (HGH.out).mono ?_); rintro e w1 ⟨rfl, hr1, hk1⟩))
    go_ret2
    exact ⟨rfl, hr1, hk1⟩

set_option maxHeartbeats 2000000 in
theorem dUnary_calls (g : Nat) (U : List Bool) (t : Nat) (w : World) (hD : Hid (IsD w g U t)) :
    Calls Try.prog 66 #[.pointer (some ⟨g, 0, none⟩)] w fun e w' => e = .returned (.tuple #[.int .i64 (unRN (U.drop t)), .int .i64 (unRE (U.drop t))]) ∧ IsD w' g U (t + unRT (U.drop t)) ∧ Keeps [g] w w' := by
  have hc0 := hD.out.duo.c0
  have hc1 := hD.out.duo.c1
  have hf1 := hD.out.duo.frozen 1
  have hsz := dstr_size U
  have hsm := hD.out.small
  have hat := hD.out.at_le
  have HRL : Hid ((U.drop t).length = U.length - t) := List.length_drop
  go_enter Try.func66, Try.ntmps66
  go_wp2_with fail
  go_loopg [4] (U.length - t + 1) (fun q' v4 w2 => w2 = w ∧ ∃ (i : Nat), v4 = .int .i64 ((t : Int) + (i : Int)) ∧ t + i ≤ U.length ∧ Hid (cnt (U.drop t) = (cnt ((U.drop t).drop i)).map (· + i)) ∧ Hid (i + q' = U.length - t + 1))
  case atStart => exact ⟨rfl, 0, by simp, by omega, (show _ = _ from by simp), (show _ = _ from by omega)⟩
  case round =>
    obtain ⟨rfl, i, rfl, hi, HT, HQ⟩ := hrel
    by_cases hlt : t + i < U.length
    · have hil : i < (U.drop t).length := by rw [HRL.out]; omega
      obtain ⟨b, hb⟩ : ∃ b, (U.drop t)[i] = b := ⟨_, rfl⟩
      have hub : U[t + i] = b := by rw [← hb, List.getElem_drop]
      have hst := cnt_step (U.drop t) i hil b hb HT.out
      have hdig := dstr_dig U (t + i) b hlt hub
      have hix : (0 : Int) ≤ (t : Int) + (i : Int) := by omega
      have hcmp : (t : Int) + (i : Int) < (U.length : Int) := by omega
      have hixn : ((t : Int) + (i : Int)).toNat = t + i := by omega
      cases b
      · have HNX := Lib.hid (hst.2 rfl)
        have hdig : ∀ h : t + i < (dstr U).size, ((dstr U)[t + i].toNat : Int) = 48 := hdig
        clear hst hub hb hil
        go_wp2_with fail
        go_roundg (gk - 1)
        case measure => have := HQ.out; omega
        case rel => exact ⟨rfl, i + 1, by rw [show ((i + 1 : Nat) : Int) = (i : Int) + 1 by omega, ← Int.add_assoc], by omega, HNX.out, (show _ = _ from by have := HQ.out; omega)⟩
      · have HNX := Lib.hid (hst.1 rfl)
        have hdig : ∀ h : t + i < (dstr U).size, ((dstr U)[t + i].toNat : Int) = 49 := hdig
        clear hst hub hb hil
        have hsub : (t : Int) + (i : Int) - (t : Int) = (i : Int) := by omega
        obtain ⟨e1, e2, e3⟩ := unR_some HNX.out
        have HES : Hid (unRE (U.drop t) = 0 ∧ unRN (U.drop t) = i ∧ unRT (U.drop t) = i + 1) := ⟨e1, e2, e3⟩
        clear e1 e2 e3
        go_wp2_with fail
        go_ret2
        rw [HES.out.1, HES.out.2.1, HES.out.2.2]
        refine ⟨by first | rfl | (congr 4; omega), hD.out.move (t + (i + 1)) (by omega) _ (by omega), (Keeps.refl _ _).setCell (a := ⟨g, 1, none⟩) (.inl (by simp)) _⟩
    · have hil : i = (U.drop t).length := by rw [HRL.out]; omega
      have hn := cnt_end (U.drop t) (by rw [← hil]; exact HT.out)
      obtain ⟨e1, e2, e3⟩ := unR_none hn
      have HES : Hid (unRE (U.drop t) = 10 ∧ unRN (U.drop t) = 0 ∧ unRT (U.drop t) = 0) := ⟨e1, e2, e3⟩
      clear e1 e2 e3
      have hcmp : ¬ ((t : Int) + (i : Int) < (U.length : Int)) := by omega
      clear hn hil
      go_wp2_with fail
      go_ret2
      rw [HES.out.1, HES.out.2.1, HES.out.2.2]
      exact ⟨rfl, hD.out, Keeps.refl _ _⟩
end Go.Proofs.Ytepbngdoeolepaa
