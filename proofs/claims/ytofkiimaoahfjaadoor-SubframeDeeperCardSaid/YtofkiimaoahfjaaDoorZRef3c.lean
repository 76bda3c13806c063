/-
  The document's Reader (shellacref03): Text, Get, GetSigned, Unary, Align.
  The document's Reader (shellacref03): Align, Text.
-/
import Derived.Test.YtofkiimaoahfjaaDoorZBits8
import Derived.Lib.AppendStr
set_option maxRecDepth 100000
set_option linter.unusedVariables false
set_option linter.unusedSimpArgs false
namespace Go.Proofs.YtofkiimaoahfjaaDoor
open Go.RowKit Go.Proofs.YtofkiimaoahfjaaDoor.Pure

theorem wrapBB (x : Int) (h0 : -9223372036854775808 ≤ x) (h1 : x ≤ 9223372036854775807) : wrap64 x = x := by unfold wrap64; omega

/-- The document's Reader at g: the digits U, t of them read. -/
structure IsD (w : World) (g : Nat) (U : List Bool) (t : Nat) : Prop where
  duo : Duo w g 47 (.string (dstr U)) (.int .i64 t)
  at_le : t ≤ U.length
  small : U.length ≤ 1000000000
theorem IsD.keeps {w w' : World} {g : Nat} {U : List Bool} {t : Nat} {F : List Nat} (h : IsD w g U t) (hk : Keeps F w w') (hg : g ∉ F) : IsD w' g U t := ⟨h.duo.keeps hk hg, h.at_le, h.small⟩
theorem IsD.new {w w' : World} {g : Nat} {U : List Bool} {t : Nat} (h : IsD w g U t) (hk : Keeps [] w w') : IsD w' g U t := h.keeps hk (by simp)
theorem IsD.move {w : World} {g : Nat} {U : List Bool} {t : Nat} (h : IsD w g U t) (t' : Nat) (ht : t' ≤ U.length) (x : Int) (hx : x = t') : IsD (w.setCell ⟨g, 1, none⟩ (.int .i64 x)) g U t' := by
  subst hx
  exact ⟨h.duo.set1 _, ht, h.small⟩
theorem dstr_dig (U : List Bool) (i : Nat) (b : Bool) (hi : i < U.length) (hb : U[i] = b) : ∀ h : i < (dstr U).size, ((dstr U)[i].toNat : Int) = dg b := by
  intro h
  rw [dstr_at, List.getElem?_eq_getElem hi, hb]
  rfl

set_option maxHeartbeats 2000000 in
theorem dGet_calls (g : Nat) (U : List Bool) (t : Nat) (k : Int) (w : World) (hD : Hid (IsD w g U t)) :
    Calls Tryd.prog 46 #[.pointer (some ⟨g, 0, none⟩), .int .i64 k] w fun e w' => e = .returned (.tuple #[.int .i64 (gtN k (U.drop t)), .int .i64 (gtE k (U.drop t))]) ∧ IsD w' g U (t + gtT k (U.drop t)) ∧ Keeps [g] w w' := by
  have hrl : (U.drop t).length = U.length - t := List.length_drop
  by_cases hk : k < 0 ∨ 32 < k
  · obtain ⟨e1, e2, e3⟩ := gt_one (U.drop t) hk
    rw [e1, e2, e3]
    clear e1 e2 e3 hrl
    have hk' : k < 0 ∨ (0 ≤ k ∧ 32 < k) := by omega
    clear hk
    rcases hk' with h | ⟨h0, h⟩
    all_goals
      go_enter Tryd.func46, Tryd.ntmps46
      go_wp2
      go_ret2
      exact ⟨rfl, hD.out, Keeps.refl _ _⟩
  · obtain ⟨kn, rfl⟩ : ∃ kn : Nat, k = kn := ⟨k.toNat, by omega⟩
    have hk32 : kn ≤ 32 := by omega
    have hc0 := hD.out.duo.c0
    have hc1 := hD.out.duo.c1
    have hsz := dstr_size U
    have hsm := hD.out.small
    have hat := hD.out.at_le
    clear hk
    by_cases hlt : (U.drop t).length < kn
    · obtain ⟨e1, e2, e3⟩ := gt_tail hk32 hlt
      rw [e1, e2, e3]
      rw [hrl] at hlt
      clear e1 e2 e3 hrl
      have hcmp : (U.length : Int) - (t : Int) < (kn : Int) := by omega
      have hsub : IntKind.i64.wrap ((U.length : Int) - (t : Int)) = (U.length : Int) - (t : Int) := IntWalk.i64_in _ (by omega)
      clear hlt
      go_enter Tryd.func46, Tryd.ntmps46
      go_wp2
      go_quiet (fail)
      go_wp2
      go_ret2
      exact ⟨rfl, hD.out.new ((Keeps.refl _ _).drewN _), (Keeps.refl _ _).drewN _⟩
    · have hle : kn ≤ (U.drop t).length := by omega
      obtain ⟨e1, e2, e3⟩ := gt_ok hk32 hle
      rw [e1, e2, e3]
      rw [hrl] at hlt
      clear e1 e2 e3
      have HRL := Lib.hid hrl
      clear hrl
      have HLE := Lib.hid hle
      clear hle
      have hcmp : ¬ ((U.length : Int) - (t : Int) < (kn : Int)) := by omega
      have hsub : IntKind.i64.wrap ((U.length : Int) - (t : Int)) = (U.length : Int) - (t : Int) := IntWalk.i64_in _ (by omega)
      go_enter Tryd.func46, Tryd.ntmps46
      go_wp2
      go_quiet (fail)
      have HD1 := Lib.hid (hD.out.new ((Keeps.refl [] w).drewN nq))
      have HK1 : Hid (Keeps [g] w (w.drewN nq)) := (Keeps.refl _ _).drewN nq
      generalize w.drewN nq = wq at *
      clear hc0 hc1 hcmp hsub
      go_wp2
      go_loopg [6, 7] (kn + 1) (fun q' v6 v7 w2 => ∃ (i : Nat) (n : Nat), v7 = .int .i64 i ∧ i ≤ kn ∧ v6 = .int .i64 n ∧ n < 4294967296 ∧ Hid (n = val ((U.drop t).take i)) ∧ Hid (IsD w2 g U (t + i)) ∧ Hid (i + q' = kn + 1) ∧ Hid (Keeps [g] w w2))
      case atStart => exact ⟨0, 0, rfl, by omega, rfl, by omega, (show _ = _ from by simp [val]), HD1.out, (show _ = _ from by omega), HK1.out⟩
      case round =>
        obtain ⟨i, n, rfl, hi, rfl, hn, HN, HDI, HQ, HKI⟩ := hrel
        by_cases hli : i < kn
        · have hil : i < (U.drop t).length := by have := HLE.out; omega
          obtain ⟨b, hb⟩ : ∃ b, (U.drop t)[i] = b := ⟨_, rfl⟩
          have hst := get_step (U.drop t) i hil
          rw [hb, ← HN.out] at hst
          have hil2 : t + i < U.length := by rw [HRL.out] at hil; omega
          have hub : U[t + i] = b := by rw [← hb, List.getElem_drop]
          have HDIG := Lib.hid (dstr_dig U (t + i) b hil2 hub)
          have hv := val_lt ((U.drop t).take (i + 1))
          have hv2 : 2 ^ ((U.drop t).take (i + 1)).length ≤ 2 ^ 32 := Nat.pow_le_pow_right (by omega) (by rw [List.length_take]; omega)
          rw [hst] at hv
          have HST := Lib.hid hst
          have hn2 : 2 * n + (if b then 1 else 0) < 4294967296 := by omega
          have HNX := Lib.hid hn2
          have hc0 := HDI.out.duo.c0
          have hc1 := HDI.out.duo.c1
          have hf1 := HDI.out.duo.frozen 1
          have hix : (0 : Int) ≤ (t : Int) + (i : Int) := by omega
          have hix2 : (t : Int) + (i : Int) < (U.length : Int) := by omega
          have hixn : ((t : Int) + (i : Int)).toNat = t + i := by omega
          have hw2 : IntKind.i64.wrap (2 * (n : Int)) = 2 * (n : Int) := IntWalk.i64_in _ (by omega)
          clear hst hv hv2 hn2 hb hil hub
          go_wp2_with fail
          go_quiet (fail)
          have HDN := Lib.hid (HDI.out.new ((Keeps.refl [] wr).drewN nq))
          have HKN := Lib.hid (HKI.out.drewN nq)
          generalize wr.drewN nq = wn at *
          clear hc0 hc1 hf1 hw2
          have hc1 := HDN.out.duo.c1
          have hf1 := HDN.out.duo.frozen 1
          go_wp2_with fail
          go_roundg (kn - i)
          case measure => have := HQ.out; omega
          case rel =>
            refine ⟨i + 1, 2 * n + (if b then 1 else 0), by go_num, by omega, ?_, HNX.out, HST.out.symm, HDN.out.move (t + (i + 1)) (by omega) _ (by omega), (show _ = _ from by have := HQ.out; omega), HKN.out.setCell (a := ⟨g, 1, none⟩) (.inl (by simp)) _⟩
            rw [HDIG.out]
            congr 1
            cases b <;> simp [dg]
        · obtain rfl : i = kn := by omega
          go_wp2_with fail
          go_ret2
          refine ⟨by rw [← HN.out]; rfl, HDI.out, HKI.out⟩

set_option maxHeartbeats 2000000 in
theorem dGetSigned_calls (g : Nat) (U : List Bool) (t : Nat) (k : Int) (w : World) (hD : Hid (IsD w g U t)) :
    Calls Tryd.prog 80 #[.pointer (some ⟨g, 0, none⟩), .int .i64 k] w fun e w' => e = .returned (.tuple #[.int .i64 (gsN k (U.drop t)), .int .i64 (gtE k (U.drop t))]) ∧ IsD w' g U (t + gtT k (U.drop t)) ∧ Keeps [g] w w' := by
  have HG := dGet_calls g U t k w hD
  generalize U.drop t = R at *
  have HGH := Lib.hid HG
  clear HG
  by_cases h0 : gtE k R = 0
  · by_cases hk0 : 0 < k
    · have hk : 0 ≤ k ∧ k ≤ 32 := by
        unfold gtE at h0
        split at h0
        · omega
        · omega
      obtain ⟨j, rfl⟩ : ∃ j : Nat, k = (j : Int) + 1 := ⟨k.toNat - 1, by omega⟩
      have hjj : ((j : Int) + 1).toNat = j + 1 := by omega
      have hgn : gtN ((j : Int) + 1) R = ((val (R.take (j + 1)) : Nat) : Int) := by unfold gtN; rw [if_pos h0, hjj]
      have hv := val_take_lt R (j + 1)
      have hgs : gsN ((j : Int) + 1) R = if 2 ^ j ≤ val (R.take (j + 1)) then ((val (R.take (j + 1)) : Nat) : Int) - 2 ^ (j + 1) else ((val (R.take (j + 1)) : Nat) : Int) := by
        unfold gsN
        rw [hgn, hjj]
        have e1 : ((2 : Int) ^ (j + 1 - 1) ≤ ((val (R.take (j + 1)) : Nat) : Int)) ↔ (2 ^ j ≤ val (R.take (j + 1))) := by
          rw [Nat.add_sub_cancel]
          exact_mod_cast Iff.rfl
        by_cases h : 2 ^ j ≤ val (R.take (j + 1))
        · rw [if_pos h, if_pos ⟨h0, hk0, e1.2 h⟩]
        · rw [if_neg h, if_neg (fun hh => h (e1.1 hh.2.2))]
      rw [hgn, h0] at HGH
      rw [hgs, h0]
      generalize val (R.take (j + 1)) = V at *
      have hpow : (2 : Nat) ^ (j + 1) ≤ 2 ^ 32 := Nat.pow_le_pow_right (by omega) (by omega)
      have hj64 : j ≤ 64 := by omega
      have hp2 : 2 ^ (j + 1) = 2 * 2 ^ j := by rw [Nat.pow_succ, Nat.mul_comm]
      have hpj : 0 < 2 ^ j := Nat.pow_pos (by omega)
      obtain ⟨P, hP⟩ : ∃ P : Nat, 2 ^ j = P := ⟨_, rfl⟩
      have hpi : (2 : Int) ^ j = (P : Int) := by rw [← hP]; simp
      have hpi2 : (2 : Int) ^ (j + 1) = 2 * (P : Int) := by rw [Int.pow_succ, hpi, Int.mul_comm]
      rw [hp2, hP] at hpow hv
      rw [hP] at hpj
      rw [hP, hpi2]
      clear hgn hgs hp2 hP hjj hk0
      have hP1 : (P : Int) ≤ 4294967296 := by omega
      have hP0 : (0 : Int) < (P : Int) := by omega
      have hV0 : (V : Int) < 2 * (P : Int) := by omega
      have HB1 : Hid (-9223372036854775808 ≤ (V : Int) - 2 * (P : Int) ∧ (V : Int) - 2 * (P : Int) ≤ 9223372036854775807) := (show _ ∧ _ from by omega)
      have HB2 : Hid (-9223372036854775808 ≤ 2 * (P : Int) ∧ 2 * (P : Int) ≤ 9223372036854775807) := (show _ ∧ _ from by omega)
      have HB3 : Hid (-9223372036854775808 ≤ (P : Int) ∧ (P : Int) ≤ 9223372036854775807) := (show _ ∧ _ from by omega)
      have hjI : (0 : Int) ≤ (j : Int) := by omega
      have hjI2 : (j : Int) ≤ 31 := by omega
      clear hpow hpj hv h0
      by_cases hb : P ≤ V
      · rw [if_pos hb]
        have hcmp : (P : Int) ≤ (V : Int) := by omega
        clear hb hk hj64
        have hsub := wrapBB _ HB1.out.1 HB1.out.2
        have hw := wrapBB _ HB3.out.1 HB3.out.2
        have hw2 := wrapBB _ HB2.out.1 HB2.out.2
        go_enter Tryd.func80, Tryd.ntmps80
        go_wp2_with (first
          | (go_at_call 46; go_must (with_reducible refine (HGH.out).mono ?_); rintro e w1 ⟨rfl, hr1, hk1⟩))
        go_ret2
        exact ⟨rfl, hr1, hk1⟩
      · rw [if_neg hb]
        have hcmp : ¬ ((P : Int) ≤ (V : Int)) := by omega
        clear hb hk hj64
        have hw := wrapBB _ HB3.out.1 HB3.out.2
        go_enter Tryd.func80, Tryd.ntmps80
        go_wp2_with (first
          | (go_at_call 46; go_must (with_reducible refine (HGH.out).mono ?_); rintro e w1 ⟨rfl, hr1, hk1⟩))
        go_ret2
        exact ⟨rfl, hr1, hk1⟩
    · have hgs : gsN k R = gtN k R := by unfold gsN; rw [if_neg (fun h => hk0 h.2.1)]
      rw [hgs, h0]
      rw [h0] at HGH
      clear hgs
      generalize gtN k R = V at *
      go_enter Tryd.func80, Tryd.ntmps80
      go_wp2_with (first
        | (go_at_call 46; go_must (with_reducible refine (HGH.out).mono ?_); rintro e w1 ⟨rfl, hr1, hk1⟩))
      go_ret2
      exact ⟨rfl, hr1, hk1⟩
  · have hgs : gsN k R = gtN k R := by unfold gsN; rw [if_neg (fun h => h0 h.1)]
    rw [hgs]
    have hne : (gtE k R == 0) = false := beq_eq_false_iff_ne.2 h0
    clear hgs h0
    generalize gtN k R = V at *
    generalize gtE k R = E at *
    go_enter Tryd.func80, Tryd.ntmps80
    go_wp2_with (first
      | (go_at_call 46; go_must (with_reducible refine (HGH.out).mono ?_); rintro e w1 ⟨rfl, hr1, hk1⟩))
    go_ret2
    exact ⟨rfl, hr1, hk1⟩

set_option maxHeartbeats 2000000 in
theorem dUnary_calls (g : Nat) (U : List Bool) (t : Nat) (w : World) (hD : Hid (IsD w g U t)) :
    Calls Tryd.prog 47 #[.pointer (some ⟨g, 0, none⟩)] w fun e w' => e = .returned (.tuple #[.int .i64 (unRN (U.drop t)), .int .i64 (unRE (U.drop t))]) ∧ IsD w' g U (t + unRT (U.drop t)) ∧ Keeps [g] w w' := by
  have hc0 := hD.out.duo.c0
  have hc1 := hD.out.duo.c1
  have hf1 := hD.out.duo.frozen 1
  have hsz := dstr_size U
  have hsm := hD.out.small
  have hat := hD.out.at_le
  have HRL : Hid ((U.drop t).length = U.length - t) := List.length_drop
  go_enter Tryd.func47, Tryd.ntmps47
  go_wp2_with fail
  go_loopg [4] (U.length - t + 1) (fun q' v4 w2 => w2 = w ∧ ∃ (i : Nat), v4 = .int .i64 ((t : Int) + (i : Int)) ∧ t + i ≤ U.length ∧ Hid (cnt (U.drop t) = (cnt ((U.drop t).drop i)).map (· + i)) ∧ Hid (i + q' = U.length - t + 1))
  case atStart => exact ⟨rfl, 0, by simp, by omega, (show _ = _ from by simp), (show _ = _ from by omega)⟩
  case round =>
    obtain ⟨rfl, i, rfl, hi, HT, HQ⟩ := hrel
    by_cases hlt : t + i < U.length
    · have hil : i < (U.drop t).length := by rw [HRL.out]; omega
      obtain ⟨b, hb⟩ : ∃ b, (U.drop t)[i] = b := ⟨_, rfl⟩
      have hub : U[t + i] = b := by rw [← hb, List.getElem_drop]
      have hst := cnt_step (U.drop t) i hil b hb HT.out
      have hdig := dstr_dig U (t + i) b hlt hub
      have hix : (0 : Int) ≤ (t : Int) + (i : Int) := by omega
      have hcmp : (t : Int) + (i : Int) < (U.length : Int) := by omega
      have hixn : ((t : Int) + (i : Int)).toNat = t + i := by omega
      cases b
      · have HNX := Lib.hid (hst.2 rfl)
        have hdig : ∀ h : t + i < (dstr U).size, ((dstr U)[t + i].toNat : Int) = 48 := hdig
        clear hst hub hb hil
        go_wp2_with fail
        go_roundg (gk - 1)
        case measure => have := HQ.out; omega
        case rel => exact ⟨rfl, i + 1, by rw [show ((i + 1 : Nat) : Int) = (i : Int) + 1 by omega, ← Int.add_assoc], by omega, HNX.out, (show _ = _ from by have := HQ.out; omega)⟩
      · have HNX := Lib.hid (hst.1 rfl)
        have hdig : ∀ h : t + i < (dstr U).size, ((dstr U)[t + i].toNat : Int) = 49 := hdig
        clear hst hub hb hil
        have hsub : (t : Int) + (i : Int) - (t : Int) = (i : Int) := by omega
        obtain ⟨e1, e2, e3⟩ := unR_some HNX.out
        have HES : Hid (unRE (U.drop t) = 0 ∧ unRN (U.drop t) = i ∧ unRT (U.drop t) = i + 1) := ⟨e1, e2, e3⟩
        clear e1 e2 e3
        go_wp2_with fail
        go_ret2
        rw [HES.out.1, HES.out.2.1, HES.out.2.2]
        refine ⟨by first | rfl | (congr 4; omega), hD.out.move (t + (i + 1)) (by omega) _ (by omega), (Keeps.refl _ _).setCell (a := ⟨g, 1, none⟩) (.inl (by simp)) _⟩
    · have hil : i = (U.drop t).length := by rw [HRL.out]; omega
      have hn := cnt_end (U.drop t) (by rw [← hil]; exact HT.out)
      obtain ⟨e1, e2, e3⟩ := unR_none hn
      have HES : Hid (unRE (U.drop t) = 10 ∧ unRN (U.drop t) = 0 ∧ unRT (U.drop t) = 0) := ⟨e1, e2, e3⟩
      clear e1 e2 e3
      have hcmp : ¬ ((t : Int) + (i : Int) < (U.length : Int)) := by omega
      clear hn hil
      go_wp2_with fail
      go_ret2
      rw [HES.out.1, HES.out.2.1, HES.out.2.2]
      exact ⟨rfl, hD.out, Keeps.refl _ _⟩
end Go.Proofs.YtofkiimaoahfjaaDoor

set_option maxRecDepth 100000
set_option linter.unusedVariables false
set_option linter.unusedSimpArgs false
namespace Go.Proofs.YtofkiimaoahfjaaDoor
open Go.RowKit Go.Proofs.YtofkiimaoahfjaaDoor.Pure

theorem Row.based {w : World} {k : IntKind} {e : TypeId} {v : Value} {xs : List Int} (h : Row w k e v xs) (base : Nat) (hb : ∀ b, b ∈ fp v → base ≤ b) : w.ownsRow base e 1 v xs.length (nums k xs) := by
  refine ⟨h.1, ?_⟩
  rcases h.2 with hn | ⟨g, cap, cur, rfl, _, rest⟩
  · exact .inl hn
  · exact .inr ⟨g, cap, cur, rfl, hb g (by simp [fp, Value.ownBlock]), rest⟩
theorem Row.ofBased {w : World} {k : IntKind} {e : TypeId} {v : Value} {xs : List Int} {base n : Nat} (h : w.ownsRow base e 1 v n (nums k xs)) (hn : n = xs.length) : Row w k e v xs ∧ ∀ b, b ∈ fp v → base ≤ b := by
  subst hn
  refine ⟨⟨h.1, ?_⟩, ?_⟩
  · rcases h.2 with hn | ⟨g, cap, cur, rfl, _, rest⟩
    · exact .inl hn
    · exact .inr ⟨g, cap, cur, rfl, Nat.zero_le _, rest⟩
  · intro b hb
    rcases h.2 with ⟨rfl, _⟩ | ⟨g, cap, cur, rfl, hg, rest⟩
    · cases hb
    · rw [fp_some, List.mem_singleton] at hb
      subst hb
      exact hg

/-- append(v, s...), s a string. -/
theorem wp_appS {P : Program} {ops : Array Oper} {rest : List Oper} {o : Oper} {a : Act} {Q : Exit → Act → World → Prop} {W : World} (hgd : o.guard = none) (s x : Operand) (t u e : TypeId)
    (ho : o.op = .call { callee := .builtin .append, args := #[s, x], argTypes := #[t, u] })
    (ht : P.underlying t = some (.slice e)) (hu : P.underlying u = some .string) (hinfo : (P.info? e).map (fun i => (i.zero, i.size, i.bytes)) = some (some (.int .u8 0), 1, 1))
    (v : Value) (xs ys : List Int) (hs : a.eval s = v) (str : ByteArray) (hstr : Lib.strCells str = nums .u8 ys) (hx : a.eval x = .string str) (HR : Row W .u8 e v xs)
    (base : Nat) (hb : base ≤ W.heap.size) (HF : ∀ b, b ∈ fp v → base ≤ b) (hl : xs.length + ys.length ≤ 140737488355328)
    (h : ∀ v1 w1, Row w1 .u8 e v1 (xs ++ ys) → Keeps (fp v) W w1 → (∀ b, b ∈ fp v1 → base ≤ b) → wpList P ops Q rest (a.put o.dst v1) w1) :
    wpList P ops Q (o :: rest) a W := by
  obtain ⟨i0, hi, hzz⟩ := Option.map_eq_some_iff.1 hinfo
  simp only [Prod.mk.injEq] at hzz
  obtain ⟨hz0, hz1, hz2⟩ := hzz
  have hlen : str.size = ys.length := by rw [← Lib.strCells_length, hstr, nums_length]
  refine Lib.wpList_append_own_string W hgd s x t u ho base e i0 ht hu hi hz0 hz1 hz2 v xs.length (nums .u8 xs) hs (HR.based base HF) str hx (by rw [hlen]; simp only [maxLen]; omega) (by rw [hlen]; exact hl) hb ?_
  intro v1 w1 hown hg _
  rw [hstr, ← nums_append, hlen] at hown
  obtain ⟨h1, h2⟩ := Row.ofBased hown (by rw [List.length_append])
  exact h v1 w1 h1 ((Keeps.refl _ _).grown hg (fun k hk => .inl (mem_fp.2 hk))) h2
theorem strCells_dstr (l : List Bool) : Lib.strCells (dstr l) = nums .u8 (l.map dg) := by
  unfold Lib.strCells nums
  rw [dstr_data, List.map_map, List.map_map]
  congr 1
  funext b; cases b <;> rfl

set_option maxHeartbeats 2000000 in
theorem dText_calls (bs : List Int) (n : Nat) (hn : n = bs.length) (a : Option Addr) (c : Nat) (w : World) (hl : bs.length ≤ 100000) (hr : Hid (∀ x ∈ bs, 0 ≤ x ∧ x ≤ 255)) (hx : Hid (Rd w .u8 a bs)) :
    Calls Tryd.prog 21 #[.slice a n c] w fun e w' => e = .returned (.string (dstr (unpack bs))) ∧ Keeps [] w w' := by
  subst hn
  have hmk : ∀ W : World, Sem.run Tryd.prog (Instr.makeSlice 36 (.int .i64 0) (.int .i64 (8 * (bs.length : Int)))) W = .ok (.slice (some ⟨W.heap.size, 0, none⟩) 0 (8 * bs.length)) (W.alloc (.cells (madeCells #[.int .u8 0] (8 * bs.length)) 5)) :=
    fun W => run_mk Tryd.prog 36 5 .u8 1 Tryd.underlying36 info_u8 .i64 .i64 0 (8 * bs.length) 0 (8 * (bs.length : Int)) rfl (by omega) (by omega) (by omega) (by omega) W
  go_enter Tryd.func21, Tryd.ntmps21
  go_wp2
  clear hmk
  go_loopg [3, 4] (bs.length + 1) (fun q v3 v4 wr => ∃ i : Nat, v4 = .int .i64 i ∧ i ≤ bs.length ∧ Hid (i + q = bs.length + 1) ∧ Hid (Row wr .u8 5 v3 ((unpack (bs.take i)).map dg)) ∧ Hid (∀ b, b ∈ fp v3 → w.heap.size ≤ b) ∧ Hid (Keeps [] w wr))
  case atStart => exact ⟨0, rfl, by omega, (show _ = _ from by omega), Row.madeRoom w .u8 5 _ (by omega), (fun b hb => by rw [fp_some, List.mem_singleton] at hb; omega), (Keeps.refl _ _).alloc _⟩
  case round =>
    obtain ⟨i, rfl, hi, HQ, HR, HF, HK⟩ := hrel
    by_cases hlt : i < bs.length
    · obtain ⟨x, hxe⟩ : ∃ x, bs[i] = x := ⟨_, rfl⟩
      obtain ⟨b0, o0, rfl, hcells⟩ := hx.out.form (by omega)
      have hc := (HK.out.cell (hcells i hlt) (by simp))
      rw [hxe] at hc
      obtain ⟨x0, x1⟩ := hr.out x (by rw [← hxe]; exact List.getElem_mem _)
      have HSTEP : Hid (unpack (bs.take (i + 1)) = unpack (bs.take i) ++ bitsN 8 x.toNat) := by
        show _ = _
        rw [List.take_succ_eq_append_getElem hlt, unpack_append, hxe, unpack_cons, unpack_nil, List.append_nil]
      have HD : Hid (∀ W : World, Calls Tryd.prog 41 #[.int .i64 x, .int .i64 8] W fun e w' => e = .returned (.string (dstr (bitsN 8 x.toNat))) ∧ Keeps [] W w') := by
        intro W
        exact digits_callsI x 8 W (by omega) (by omega) (by omega) (by omega)
      have HLB : Hid (((unpack (bs.take i)).map dg).length + ((bitsN 8 x.toNat).map dg).length ≤ 140737488355328) := by show _ ≤ _; simp [unpack_length, bitsN_length]; omega
      clear hcells hxe
      go_wp2_with (first
        | (go_at_call 41; go_must (with_reducible refine (HD.out _).mono ?_); rintro e w1 ⟨rfl, hk1⟩; have HR1 := Lib.hid (HR.out.keeps hk1 (fun _ _ => by simp)); have HK1 := Lib.hid (HK.out.new hk1))
        | (at_builtin; go_must (refine wp_appS (W := w1) rfl (.tmp 15) (.tmp 21) 36 9 5 rfl Tryd.underlying36 Tryd.underlying9 info_u8 _ _ _ rfl _ (strCells_dstr _) rfl HR1.out w.heap.size HK1.out.size HF.out HLB.out ?_); intro v1 w2 hr2 hk2 hf2))
      go_roundg (bs.length - i)
      case measure => have := HQ.out; omega
      case rel =>
        refine ⟨i + 1, by go_num, by omega, (show _ = _ from by have := HQ.out; omega), ?_, hf2, HK1.out.then_ hk2 (fun b hb hlt => ?_)⟩
        · show Row _ _ _ _ _
          rw [HSTEP.out, List.map_append]
          exact hr2
        · have := HF.out b hb
          omega
    · obtain rfl : i = bs.length := by omega
      have hrr := HR.out
      rw [List.take_of_length_le (Nat.le_refl _)] at hrr
      have hcv := hrr.textv (P := Tryd.prog) 36 5 9 Tryd.underlying36 Tryd.underlying5 Tryd.underlying9
      rw [str_dg] at hcv
      clear hrr HR HF
      go_wp2_with fail
      go_ret
      exact ⟨rfl, HK.out⟩
end Go.Proofs.YtofkiimaoahfjaaDoor
