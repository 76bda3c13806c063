/-
  Layer 9 (subframe), the document: Check, wasted, signed, head.
  Layer 9 (subframe), the document: signed, head, modelled.
  Layer 9 (subframe): known, cut.
-/
import Derived.Test.YtofkiimaoahfjaaDoorZSub8
import Derived.Test.YtofkiimaoahfjaaDoorZRice26
import Derived.Deep.RegionHeld3
import Derived.Test.YtofkiimaoahfjaaDoorZSub10
set_option maxRecDepth 100000
set_option linter.unusedVariables false
set_option linter.unusedSimpArgs false
namespace Go.Proofs.YtofkiimaoahfjaaDoor
open Go.RowKit Go.Proofs.YtofkiimaoahfjaaDoor.Pure

theorem fit_sgn (x : Int) (k : Nat) (hk : 1 ≤ k) : sgnB x k = fitB x (k - 1) := by
  unfold sgnB fitB
  rw [if_neg (by omega), Int.toNat_natCast]

set_option maxHeartbeats 2000000 in
theorem dcheck9_calls (S : List Int) (depth : Int) (n : Nat) (hn : n = S.length) (a : Option Addr) (c : Nat) (w : World) (hx : Hid (Rd w .i64 a S)) :
    Calls Tryd.prog 15 #[.slice a n c, .int .i64 depth] w fun e w' => e = .returned (.int .i64 (schkE S depth)) ∧ w' = w := by
  subst hn
  have hxl := hx.out.small
  cases hb : sbrB S.length depth
  · have h1 : schkE S depth = 1 := schk_one hb
    rw [h1]
    have hb' : ¬ (1 ≤ (S.length : Int) ∧ (S.length : Int) ≤ 512 ∧ 4 ≤ depth ∧ depth ≤ 25) := of_decide_eq_false hb
    clear h1 hb
    by_cases g1 : (S.length : Int) < 1
    · go_enter Tryd.func15, Tryd.ntmps15
      go_wp2
      go_ret
      exact ⟨rfl, rfl⟩
    · by_cases g2 : (512 : Int) < (S.length : Int)
      · go_enter Tryd.func15, Tryd.ntmps15
        go_wp2
        go_ret
        exact ⟨rfl, rfl⟩
      · by_cases g3 : depth < 4
        · go_enter Tryd.func15, Tryd.ntmps15
          go_wp2
          go_ret
          exact ⟨rfl, rfl⟩
        · have g4 : 25 < depth := by omega
          clear hb'
          go_enter Tryd.func15, Tryd.ntmps15
          go_wp2
          go_ret
          exact ⟨rfl, rfl⟩
  · obtain ⟨h1, h2, h3, h4⟩ := sbr_facts hb
    obtain ⟨k, rfl⟩ : ∃ k : Nat, depth = k := ⟨depth.toNat, by omega⟩
    have HE : Hid (schkE S k = if S.all (fun x => sgnB x k) then 0 else 12) := by
      show _ = _
      unfold schkE
      rw [hb, if_pos rfl, Int.toNat_natCast]
      have : (fun x => fitB x (k - 1)) = (fun x => sgnB x k) := funext fun x => (fit_sgn x k (by omega)).symm
      rw [this]
    obtain ⟨p, hp⟩ : ∃ p : Int → Bool, (fun x => sgnB x k) = p := ⟨_, rfl⟩
    have HPX : Hid (∀ x, sgnB x k = p x) := fun x => by rw [← hp]
    rw [hp] at HE
    have hk33 : k ≤ 33 := by omega
    clear hp hb
    go_enter Tryd.func15, Tryd.ntmps15
    go_wp2_with fail
    go_loopg [5] (S.length + 1) (fun q v5 wr => wr = w ∧ ∃ (i : Nat), v5 = .int .i64 i ∧ i ≤ S.length ∧ Hid ((S.drop i).all p = S.all p) ∧ Hid (i + q = S.length + 1))
    case atStart => exact ⟨rfl, 0, rfl, by omega, (show _ = _ from by simp), (show _ = _ from by omega)⟩
    case round =>
      obtain ⟨rfl, i, rfl, hi, HT, HQ⟩ := hrel
      by_cases hlt : i < S.length
      · obtain ⟨b1, o1, rfl, hc1⟩ := hx.out.cellAt i hlt
        obtain ⟨x, hx1⟩ : ∃ x, S[i] = x := ⟨_, rfl⟩
        rw [hx1] at hc1
        have HS := Lib.hid (all_step p S i hlt x hx1 HT.out)
        have HN := Lib.hid (all_no p S i hlt x hx1 HT.out)
        clear hx1
        cases hb : p x
        · have HB := Lib.hid hb
          have HA : Hid (S.all p = false) := HN.out hb
          clear hb
          go_wp2_with (first
            | (go_at_call 33; go_must (with_reducible refine (refSigned_calls x k _ hk33).mono ?_); rw [HPX.out, HB.out]; rintro e w1 ⟨rfl, rfl⟩))
          go_ret
          rw [HE.out, HA.out]
          exact ⟨rfl, rfl⟩
        · have HB := Lib.hid hb
          clear hb
          go_wp2_with (first
            | (go_at_call 33; go_must (with_reducible refine (refSigned_calls x k _ hk33).mono ?_); rw [HPX.out, HB.out]; rintro e w1 ⟨rfl, rfl⟩))
          go_roundg (S.length - i)
          case measure => have := HQ.out; omega
          case rel => exact ⟨rfl, i + 1, by go_num, by omega, HS.out HB.out, (show _ = _ from by omega)⟩
      · obtain rfl : i = S.length := by omega
        have HA : Hid (S.all p = true) := by show _ = _; rw [← HT.out]; simp
        go_wp2_with fail
        go_ret
        rw [HE.out, HA.out]
        exact ⟨rfl, rfl⟩

set_option maxHeartbeats 2000000 in
theorem dwasted_calls (S : List Int) (n : Nat) (hn : n = S.length) (a : Option Addr) (c : Nat) (w : World) (hx : Hid (Rd w .i64 a S)) :
    Calls Tryd.prog 34 #[.slice a n c] w fun e w' => e = .returned (.int .i64 (wasS S)) ∧ w' = w := by
  subst hn
  have hxl := hx.out.small
  go_enter Tryd.func34, Tryd.ntmps34
  go_wp2_with fail
  go_loopg [3, 4] (S.length + 1) (fun q v3 v4 wr => wr = w ∧ ∃ (i : Nat) (A : Int), v3 = .int .i64 A ∧ v4 = .int .i64 i ∧ i ≤ S.length ∧ Hid (A = orS (S.take i)) ∧ Hid (i + q = S.length + 1))
  case atStart => exact ⟨rfl, 0, 0, rfl, rfl, by omega, (show _ = _ from rfl), (show _ = _ from by omega)⟩
  case round =>
    obtain ⟨rfl, i, A, rfl, rfl, hi, HA, HQ⟩ := hrel
    by_cases hlt : i < S.length
    · obtain ⟨b1, o1, rfl, hc1⟩ := hx.out.cellAt i hlt
      obtain ⟨x, hx1⟩ : ∃ x, S[i] = x := ⟨_, rfl⟩
      rw [hx1] at hc1
      have HN : Hid (bits .or .i64 A x = orS (S.take (i + 1))) := by
        show _ = _
        rw [List.take_succ_eq_append_getElem hlt, orS_snoc, hx1, HA.out]
      clear hx1
      go_wp2_with fail
      go_roundg (S.length - i)
      case measure => have := HQ.out; omega
      case rel => exact ⟨rfl, i + 1, _, rfl, by go_num, by omega, HN.out, (show _ = _ from by omega)⟩
    · obtain rfl : i = S.length := by omega
      have HAS : Hid (A = orS S) := by show _ = _; rw [HA.out, List.take_length]
      have HAR := Lib.hid (orS_range S)
      obtain ⟨wb, rfl⟩ : ∃ x : World, x = wr := ⟨_, rfl⟩
      clear HA HQ hi hlt
      go_wp2_with fail
      go_loopg [3, 5] 80 (fun q v3 v5 wr => wr = wb ∧ ∃ (k : Nat) (A : Int), v3 = .int .i64 A ∧ v5 = .int .i64 k ∧ Hid (A * 2 ^ k = orS S) ∧ k ≤ 64 ∧ Hid (k + q = 80) ∧ Hid (-9223372036854775808 ≤ A ∧ A ≤ 9223372036854775807) ∧ Hid (orS S = 0 → k = 0))
      case atStart => exact ⟨rfl, 0, A, rfl, rfl, (show _ = _ from by rw [HAS.out]; simp), by omega, (show _ = _ from by omega), (by show _ ∧ _; rw [HAS.out]; exact HAR.out), fun _ => rfl⟩
      case round =>
        clear HAS
        obtain ⟨rfl, k, A, rfl, rfl, HK, hk, HQ, HR, HZ⟩ := hrel
        have hrr := HR.out
        by_cases h0 : A = 0
        · subst h0
          have HE : Hid (wasS S = k) := by
            have h1 : orS S = 0 := by rw [← HK.out]; simp
            show _ = _
            rw [HZ.out h1]
            unfold wasS tzS
            rw [if_pos h1]
          go_wp2_with fail
          go_ret
          rw [HE.out]
          exact ⟨rfl, rfl⟩
        · have hb : (A == 0) = false := beq_eq_false_iff_ne.2 h0
          have hk63 : k ≤ 63 := tz_small (orS S) A k HAR.out HK.out h0
          by_cases hev : A % 2 = 0
          · have ht : Int.tmod A 2 = 0 := by
              rw [Int.tmod_eq_emod]
              split <;> omega
            have hd : Int.tdiv A 2 = A / 2 := by
              rw [Int.tdiv_eq_ediv]
              have hdv : (2 : Int) ∣ A := Int.dvd_of_emod_eq_zero hev
              rw [if_pos (.inr hdv)]
              omega
            have HK2 := Lib.hid (tz_half (orS S) A k HK.out hev)
            have HZ2 : Hid (orS S = 0 → k + 1 = 0) := by
              intro h
              exfalso
              have h1 := HK.out
              rw [h] at h1
              rcases Int.mul_eq_zero.1 h1 with h2 | h2
              · exact h0 h2
              · have : (0 : Int) < 2 ^ k := Int.pow_pos (by omega)
                omega
            clear hev
            go_wp2_with fail
            go_roundg (79 - k)
            case measure => have := HQ.out; omega
            case rel => exact ⟨rfl, k + 1, A / 2, rfl, by go_num, HK2.out, by omega, (show _ = _ from by omega), (show _ ∧ _ from by omega), HZ2.out⟩
          · have ht : (Int.tmod A 2 == 0) = false := by
              apply beq_eq_false_iff_ne.2
              rw [Int.tmod_eq_emod]
              split <;> omega
            have HE : Hid (wasS S = k) := tz_end (orS S) A k HAR.out HK.out hev
            clear hev
            go_wp2_with fail
            go_ret
            rw [HE.out]
            exact ⟨rfl, rfl⟩
end Go.Proofs.YtofkiimaoahfjaaDoor

set_option maxRecDepth 100000
set_option linter.unusedVariables false
set_option linter.unusedSimpArgs false
namespace Go.Proofs.YtofkiimaoahfjaaDoor
open Go.RowKit Go.Proofs.YtofkiimaoahfjaaDoor.Pure

set_option maxHeartbeats 2000000 in
theorem dsigned_calls (L : List Int) (width : Int) (n : Nat) (hn : n = L.length) (a : Option Addr) (c : Nat) (w : World) (hl : L.length ≤ 1000000) (hr : Hid (∀ x ∈ L, -9223372036854775808 ≤ x ∧ x ≤ 9223372036854775807)) (hx : Hid (Rd w .i64 a L)) :
    Calls Tryd.prog 36 #[.slice a n c, .int .i64 width] w fun e w' => e = .returned (.string (dstr (psS L width))) ∧ Keeps [] w w' := by
  subst hn
  have hxl := hx.out.small
  have ed : dstr [] = ⟨#[]⟩ := rfl
  go_enter Tryd.func36, Tryd.ntmps36
  go_wp2_with fail
  go_loopg [5, 6] (L.length + 1) (fun q v5 v6 wr => ∃ (i : Nat), v6 = .int .i64 i ∧ v5 = .string (dstr (psS (L.take i) width)) ∧ i ≤ L.length ∧ Hid (Keeps [] w wr) ∧ Hid (i + q = L.length + 1))
  case atStart => exact ⟨0, rfl, rfl, by omega, Keeps.refl _ _, (show _ = _ from by omega)⟩
  case round =>
    obtain ⟨i, rfl, rfl, hi, HK, HQ⟩ := hrel
    obtain ⟨q1, rfl⟩ : ∃ g : Nat, g = gk := ⟨_, rfl⟩
    obtain ⟨wa, rfl⟩ : ∃ y : World, y = wr := ⟨_, rfl⟩
    by_cases hlt : i < L.length
    · obtain ⟨b1, o1, rfl, hc1⟩ := (hx.out.new HK.out).cellAt i hlt
      obtain ⟨x, hx1⟩ : ∃ x, L[i] = x := ⟨_, rfl⟩
      have HXR := Lib.hid (hr.out x (by rw [← hx1]; exact List.getElem_mem _))
      have HN : Hid (psS (L.take (i + 1)) width = psS (L.take i) width ++ psB x width) := by show _ = _; rw [List.take_succ_eq_append_getElem hlt, psS_snoc, hx1]
      rw [hx1] at hc1
      have hln : (psS (L.take i) width).length + (psB x width).length ≤ 9223372036854775807 := by
        have h1 := psS_le (L.take i) width
        have h2 := psB_le x width
        rw [List.length_take] at h1
        omega
      obtain ⟨A, hA⟩ : ∃ A, psS (L.take i) width = A := ⟨_, rfl⟩
      obtain ⟨B, hB⟩ : ∃ B, psB x width = B := ⟨_, rfl⟩
      rw [hA, hB] at HN hln
      have HB := Lib.hid hB
      have hadd := fun W => run_dstr_add Tryd.prog A B hln W
      rw [hA]
      clear hx1 hln hA hB
      go_wp2_with (first
        | (go_at_call 66; go_must (with_reducible refine (refPutSigned_calls x width _ HXR).mono ?_); rw [HB.out]; rintro e w4 ⟨rfl, hk4⟩))
      go_roundg (L.length - i)
      case measure => have := HQ.out; omega
      case rel => exact ⟨i + 1, by go_num, by rw [HN.out], by omega, HK.out.new hk4, (show _ = _ from by have := HQ.out; omega)⟩
    · obtain rfl : i = L.length := by omega
      rw [List.take_length]
      go_wp2_with fail
      go_ret
      exact ⟨rfl, HK.out⟩

theorem bitsN_high (k : Nat) : ∀ n, n < 2 ^ k → bitsN (k + 1) n = false :: bitsN k n := by
  induction k with
  | zero =>
    intro n h
    rw [Nat.pow_zero] at h
    have h0 : n = 0 := by omega
    subst h0
    rfl
  | succ k ih =>
    intro n h
    have h1 : n / 2 < 2 ^ k := by rw [Nat.pow_succ] at h; omega
    have e : bitsN (k + 1 + 1) n = bitsN (k + 1) (n / 2) ++ [n % 2 == 1] := rfl
    rw [e, ih _ h1]
    rfl
theorem put_bits (n : Int) (j : Nat) (hj : j ≤ 32) (h0 : 0 ≤ n) (h1 : n < 2 ^ j) : putB n (j : Nat) = bitsN j n.toNat := by
  have he := (putE_cases n j hj).2.2 h0 h1
  unfold putB
  rw [if_pos he, Int.toNat_natCast]
theorem put7 (kd : Int) (h0 : 0 ≤ kd) (h1 : kd < 64) : putB kd 7 = [false] ++ bitsN 6 kd.toNat := by
  have := put_bits kd 7 (by omega) h0 (by omega)
  rw [show ((7 : Nat) : Int) = 7 from rfl] at this
  rw [this, bitsN_high 6 _ (by omega)]
  rfl

set_option maxHeartbeats 2000000 in
theorem dhead_calls (kd : Int) (k : Nat) (w : World) (h0 : 0 ≤ kd) (h1 : kd < 64) (hk : k ≤ 60000) :
    Calls Tryd.prog 65 #[.int .i64 kd, .int .i64 k] w fun e w' => e = .returned (.string (dstr (headB kd k))) ∧ Keeps [] w w' := by
  have H7 := Lib.hid (put7 kd h0 h1)
  have hlen : (bitsN 6 kd.toNat).length = 6 := bitsN_length 6 _
  have HDG := Lib.hid (fun W => digits_callsI kd 6 W (by omega) (by omega) h0 (by omega))
  have h6 : (6 : Int).toNat = 6 := rfl
  rw [h6] at HDG
  obtain ⟨B, hB⟩ : ∃ B, bitsN 6 kd.toNat = B := ⟨_, rfl⟩
  rw [hB] at HDG H7 hlen
  have hadd1 : ∀ W, (Op.stringOp .add ⟨#[48]⟩ (dstr B)).run Tryd.prog W = .ok (.string (dstr ([false] ++ B))) W := fun W => run_dstr_add Tryd.prog [false] B (by simp; omega) W
  obtain ⟨C, hC⟩ : ∃ C, [false] ++ B = C := ⟨_, rfl⟩
  have hCl : C.length = 7 := by rw [← hC]; simp [hlen]
  rw [hC] at hadd1 H7
  clear hB hC hlen h6
  by_cases hk0 : 0 < k
  · have HHE : Hid (headB kd k = C ++ true :: unB ((k : Int) - 1)) := by
      show _ = _
      unfold headB
      rw [if_pos hk0, H7.out]
      rfl
    obtain ⟨U, hU⟩ : ∃ U, unB ((k : Int) - 1) = U := ⟨_, rfl⟩
    have hUl : U.length ≤ 70000 := by
      rw [← hU]
      have e : unE ((k : Int) - 1) = 0 := by unfold unE; rw [if_neg (by omega)]
      unfold unB
      rw [if_pos e, List.length_append, List.length_replicate, List.length_singleton]
      omega
    rw [hU] at HHE
    have HUN := Lib.hid (fun W => refUnary_calls ((k : Int) - 1) W)
    rw [hU] at HUN
    have hadd2 : ∀ W, (Op.stringOp .add (dstr C) ⟨#[49]⟩).run Tryd.prog W = .ok (.string (dstr (C ++ [true]))) W := fun W => run_dstr_add Tryd.prog C [true] (by simp; omega) W
    have hadd3 := fun W => run_dstr_add Tryd.prog (C ++ [true]) U (by simp; omega) W
    have hkne : ((k : Int) == 0) = false := beq_eq_false_iff_ne.2 (by omega)
    clear hU hUl hCl
    go_enter Tryd.func65, Tryd.ntmps65
    go_wp2_with (first
      | (go_at_call 41; go_must (with_reducible refine (HDG.out _).mono ?_); rintro e w3 ⟨rfl, hk3⟩)
      | (go_at_call 96; go_must (with_reducible refine (HUN.out _).mono ?_); rintro e w4 ⟨rfl, hk4⟩))
    go_ret
    refine ⟨?_, hk3.new hk4⟩
    rw [HHE.out]
    rfl
  · obtain rfl : k = 0 := by omega
    have HHE : Hid (headB kd 0 = C ++ [false]) := by
      show _ = _
      unfold headB
      rw [if_neg hk0, H7.out]
      rfl
    have hadd2 : ∀ W, (Op.stringOp .add (dstr C) ⟨#[48]⟩).run Tryd.prog W = .ok (.string (dstr (C ++ [false]))) W := fun W => run_dstr_add Tryd.prog C [false] (by simp; omega) W
    clear hCl
    go_enter Tryd.func65, Tryd.ntmps65
    go_wp2_with (first
      | (go_at_call 41; go_must (with_reducible refine (HDG.out _).mono ?_); rintro e w3 ⟨rfl, hk3⟩))
    go_ret
    refine ⟨?_, hk3⟩
    rw [HHE.out]
    rfl

/-- The document's bits of a model. -/
def mdB (xs cs : List Int) (sh D : Int) (num : Bool) : List Bool := psS (xs.take cs.length) D ++ (if num then putB 11 4 ++ putB sh 5 ++ psS cs 12 else []) ++ rwB (leftL cs sh xs) cs.length
theorem rw_le (L : List Int) (o : Int) : (rwB L o).length ≤ 30000 := by
  by_cases he : rchkE L o = 0
  · obtain ⟨_, _, _, _, _, _, h, _⟩ := rw_ok L o he
    exact h
  · rw [(rw_no L o he).1]
    simp
set_option maxHeartbeats 8000000 in
theorem dmod_yes (xs cs : List Int) (sh D : Int) (num : Bool) (sa ca : Option Addr) (n sc m cc : Nat) (w : World) (hn : n = xs.length) (hm : m = cs.length) (hsc : xs.length ≤ sc) (hcx : cs.length ≤ xs.length) (hl : xs.length ≤ 512)
    (hok : modOk xs cs sh = true) (hr : Hid (∀ x ∈ xs, -9223372036854775808 ≤ x ∧ x ≤ 9223372036854775807)) (hcr : Hid (∀ x ∈ cs, -9223372036854775808 ≤ x ∧ x ≤ 9223372036854775807)) (hx : Hid (Rd w .i64 sa xs)) (hc : Hid (Rd w .i64 ca cs)) :
    Calls Tryd.prog 38 #[.slice sa n sc, .int .i64 D, .agg #[.slice ca m cc, .int .i64 sh], .bool num] w fun e w' => e = .returned (.tuple #[.string (dstr (mdB xs cs sh D num)), .bool true]) ∧ Keeps [] w w' := by
  subst hn hm
  have ho : resE cs sh xs = 0 ∧ rchkE (leftL cs sh xs) cs.length = 0 := of_decide_eq_true hok
  obtain ⟨hc8, hO, hL⟩ := sm_facts xs cs sh ho.1 hl
  have h1 : rightB cs sh = true := by
    cases h : rightB cs sh
    · have := ho.1
      unfold resE at this
      rw [if_pos h] at this
      cases this
    · rfl
  obtain ⟨-, hs0, hs1, -⟩ := (rightB_iff cs sh).1 h1
  have HDR : Hid (∀ W, Keeps [] w W → Calls Tryd.prog 67 #[.agg #[.slice ca cs.length cc, .int .i64 sh], .slice sa xs.length sc] W fun e w' => ∃ v, e = .returned (.tuple #[v, .int .i64 0]) ∧ Row w' .i64 3 v (leftL cs sh xs) ∧ (∀ b, b ∈ fp v → W.heap.size ≤ b) ∧ Keeps [] W w') := by
    intro W hk
    have := docResidual_calls cs xs sh _ _ rfl ca sa cc sc W rfl hsc (by omega) (Lib.hid (hc.out.new hk)) (Lib.hid (hx.out.new hk))
    rw [hO, ho.1] at this
    exact this
  have hB4 := rw_le (leftL cs sh xs) cs.length
  have hB0 := psS_le (xs.take cs.length) D
  have hB3 := psS_le cs 12
  have hB11 : putB 11 4 = bitsN 4 11 := put_bits 11 4 (by omega) (by omega) (by omega)
  have hBsh : putB sh 5 = bitsN 5 sh.toNat := put_bits sh 5 (by omega) hs0 (by omega)
  have hB1 := putB_le 11 4
  have hB2 := putB_le sh 5
  have HMD : Hid (mdB xs cs sh D num = psS (xs.take cs.length) D ++ (if num then putB 11 4 ++ putB sh 5 ++ psS cs 12 else []) ++ rwB (leftL cs sh xs) cs.length) := (show _ = _ from rfl)
  have HDW := Lib.hid (fun (v : Option Addr) rc W (h1 : v = none → rc = 0) (h2 : (leftL cs sh xs).length ≤ rc) hrd => docWrite_calls (leftL cs sh xs) cs.length _ rfl v rc W h1 (by omega) h2 (by omega) hrd)
  rw [ho.2] at HDW
  have HSG := Lib.hid (fun W (hk : Keeps [] w W) => dsigned_calls (xs.take cs.length) D cs.length (by rw [List.length_take]; omega) sa sc W (by rw [List.length_take]; omega) (Lib.hid (fun x hx => hr.out x (List.mem_of_mem_take hx))) (Lib.hid ((hx.out.new hk).take cs.length)))
  have HSC := Lib.hid (fun W (hk : Keeps [] w W) => dsigned_calls cs 12 cs.length rfl ca cc W (by omega) hcr (Lib.hid (hc.out.new hk)))
  have HG1 := Lib.hid (fun W => digits_callsI 11 4 W (by omega) (by omega) (by omega) (by omega))
  have HG2 := Lib.hid (fun W => digits_callsI sh 5 W (by omega) (by omega) hs0 (by omega))
  rw [show (4 : Int).toNat = 4 from rfl, show (11 : Int).toNat = 11 from rfl, ← hB11] at HG1
  rw [show (5 : Int).toNat = 5 from rfl, ← hBsh] at HG2
  rw [List.length_take] at hB0
  obtain ⟨B0, e0⟩ : ∃ B, psS (xs.take cs.length) D = B := ⟨_, rfl⟩
  obtain ⟨B1, e1⟩ : ∃ B, putB 11 4 = B := ⟨_, rfl⟩
  obtain ⟨B2, e2⟩ : ∃ B, putB sh 5 = B := ⟨_, rfl⟩
  obtain ⟨B3, e3⟩ : ∃ B, psS cs 12 = B := ⟨_, rfl⟩
  obtain ⟨L, eL⟩ : ∃ L, leftL cs sh xs = L := ⟨_, rfl⟩
  rw [eL] at HDR HDW HMD hB4 hL
  obtain ⟨B4, e4⟩ : ∃ B, rwB L cs.length = B := ⟨_, rfl⟩
  rw [e0, e1, e2, e3, e4] at HMD
  rw [e0] at HSG hB0
  rw [e1] at HG1 hB1
  rw [e2] at HG2 hB2
  rw [e3] at HSC hB3
  rw [e4] at HDW hB4
  have hcn0 : (0 : Int) ≤ (cs.length : Int) := by omega
  have hcn1 : (cs.length : Int) ≤ (sc : Int) := by omega
  have hL6 : L.length ≤ 512 := hL
  have HKB : Hid (Keeps [] w (w.alloc (.cells #[.slice ca cs.length cc, .int .i64 sh] 71))) := (Keeps.refl _ _).alloc _
  have hbx : Box (w.alloc (.cells #[.slice ca cs.length cc, .int .i64 sh] 71)) w.heap.size (.slice ca cs.length cc) (.int .i64 sh) := Box.made _ _ _ _
  have HBX := Lib.hid hbx
  clear e0 e1 e2 e3 e4 eL ho h1 hO hok hB11 hBsh hL hbx
  go_enter Tryd.func38, Tryd.ntmps38
  go_upto_region 1 with fail
  generalize w.alloc (.cells #[.slice ca cs.length cc, .int .i64 sh] 71) = w1 at *
  have bx0 := HBX.out.c0
  have bx1 := HBX.out.c1
  go_upto_region 9 with (first
    | (go_at_call 67; go_must (with_reducible refine (HDR.out _ HKB.out).mono ?_); rintro e w2 ⟨rv, rfl, hr2, hf2, hk2⟩; obtain ⟨ra, rc, rfl, hq2, hn2, hc2⟩ := hr2.rdd; have HQ2 := Lib.hid hq2; have HN2 := Lib.hid hn2; have HC2 := Lib.hid hc2; have HK2 := Lib.hid hk2; clear hr2 hf2 hq2 hn2 hc2 hk2)
    | (go_at_call 68; go_must (with_reducible refine (HDW.out ra rc _ HN2.out HC2.out HQ2).mono ?_); rintro e w3 ⟨rfl, hk3⟩; have HK3 := Lib.hid (HK2.out.new hk3); clear hk3)
    | (go_at_call 36; go_must (with_reducible refine (HSG.out _ (HKB.out.new HK3.out)).mono ?_); rintro e w4 ⟨rfl, hk4⟩; have HK4 := Lib.hid (HK3.out.new hk4); clear hk4))
  have HKW := Lib.hid (HKB.out.new HK4.out)
  have by0 := HK4.out.cell bx0 (by simp)
  have by1 := HK4.out.cell bx1 (by simp)
  clear bx0 bx1 HBX HK2 HK3 HK4 HDR HDW HSG HKB
  cases num
  · have hadd := fun W => run_dstr_add Tryd.prog B0 B4 (by omega) W
    have HM2 : Hid (mdB xs cs sh D false = B0 ++ B4) := by show _ = _; rw [HMD.out]; simp
    go_wp2_with fail
    go_ret2
    refine ⟨?_, HKW.out⟩
    rw [HM2.out]
    rfl
  · have hadd1 := fun W => run_dstr_add Tryd.prog B0 B1 (by omega) W
    obtain ⟨C1, eC1⟩ : ∃ C, B0 ++ B1 = C := ⟨_, rfl⟩
    have hl1 : C1.length ≤ 20000 := by rw [← eC1, List.length_append]; omega
    have hadd2 := fun W => run_dstr_add Tryd.prog C1 B2 (by omega) W
    obtain ⟨C2, eC2⟩ : ∃ C, C1 ++ B2 = C := ⟨_, rfl⟩
    have hl2 : C2.length ≤ 20100 := by rw [← eC2, List.length_append]; omega
    have hadd3 := fun W => run_dstr_add Tryd.prog C2 B3 (by omega) W
    obtain ⟨BB, eBB⟩ : ∃ C, C2 ++ B3 = C := ⟨_, rfl⟩
    have hl3 : BB.length ≤ 30000 := by rw [← eBB, List.length_append]; omega
    have hadd4 := fun W => run_dstr_add Tryd.prog BB B4 (by omega) W
    have HM2 : Hid (mdB xs cs sh D true = BB ++ B4) := by show _ = _; rw [HMD.out, ← eBB, ← eC2, ← eC1]; simp
    rw [eC1] at hadd1
    rw [eC2] at hadd2
    rw [eBB] at hadd3
    clear eBB eC1 eC2 hl1 hl2 hl3
    go_upto_region 10 with fail
    go_cut [14] (fun c14 wx => c14 = .string (dstr BB) ∧ Hid (Keeps [] w wx))
    case first =>
      go_region_held3 (fun w' => Keeps [] w4 w' ∧ w'.cell? ⟨w.heap.size, 0, none⟩ = some (.slice ca cs.length cc) ∧ w'.cell? ⟨w.heap.size, 1, none⟩ = some (.int .i64 sh))
        (first
          | (exact ⟨(Keeps.refl [] w4).drew, by0, by1⟩)
          | (go_split_ands; refine ⟨Keeps.new (by assumption) hkN, hkN.cell (by assumption) (by simp), hkN.cell (by assumption) (by simp)⟩)
          | go_keep)
        (first
          | (go_at_call 41; go_split_ands; with_reducible refine (HG1.out _).mono ?_; rintro e wd ⟨rfl, hkN⟩)
          | (go_at_call 41; go_split_ands; with_reducible refine (HG2.out _).mono ?_; rintro e wd ⟨rfl, hkN⟩)
          | (go_at_call 36; go_split_ands; go_must (with_reducible refine (HSC.out _ (HKW.out.new (by assumption))).mono ?_); rintro e wd ⟨rfl, hkN⟩))
      all_goals
        go_wp2_with fail
        go_meet
        go_split_ands
        exact ⟨rfl, HKW.out.new (by assumption)⟩
    case rest =>
      obtain ⟨rfl, HK5⟩ := hcut
      obtain ⟨wa, rfl⟩ : ∃ x : World, x = wc := ⟨_, rfl⟩
      go_wp2_with fail
      go_ret2
      refine ⟨?_, HK5.out⟩
      rw [HM2.out]
      rfl
end Go.Proofs.YtofkiimaoahfjaaDoor

set_option maxRecDepth 100000
set_option linter.unusedVariables false
set_option linter.unusedSimpArgs false
namespace Go.Proofs.YtofkiimaoahfjaaDoor
open Go.RowKit Go.Proofs.YtofkiimaoahfjaaDoor.Pure

theorem kn9 : schkE [5, 5, 5] 8 = 0 ∧ sputB [5, 5, 5] 8 = [false, false, false, false, false, false, false, false, false, false, false, false, false, true, false, true] := by decide +kernel
theorem kn9Pack : pack [false, false, false, false, false, false, false, false, false, false, false, false, false, true, false, true] = [0, 5] := by decide +kernel

set_option maxHeartbeats 4000000 in
theorem sknown_calls (w : World) (hT : Hid (Tab w)) :
    Calls Tryd.prog 9 #[] w fun e w' => e = .returned (.bool true) ∧ Keeps [] w w' := by
  have HK0 : Hid (Keeps [] w w) := Keeps.refl _ _
  go_enter Tryd.func9, Tryd.ntmps9
  go_upto_region 2 with (first
    | (go_at_call 11; go_must (refine (wsNew w _ HK0).mono ?_); rintro e w1 ⟨p, rfl, hW1, hk1, -⟩; have HW1 := Lib.hid hW1; have HT1 := Lib.hid (hT.out.new hk1); clear hW1 hk1))
  have hKA : Keeps [] w1 (w1.alloc (.cells #[.int .i64 5, .int .i64 5, .int .i64 5] 3)) := (Keeps.refl _ _).alloc _
  have HTA := Lib.hid (HT1.out.new hKA)
  have HWA := Lib.hid (HW1.out.new hKA)
  have HRD : Hid (Rd (w1.alloc (.cells #[.int .i64 5, .int .i64 5, .int .i64 5] 3)) .i64 (some ⟨w1.heap.size, 0, none⟩) [5, 5, 5]) := Rd.lit0 w1 .i64 3 #[.int .i64 5, .int .i64 5, .int .i64 5] [5, 5, 5] rfl (by simp)
  have HRR : Hid (∀ x ∈ ([5, 5, 5] : List Int), -9223372036854775808 ≤ x ∧ x ≤ 9223372036854775807) := fun x hx => by
    have : x = 5 := by simpa using hx
    omega
  go_wp2_with (first
    | (go_at_call 13; go_must (with_reducible refine (wsSub [5, 5, 5] 8 3 rfl _ 3 _ _ _ [] HRR HRD HTA HWA (by simp)).mono ?_); rw [kn9.1, kn9.2]; rintro e w2 ⟨rfl, hW2⟩; have HW2 := Lib.hid hW2; clear hW2)
    | (go_at_call 16; go_must (with_reducible refine (wsLen HW2).mono ?_); rintro e w5 ⟨rfl, rfl⟩)
    | (go_at_call 18; go_must (with_reducible refine (wsBytes HW2).mono ?_); rw [List.nil_append, kn9Pack]; rintro e w5 ⟨v5, rfl, hr5, hf5, hk5⟩; have hcv := hr5.textv (P := Tryd.prog) 36 5 9 Tryd.underlying36 Tryd.underlying5 Tryd.underlying9; have hstr : strOfNums [0, 5] = ⟨#[0, 5]⟩ := rfl; rw [hstr] at hcv; clear hstr; have HK5 : Hid (Keeps [] w w5) := HW2.out.keeps.new hk5))
  go_ret
  exact ⟨rfl, HK5.out⟩

theorem scut_calls (n c : Nat) (k : Nat) (a : Option Addr) (w : World) (hn : n ≤ 9223372036854775807) (hc : n ≤ c) (hk : k ≤ 1000) :
    Calls Tryd.prog 10 #[.slice a n c, .int .i64 k] w fun e w' => e = .returned (.slice a (min n k) c) ∧ w = w' := by
  by_cases h : n ≤ k
  · have e : min n k = n := by omega
    rw [e]
    go_enter Tryd.func10, Tryd.ntmps10
    go_wp2
    go_ret
    exact ⟨congrArg (fun k => Ending.returned (Value.slice a k c)) (show (min (n : Int) (k : Int)).toNat = n by omega), rfl⟩
  · have e : min n k = k := by omega
    rw [e]
    go_enter Tryd.func10, Tryd.ntmps10
    go_wp2
    go_ret
    exact ⟨congrArg (fun k => Ending.returned (Value.slice a k c)) (show (min (n : Int) (k : Int)).toNat = k by omega), rfl⟩
end Go.Proofs.YtofkiimaoahfjaaDoor
