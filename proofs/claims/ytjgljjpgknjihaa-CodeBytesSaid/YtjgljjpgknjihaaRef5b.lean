/-
  The document's Get (shellacref05): DocGet answers what Get answers.
-/
import Derived.Test.YtjgljjpgknjihaaCodeP
import Derived.Test.YtjgljjpgknjihaaRef3a
import Derived.Test.YtjgljjpgknjihaaRef5p
set_option linter.unusedVariables false
set_option linter.unusedSimpArgs false
namespace Go.Proofs.Ytjgljjpgknjihaa
open Go.RowKit Go.Proofs.Ytjgljjpgknjihaa.Pure

theorem str_size (b : List Int) : (strOfNums b).size = b.length := by simp [strOfNums, ByteArray.size]
theorem str_at (b : List Int) (hb : ∀ x ∈ b, 0 ≤ x ∧ x ≤ 255) (i : Nat) (h : i < (strOfNums b).size) (h2 : i < b.length) : ((strOfNums b)[i].toNat : Int) = b[i] := by
  have e : (strOfNums b)[i] = UInt8.ofNat b[i].toNat := by
    show (strOfNums b).data[i]'_ = _
    simp [strOfNums]
  have := hb _ (List.getElem_mem h2)
  rw [e]
  simp
  omega

/-- How many bits a number of one byte less has. -/
def rm (k : Nat) : Int := if k - 1 = 1 then 7 else 5 * (k - 1) + 1
theorem rm_range (k : Nat) (hk2 : 2 ≤ k) (hk7 : k ≤ 7) : 0 ≤ rm k ∧ rm k ≤ 31 := by unfold rm; split <;> omega
theorem rm_low (k : Nat) (hk2 : 2 ≤ k) (hk7 : k ≤ 7) : lowB k = wrap64 (2 ^ (rm k).toNat) := by
  have hk' : k = 2 ∨ k = 3 ∨ k = 4 ∨ k = 5 ∨ k = 6 ∨ k = 7 := by omega
  rcases hk' with rfl | rfl | rfl | rfl | rfl | rfl <;> simp [lowB, rm, wrap64]
theorem rm_calls (k : Nat) (x : Int) (w : World) (hx : x = k - 1) (hk2 : 2 ≤ k) (hk7 : k ≤ 7) :
    Calls Try.prog 24 #[.int .i64 x] w fun e w' => e = .returned (.int .i64 (rm k)) ∧ w = w' := by
  subst hx
  refine (refRoom_calls _ _ (by omega) (by omega)).mono fun e w' ⟨he, h⟩ => ⟨?_, h⟩
  rw [he]
  unfold rm
  congr 2
  split <;> split <;> omega
theorem lead_bit (b : Int) (k : Nat) (h0 : 0 ≤ b) (h1 : b ≤ 255) (hk : k < 8) : (k < lead b → b / 2 ^ (7 - k) % 2 = 1) ∧ (k = lead b → b / 2 ^ (7 - k) % 2 = 0) := by
  have key : ∀ (n : Fin 256) (j : Fin 8), (j.val < lead (n.val : Int) → (n.val : Int) / 2 ^ (7 - j.val) % 2 = 1) ∧ (j.val = lead (n.val : Int) → (n.val : Int) / 2 ^ (7 - j.val) % 2 = 0) := by decide +kernel
  have := key ⟨b.toNat, by omega⟩ ⟨k, hk⟩
  simp only [Int.toNat_of_nonneg h0] at this
  exact this
theorem str_empty : (strOfNums []).toList = [] := by
  rw [ByteArray.toList_eq]; rfl
theorem str_full (b0 : Int) (t : List Int) : (strOfNums (b0 :: t)).toList.isEmpty = false := by
  rw [ByteArray.toList_eq]; simp [strOfNums]

theorem d0_eq (x k : Nat) (hk : k ≤ 7) : List.drop (k + 1) (List.take 8 (bitsN 8 x)) = bitsN (7 - k) x := by
  rw [List.take_of_length_le (by rw [bitsN_length]; omega)]
  have e : bitsN 8 x = bitsN (k + 1) (x / 2 ^ (7 - k)) ++ bitsN (7 - k) x := by rw [← bitsN_append]; congr 1; omega
  rw [e]
  exact List.drop_left' (bitsN_length _ _)
theorem d0_len (x k : Nat) : (bitsN (7 - k) x).length = 7 - k := bitsN_length _ _
theorem d0_val (b0 : Int) (k : Nat) (h0 : 0 ≤ b0) : ((val (bitsN (7 - k) b0.toNat) : Nat) : Int) = b0 % 2 ^ (7 - k) := by
  rw [val_bitsN, Int.natCast_emod, Int.toNat_of_nonneg h0, Int.natCast_pow]; rfl
theorem val_ones (j : Nat) : val (List.replicate j true) = 2 ^ j - 1 := by
  induction j with
  | zero => rfl
  | succ j ih =>
    rw [List.replicate_succ, val_cons, ih, List.length_replicate, Nat.pow_succ]
    have := Nat.pow_pos (n := j) (show 0 < 2 by omega)
    simp
    omega
theorem getL_end (b : List Int) (d i : Nat) (l : Int) (h : b.length ≤ i) : getL b d i l l = some (l * 64 ^ d, l * 64 ^ d + (64 ^ d - 1)) := by
  suffices hz : ∀ (d' i' : Nat) (l' g' : Int), b.length ≤ i' → getL b d' i' l' g' = some (l' * 64 ^ d', g' * 64 ^ d' + (64 ^ d' - 1)) from hz d i l l h
  intro d'
  induction d' with
  | zero => intro i' l' g' _; simp [getL]
  | succ d' ih' =>
    intro i' l' g' h'
    rw [getL, dif_neg (by omega), ih' _ _ _ (by omega), Int.pow_succ]
    have hp : (0 : Int) < 64 ^ d' := Int.pow_pos (by omega)
    congr 2
    · rw [Int.mul_assoc, Int.mul_comm 64]
    · rw [Int.add_mul, Int.mul_assoc, Int.mul_comm 64 (64 ^ d')]
      omega
theorem val_pad (D : List Bool) (d : Nat) : ((val (D ++ List.replicate (6 * d) true) : Nat) : Int) = (val D : Int) * 64 ^ d + (64 ^ d - 1) := by
  rw [val_append, val_ones, List.length_replicate, Nat.pow_mul]
  have := Nat.pow_pos (n := d) (show 0 < 64 by omega)
  have e : ((64 ^ d : Nat) : Int) = 64 ^ d := by rw [Int.natCast_pow]; rfl
  rw [show (2 : Nat) ^ 6 = 64 from rfl, Int.natCast_add, Int.natCast_mul, e, Int.natCast_sub (by omega), e]
  rfl
theorem room_big (k : Nat) (w : World) (hk2 : 2 ≤ k) (hk7 : k ≤ 7) :
    Calls Try.prog 24 #[.int .i64 k] w fun e w' => e = .returned (.int .i64 (5 * k + 1)) ∧ w = w' := by
  have := refRoom_calls (k : Int) w (by omega) (by omega)
  rw [if_neg (by omega)] at this
  exact this
theorem val_take_succ (D : List Bool) (i : Nat) (h : i < D.length) : val (D.take (i + 1)) = 2 * val (D.take i) + (if D[i] then 1 else 0) := by
  rw [List.take_succ_eq_append_getElem h, val_snoc]
theorem val_small (D : List Bool) (i : Nat) (h : D.length ≤ 60) : val (D.take i) < 2 ^ 60 := by
  refine Nat.lt_of_lt_of_le (val_lt _) (Nat.pow_le_pow_right (by omega) ?_)
  simp; omega

set_option maxHeartbeats 4000000 in
set_option maxRecDepth 20000 in
theorem docGet_calls (b : List Int) (w : World) (hb : ∀ x ∈ b, 0 ≤ x ∧ x ≤ 255) (hl : b.length ≤ 1000000) :
    Calls Try.prog 18 #[.string (strOfNums b)] w fun e w' => e = .returned (GetRes b) ∧ Keeps [] w w' := by
  have hsz := str_size b
  have HB := Lib.hid hb
  have HAT := Lib.hid (str_at b hb)
  clear hb
  cases b with
  | nil =>
    have he := str_empty
    go_enter Try.func18, Try.ntmps18
    go_wp2
    go_ret3
    exact ⟨rfl, Keeps.refl _ _⟩
  | cons b0 t =>
    obtain ⟨hb0, hb1⟩ := HB.out b0 (by simp)
    have hne := str_full b0 t
    obtain ⟨b, hbb⟩ : ∃ b, b0 :: t = b := ⟨_, rfl⟩
    have hpos : 0 < b.length := by rw [← hbb]; simp
    have HE := Lib.hid hbb
    have h8 := lead_le b0
    have HBIT := Lib.hid (fun k hk => lead_bit b0 k hb0 hb1 hk)
    have hi0 : ∀ h : 0 < (strOfNums b).size, ((strOfNums b)[0].toNat : Int) = b0 := by
      intro h
      subst hbb
      exact HAT.out 0 h (by simp)
    rw [hbb] at hsz HAT HB hl ⊢
    rw [hbb] at hne
    clear hbb
    go_enter Try.func18, Try.ntmps18
    go_wp2_with fail
    go_loopg [5] 10 (fun q v5 w2 => w2 = w ∧ ∃ k : Nat, v5 = .int .i64 k ∧ k ≤ lead b0 ∧ Hid (q + k = 10))
    case atStart => exact ⟨rfl, 0, rfl, by omega, (show _ = _ from by omega)⟩
    case round =>
      obtain ⟨rfl, k, rfl, hkl, HQ⟩ := hrel
      have h7 : (7 - (k : Int)).toNat = 7 - k := by omega
      by_cases hklt : k < lead b0
      · have hk8' : k < 8 := by omega
        have hbit : (bits .and .i64 (b0 / 2 ^ (7 - k)) 1 == 1) = true := by rw [and1, (HBIT.out k hk8').1 hklt]; rfl
        go_wp2_with fail
        go_roundg (gk - 1)
        case measure => have := HQ.out; omega
        case rel => exact ⟨rfl, k + 1, by go_num, by omega, (show _ = _ from by have := HQ.out; omega)⟩
      · have hkl2 : lead b0 = k := by omega
        have hbit : k < 8 → (bits .and .i64 (b0 / 2 ^ (7 - k)) 1 == 1) = false := fun h => by rw [and1, (HBIT.out k h).2 (by omega)]; rfl
        have HKL := Lib.hid hkl2
        have hk' : k = 0 ∨ k = 1 ∨ k = 8 ∨ (2 ≤ k ∧ k ≤ 7) := by omega
        clear hkl hklt hkl2
        rcases hk' with rfl | rfl | rfl | ⟨hk2, hk7⟩
        · have hbit' : (bits .and .i64 (b0 / 128) 1 == 1) = false := hbit (by omega)
          clear hbit
          go_wp2_with fail
          go_ret3
          refine ⟨?_, Keeps.refl _ _⟩
          rw [← HE.out]
          simp [GetRes, getS, HKL.out]
        · have hbit' : (bits .and .i64 (b0 / 64) 1 == 1) = false := hbit (by omega)
          clear hbit
          go_wp2_with fail
          go_ret3
          refine ⟨?_, Keeps.refl _ _⟩
          rw [← HE.out]
          simp [GetRes, getS, HKL.out]
        · clear hbit
          go_wp2_with fail
          go_ret3
          refine ⟨?_, Keeps.refl _ _⟩
          rw [← HE.out]
          simp [GetRes, getS, HKL.out]
        · have hbit' := hbit (by omega)
          have hk0 : ((k : Int) == 0) = false := beq_eq_false_iff_ne.2 (by omega)
          have hk1 : ((k : Int) == 1) = false := beq_eq_false_iff_ne.2 (by omega)
          have hk8 : ((k : Int) == 8) = false := beq_eq_false_iff_ne.2 (by omega)
          have hmin : min ((k : Int) + 1) 8 = k + 1 := by omega
          have hex := dstr_extract
          have hap := dstr_append
          have hds := dstr_size
          have hbl := bitsN_length
          have hone : (⟨#[49]⟩ : ByteArray) = dstr [true] := rfl
          clear hbit
          go_upto_region 11 with (first
            | (go_at_call 23; go_must (refine (digits_callsI _ _ _ (by decide) (by decide) hb0 (by omega)).mono ?_); rw [show Int.toNat 8 = 8 from rfl]; rintro e w1 ⟨rfl, hk1⟩))
          -- GENERATED-TAIL
          rw [d0_eq _ _ hk7]
          have HGS : Hid (getS b = match getL b (k - 1) 1 (b0 % 2 ^ (7 - k)) (b0 % 2 ^ (7 - k)) with
              | none => (0, 0, 2)
              | some (l, g) => if g < lowB k then (0, 0, 2) else if b.length < k then (0, 0, 10) else (l, (k : Int), 0)) := by
            show _ = _
            rw [← HE.out]
            have h0 : ¬ lead b0 = 0 := by rw [HKL.out]; omega
            have h1 : ¬ (lead b0 = 1 ∨ 7 < lead b0) := by rw [HKL.out]; omega
            simp only [getS, h0, h1, if_false]
            rw [HKL.out]
            rfl
          rw [← d0_val b0 k hb0] at HGS
          have hD0 := d0_len b0.toNat k
          generalize bitsN (7 - k) b0.toNat = D0 at *
          have HK1 := Lib.hid hk1
          obtain ⟨wo, rfl⟩ : ∃ wo : World, wo = wr := ⟨_, rfl⟩
          clear hbit' HBIT h7 hk0 hk8
          go_wp2_with fail
          go_loopg [6, 7] k (fun q v6 v7 w2 => ∃ (i : Nat) (D : List Bool), v6 = .string (dstr D) ∧ v7 = .int .i64 i ∧ 1 ≤ i ∧ i ≤ k ∧ i ≤ b.length ∧ D.length ≤ 60 ∧ Hid (D.length = 7 - k + 6 * (i - 1)) ∧
            Hid (getL b (k - i) i (val D : Int) (val D : Int) = getL b (k - 1) 1 (val D0 : Int) (val D0 : Int)) ∧ Hid (i + q = k + 1) ∧ Hid (Keeps [] wo w2))
          case atStart => exact ⟨1, D0, rfl, rfl, by omega, by omega, by omega, by omega, (show _ = _ from by omega), rfl, (show _ = _ from by omega), HK1.out⟩
          case round =>
            obtain ⟨i, D, rfl, rfl, hi1, hik, hib, hDl, HDL, HG, HQ2, HK2⟩ := hrel
            by_cases hlt : i < k
            · by_cases hin : i < b.length
              · have hieq : ((i : Int) == (b.length : Int)) = false := beq_eq_false_iff_ne.2 (by omega)
                obtain ⟨x, hx⟩ : ∃ x, b[i] = x := ⟨_, rfl⟩
                obtain ⟨hx0, hx1⟩ := HB.out _ (hx ▸ List.getElem_mem hin)
                have hxi : ∀ h : i < (strOfNums b).size, ((strOfNums b)[i].toNat : Int) = x := fun h => by rw [HAT.out i h hin, hx]
                have HLi : Hid (getL b (k - i) i (val D : Int) (val D : Int) = if x / 64 = 2 then getL b (k - (i + 1)) (i + 1) ((val D : Int) * 64 + x % 64) ((val D : Int) * 64 + x % 64) else none) := by
                  show _ = _
                  rw [show k - i = (k - (i + 1)) + 1 by omega, getL, dif_pos hin, hx]
                by_cases hx2 : x / 64 = 2
                · have hb1' : (x / 64 != 2) = false := by simp [hx2]
                  have HX2 := Lib.hid hx2
                  have hx63 : 0 ≤ x % 64 ∧ x % 64 ≤ 63 := by omega
                  have hxm : x % 64 ≤ 9223372036854775807 := by omega
                  clear hx hx2
                  go_wp2_with (first
                    | (go_at_call 23; go_must (refine (digits_callsI _ _ _ (by decide) (by decide) hx63.1 hxm).mono ?_); rw [show Int.toNat 6 = 6 from rfl]; rintro e w4 ⟨rfl, hk4⟩))
                  go_roundg (gk - 1)
                  case measure => have := HQ2.out; omega
                  case rel =>
                    have h1 := HDL.out
                    have h2 := HQ2.out
                    have e : ((val (D ++ bitsN 6 (x % 64).toNat) : Nat) : Int) = (val D : Int) * 64 + x % 64 := by
                      rw [val_append, val_bitsN, bitsN_length]
                      omega
                    refine ⟨i + 1, D ++ bitsN 6 (x % 64).toNat, rfl, by go_num, by omega, by omega, by omega, ?_, ?_, ?_, (show _ = _ from by omega), HK2.out.new hk4⟩
                    · rw [List.length_append, bitsN_length]; omega
                    · show _ = _
                      rw [List.length_append, bitsN_length]; omega
                    · show _ = _
                      rw [e, ← HG.out, HLi.out, if_pos HX2.out]
                · have hb1' : (x / 64 != 2) = true := by simp [hx2]
                  have HX2 := Lib.hid hx2
                  clear hx hx2
                  go_wp2_with fail
                  go_ret3
                  refine ⟨?_, HK2.out⟩
                  unfold GetRes
                  rw [HGS.out, ← HG.out, HLi.out, if_neg HX2.out]
                  rfl
              · have hieq : ((i : Int) == (b.length : Int)) = true := beq_iff_eq.2 (by omega)
                have HLe := Lib.hid (getL_end b (k - i) i (val D : Int) (by omega))
                have hbk : b.length < k := by omega
                have hpadlen : ∀ j, (D ++ List.replicate j true).length = D.length + j := fun j => by simp
                have HPL := Lib.hid hpadlen
                clear hpadlen
                obtain ⟨w2', rfl⟩ : ∃ w2' : World, w2' = wr := ⟨_, rfl⟩
                go_wp2_with fail
                go_loopg [6] (6 * (k - i) + 1) (fun q v6 w3 => w3 = w2' ∧ ∃ (j : Nat) (E : List Bool), v6 = .string (dstr E) ∧ E.length ≤ 60 ∧ j ≤ 6 * (k - i) ∧ Hid (E = D ++ List.replicate j true) ∧ Hid (E.length = D.length + j) ∧ Hid (j + q = 6 * (k - i) + 1))
                case atStart => exact ⟨rfl, 0, D, rfl, by omega, by omega, (show _ = _ from by simp), (show _ = _ from by omega), (show _ = _ from by omega)⟩
                case round =>
                  obtain ⟨rfl, j, E, rfl, hEl, hj, HE', HEL, HQ3⟩ := hrel
                  have hd1 := HDL.out
                  have he1 := HEL.out
                  by_cases hpad : E.length < 5 * k + 1
                  · clear hd1 he1
                    go_wp2_with (first
                      | (go_at_call 24; go_must (refine (room_big k _ hk2 hk7).mono ?_); rintro e w5 ⟨rfl, rfl⟩))
                    go_roundg (gk - 1)
                    case measure => have := HQ3.out; omega
                    case rel =>
                      have hd1 := HDL.out
                      have he1 := HEL.out
                      have hq1 := HQ3.out
                      refine ⟨rfl, j + 1, E ++ [true], rfl, by simp; omega, by omega, ?_, (show _ = _ from by simp; omega), (show _ = _ from by omega)⟩
                      show _ = _
                      rw [HE'.out, List.append_assoc, ← List.replicate_succ']
                  · have hjj : j = 6 * (k - i) := by omega
                    have HRES : Hid ((if ((val E : Nat) : Int) < lowB k then ((0 : Int), (0 : Int), (2 : Int)) else if b.length < k then (0, 0, 10) else ((val E : Int), (k : Int), 0)) = getS b) := by
                      show _ = _
                      rw [HGS.out, ← HG.out, HLe.out, HE'.out, hjj, val_pad]
                      simp only [if_pos hbk]
                    clear hd1 he1 hjj
                    go_upto_region 21 with (first
                      | (go_at_call 24; go_must (refine (room_big k _ hk2 hk7).mono ?_); rintro e w5 ⟨rfl, rfl⟩))
                    have hrg := rm_range k hk2 hk7
                    obtain ⟨rg0, rg1⟩ := hrg
                    have HLOW := Lib.hid (rm_low k hk2 hk7)
                    go_wp2_with fail
                    go_loopg [8, 9] (E.length + 1) (fun q v8 v9 w3 => w3 = wr ∧ ∃ i x : Nat, v9 = .int .i64 i ∧ v8 = .int .i64 x ∧ i ≤ E.length ∧ x ≤ 1152921504606846975 ∧ Hid (x = val (E.take i)) ∧ Hid (i + q = E.length + 1))
                    case atStart => exact ⟨rfl, 0, 0, rfl, rfl, by omega, by omega, (show _ = _ from by simp [val]), (show _ = _ from by omega)⟩
                    case round =>
                      obtain ⟨rfl, i4, x, rfl, rfl, hi4, hx, HX, HQ4⟩ := hrel
                      by_cases hlt4 : i4 < E.length
                      · have hat := dstr_at E i4
                        rw [List.getElem?_eq_getElem hlt4] at hat
                        have HV := Lib.hid (val_take_succ E i4 hlt4)
                        have HS := Lib.hid (val_small E (i4 + 1) (by omega))
                        cases hbit : E[i4]
                        all_goals
                          rw [hbit] at hat
                          simp only [Option.getD_some, dg, if_true, if_false, Bool.false_eq_true] at hat
                          have HBT := Lib.hid hbit
                          clear hbit
                          go_wp2_with fail
                          go_roundg (E.length - i4)
                          case measure => have := HQ4.out; omega
                          case rel =>
                            have h1 := HV.out
                            have h2 := HS.out
                            rw [HBT.out] at h1
                            rw [← HX.out] at h1
                            simp at h1
                            refine ⟨rfl, i4 + 1, val (E.take (i4 + 1)), by go_num, ?_, by omega, by omega, rfl, (show _ = _ from by omega)⟩
                            rw [h1]
                            go_num
                      · obtain rfl : i4 = E.length := by omega
                        have hxv := HX.out
                        rw [List.take_of_length_le (Nat.le_refl _)] at hxv
                        have HRES' := Lib.hid HRES.out
                        rw [← hxv] at HRES'
                        clear hxv HX
                        rw [HLOW.out] at HRES'
                        by_cases hlow : (x : Int) < wrap64 (2 ^ (rm k).toNat)
                        · rw [if_pos hlow] at HRES'
                          go_wp2_with (first
                            | (go_at_call 24; go_must (refine (rm_calls k _ _ rfl hk2 hk7).mono ?_); rintro e w5 ⟨rfl, rfl⟩))
                          all_goals
                            go_ret3
                            first
                              | (rename_i hq; exact (hq hlow).elim)
                              | (rename_i hq; exact (Int.not_le.2 hlow hq).elim)
                              | (refine ⟨?_, HK2.out⟩
                                 unfold GetRes
                                 rw [← HRES'.out]
                                 rfl)
                        · rw [if_neg hlow] at HRES'
                          by_cases hshort : b.length < k
                          · rw [if_pos hshort] at HRES'
                            go_wp2_with (first
                              | (go_at_call 24; go_must (refine (rm_calls k _ _ rfl hk2 hk7).mono ?_); rintro e w5 ⟨rfl, rfl⟩))
                            all_goals
                              go_ret3
                              first
                                | (rename_i hq; exact (Int.not_lt.2 hlow hq).elim)
                                | (refine ⟨?_, HK2.out⟩
                                   unfold GetRes
                                   rw [← HRES'.out]
                                   rfl)
                          · rw [if_neg hshort] at HRES'
                            go_wp2_with (first
                              | (go_at_call 24; go_must (refine (rm_calls k _ _ rfl hk2 hk7).mono ?_); rintro e w5 ⟨rfl, rfl⟩))
                            all_goals
                              go_ret3
                              first
                                | (rename_i hq; exact (Int.not_lt.2 hlow hq).elim)
                                | (refine ⟨?_, HK2.out⟩
                                   unfold GetRes
                                   rw [← HRES'.out]
                                   rfl)
            · obtain rfl : i = k := by omega
              have hbk : ¬ b.length < i := by omega
              have HRES : Hid ((if ((val D : Nat) : Int) < lowB i then ((0 : Int), (0 : Int), (2 : Int)) else if b.length < i then (0, 0, 10) else ((val D : Int), (i : Int), 0)) = getS b) := by
                show _ = _
                rw [HGS.out, ← HG.out, Nat.sub_self, getL]
              obtain ⟨w2', rfl⟩ : ∃ w2' : World, w2' = wr := ⟨_, rfl⟩
              have hrg := rm_range i hk2 hk7
              obtain ⟨rg0, rg1⟩ := hrg
              have HLOW := Lib.hid (rm_low i hk2 hk7)
              go_wp2_with fail
              go_loopg [8, 9] (D.length + 1) (fun q v8 v9 w3 => w3 = w2' ∧ ∃ i x : Nat, v9 = .int .i64 i ∧ v8 = .int .i64 x ∧ i ≤ D.length ∧ x ≤ 1152921504606846975 ∧ Hid (x = val (D.take i)) ∧ Hid (i + q = D.length + 1))
              case atStart => exact ⟨rfl, 0, 0, rfl, rfl, by omega, by omega, (show _ = _ from by simp [val]), (show _ = _ from by omega)⟩
              case round =>
                obtain ⟨rfl, i4, x, rfl, rfl, hi4, hx, HX, HQ4⟩ := hrel
                by_cases hlt4 : i4 < D.length
                · have hat := dstr_at D i4
                  rw [List.getElem?_eq_getElem hlt4] at hat
                  have HV := Lib.hid (val_take_succ D i4 hlt4)
                  have HS := Lib.hid (val_small D (i4 + 1) (by omega))
                  cases hbit : D[i4]
                  all_goals
                    rw [hbit] at hat
                    simp only [Option.getD_some, dg, if_true, if_false, Bool.false_eq_true] at hat
                    have HBT := Lib.hid hbit
                    clear hbit
                    go_wp2_with fail
                    go_roundg (D.length - i4)
                    case measure => have := HQ4.out; omega
                    case rel =>
                      have h1 := HV.out
                      have h2 := HS.out
                      rw [HBT.out] at h1
                      rw [← HX.out] at h1
                      simp at h1
                      refine ⟨rfl, i4 + 1, val (D.take (i4 + 1)), by go_num, ?_, by omega, by omega, rfl, (show _ = _ from by omega)⟩
                      rw [h1]
                      go_num
                · obtain rfl : i4 = D.length := by omega
                  have hxv := HX.out
                  rw [List.take_of_length_le (Nat.le_refl _)] at hxv
                  have HRES' := Lib.hid HRES.out
                  rw [← hxv] at HRES'
                  clear hxv HX
                  rw [HLOW.out] at HRES'
                  by_cases hlow : (x : Int) < wrap64 (2 ^ (rm i).toNat)
                  · rw [if_pos hlow] at HRES'
                    go_wp2_with (first
                      | (go_at_call 24; go_must (refine (rm_calls i _ _ rfl hk2 hk7).mono ?_); rintro e w5 ⟨rfl, rfl⟩))
                    all_goals
                      go_ret3
                      first
                        | (rename_i hq; exact (hq hlow).elim)
                        | (rename_i hq; exact (Int.not_le.2 hlow hq).elim)
                        | (refine ⟨?_, HK2.out⟩
                           unfold GetRes
                           rw [← HRES'.out]
                           rfl)
                  · rw [if_neg hlow] at HRES'
                    by_cases hshort : b.length < i
                    · rw [if_pos hshort] at HRES'
                      go_wp2_with (first
                        | (go_at_call 24; go_must (refine (rm_calls i _ _ rfl hk2 hk7).mono ?_); rintro e w5 ⟨rfl, rfl⟩))
                      all_goals
                        go_ret3
                        first
                          | (rename_i hq; exact (Int.not_lt.2 hlow hq).elim)
                          | (refine ⟨?_, HK2.out⟩
                             unfold GetRes
                             rw [← HRES'.out]
                             rfl)
                    · rw [if_neg hshort] at HRES'
                      go_wp2_with (first
                        | (go_at_call 24; go_must (refine (rm_calls i _ _ rfl hk2 hk7).mono ?_); rintro e w5 ⟨rfl, rfl⟩))
                      all_goals
                        go_ret3
                        first
                          | (rename_i hq; exact (Int.not_lt.2 hlow hq).elim)
                          | (refine ⟨?_, HK2.out⟩
                             unfold GetRes
                             rw [← HRES'.out]
                             rfl)
end Go.Proofs.Ytjgljjpgknjihaa
