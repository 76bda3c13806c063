/-
  The document's digits (shellacref03): Digits, Bytes.
  The document's digits (shellacref03): Put, PutSigned, Unary.
-/
import Derived.Test.YtofkiimaoahfjaaDoorProg
import Derived.Test.YtofkiimaoahfjaaDoorZMem
import Derived.WalkSpells
import Derived.WalkLawsBesides
import Derived.BigQuiet
import Derived.Lib.Hide
import Derived.Test.YtofkiimaoahfjaaDoorZBits4
set_option maxRecDepth 100000
set_option linter.unusedVariables false
set_option linter.unusedSimpArgs false
namespace Go.Proofs.YtofkiimaoahfjaaDoor
open Go.RowKit Go.Proofs.YtofkiimaoahfjaaDoor.Pure

theorem info_u8 : (Tryd.prog.info? 5).map (fun i => (i.zero, i.size, i.bytes)) = some (some (.int .u8 0), 1, 1) := by kernel_rfl

/-- A digit's number. -/
def dg (b : Bool) : Int := if b then 49 else 48
theorem str_dg (l : List Bool) : strOfNums (l.map dg) = dstr l := by
  unfold strOfNums dstr
  rw [List.map_map]
  congr 3
  funext b; cases b <;> rfl

theorem digit_at (m : Nat) (h : m % 2 < (⟨#[48, 49]⟩ : ByteArray).size) : ((⟨#[48, 49]⟩ : ByteArray)[m % 2].toNat : Int) = dg (m % 2 == 1) := by
  rcases Nat.mod_two_eq_zero_or_one m with e | e
  · simp only [e]; rfl
  · simp only [e]; rfl

theorem set_digit (j k m n : Nat) (hj : j + 1 ≤ k) (hm : m = n / 2 ^ (k - (j + 1))) :
    (List.replicate (j + 1) 0 ++ (bitsN (k - (j + 1)) n).map dg).set j (dg (m % 2 == 1)) = List.replicate j 0 ++ (bitsN (k - j) n).map dg := by
  rw [show k - j = (k - (j + 1)) + 1 by omega, bitsN_cons, ← hm, List.replicate_succ', List.append_assoc, List.set_append_right _ _ (by simp)]
  simp

set_option maxHeartbeats 400000 in
theorem digits_calls (n k : Nat) (w : World) (hk : k ≤ 1000000) (hn : n ≤ 9223372036854775807) :
    Calls Tryd.prog 41 #[.int .i64 n, .int .i64 k] w fun e w' => e = .returned (.string (dstr (bitsN k n))) ∧ Keeps [] w w' := by
  have hmk : ∀ W : World, (Instr.makeSlice 36 (.int .i64 (k : Int)) (.int .i64 (k : Int))).run Tryd.prog W = .ok (.slice (some ⟨W.heap.size, 0, none⟩) k k) (W.alloc (.cells (madeCells #[.int .u8 0] k) 5)) :=
    fun W => run_make_row' 36 5 (.int .u8 0) 1 Tryd.underlying36 info_u8 rfl .i64 .i64 k (by omega) (by omega) W
  go_enter Tryd.func41, Tryd.ntmps41
  go_wp2
  clear hmk
  go_loopg [0, 6] (k + 1) (fun q v0 v6 wr => ∃ (j m : Nat) (i : Int), v0 = .int .i64 m ∧ v6 = .int .i64 i ∧ Hid (j < q ∧ j ≤ k ∧ i = j - 1 ∧ m = n / 2 ^ (k - j)) ∧ m ≤ 9223372036854775807 ∧
    Hid (Row wr .u8 5 (.slice (some ⟨w.heap.size, 0, none⟩) k k) (List.replicate j 0 ++ (bitsN (k - j) n).map dg)) ∧ Hid (Keeps [] w wr))
  case atStart => exact ⟨k, n, k - 1, rfl, rfl, ⟨by omega, by omega, rfl, by simp⟩, hn, (show Row _ _ _ _ _ from by simpa [bitsN] using Row.made w .u8 5 k (by omega)), (Keeps.refl _ _).alloc _⟩
  case round =>
    obtain ⟨j, m, i, rfl, rfl, H, hm, HR, HK⟩ := hrel
    obtain ⟨h1, h2, h3, h4⟩ := H.out
    cases j with
    | zero =>
      have hi : i < 0 := by omega
      clear h1 h2 h3 h4 H
      have hr := HR.out
      rw [List.replicate_zero, List.nil_append] at hr
      have hcv := hr.text (P := Tryd.prog) (by simp [bitsN_length]) 36 5 9 Tryd.underlying36 Tryd.underlying5 Tryd.underlying9
      rw [str_dg] at hcv
      clear hr HR
      go_wp2
      go_ret
      exact ⟨rfl, HK.out⟩
    | succ j =>
      obtain rfl : i = (j : Int) := by omega
      have hl : (List.replicate (j + 1) 0 ++ (bitsN (k - (j + 1)) n).map dg).length = k := by simp [bitsN_length]; omega
      have hr := HR.out
      have hx : ∃ v, wr.cell? ⟨w.heap.size, j, none⟩ = some v := by
        exact ⟨_, hr.cell j (by omega)⟩
      obtain ⟨v, hx⟩ := hx
      have HS := Lib.hid (fun x => hr.set j x)
      have hc := hr.frozen j
      have hjk : j < k := by omega
      have HQ := Lib.hid (set_digit j k m n h2 h4)
      have HB : Hid (∀ h : m % 2 < (⟨#[48, 49]⟩ : ByteArray).size, ((⟨#[48, 49]⟩ : ByteArray)[m % 2].toNat : Int) = dg (m % 2 == 1)) := digit_at m
      clear h1 h2 h3 h4 hl hr
      go_wp2
      go_roundg (j + 1)
      case measure => have := H.out; omega
      case rel =>
        obtain ⟨h1, h2, h3, h4⟩ := H.out
        refine ⟨j, m / 2, j - 1, by go_num, rfl, ⟨by omega, by omega, rfl, ?_⟩, by omega, ?_, HK.out.setCell (.inr (Nat.le_refl _)) _⟩
        · rw [h4, Nat.div_div_eq_div_mul, ← Nat.pow_succ]; congr 2; omega
        · show Row _ _ _ _ _
          rw [← HQ.out, HB.out]
          exact HS.out _
theorem digits_callsI (n k : Int) (w : World) (hk0 : 0 ≤ k) (hk : k ≤ 1000000) (hn0 : 0 ≤ n) (hn : n ≤ 9223372036854775807) :
    Calls Tryd.prog 41 #[.int .i64 n, .int .i64 k] w fun e w' => e = .returned (.string (dstr (bitsN k.toNat n.toNat))) ∧ Keeps [] w w' := by
  have := digits_calls n.toNat k.toNat w (by omega) (by omega)
  rw [Int.toNat_of_nonneg hk0, Int.toNat_of_nonneg hn0] at this
  exact this

/-- What is read of eight digits from i on, t of them. -/
def part (l : List Bool) (i t : Nat) : List Bool := ((l.drop i) ++ List.replicate 8 false).take t
theorem part_succ (l : List Bool) (i t : Nat) (ht : t < 8) : part l i (t + 1) = part l i t ++ [(l[i + t]?).getD false] := by
  unfold part
  rw [List.take_succ_eq_append_getElem (by simp; omega)]
  congr 2
  rw [List.getElem_append]
  split
  · rename_i h
    simp at h
    rw [List.getElem_drop, List.getElem?_eq_getElem (by omega)]
    rfl
  · rename_i h
    simp at h
    rw [List.getElem?_eq_none (by omega), List.getElem_replicate]
    rfl
theorem part_len (l : List Bool) (i t : Nat) (ht : t ≤ 8) : (part l i t).length = t := by unfold part; simp; omega
theorem dstr_at (l : List Bool) (i : Nat) (h : i < (dstr l).size) : ((dstr l)[i].toNat : Int) = dg ((l[i]?).getD false) := by
  have hl : i < l.length := by rw [dstr_size] at h; exact h
  have e : (dstr l)[i] = dig l[i] := by
    show (dstr l).data[i]'_ = _
    simp [dstr]
  rw [e, List.getElem?_eq_getElem hl]
  cases l[i] <;> rfl
theorem pack_part (l : List Bool) (m : Nat) (h : 8 * m < l.length) : pack (l.take (8 * (m + 1))) = pack (l.take (8 * m)) ++ [(val (part l (8 * m) 8) : Int)] := by
  rw [show 8 * (m + 1) = 8 * m + 8 by omega, List.take_add, pack_append8 (by simp; omega)]
  congr 1
  have hne : (List.drop (8 * m) l).take 8 ≠ [] := by intro e; have := congrArg List.length e; simp at this; omega
  have hd : ((List.drop (8 * m) l).take 8).drop 8 = [] := List.drop_of_length_le (by simp; omega)
  rw [pack_ne hne, hd, pack_nil]
  congr 1
  rw [List.take_take, Nat.min_self]
  have e : part l (8 * m) 8 = (l.drop (8 * m)).take 8 ++ List.replicate (8 - ((l.drop (8 * m)).take 8).length) false := by
    unfold part
    rw [List.take_append]
    congr 1
    rw [List.take_replicate]
    congr 1
    simp; omega
  rw [e, val_append, val_replicate_false, List.length_replicate]
  rfl

theorem bit_of_dg (c x : Nat) (b : Bool) (hc : (c : Int) = dg b) (hx : x < 256) : wrap64 ((2 * x : Int) + (c - 48) % 256) = ((2 * x + (if b then 1 else 0) : Nat) : Int) := by
  rw [hc]
  unfold wrap64
  cases b <;> simp [dg] <;> omega

set_option maxHeartbeats 800000 in
theorem bytes_calls (l : List Bool) (w : World) (hl : l.length ≤ 1000000000) :
    Calls Tryd.prog 19 #[.string (dstr l)] w fun e w' => ∃ v, e = .returned v ∧ Row w' .u8 5 v (pack l) ∧ (∀ b, b ∈ fp v → w.heap.size ≤ b) ∧ Keeps [] w w' := by
  have hsz := dstr_size l
  go_enter Tryd.func19, Tryd.ntmps19
  go_wp2
  go_loopg [3, 4] (l.length + 9) (fun q v3 v4 wr => ∃ (m : Nat), v4 = .int .i64 (8 * ↑m) ∧ 8 * m ≤ l.length + 7 ∧ Hid (8 * m + q = l.length + 9) ∧
    Hid (Row wr .u8 5 v3 (pack (l.take (8 * m)))) ∧ Hid (∀ b, b ∈ fp v3 → w.heap.size ≤ b) ∧ Hid (Keeps [] w wr))
  case atStart => exact ⟨0, rfl, by omega, (show _ = _ from by omega), (show Row _ _ _ _ _ from by simpa [pack_nil] using Row.nil _ _ _), (fun b hb => by cases hb), Keeps.refl _ _⟩
  case round =>
    obtain ⟨m, rfl, hm, H, HR, HF, HK⟩ := hrel
    obtain ⟨g1, rfl⟩ : ∃ g : Nat, g = gk := ⟨_, rfl⟩
    by_cases hlt : 8 * m < l.length
    · have hb : decide (8 * (m : Int) < (l.length : Int)) = true := by simp; omega
      go_wp2
      go_loopg [5, 6] 9 (fun q v5 v6 w2 => w2 = wr ∧ ∃ t x : Nat, v6 = .int .i64 (8 * ↑m + ↑t) ∧ v5 = .int .i64 ↑x ∧ t ≤ 8 ∧ x < 256 ∧ Hid (t + q = 9) ∧ Hid (x = val (part l (8 * m) t)))
      case atStart => exact ⟨rfl, 0, 0, by simp, rfl, by omega, by omega, (show _ = _ from by omega), (show _ = _ from by simp [part, val])⟩
      case round =>
        obtain ⟨rfl, t, x, rfl, rfl, ht, hx, HQ, HX⟩ := hrel
        by_cases ht8 : t < 8
        · have HP : Hid (2 * x + (if (l[8 * m + t]?).getD false then 1 else 0) = val (part l (8 * m) (t + 1))) := by
            show _ = _
            rw [part_succ _ _ _ ht8, val_snoc, HX.out]
          have HV : Hid (2 * x + (if (l[8 * m + t]?).getD false then 1 else 0) < 256) := by
            have h1 := val_lt (part l (8 * m) (t + 1))
            rw [part_len _ _ _ (by omega), ← HP.out] at h1
            have h2 := Nat.pow_le_pow_right (show 0 < 2 by omega) (show t + 1 ≤ 8 by omega)
            exact Nat.lt_of_lt_of_le h1 h2
          by_cases hin : 8 * m + t < l.length
          · have HB := Lib.hid (dstr_at l (8 * m + t))
            go_wp2
            go_roundg (8 - t)
            case measure => have := HQ.out; omega
            case rel =>
              refine ⟨rfl, t + 1, _, by go_num, ?_, by omega, HV.out, (show _ = _ from by omega), HP.out⟩
              rw [HB.out]
              congr 1
              cases (l[8 * m + t]?).getD false <;> simp [dg]
          · go_wp2
            go_roundg (8 - t)
            case measure => have := HQ.out; omega
            case rel =>
              have e : (l[8 * m + t]?).getD false = false := by rw [List.getElem?_eq_none (by omega)]; rfl
              have h1 := HP.out
              have h2 := HV.out
              rw [e] at h1 h2
              exact ⟨rfl, t + 1, 2 * x, by go_num, by go_num, by omega, by simpa using h2, (show _ = _ from by omega), (show _ = _ from by simpa using h1)⟩
        · obtain rfl : t = 8 := by omega
          have HBD : Hid (((pack (l.take (8 * m))).length + 1) * 1 ≤ 140737488355328) := by show _ ≤ _; rw [pack_length]; simp; omega
          go_wp2_with (at_builtin; go_must (refine wp_app1 rfl (.tmp 33) (.tmp 36) 36 5 .u8 1 rfl Tryd.underlying36 info_u8 (by decide) _ _ _ rfl rfl HR.out HBD.out ?_); intro v1 w1 hr1 hk1 hf1)
          go_roundg (g1 - 8)
          case measure => have := H.out; omega
          case rel =>
            refine ⟨m + 1, by go_num, by omega, (show _ = _ from by have := H.out; omega), ?_, ?_, HK.out.then_ hk1 (fun b hb hlt => ?_)⟩
            · show Row _ _ _ _ _
              rw [pack_part l m hlt, ← HX.out]
              exact hr1
            · intro b hb
              rcases hf1 b hb with h | h
              · exact HF.out b h
              · exact Nat.le_trans HK.out.size h
            · have := HF.out b hb
              omega
    · go_wp2
      go_ret
      exact ⟨_, rfl, by rw [← List.take_of_length_le (show l.length ≤ 8 * m by omega)]; exact HR.out, HF.out, HK.out⟩
end Go.Proofs.YtofkiimaoahfjaaDoor

set_option maxRecDepth 100000
set_option linter.unusedVariables false
set_option linter.unusedSimpArgs false
namespace Go.Proofs.YtofkiimaoahfjaaDoor
open Go.RowKit Go.Proofs.YtofkiimaoahfjaaDoor.Pure

theorem putE_cases (n : Int) (j : Nat) (hj : j ≤ 32) : (n < 0 → putE n j = 12) ∧ (0 ≤ n → (2 : Int) ^ j ≤ n → putE n j = 12) ∧ (0 ≤ n → n < (2 : Int) ^ j → putE n j = 0) := by
  have hp : (0 : Int) < 2 ^ j := Int.pow_pos (by omega)
  have e : putE n j = if n < 0 ∨ n / 2 ^ j ≠ 0 then 12 else 0 := by
    unfold putE
    rw [if_neg (by omega), Int.toNat_natCast]
  refine ⟨fun h => ?_, fun h0 h => ?_, fun h0 h => ?_⟩
  · rw [e, if_pos (.inl h)]
  · rw [e, if_pos]
    refine .inr ?_
    intro h1
    have h2 := Int.emod_add_mul_ediv n (2 ^ j)
    rw [h1, Int.mul_zero] at h2
    have := Int.emod_lt_of_pos n hp
    omega
  · rw [e, if_neg]
    rintro (h1 | h1)
    · omega
    · exact h1 (Int.ediv_eq_zero_of_lt h0 h)

theorem ps_bits (n : Int) (j : Nat) (hj : j ≤ 32) (h0 : n < 0) (h1 : -(2 ^ j) ≤ n) : bitsN j (n + 2 ^ j).toNat = bitsN j (n % 18446744073709551616).toNat := by
  obtain ⟨p0, p1⟩ := pow_le33 j (by omega)
  have hdvd : (2 ^ j : Nat) ∣ 18446744073709551616 := by
    have : (18446744073709551616 : Nat) = 2 ^ 64 := by decide
    rw [this]
    exact Nat.pow_dvd_pow 2 (by omega)
  obtain ⟨q, hq⟩ := hdvd
  refine bitsN_eq ?_
  obtain ⟨P, hP⟩ : ∃ P : Nat, 2 ^ j = P := ⟨_, rfl⟩
  have hPi : (2 : Int) ^ j = (P : Int) := by rw [← hP]; simp
  rw [hPi] at h1 p0 p1 ⊢
  rw [hP] at hq ⊢
  clear hPi hP
  have e : n % 18446744073709551616 = n + 18446744073709551616 := by omega
  rw [e]
  have e2 : (n + 18446744073709551616).toNat = (n + P).toNat + P * (q - 1) := by
    have hq1 : 1 ≤ q := by
      rcases Nat.eq_zero_or_pos q with h | h
      · rw [h] at hq; omega
      · exact h
    obtain ⟨r, rfl⟩ : ∃ r, q = r + 1 := ⟨q - 1, by omega⟩
    rw [Nat.mul_add] at hq
    rw [Nat.add_sub_cancel]
    generalize P * r = M at *
    omega
  rw [e2, Nat.add_mul_mod_self_left]
theorem ps_bits0 (n : Int) (h0 : 0 ≤ n) (h1 : n ≤ 9223372036854775807) : (n % 18446744073709551616).toNat = n.toNat := by omega

theorem sgn_range (n : Int) (j : Nat) (h : sgnB n j = true) : -(2 ^ j) ≤ n ∧ n < 2 ^ j := by
  have hp : (0 : Int) < 2 ^ j := Int.pow_pos (by omega)
  cases j with
  | zero => unfold sgnB at h; simp at h; subst h; simp
  | succ i =>
    have e : sgnB n ((i + 1 : Nat) : Int) = decide (-(2 ^ i) ≤ n ∧ n < 2 ^ i) := by
      unfold sgnB
      rw [if_neg (by omega), Int.toNat_natCast, Nat.add_sub_cancel]
    rw [e] at h
    have h := of_decide_eq_true h
    have hp2 : (0 : Int) < 2 ^ i := Int.pow_pos (by omega)
    rw [Int.pow_succ]
    omega

set_option maxHeartbeats 1000000 in
theorem refPutSigned_calls (n k : Int) (w : World) (hn : Hid (-9223372036854775808 ≤ n ∧ n ≤ 9223372036854775807)) :
    Calls Tryd.prog 66 #[.int .i64 n, .int .i64 k] w fun e w' => e = .returned (.tuple #[.string (dstr (psB n k)), .int .i64 (psE n k)]) ∧ Keeps [] w w' := by
  have hnr := hn.out
  have ed : dstr [] = ⟨#[]⟩ := rfl
  by_cases hk : k < 0 ∨ 32 < k
  · have e1 : psE n k = 1 := by unfold psE; rw [if_pos hk]
    have e2 : psB n k = [] := by unfold psB; rw [e1]; rfl
    rw [e1, e2, ed]
    have hk' : k < 0 ∨ (0 ≤ k ∧ 32 < k) := by omega
    clear e1 e2 ed hk
    rcases hk' with h | ⟨h0, h⟩
    all_goals
      go_enter Tryd.func66, Tryd.ntmps66
      go_wp2
      go_ret2
      exact ⟨rfl, Keeps.refl _ _⟩
  · obtain ⟨j, rfl⟩ : ∃ j : Nat, k = (j : Int) := ⟨k.toNat, by omega⟩
    have hj : j ≤ 32 := by omega
    obtain ⟨p0, p1⟩ := pow_le33 j (by omega)
    have hw : wrap64 (2 ^ j) = 2 ^ j := by unfold wrap64; omega
    have HSG := Lib.hid (fun W => refSigned_calls n j W (by omega))
    cases hs : sgnB n (j : Int) with
    | false =>
      have e1 : psE n j = 12 := by unfold psE; rw [if_neg (by omega), if_pos hs]
      have e2 : psB n j = [] := by unfold psB; rw [e1]; rfl
      rw [e1, e2, ed]
      rw [hs] at HSG
      clear e1 e2 ed hk hs
      go_enter Tryd.func66, Tryd.ntmps66
      go_wp2_with (first
        | (go_at_call 33; go_must (with_reducible refine (HSG.out _).mono ?_); rintro e w1 ⟨rfl, rfl⟩))
      go_ret2
      exact ⟨rfl, Keeps.refl _ _⟩
    | true =>
      obtain ⟨s0, s1⟩ := sgn_range n j hs
      have e1 : psE n j = 0 := by unfold psE; rw [if_neg (by omega), if_neg (by rw [hs]; simp)]
      have e2 : psB n j = bitsN j (n % 18446744073709551616).toNat := by unfold psB; rw [e1]; rfl
      rw [e1, e2]
      rw [hs] at HSG
      have HD : Hid (∀ (N : Int) (W : World), 0 ≤ N → N ≤ 9223372036854775807 → Calls Tryd.prog 41 #[.int .i64 N, .int .i64 j] W fun e w' => e = .returned (.string (dstr (bitsN j N.toNat))) ∧ Keeps [] W w') := by
        intro N W h0 h1
        have := digits_callsI N j W (by omega) (by omega) h0 h1
        rwa [Int.toNat_natCast] at this
      clear e1 e2 ed hk hs
      by_cases h0 : n < 0
      · rw [← ps_bits n j hj h0 s0]
        have hw2 : wrap64 (n + 2 ^ j) = n + 2 ^ j := by unfold wrap64; omega
        have hr0 : 0 ≤ n + 2 ^ j := by omega
        have hr1 : n + 2 ^ j ≤ 9223372036854775807 := by omega
        have HD2 := Lib.hid (fun W => HD.out (n + 2 ^ j) W hr0 hr1)
        clear HD
        go_enter Tryd.func66, Tryd.ntmps66
        go_wp2_with (first
          | (go_at_call 33; go_must (with_reducible refine (HSG.out _).mono ?_); rintro e w1 ⟨rfl, rfl⟩)
          | (go_at_call 41; go_must (with_reducible refine (HD2.out _).mono ?_); rintro e w1 ⟨rfl, hk1⟩))
        go_ret2
        exact ⟨rfl, hk1⟩
      · rw [ps_bits0 n (by omega) hnr.2]
        have HD2 := Lib.hid (fun W => HD.out n W (by omega) hnr.2)
        clear HD
        go_enter Tryd.func66, Tryd.ntmps66
        go_wp2_with (first
          | (go_at_call 33; go_must (with_reducible refine (HSG.out _).mono ?_); rintro e w1 ⟨rfl, rfl⟩)
          | (go_at_call 41; go_must (with_reducible refine (HD2.out _).mono ?_); rintro e w1 ⟨rfl, hk1⟩))
        go_ret2
        exact ⟨rfl, hk1⟩

theorem un_fill (i m : Nat) (h : i < m) : (List.replicate i (48 : Int) ++ List.replicate (m - i) 0).set i 48 = List.replicate (i + 1) 48 ++ List.replicate (m - (i + 1)) 0 := by
  rw [List.set_append_right _ _ (by simp)]
  rw [show m - i = (m - (i + 1)) + 1 by omega, List.replicate_succ, List.length_replicate, Nat.sub_self, List.set_cons_zero, List.replicate_succ', List.append_assoc]
  rfl
theorem un_end (m : Nat) : (List.replicate m (48 : Int) ++ List.replicate 1 0).set m 49 = (List.replicate m false ++ [true]).map dg := by
  rw [List.set_append_right _ _ (by simp)]
  simp [dg]

set_option maxHeartbeats 1000000 in
theorem refUnary_calls (n : Int) (w : World) :
    Calls Tryd.prog 96 #[.int .i64 n] w fun e w' => e = .returned (.tuple #[.string (dstr (unB n)), .int .i64 (unE n)]) ∧ Keeps [] w w' := by
  have ed : dstr [] = ⟨#[]⟩ := rfl
  by_cases hn : n < 0 ∨ 65536 < n
  · have e1 : unE n = 1 := by unfold unE; rw [if_pos hn]
    have e2 : unB n = [] := by unfold unB; rw [e1]; rfl
    rw [e1, e2, ed]
    have hn' : n < 0 ∨ (0 ≤ n ∧ 65536 < n) := by omega
    clear hn e1 e2 ed
    rcases hn' with h | ⟨h0, h⟩
    all_goals
      go_enter Tryd.func96, Tryd.ntmps96
      go_wp2
      go_ret2
      exact ⟨rfl, Keeps.refl _ _⟩
  · have e1 : unE n = 0 := by unfold unE; rw [if_neg hn]
    have e2 : unB n = List.replicate n.toNat false ++ [true] := by unfold unB; rw [e1]; rfl
    rw [e1, e2]
    clear e1 e2 ed
    obtain ⟨m, rfl⟩ : ∃ m : Nat, n = (m : Int) := ⟨n.toNat, by omega⟩
    rw [Int.toNat_natCast]
    have hm : m ≤ 65536 := by omega
    clear hn
    have hmk : ∀ W : World, (Instr.makeSlice 36 (.int .i64 ((m : Int) + 1)) (.int .i64 ((m : Int) + 1))).run Tryd.prog W = .ok (.slice (some ⟨W.heap.size, 0, none⟩) (m + 1) (m + 1)) (W.alloc (.cells (madeCells #[.int .u8 0] (m + 1)) 5)) :=
      fun W => run_make_row' 36 5 (.int .u8 0) 1 Tryd.underlying36 info_u8 rfl .i64 .i64 (m + 1) (by omega) (by omega) W
    have HT := Lib.hid (un_end m)
    have hd1 : decide ((m : Int) < 0) = false := decide_eq_false (by omega)
    have hd2 : decide ((65536 : Int) < (m : Int)) = false := decide_eq_false (by omega)
    go_enter Tryd.func96, Tryd.ntmps96
    go_wp2
    clear hmk
    go_loopg [5] (m + 1) (fun q v5 wr => ∃ i : Nat, v5 = .int .i64 i ∧ i ≤ m ∧ Hid (i + q = m + 1) ∧
      Hid (Row wr .u8 5 (.slice (some ⟨w.heap.size, 0, none⟩) (m + 1) (m + 1)) (List.replicate i 48 ++ List.replicate (m + 1 - i) 0)) ∧ Hid (Keeps [] w wr))
    case atStart => exact ⟨0, rfl, by omega, (show _ = _ from by omega), (show Row _ _ _ _ _ from by simpa using Row.made w .u8 5 (m + 1) (by omega)), (Keeps.refl _ _).alloc _⟩
    case round =>
      obtain ⟨i, rfl, hi, H, HR, HK⟩ := hrel
      have hl : (List.replicate i (48 : Int) ++ List.replicate (m + 1 - i) 0).length = m + 1 := by simp; omega
      have hx : ∃ v, wr.cell? ⟨w.heap.size, i, none⟩ = some v := ⟨_, HR.out.cell i (by omega)⟩
      obtain ⟨v, hx⟩ := hx
      have hc := HR.out.frozen i
      have HL := Lib.hid hl
      clear hl
      by_cases him : i < m
      · have HS := Lib.hid (fun x => HR.out.set i x)
        have HQ := Lib.hid (un_fill i (m + 1) (by omega))
        go_wp2
        go_roundg (m - i)
        case measure => have := H.out; omega
        case rel =>
          refine ⟨i + 1, by go_num, by omega, (show _ = _ from by omega), ?_, HK.out.setCell (.inr (Nat.le_refl _)) _⟩
          show Row _ _ _ _ _
          rw [← HQ.out]
          exact HS.out _
      · obtain rfl : i = m := by omega
        have HS := HR.out.set i 49
        rw [show i + 1 - i = 1 by omega, HT.out] at HS
        have HKS : Hid (Keeps [] w (wr.setCell ⟨w.heap.size, i, none⟩ (.int .u8 49))) := HK.out.setCell (.inr (Nat.le_refl _)) _
        have hcv := HS.text (P := Tryd.prog) (by simp) 36 5 9 Tryd.underlying36 Tryd.underlying5 Tryd.underlying9
        rw [str_dg] at hcv
        clear HS HR HT HL H HK
        go_wp2
        go_ret2
        exact ⟨rfl, HKS.out⟩
end Go.Proofs.YtofkiimaoahfjaaDoor
