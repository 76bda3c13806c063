/-
  The document's digits (shellacref03): Digits, Bytes.
-/
import Derived.Test.YtepbngdoeolepaaProg
import Derived.Test.YtepbngdoeolepaaMem
import Derived.WalkSpells
import Derived.WalkLawsBesides
import Derived.BigQuiet
import Derived.Lib.Hide
set_option linter.unusedVariables false
set_option linter.unusedSimpArgs false
namespace Go.Proofs.Ytepbngdoeolepaa
open Go.RowKit Go.Proofs.Ytepbngdoeolepaa.Pure

theorem info_u8 : (Try.prog.info? 5).map (fun i => (i.zero, i.size, i.bytes)) = some (some (.int .u8 0), 1, 1) := by kernel_rfl

/-- A digit's number. -/
def dg (b : Bool) : Int := if b then 49 else 48
theorem str_dg (l : List Bool) : strOfNums (l.map dg) = dstr l := by
  unfold strOfNums dstr
  rw [List.map_map]
  congr 3
  funext b; cases b <;> rfl

theorem digit_at (m : Nat) (h : m % 2 < (⟨#[48, 49]⟩ : ByteArray).size) : ((⟨#[48, 49]⟩ : ByteArray)[m % 2].toNat : Int) = dg (m % 2 == 1) := by
  rcases Nat.mod_two_eq_zero_or_one m with e | e
  · simp only [e]; rfl
  · simp only [e]; rfl

theorem set_digit (j k m n : Nat) (hj : j + 1 ≤ k) (hm : m = n / 2 ^ (k - (j + 1))) :
    (List.replicate (j + 1) 0 ++ (bitsN (k - (j + 1)) n).map dg).set j (dg (m % 2 == 1)) = List.replicate j 0 ++ (bitsN (k - j) n).map dg := by
  rw [show k - j = (k - (j + 1)) + 1 by omega, bitsN_cons, ← hm, List.replicate_succ', List.append_assoc, List.set_append_right _ _ (by simp)]
  simp

set_option maxHeartbeats 400000 in
theorem digits_calls (n k : Nat) (w : World) (hk : k ≤ 1000000) (hn : n ≤ 9223372036854775807) :
    Calls Try.prog 34 #[.int .i64 n, .int .i64 k] w fun e w' => e = .returned (.string (dstr (bitsN k n))) ∧ Keeps [] w w' := by
  have hmk : ∀ W : World, (Instr.makeSlice 40 (.int .i64 (k : Int)) (.int .i64 (k : Int))).run Try.prog W = .ok (.slice (some ⟨W.heap.size, 0, none⟩) k k) (W.alloc (.cells (madeCells #[.int .u8 0] k) 5)) :=
    fun W => run_make_row' 40 5 (.int .u8 0) 1 Try.underlying40 info_u8 rfl .i64 .i64 k (by omega) (by omega) W
  go_enter Try.func34, Try.ntmps34
  go_wp2
  clear hmk
  go_loopg [0, 6] (k + 1) (fun q v0 v6 wr => ∃ (j m : Nat) (i : Int), v0 = .int .i64 m ∧ v6 = .int .i64 i ∧ Hid (j < q ∧ j ≤ k ∧ i = j - 1 ∧ m = n / 2 ^ (k - j)) ∧ m ≤ 9223372036854775807 ∧
    Hid (Row wr .u8 5 (.slice (some ⟨w.heap.size, 0, none⟩) k k) (List.replicate j 0 ++ (bitsN (k - j) n).map dg)) ∧ Hid (Keeps [] w wr))
  case atStart => exact ⟨k, n, k - 1, rfl, rfl, ⟨by omega, by omega, rfl, by simp⟩, hn, (show Row _ _ _ _ _ from by simpa [bitsN] using Row.made w .u8 5 k (by omega)), (Keeps.refl _ _).alloc _⟩
  case round =>
    obtain ⟨j, m, i, rfl, rfl, H, hm, HR, HK⟩ := hrel
    obtain ⟨h1, h2, h3, h4⟩ := H.out
    cases j with
    | zero =>
      have hi : i < 0 := by omega
      clear h1 h2 h3 h4 H
      have hr := HR.out
      rw [List.replicate_zero, List.nil_append] at hr
      have hcv := hr.text (P := Try.prog) (by simp [bitsN_length]) 40 5 9 Try.underlying40 Try.underlying5 Try.underlying9
      rw [str_dg] at hcv
      clear hr HR
      go_wp2
      go_ret
      exact ⟨rfl, HK.out⟩
    | succ j =>
      obtain rfl : i = (j : Int) := by omega
      have hl : (List.replicate (j + 1) 0 ++ (bitsN (k - (j + 1)) n).map dg).length = k := by simp [bitsN_length]; omega
      have hr := HR.out
      have hx : ∃ v, wr.cell? ⟨w.heap.size, j, none⟩ = some v := by
        exact ⟨_, hr.cell j (by omega)⟩
      obtain ⟨v, hx⟩ := hx
      have HS := Lib.hid (fun x => hr.set j x)
      have hc := hr.frozen j
      have hjk : j < k := by omega
      have HQ := Lib.hid (set_digit j k m n h2 h4)
      have HB : Hid (∀ h : m % 2 < (⟨#[48, 49]⟩ : ByteArray).size, ((⟨#[48, 49]⟩ : ByteArray)[m % 2].toNat : Int) = dg (m % 2 == 1)) := digit_at m
      clear h1 h2 h3 h4 hl hr
      go_wp2
      go_roundg (j + 1)
      case measure => have := H.out; omega
      case rel =>
        obtain ⟨h1, h2, h3, h4⟩ := H.out
        refine ⟨j, m / 2, j - 1, by go_num, rfl, ⟨by omega, by omega, rfl, ?_⟩, by omega, ?_, HK.out.setCell (.inr (Nat.le_refl _)) _⟩
        · rw [h4, Nat.div_div_eq_div_mul, ← Nat.pow_succ]; congr 2; omega
        · show Row _ _ _ _ _
          rw [← HQ.out, HB.out]
          exact HS.out _
theorem digits_callsI (n k : Int) (w : World) (hk0 : 0 ≤ k) (hk : k ≤ 1000000) (hn0 : 0 ≤ n) (hn : n ≤ 9223372036854775807) :
    Calls Try.prog 34 #[.int .i64 n, .int .i64 k] w fun e w' => e = .returned (.string (dstr (bitsN k.toNat n.toNat))) ∧ Keeps [] w w' := by
  have := digits_calls n.toNat k.toNat w (by omega) (by omega)
  rw [Int.toNat_of_nonneg hk0, Int.toNat_of_nonneg hn0] at this
  exact this

/-- What is read of eight digits from i on, t of them. -/
def part (l : List Bool) (i t : Nat) : List Bool := ((l.drop i) ++ List.replicate 8 false).take t
theorem part_succ (l : List Bool) (i t : Nat) (ht : t < 8) : part l i (t + 1) = part l i t ++ [(l[i + t]?).getD false] := by
  unfold part
  rw [List.take_succ_eq_append_getElem (by simp; omega)]
  congr 2
  rw [List.getElem_append]
  split
  · rename_i h
    simp at h
    rw [List.getElem_drop, List.getElem?_eq_getElem (by omega)]
    rfl
  · rename_i h
    simp at h
    rw [List.getElem?_eq_none (by omega), List.getElem_replicate]
    rfl
theorem part_len (l : List Bool) (i t : Nat) (ht : t ≤ 8) : (part l i t).length = t := by unfold part; simp; omega
theorem dstr_at (l : List Bool) (i : Nat) (h : i < (dstr l).size) : ((dstr l)[i].toNat : Int) = dg ((l[i]?).getD false) := by
  have hl : i < l.length := by rw [dstr_size] at h; exact h
  have e : (dstr l)[i] = dig l[i] := by
    show (dstr l).data[i]'_ = _
    simp [dstr]
  rw [e, List.getElem?_eq_getElem hl]
  cases l[i] <;> rfl
theorem pack_part (l : List Bool) (m : Nat) (h : 8 * m < l.length) : pack (l.take (8 * (m + 1))) = pack (l.take (8 * m)) ++ [(val (part l (8 * m) 8) : Int)] := by
  rw [show 8 * (m + 1) = 8 * m + 8 by omega, List.take_add, pack_append8 (by simp; omega)]
  congr 1
  have hne : (List.drop (8 * m) l).take 8 ≠ [] := by intro e; have := congrArg List.length e; simp at this; omega
  have hd : ((List.drop (8 * m) l).take 8).drop 8 = [] := List.drop_of_length_le (by simp; omega)
  rw [pack_ne hne, hd, pack_nil]
  congr 1
  rw [List.take_take, Nat.min_self]
  have e : part l (8 * m) 8 = (l.drop (8 * m)).take 8 ++ List.replicate (8 - ((l.drop (8 * m)).take 8).length) false := by
    unfold part
    rw [List.take_append]
    congr 1
    rw [List.take_replicate]
    congr 1
    simp; omega
  rw [e, val_append, val_replicate_false, List.length_replicate]
  rfl

theorem bit_of_dg (c x : Nat) (b : Bool) (hc : (c : Int) = dg b) (hx : x < 256) : wrap64 ((2 * x : Int) + (c - 48) % 256) = ((2 * x + (if b then 1 else 0) : Nat) : Int) := by
  rw [hc]
  unfold wrap64
  cases b <;> simp [dg] <;> omega

set_option maxHeartbeats 800000 in
theorem bytes_calls (l : List Bool) (w : World) (hl : l.length ≤ 1000000000) :
    Calls Try.prog 20 #[.string (dstr l)] w fun e w' => ∃ v, e = .returned v ∧ Row w' .u8 5 v (pack l) ∧ (∀ b, b ∈ fp v → w.heap.size ≤ b) ∧ Keeps [] w w' := by
  have hsz := dstr_size l
  go_enter Try.func20, Try.ntmps20
  go_wp2
  go_loopg [3, 4] (l.length + 9) (fun q v3 v4 wr => ∃ (m : Nat), v4 = .int .i64 (8 * ↑m) ∧ 8 * m ≤ l.length + 7 ∧ Hid (8 * m + q = l.length + 9) ∧
    Hid (Row wr .u8 5 v3 (pack (l.take (8 * m)))) ∧ Hid (∀ b, b ∈ fp v3 → w.heap.size ≤ b) ∧ Hid (Keeps [] w wr))
  case atStart => exact ⟨0, rfl, by omega, (show _ = _ from by omega), (show Row _ _ _ _ _ from by simpa [pack_nil] using Row.nil _ _ _), (fun b hb => by cases hb), Keeps.refl _ _⟩
  case round =>
    obtain ⟨m, rfl, hm, H, HR, HF, HK⟩ := hrel
    obtain ⟨g1, rfl⟩ : ∃ g : Nat, g = gk := ⟨_, rfl⟩
    by_cases hlt : 8 * m < l.length
    · have hb : decide (8 * (m : Int) < (l.length : Int)) = true := by simp; omega
      go_wp2
      go_loopg [5, 6] 9 (fun q v5 v6 w2 => w2 = wr ∧ ∃ t x : Nat, v6 = .int .i64 (8 * ↑m + ↑t) ∧ v5 = .int .i64 ↑x ∧ t ≤ 8 ∧ x < 256 ∧ Hid (t + q = 9) ∧ Hid (x = val (part l (8 * m) t)))
      case atStart => exact ⟨rfl, 0, 0, by simp, rfl, by omega, by omega, (show _ = _ from by omega), (show _ = _ from by simp [part, val])⟩
      case round =>
        obtain ⟨rfl, t, x, rfl, rfl, ht, hx, HQ, HX⟩ := hrel
        by_cases ht8 : t < 8
        · have HP : Hid (2 * x + (if (l[8 * m + t]?).getD false then 1 else 0) = val (part l (8 * m) (t + 1))) := by
            show _ = _
            rw [part_succ _ _ _ ht8, val_snoc, HX.out]
          have HV : Hid (2 * x + (if (l[8 * m + t]?).getD false then 1 else 0) < 256) := by
            have h1 := val_lt (part l (8 * m) (t + 1))
            rw [part_len _ _ _ (by omega), ← HP.out] at h1
            have h2 := Nat.pow_le_pow_right (show 0 < 2 by omega) (show t + 1 ≤ 8 by omega)
            exact Nat.lt_of_lt_of_le h1 h2
          by_cases hin : 8 * m + t < l.length
          · have HB := Lib.hid (dstr_at l (8 * m + t))
            go_wp2
            go_roundg (8 - t)
            case measure => have := HQ.out; omega
            case rel =>
              refine ⟨rfl, t + 1, _, by go_num, ?_, by omega, HV.out, (show _ = _ from by omega), HP.out⟩
              rw [HB.out]
              congr 1
              cases (l[8 * m + t]?).getD false <;> simp [dg]
          · go_wp2
            go_roundg (8 - t)
            case measure => have := HQ.out; omega
            case rel =>
              have e : (l[8 * m + t]?).getD false = false := by rw [List.getElem?_eq_none (by omega)]; rfl
              have h1 := HP.out
              have h2 := HV.out
              rw [e] at h1 h2
              exact ⟨rfl, t + 1, 2 * x, by go_num, by go_num, by omega, by simpa using h2, (show _ = _ from by omega), (show _ = _ from by simpa using h1)⟩
        · obtain rfl : t = 8 := by omega
          have HBD : Hid (((pack (l.take (8 * m))).length + 1) * 1 ≤ 140737488355328) := by show _ ≤ _; rw [pack_length]; simp; omega
          go_wp2_with (at_builtin; go_must (refine wp_app1 rfl (.tmp 33) (.tmp 36) 40 5 .u8 1 rfl Try.underlying40 info_u8 (by decide) _ _ _ rfl rfl HR.out HBD.out ?_); intro v1 w1 hr1 hk1 hf1)
          go_roundg (g1 - 8)
          case measure => have := H.out; omega
          case rel =>
            refine ⟨m + 1, by go_num, by omega, (show _ = _ from by have := H.out; omega), ?_, ?_, HK.out.then_ hk1 (fun b hb hlt => ?_)⟩
            · show Row _ _ _ _ _
              rw [pack_part l m hlt, ← HX.out]
              exact hr1
            · intro b hb
              rcases hf1 b hb with h | h
              · exact HF.out b h
              · exact Nat.le_trans HK.out.size h
            · have := HF.out b hb
              omega
    · go_wp2
      go_ret
      exact ⟨_, rfl, by rw [← List.take_of_length_le (show l.length ≤ 8 * m by omega)]; exact HR.out, HF.out, HK.out⟩
end Go.Proofs.Ytepbngdoeolepaa
