/-
  Package code (layer 5): Get, Bits.
-/
import Derived.Test.YtjgljjpgknjihaaCode1
import Derived.Test.YtjgljjpgknjihaaShelf
set_option linter.unusedVariables false
set_option linter.unusedSimpArgs false
namespace Go.Proofs.Ytjgljjpgknjihaa
open Go.RowKit Go.Proofs.Ytjgljjpgknjihaa.Pure

/-- How many ones a byte begins with. -/
def lead (b : Int) : Nat := if b < 128 then 0 else if b < 192 then 1 else if b < 224 then 2 else if b < 240 then 3 else if b < 248 then 4 else if b < 252 then 5 else if b < 254 then 6 else if b < 255 then 7 else 8

theorem lead_len (b : Int) (h0 : 0 ≤ b) (h1 : b ≤ 255) : (8 : Int) - (Lib.bitLen (255 - b).toNat : Int) = lead b := by
  have key : ∀ n : Nat, n < 256 → (8 : Int) - (Lib.bitLen (255 - n) : Int) = lead n := by decide +kernel
  obtain ⟨n, rfl⟩ := Int.eq_ofNat_of_zero_le h0
  have := key n (by omega)
  rw [← this]
  congr 3
  omega

/-- From byte i on, d bytes; the least and the greatest that the number may be. -/
def getL (b : List Int) : Nat → Nat → Int → Int → Option (Int × Int)
  | 0, _, l, g => some (l, g)
  | d + 1, i, l, g => if h : i < b.length then (if b[i] / 64 = 2 then getL b d (i + 1) (l * 64 + b[i] % 64) (g * 64 + b[i] % 64) else none) else getL b d (i + 1) (l * 64) (g * 64 + 63)

/-- Where the sizes part. -/
def lowB (k : Nat) : Int := 2 ^ (if k - 1 = 1 then 7 else 5 * (k - 1) + 1)

def getS (b : List Int) : Int × Int × Int := match b with
  | [] => (0, 0, 10)
  | b0 :: _ =>
    let k := lead b0
    if k = 0 then (b0, 1, 0) else if k = 1 ∨ 7 < k then (0, 0, 2) else
    match getL b (k - 1) 1 (b0 % 2 ^ (7 - k)) (b0 % 2 ^ (7 - k)) with
    | none => (0, 0, 2)
    | some (l, g) => if g < lowB k then (0, 0, 2) else if b.length < k then (0, 0, 10) else (l, k, 0)

def GetRes (b : List Int) : Value := .tuple #[.int .i64 (getS b).1, .int .i64 (getS b).2.1, .int .i64 (getS b).2.2]

set_option maxHeartbeats 1000000 in
theorem get_nil (a : Option Addr) (c : Nat) (w : World) :
    Calls Try.prog 19 #[.slice a 0 c] w fun e w' => e = .returned (GetRes []) ∧ Keeps [] w w' := by
  go_enter Try.func19, Try.ntmps19
  go_wp2
  go_ret3
  exact ⟨rfl, Keeps.refl _ _⟩

theorem lead_le (b : Int) : lead b ≤ 8 := by unfold lead; repeat (first | omega | split)
theorem and_lead (b : Int) (k : Nat) (hk : 2 ≤ k) (hk7 : k ≤ 7) : bits .and .i64 b (127 / 2 ^ k) = b % 2 ^ (7 - k) := by
  have hk' : k = 2 ∨ k = 3 ∨ k = 4 ∨ k = 5 ∨ k = 6 ∨ k = 7 := by omega
  rcases hk' with rfl | rfl | rfl | rfl | rfl | rfl
  · exact and_mask 5 (by omega) b
  · exact and_mask 4 (by omega) b
  · exact and_mask 3 (by omega) b
  · exact and_mask 2 (by omega) b
  · exact and_mask 1 (by omega) b
  · exact and_mask 0 (by omega) b

set_option maxHeartbeats 2000000 in
set_option maxRecDepth 100000 in
theorem get_few (b : List Int) (bl o : Nat) (c : Nat) (w : World) (hl : b.length ≤ 1000000000) (h0 : 0 < b.length) (b0 : Int)
    (h00 : w.cell? ⟨bl, o, none⟩ = some (.int .u8 b0)) (hbr0 : 0 ≤ b0) (hbr1 : b0 ≤ 255) (hk : lead b0 < 2 ∨ 7 < lead b0) :
    Calls Try.prog 19 #[.slice (some ⟨bl, o, none⟩) b.length c] w fun e w' =>
      e = .returned (if lead b0 = 0 then .tuple #[.int .i64 b0, .int .i64 1, .int .i64 0] else .tuple #[.int .i64 0, .int .i64 0, .int .i64 2]) ∧ Keeps [] w w' := by
  have HL := Lib.hid (lead_len b0 hbr0 hbr1)
  have HN := Lib.hid (u8_not' b0 hbr0 hbr1)
  have hne : ((b.length : Int) == 0) = false := beq_eq_false_iff_ne.2 (by omega)
  have nodraw : 0 ≤ 255 - b0 ∧ 255 - b0 ≤ 255 := by omega
  have h8 := lead_le b0
  generalize lead b0 = k at *
  have hk' : k = 0 ∨ k = 1 ∨ k = 8 := by omega
  rcases hk' with rfl | rfl | rfl
  all_goals
    go_enter Try.func19, Try.ntmps19
    go_wp2_with (go_at_call 25; go_must (rw [HN.out]; refine (Try.bits_LeadingZeros8 _ _ nodraw.1 nodraw.2).mono ?_; rw [HL.out]; rintro e w' ⟨rfl, rfl⟩))
    go_ret3
    exact ⟨rfl, Keeps.refl _ _⟩

set_option maxHeartbeats 2000000 in
set_option maxRecDepth 100000 in
theorem get_many (b : List Int) (bl o : Nat) (c : Nat) (w : World) (hl : b.length ≤ 1000000000) (h0 : 0 < b.length) (b0 : Int)
    (h00 : w.cell? ⟨bl, o, none⟩ = some (.int .u8 b0)) (hbr0 : 0 ≤ b0) (hbr1 : b0 ≤ 255) (k : Nat) (hkk : lead b0 = k) (hk2 : 2 ≤ k) (hk7 : k ≤ 7)
    (HB : Hid (∀ x ∈ b, 0 ≤ x ∧ x ≤ 255)) (HC : Hid (∀ i (h : i < b.length), w.cell? ⟨bl, o + i, none⟩ = some (.int .u8 b[i]))) (r : Int × Int × Int)
    (hres : Hid ((match getL b (k - 1) 1 (b0 % 2 ^ (7 - k)) (b0 % 2 ^ (7 - k)) with
      | none => (0, 0, 2)
      | some (l, g) => if g < lowB k then (0, 0, 2) else if b.length < k then (0, 0, 10) else (l, (k : Int), 0)) = r)) :
    Calls Try.prog 19 #[.slice (some ⟨bl, o, none⟩) b.length c] w fun e w' => e = .returned (.tuple #[.int .i64 r.1, .int .i64 r.2.1, .int .i64 r.2.2]) ∧ Keeps [] w w' := by
  have HL := Lib.hid (lead_len b0 hbr0 hbr1)
  rw [hkk] at HL
  clear hkk
  have HN := Lib.hid (u8_not' b0 hbr0 hbr1)
  have HA := Lib.hid (and_lead b0 k hk2 hk7)
  have hne : ((b.length : Int) == 0) = false := beq_eq_false_iff_ne.2 (by omega)
  have hk0 : ((k : Int) == 0) = false := beq_eq_false_iff_ne.2 (by omega)
  have hk1 : ((k : Int) == 1) = false := beq_eq_false_iff_ne.2 (by omega)
  have nodraw : 0 ≤ 255 - b0 ∧ 255 - b0 ≤ 255 := by omega
  go_enter Try.func19, Try.ntmps19
  go_wp2_with (go_at_call 25; go_must (rw [HN.out]; refine (Try.bits_LeadingZeros8 _ _ nodraw.1 nodraw.2).mono ?_; rw [HL.out]; rintro e w' ⟨rfl, rfl⟩))
  go_quiet (fail)
  obtain ⟨wo, rfl⟩ : ∃ wo : World, wo = w' := ⟨_, rfl⟩
  have l00 : 0 ≤ b0 % 2 ^ (7 - k) := Int.emod_nonneg _ (Int.ne_of_gt (Int.pow_pos (by decide)))
  have l01 : b0 % 2 ^ (7 - k) < 64 := by
    have h1 := Int.emod_lt_of_pos b0 (b := 2 ^ (7 - k)) (Int.pow_pos (by decide))
    have h2 : (2 : Int) ^ (7 - k) ≤ 2 ^ 5 := by exact_mod_cast Nat.pow_le_pow_right (show 0 < 2 by omega) (show 7 - k ≤ 5 by omega)
    omega
  generalize b0 % 2 ^ (7 - k) = l0 at *
  go_wp2_with fail
  go_loopg [6, 7, 8] k (fun q v6 v7 v8 w2 => w2 = wo.drewN nq ∧ ∃ (i : Nat) (l g : Int), v8 = .int .i64 i ∧ v6 = .int .i64 l ∧ v7 = .int .i64 g ∧ 1 ≤ i ∧ i ≤ k ∧ 0 ≤ l ∧ l ≤ g ∧ g ≤ 4398046511103 ∧ Hid (g < 2 ^ (6 * i)) ∧
    Hid (getL b (k - i) i l g = getL b (k - 1) 1 l0 l0) ∧ Hid (q + i = k + 1))
  case atStart => exact ⟨rfl, 1, l0, l0, rfl, by rw [HA.out], by rw [HA.out], by omega, by omega, l00, by omega, by omega, (show _ < _ from by omega), rfl, (show _ = _ from by omega)⟩
  case round =>
    obtain ⟨rfl, i, l, g, rfl, rfl, rfl, hi1, hik, hl0, hlg, hg, HG, HL', HQ⟩ := hrel
    by_cases hlt : i < k
    · have HG2 : Hid (g ≤ 68719476735) := by
        have h2 : (2 : Int) ^ (6 * i) ≤ 2 ^ 36 := by exact_mod_cast Nat.pow_le_pow_right (show 0 < 2 by omega) (show 6 * i ≤ 36 by omega)
        have := HG.out
        show _ ≤ _
        omega
      have HG3 : Hid (∀ y : Int, y ≤ 63 → g * 64 + y < 2 ^ (6 * (i + 1))) := by
        intro y hy
        have := HG.out
        rw [show 6 * (i + 1) = 6 * i + 6 by omega, Int.pow_add]
        omega
      have hg2 : g ≤ 68719476735 := HG2.out
      have hg60 : l < 2 ^ 56 ∧ g < 2 ^ 56 := by omega
      have HO := Lib.hid hg60
      clear hg60
      by_cases hin : i < b.length
      · obtain ⟨x, hx⟩ : ∃ x, b[i] = x := ⟨_, rfl⟩
        have hxr := HB.out _ (hx ▸ List.getElem_mem hin)
        obtain ⟨hx0, hx1⟩ := hxr
        have hci := HC.out i hin
        rw [hx] at hci
        have HLi : Hid (getL b (k - i) i l g = if x / 64 = 2 then getL b (k - (i + 1)) (i + 1) (l * 64 + x % 64) (g * 64 + x % 64) else none) := by
          show _ = _
          rw [show k - i = (k - (i + 1)) + 1 by omega, getL, dif_pos hin, hx]
        by_cases hx2 : x / 64 = 2
        · have hb1 : (x / 64 != 2) = false := by simp [hx2]
          have HX2 := Lib.hid hx2
          clear hx hx2
          go_wp2
          go_roundg (gk - 1)
          case measure => have := HQ.out; omega
          case rel =>
            have hx63 : x % 64 < 64 := by omega
            refine ⟨rfl, i + 1, l * 64 + x % 64, g * 64 + x % 64, by go_num, ?_, ?_, by omega, by omega, by omega, by omega, by omega, HG3.out _ (by omega), ?_, (show _ = _ from by have := HQ.out; omega)⟩
            · rw [and63, or6 _ _ hl0 HO.out.1 (by omega) (by omega)]
            · rw [and63, or6 _ _ (by omega) HO.out.2 (by omega) (by omega)]
            · show _ = _
              rw [← HL'.out, HLi.out, if_pos HX2.out]
        · have hb1 : (x / 64 != 2) = true := by simp [hx2]
          have HX2 := Lib.hid hx2
          clear hx hx2
          go_wp2
          go_ret3
          have h1 := hres.out
          rw [← HL'.out, HLi.out, if_neg HX2.out] at h1
          subst h1
          exact ⟨rfl, (Keeps.refl _ _).drewN _⟩
      · have HLi : Hid (getL b (k - i) i l g = getL b (k - (i + 1)) (i + 1) (l * 64) (g * 64 + 63)) := by
          show _ = _
          rw [show k - i = (k - (i + 1)) + 1 by omega, getL, dif_neg hin]
        go_wp2
        go_roundg (gk - 1)
        case measure => have := HQ.out; omega
        case rel =>
          refine ⟨rfl, i + 1, l * 64, g * 64 + 63, by go_num, ?_, ?_, by omega, by omega, by omega, by omega, by omega, HG3.out _ (by omega), ?_, (show _ = _ from by have := HQ.out; omega)⟩
          · rw [or6 _ _ hl0 HO.out.1 (by omega) (by omega), Int.add_zero]
          · rw [or6 _ _ (by omega) HO.out.2 (by omega) (by omega)]
          · show _ = _
            rw [← HL'.out, HLi.out]
    · obtain rfl : i = k := by omega
      have h1 := hres.out
      rw [← HL'.out, Nat.sub_self, getL] at h1
      have HR := Lib.hid h1
      clear h1 hres HL' HG
      have hk' : i = 2 ∨ i = 3 ∨ i = 4 ∨ i = 5 ∨ i = 6 ∨ i = 7 := by omega
      rcases hk' with rfl | rfl | rfl | rfl | rfl | rfl
      all_goals
        go_wp2_with (go_at_call 22; refine (room_calls _ _ (by omega) (by omega)).mono ?_; rintro e w' ⟨rfl, rfl⟩)
        all_goals
          go_ret3
          have h1 := HR.out
          refine ⟨?_, (Keeps.refl _ _).drewN _⟩
          simp [lowB] at h1
          clear HR HA HL HQ HC HB HN hk0 hk1 hlt hik hk2 hk7 hi1
          (repeat' split at h1) <;> first | (exfalso; omega) | (subst h1; rfl)

theorem get_calls (b : List Int) (a : Option Addr) (c : Nat) (w : World) (hr : Rd w .u8 a b) (hb : ∀ x ∈ b, 0 ≤ x ∧ x ≤ 255) (hl : b.length ≤ 1000000000) :
    Calls Try.prog 19 #[.slice a b.length c] w fun e w' => e = .returned (GetRes b) ∧ Keeps [] w w' := by
  cases b with
  | nil => exact get_nil a c w
  | cons b0 t =>
    obtain ⟨bl, o, rfl, hc⟩ := hr.form (by simp)
    have h00 := hc 0 (by simp)
    rw [Nat.add_zero] at h00
    have hbr := hb b0 (by simp)
    by_cases hk : lead b0 < 2 ∨ 7 < lead b0
    · refine (get_few (b0 :: t) bl o c w hl (by simp) b0 h00 hbr.1 hbr.2 hk).mono fun e w' ⟨he, h⟩ => ⟨?_, h⟩
      rw [he]
      have h8 := lead_le b0
      unfold GetRes getS
      simp only
      split
      · rfl
      · rename_i h
        rw [if_pos (show lead b0 = 1 ∨ 7 < lead b0 by omega)]
    · refine (get_many (b0 :: t) bl o c w hl (by simp) b0 h00 hbr.1 hbr.2 (lead b0) rfl (by omega) (by omega) hb hc (getS (b0 :: t)) ?_)
      show _ = _
      unfold getS
      simp only
      rw [if_neg (show ¬ lead b0 = 0 by omega), if_neg (show ¬ (lead b0 = 1 ∨ 7 < lead b0) by omega)]

end Go.Proofs.Ytjgljjpgknjihaa
