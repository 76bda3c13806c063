/-
  Package code (layer 5): room, Fold, Unfold, Put.
-/
import Derived.Test.YtjgljjpgknjihaaProg
import Derived.Test.YtjgljjpgknjihaaMem
import Derived.Test.YtjgljjpgknjihaaBitOps
import Derived.WalkSpells
import Derived.WalkLawsBesides
set_option linter.unusedVariables false
set_option linter.unusedSimpArgs false
namespace Go.Proofs.Ytjgljjpgknjihaa
open Go.RowKit Go.Proofs.Ytjgljjpgknjihaa.Pure

theorem c_info_u8 : (Try.prog.info? 5).map (fun i => (i.zero, i.size, i.bytes)) = some (some (.int .u8 0), 1, 1) := by kernel_rfl

theorem room_calls (k : Int) (w : World) (h0 : 1 ≤ k) (h1 : k ≤ 10) :
    Calls Try.prog 22 #[.int .i64 k] w fun e w' => e = .returned (.int .i64 (if k = 1 then 7 else 5 * k + 1)) ∧ w = w' := by
  by_cases h : k = 1
  · subst h
    go_enter Try.func22, Try.ntmps22
    go_wp2
    go_ret
    exact ⟨rfl, rfl⟩
  · rw [if_neg h]
    go_enter Try.func22, Try.ntmps22
    go_wp2
    go_ret
    exact ⟨rfl, rfl⟩

def foldS (n : Int) : Int := if n < 0 then -2 * n - 1 else 2 * n
def unfoldS (n : Int) : Int := if n % 2 = 1 then -((n + 1) / 2) else n / 2

theorem fold_calls (n : Int) (w : World) (h0 : -1099511627776 ≤ n) (h1 : n ≤ 1099511627776) :
    Calls Try.prog 10 #[.int .i64 n] w fun e w' => e = .returned (.tuple #[.int .i64 (foldS n), .int .i64 0]) ∧ w = w' := by
  go_enter Try.func10, Try.ntmps10
  go_wp2
  go_ret2
  refine ⟨congrArg (fun x => Ending.returned (.tuple #[.int .i64 x, .int .i64 0])) ?_, rfl⟩
  rw [xor_sign _ _ (by omega) (by omega) (by omega)]
  unfold foldS
  split <;> split <;> omega

theorem fold_err (n : Int) (w : World) (h : n < -1099511627776 ∨ 1099511627776 < n) :
    Calls Try.prog 10 #[.int .i64 n] w fun e w' => e = .returned (.tuple #[.int .i64 0, .int .i64 12]) ∧ w = w' := by
  rcases h with h | h
  all_goals
    go_enter Try.func10, Try.ntmps10
    go_wp2
    go_ret2
    exact ⟨rfl, rfl⟩

theorem unfold_calls (n : Int) (w : World) (h0 : 0 ≤ n) (h1 : n ≤ 2199023255552) :
    Calls Try.prog 14 #[.int .i64 n] w fun e w' => e = .returned (.tuple #[.int .i64 (unfoldS n), .int .i64 0]) ∧ w = w' := by
  go_enter Try.func14, Try.ntmps14
  go_wp2
  go_ret2
  refine ⟨congrArg (fun x => Ending.returned (.tuple #[.int .i64 x, .int .i64 0])) ?_, rfl⟩
  have e : wrap64 (-(n % 2)) = -(n % 2) := by unfold wrap64; omega
  rw [and1, e, xor_sign _ _ (by omega) (by omega) (by omega)]
  unfold unfoldS
  split <;> split <;> omega

theorem unfold_err (n : Int) (w : World) (h : n < 0 ∨ 2199023255552 < n) :
    Calls Try.prog 14 #[.int .i64 n] w fun e w' => e = .returned (.tuple #[.int .i64 0, .int .i64 12]) ∧ w = w' := by
  rcases h with h | h
  all_goals
    go_enter Try.func14, Try.ntmps14
    go_wp2
    go_ret2
    exact ⟨rfl, rfl⟩

/-! ### Put -/

/-- The last t bytes. -/
def tailB (n : Int) : Nat → List Int
  | 0 => []
  | t + 1 => tailB (n / 64) t ++ [128 + n % 64]
theorem tailB_length (t : Nat) : ∀ n, (tailB n t).length = t := by
  induction t with
  | zero => intro n; rfl
  | succ t ih => intro n; simp [tailB, ih]
/-- How many bytes. -/
def sizeB (n : Int) : Nat := if n < 128 then 1 else if n < 2048 then 2 else if n < 65536 then 3 else if n < 2097152 then 4 else if n < 67108864 then 5 else if n < 2147483648 then 6 else 7
theorem sizeB_le (n : Int) : sizeB n ≤ 7 := by unfold sizeB; repeat (first | omega | split)
def putS (n : Int) : List Int := if n < 128 then [n] else (256 - 2 ^ (8 - sizeB n) + n / 64 ^ (sizeB n - 1)) :: tailB n (sizeB n - 1)
theorem pow64_nonneg (k : Nat) : (0 : Int) ≤ 64 ^ k := Int.le_of_lt (Int.pow_pos (by omega))
theorem tailB_cons (t : Nat) : ∀ n, tailB n (t + 1) = (128 + n / 64 ^ t % 64) :: tailB n t := by
  induction t with
  | zero => intro n; simp [tailB]
  | succ t ih =>
    intro n
    have e : n / 64 / 64 ^ t = n / 64 ^ (t + 1) := by
      rw [Int.pow_succ, Int.mul_comm, Int.ediv_ediv_of_nonneg (by omega)]
    rw [tailB, ih (n / 64), e, List.cons_append]
    rfl
theorem sizeB_end (n : Int) (k : Nat) (h1 : n ≤ 68719476735) (hs : ¬ n < 128) (hk2 : 2 ≤ k) (hk : k ≤ sizeB n) (hx : ¬ 0 < n / 2 ^ (5 * k + 1)) : k = sizeB n := by
  have h7 := sizeB_le n
  have hk' : k = 2 ∨ k = 3 ∨ k = 4 ∨ k = 5 ∨ k = 6 ∨ k = 7 := by omega
  unfold sizeB at *
  rcases hk' with rfl | rfl | rfl | rfl | rfl | rfl <;> simp at hx <;> (repeat' split at hk) <;> (repeat' split) <;> omega
theorem sizeB_next (n : Int) (k : Nat) (h1 : n ≤ 68719476735) (hk2 : 2 ≤ k) (hk : k ≤ sizeB n) (hx : 0 < n / 2 ^ (5 * k + 1)) : k + 1 ≤ sizeB n := by
  have h7 := sizeB_le n
  have hk' : k = 2 ∨ k = 3 ∨ k = 4 ∨ k = 5 ∨ k = 6 ∨ k = 7 := by omega
  unfold sizeB at *
  rcases hk' with rfl | rfl | rfl | rfl | rfl | rfl <;> simp at hx <;> (repeat' split at hk) <;> (repeat' split) <;> omega
theorem set_tail (n m : Int) (k j : Nat) (hj : 1 ≤ j) (hjk : j < k) (hm : m = n / 64 ^ (k - 1 - j)) :
    (List.replicate (j + 1) 0 ++ tailB n (k - 1 - j)).set j (128 + m % 64) = List.replicate (j - 1 + 1) 0 ++ tailB n (k - 1 - (j - 1)) := by
  rw [show k - 1 - (j - 1) = (k - 1 - j) + 1 by omega, tailB_cons, ← hm, List.replicate_succ', List.append_assoc, List.set_append_right _ _ (by simp), show j - 1 + 1 = j by omega]
  simp
theorem put_byte (m : Int) : bits .or .u8 128 (bits .and .i64 m 63 % 256) = 128 + m % 64 := by
  rw [and63, show m % 64 % 256 = m % 64 by omega]
  exact u8_or_join 6 _ _ (by omega) (by omega) (by omega) (by omega) (by omega) (by omega)
theorem put_first (n : Int) (k : Nat) (h0 : 0 ≤ n) (h1 : n ≤ 68719476735) (hs : ¬ n < 128) (hk : k = sizeB n) :
    bits .or .u8 (65280 / 2 ^ k % 256) (n / 64 ^ (k - 1) % 256) = 256 - 2 ^ (8 - k) + n / 64 ^ (k - 1) := by
  have h7 := sizeB_le n
  have hk' : k = 2 ∨ k = 3 ∨ k = 4 ∨ k = 5 ∨ k = 6 ∨ k = 7 := by
    have : 2 ≤ sizeB n := by unfold sizeB; repeat (first | omega | split)
    omega
  unfold sizeB at hk
  rcases hk' with rfl | rfl | rfl | rfl | rfl | rfl <;> simp <;> (repeat' split at hk) <;> (try omega)
  · rw [u8_or_join 6 _ _ (by omega) (by omega) (by omega) (by omega) (by omega) (by omega)]; omega
  · rw [u8_or_join 5 _ _ (by omega) (by omega) (by omega) (by omega) (by omega) (by omega)]; omega
  · rw [u8_or_join 4 _ _ (by omega) (by omega) (by omega) (by omega) (by omega) (by omega)]; omega
  · rw [u8_or_join 3 _ _ (by omega) (by omega) (by omega) (by omega) (by omega) (by omega)]; omega
  · rw [u8_or_join 2 _ _ (by omega) (by omega) (by omega) (by omega) (by omega) (by omega)]; omega
  · rw [u8_or_join 1 _ _ (by omega) (by omega) (by omega) (by omega) (by omega) (by omega)]; omega

theorem put_err (n : Int) (w : World) (h : n < 0 ∨ 68719476735 < n) :
    Calls Try.prog 17 #[.int .i64 n] w fun e w' => e = .returned (.tuple #[.slice none 0 0, .int .i64 12]) ∧ w = w' := by
  rcases h with h | h
  all_goals
    go_enter Try.func17, Try.ntmps17
    go_wp2
    go_ret2
    exact ⟨rfl, rfl⟩

set_option maxHeartbeats 800000 in
theorem put_calls (n : Int) (w : World) (h0 : 0 ≤ n) (h1 : n ≤ 68719476735) :
    Calls Try.prog 17 #[.int .i64 n] w fun e w' => ∃ v, e = .returned (.tuple #[v, .int .i64 0]) ∧ Row w' .u8 5 v (putS n) ∧ (∀ b, b ∈ fp v → w.heap.size ≤ b) ∧ Keeps [] w w' := by
  by_cases hs : n < 128
  · go_enter Try.func17, Try.ntmps17
    go_wp2
    go_ret2
    refine ⟨_, rfl, ?_, ?_, (Keeps.refl _ _).alloc _⟩
    · have := Row.lit w .u8 5 #[.int .u8 (n : Int)] [(n : Int)] rfl (by simp)
      simpa [putS, hs] using this
    · intro b hb
      change b ∈ fp (.slice (some ⟨w.heap.size, 0, none⟩) 1 1) at hb
      rw [fp_some, List.mem_singleton] at hb
      omega
  · go_enter Try.func17, Try.ntmps17
    go_wp2_with fail
    go_loopg [4] 8 (fun q v4 w2 => w2 = w ∧ ∃ k : Nat, v4 = .int .i64 k ∧ 2 ≤ k ∧ k ≤ 7 ∧ Hid (k ≤ sizeB n) ∧ Hid (q + k = 10))
    case atStart => exact ⟨rfl, 2, rfl, by omega, by omega, (show _ ≤ _ from by unfold sizeB; repeat (first | omega | split)), (show _ = _ from by omega)⟩
    case round =>
      obtain ⟨rfl, k, rfl, hk2, hk7, HK, HQ⟩ := hrel
      obtain ⟨wo, rfl⟩ : ∃ wo : World, wo = wr := ⟨_, rfl⟩
      have HE := Lib.hid (fun hx => sizeB_end n k h1 (by omega) hk2 HK.out hx)
      have HN := Lib.hid (fun hx => sizeB_next n k h1 hk2 HK.out hx)
      have hmk : ∀ W : World, (Instr.makeSlice 30 (.int .i64 (k : Int)) (.int .i64 (k : Int))).run Try.prog W = .ok (.slice (some ⟨W.heap.size, 0, none⟩) k k) (W.alloc (.cells (madeCells #[.int .u8 0] k) 5)) :=
        fun W => run_make_row' 30 5 (.int .u8 0) 1 Try.underlying30 c_info_u8 rfl .i64 .i64 k (by omega) (by omega) W
      have hpw : (5 * (k : Int) + 1).toNat = 5 * k + 1 := by omega
      go_wp2_with (go_at_call 22; refine (room_calls _ _ (by omega) (by omega)).mono ?_; rintro e w' ⟨rfl, rfl⟩)
      · have hx : 0 < n / 2 ^ (5 * k + 1) := by assumption
        have hk1 := HN.out hx
        go_roundg (gk - 1)
        case measure => have := HQ.out; omega
        case rel => exact ⟨rfl, k + 1, by go_num, by omega, by have := sizeB_le n; omega, hk1, (show _ = _ from by have := HQ.out; omega)⟩
      · have hx : ¬ 0 < n / 2 ^ (5 * k + 1) := by omega
        have HK2 : Hid (k = sizeB n) := HE.out (by omega)
        go_loopg [0, 6] (k + 1) (fun q v0 v6 w2 => ∃ (j : Nat) (m : Int), v0 = .int .i64 m ∧ v6 = .int .i64 j ∧ 0 ≤ m ∧ m ≤ 68719476735 ∧ j < k ∧ Hid (j < q) ∧ Hid (m = n / 64 ^ (k - 1 - j)) ∧
          Hid (Row w2 .u8 5 (.slice (some ⟨wo.heap.size, 0, none⟩) k k) (List.replicate (j + 1) 0 ++ tailB n (k - 1 - j))) ∧ Hid (Keeps [] wo w2))
        case atStart => exact ⟨k - 1, n, rfl, by go_num, h0, h1, by omega, (show _ < _ from by omega), (show _ = _ from by simp), (show Row _ _ _ _ _ from by simpa [tailB, show k - 1 + 1 = k by omega] using Row.made wo .u8 5 k (by omega)), (Keeps.refl _ _).alloc _⟩
        case round =>
          obtain ⟨j, m, rfl, rfl, hm0, hm1, hjk, hq, hm, HR, HK'⟩ := hrel
          have hfz := HR.out.frozen j
          have hlen : (List.replicate (j + 1) 0 ++ tailB n (k - 1 - j)).length = k := by simp [tailB_length]; omega
          obtain ⟨v, hx'⟩ : ∃ v, wr.cell? ⟨wo.heap.size, j, none⟩ = some v := ⟨_, HR.out.cell j (by omega)⟩
          have hf0 := HR.out.frozen 0
          obtain ⟨v0, hx0⟩ : ∃ v, wr.cell? ⟨wo.heap.size, 0, none⟩ = some v := ⟨_, HR.out.cell 0 (by omega)⟩
          have HS := Lib.hid (fun j x => HR.out.set j x)
          clear hlen
          by_cases hj : 0 < j
          · have HT := Lib.hid (set_tail n m k j hj hjk hm.out)
            have HP := Lib.hid (put_byte m)
            have hd : decide (0 < (j : Int)) = true := by simp; omega
            clear hmk hpw
            go_wp2
            go_roundg j
            case measure => exact hq.out
            case rel =>
              refine ⟨j - 1, m / 64, rfl, by go_num, by omega, by omega, by omega, (show _ < _ from by omega), (show _ = _ from ?_), ?_, HK'.out.setCell (.inr (Nat.le_refl _)) _⟩
              · rw [hm.out, Int.ediv_ediv_of_nonneg (pow64_nonneg _), ← Int.pow_succ]
                congr 2
                omega
              · show Row _ _ _ _ _
                rw [← HT.out, HP.out]
                exact HS.out _ _
          · obtain rfl : j = 0 := by omega
            have hd : decide (0 < ((0 : Nat) : Int)) = false := rfl
            clear hmk hpw
            have E2 : Hid (putS n = (List.replicate (0 + 1) 0 ++ tailB n (k - 1 - 0)).set 0 (bits .or .u8 (65280 / 2 ^ k % 256) (m % 256))) := by
              show _ = _
              have e := put_first n k h0 h1 (by omega) HK2.out
              have hm' := hm.out
              simp only [Nat.sub_zero] at hm'
              rw [hm', e, putS, if_neg (by omega), ← HK2.out]
              rfl
            go_wp2
            go_ret2
            refine ⟨_, rfl, ?_, ?_, HK'.out.setCell (.inr (Nat.le_refl _)) _⟩
            · rw [E2.out]
              exact HS.out 0 _
            · intro b hb
              change b ∈ fp (.slice (some ⟨wo.heap.size, 0, none⟩) k k) at hb
              rw [fp_some, List.mem_singleton] at hb
              omega
end Go.Proofs.Ytjgljjpgknjihaa
