/-
  Layer 9 (subframe): samples that are moved up by some bits, plain.
  Layer 9 (subframe): Write on one of two Writers of the run's own.
-/
import Derived.Test.YtofkiimaoahfjaaDoorZShr1
import Derived.Test.YtofkiimaoahfjaaDoorZBits8
set_option maxRecDepth 100000
set_option linter.unusedVariables false
set_option linter.unusedSimpArgs false
namespace Go.Proofs.YtofkiimaoahfjaaDoor
open Go.RowKit Go.Proofs.YtofkiimaoahfjaaDoor.Pure

/-- Samples that are moved up by u bits. -/
def mupS (u : Nat) (S : List Int) : List Int := S.map (fun x => x * 2 ^ u)
theorem mupS_length (u : Nat) (S : List Int) : (mupS u S).length = S.length := List.length_map _
theorem schk_bounds {S : List Int} {d : Nat} (h : schkE S d = 0) : (1 ≤ S.length ∧ S.length ≤ 512) ∧ (4 ≤ d ∧ d ≤ 25) ∧ ∀ x ∈ S, -(2 ^ (d - 1)) ≤ x ∧ x < 2 ^ (d - 1) := by
  unfold schkE at h
  split at h
  · rename_i h1
    obtain ⟨a, b, c, e⟩ := sbr_facts h1
    refine ⟨by omega, by omega, fun x hx => ?_⟩
    split at h
    · rename_i h2
      have h3 := List.all_eq_true.1 h2 x hx
      rw [Int.toNat_natCast] at h3
      exact of_decide_eq_true h3
    · cases h
  · cases h
theorem deeper_law (S : List Int) (d u : Nat) (hc : schkE S d = 0) (hu : u ≤ 5) (hd : d ≤ 19) (ho : orS S ≠ 0) :
    schkE (mupS u S) ((d : Int) + (u : Int)) = 0 ∧ (sputB (mupS u S) ((d : Int) + (u : Int))).length = (sputB S d).length + u ∧ skindN (mupS u S) ((d : Int) + (u : Int)) = skindN S d := by
  obtain ⟨hl, hdd, hS⟩ := schk_bounds hc
  have hpow : ∀ j : Nat, (2 : Int) ^ (j + u) = 2 ^ j * 2 ^ u := fun j => Int.pow_add _ _ _
  have hpu : (0 : Int) < 2 ^ u := Int.pow_pos (by omega)
  have hpj : ∀ j : Nat, (0 : Int) < 2 ^ j := fun j => Int.pow_pos (by omega)
  have hdu : ((d : Int) + (u : Int)) = ((d + u : Nat) : Int) := by omega
  have hb : ∀ x, x ∈ S → -(2 ^ (d + u - 1)) ≤ x * 2 ^ u ∧ x * 2 ^ u < (2 : Int) ^ (d + u - 1) := by
    intro x hx
    have := hS x hx
    rw [show d + u - 1 = (d - 1) + u by omega, hpow, ← Int.neg_mul]
    exact ⟨Int.mul_le_mul_of_nonneg_right this.1 (by omega), Int.mul_lt_mul_of_pos_right this.2 hpu⟩
  have hc2 : schkE (mupS u S) ((d + u : Nat) : Int) = 0 := schk_of _ (d + u) (by rw [mupS_length]; exact hl) (by omega) (fun x hx => by
    obtain ⟨y, hy, rfl⟩ := List.mem_map.1 hx
    exact hb y hy)
  have hok := s_ok _ _ hc
  have hok2 := s_ok _ _ hc2
  have hk := hok.k
  have big : ∀ j : Nat, j ≤ 24 → (2 : Int) ^ j ≤ 16777216 := by
    intro j hj
    have h1 : (2 : Nat) ^ j ≤ 2 ^ 24 := Nat.pow_le_pow_right (by omega) hj
    have h2 : (2 : Nat) ^ 24 = 16777216 := rfl
    have h3 : ((2 ^ j : Nat) : Int) = (2 : Int) ^ j := by simp
    omega
  have hr : ∀ x ∈ S, -9223372036854775808 ≤ x ∧ x ≤ 9223372036854775807 := fun x hx => by have := hS x hx; have := big (d - 1) (by omega); omega
  have hr2 : ∀ x ∈ mupS u S, -9223372036854775808 ≤ x ∧ x ≤ 9223372036854775807 := fun x hx => by
    obtain ⟨y, hy, rfl⟩ := List.mem_map.1 hx
    have h1 := hb y hy
    have h2 := big (d + u - 1) (by omega)
    show -9223372036854775808 ≤ y * 2 ^ u ∧ y * 2 ^ u ≤ 9223372036854775807
    omega
  have ho2 : orS (mupS u S) ≠ 0 := fun h => ho ((orS_zero S hr).2 (fun x hx => by
    have h1 := (orS_zero (mupS u S) hr2).1 h (x * 2 ^ u) (List.mem_map.2 ⟨x, hx, rfl⟩)
    rcases Int.mul_eq_zero.1 h1 with h2 | h2
    · exact h2
    · omega))
  have hem : ∀ (x : Int) (j : Nat), x * 2 ^ u % 2 ^ (j + u) = x % 2 ^ j * 2 ^ u := by
    intro x j
    rw [hpow, Int.mul_comm x, Int.mul_comm ((2 : Int) ^ j), Int.mul_emod_mul_of_pos _ _ hpu, Int.mul_comm]
  have hiff : ∀ j : Nat, j + u ≤ 64 → (orS (mupS u S) % 2 ^ (j + u) = 0 ↔ orS S % 2 ^ j = 0) := by
    intro j hj
    rw [orS_mod _ _ hj, orS_mod _ _ (by omega)]
    constructor
    · intro h x hx
      have h1 := h (x * 2 ^ u) (List.mem_map.2 ⟨x, hx, rfl⟩)
      rw [hem] at h1
      rcases Int.mul_eq_zero.1 h1 with h2 | h2
      · exact h2
      · omega
    · intro h x hx
      obtain ⟨y, hy, rfl⟩ := List.mem_map.1 hx
      show y * 2 ^ u % 2 ^ (j + u) = 0
      rw [hem, h y hy, Int.zero_mul]
  have hsp := tz_spec (orS S) ho (orS_range S)
  have hw : wasS (mupS u S) = wasS S + u := by
    refine tz_of (orS (mupS u S)) (wasS S + u) ho2 (orS_range _) ((hiff (wasS S) (by omega)).2 hsp.1) (fun h => hsp.2.1 ?_)
    have e : wasS S + u + 1 = wasS S + 1 + u := by omega
    rw [e] at h
    exact (hiff (wasS S + 1) (by omega)).1 h
  have hdn : downS (mupS u S) (wasS (mupS u S)) = downS S (wasS S) := by
    unfold downS mupS
    rw [List.map_map]
    refine List.map_congr_left (fun x _ => ?_)
    show (x * 2 ^ u) / 2 ^ wasS (mupS u S) = x / 2 ^ wasS S
    rw [hw, hpow, Int.mul_comm x, Int.mul_comm ((2 : Int) ^ wasS S), Int.mul_ediv_mul_of_pos _ _ hpu]
  have hdp : depS (mupS u S) ((d + u : Nat) : Int) = depS S d := by unfold depS; rw [hw]; omega
  have hpl : planS (mupS u S) ((d + u : Nat) : Int) = planS S d := by unfold planS; rw [hdn, hdp]
  rw [hdu]
  refine ⟨hc2, ?_, ?_⟩
  · rw [(skind_ok hc).2, (skind_ok hc2).2]
    have h1 := sw_len _ _ hok
    have h2 := sw_len _ _ hok2
    rw [hpl, hw] at h2
    omega
  · rw [(skind_ok hc).1, (skind_ok hc2).1, hpl]
end Go.Proofs.YtofkiimaoahfjaaDoor

set_option maxRecDepth 100000
set_option linter.unusedVariables false
set_option linter.unusedSimpArgs false
namespace Go.Proofs.YtofkiimaoahfjaaDoor
open Go.RowKit Go.Proofs.YtofkiimaoahfjaaDoor.Pure

theorem ws2Sub (S : List Int) (depth : Int) (n : Nat) (hn : n = S.length) (a : Option Addr) (c : Nat) (w0 w : World) (p q : Nat) (l m : List Bool) (hr : Hid (∀ x ∈ S, -9223372036854775808 ≤ x ∧ x ≤ 9223372036854775807)) (hx : Hid (Rd w .i64 a S)) (hT : Hid (Tab w)) (hW : Hid (WS2 w0 w p l q m)) (hl : l.length ≤ 1000000) :
    Calls Tryd.prog 13 #[.pointer (some ⟨p, 0, none⟩), .slice a n c, .int .i64 depth] w fun e w' => e = .returned (.int .i64 (schkE S depth)) ∧ WS2 w0 w' p (l ++ sputB S depth) q m := by
  obtain ⟨h1, sv, sv', a1, b, c1, d, e, f, g, i, j⟩ := hW.out
  exact (swrite_calls S depth n hn a c w p sv l hr hx hT (Lib.hid a1) hl).mono fun e' w' ⟨he, hw⟩ => ⟨he, WS2.wrote h1 a1 b c1 d e f g i j hw⟩
theorem ws2SubR (S : List Int) (depth : Int) (n : Nat) (hn : n = S.length) (a : Option Addr) (c : Nat) (w0 wA w : World) (p q : Nat) (l m : List Bool) (hr : Hid (∀ x ∈ S, -9223372036854775808 ≤ x ∧ x ≤ 9223372036854775807)) (hx : Hid (Rd w .i64 a S)) (hT : Hid (Tab w)) (hA : Hid (WS2 w0 wA p l q m)) (hk : Hid (Keeps [] wA w)) (hl : m.length ≤ 1000000) :
    Calls Tryd.prog 13 #[.pointer (some ⟨q, 0, none⟩), .slice a n c, .int .i64 depth] w fun e w' => e = .returned (.int .i64 (schkE S depth)) ∧ WS2 w0 w' p l q (m ++ sputB S depth) ∧ ∃ F, Keeps F w w' ∧ ∀ b, b ∈ F → b < wA.heap.size := by
  obtain ⟨h1, sv, sv', a1, b, c1, d, e, f, g, i, j⟩ := hA.out.symm
  have hlt1 := a1.duo.lt
  have hlt2 := a1.row.lt
  refine (swrite_calls S depth n hn a c w q sv m hr hx hT (Lib.hid (a1.new hk.out)) hl).mono ?_
  rintro e' w' ⟨he, hw⟩
  refine ⟨he, (WS2.wrote (h1.new hk.out) (a1.new hk.out) (b.new hk.out) c1 d e f g i j hw).symm, ?_⟩
  obtain ⟨sw, x1, x2, x3⟩ := hw
  refine ⟨_, x2, fun y hy => ?_⟩
  rcases List.mem_cons.1 hy with rfl | hy
  · exact hlt1
  · exact hlt2 y hy
end Go.Proofs.YtofkiimaoahfjaaDoor
