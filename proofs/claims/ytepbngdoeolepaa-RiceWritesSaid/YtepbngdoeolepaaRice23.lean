/-
  Layer 6 (rice), the document's side: fold, size, Check.
-/
import Derived.Test.YtepbngdoeolepaaRice22
set_option linter.unusedVariables false
set_option linter.unusedSimpArgs false
namespace Go.Proofs.Ytepbngdoeolepaa
open Go.RowKit Go.Proofs.Ytepbngdoeolepaa.Pure

theorem dfold_calls (n : Int) (w : World) (h : -4294967296 ≤ n ∧ n ≤ 4294967296) :
    Calls Try.prog 38 #[.int .i64 n] w fun e w' => e = .returned (.int .i64 (foldS n)) ∧ w = w' := by
  unfold foldS
  by_cases h0 : n < 0
  · rw [if_pos h0]
    go_enter Try.func38, Try.ntmps38
    go_wp2
    go_ret
    exact ⟨rfl, rfl⟩
  · rw [if_neg h0]
    go_enter Try.func38, Try.ntmps38
    go_wp2
    go_ret
    exact ⟨rfl, rfl⟩

/-- The document's size. -/
def dsizeS (k : Nat) (F : List Int) : Int := if farB k F = true then -1 else szK k F
theorem szK_add (k : Nat) (F : List Int) (f : Int) : szK k (F ++ [f]) = szK k F + f / 2 ^ k + 1 + k := by
  unfold szK
  rw [sumK_snoc, List.length_append, List.length_singleton, Int.natCast_add, Int.mul_add]
  omega
theorem farB_take (k : Nat) (F : List Int) (i : Nat) (h : farB k (F.take i) = true) : farB k F = true := by
  unfold farB at h ⊢
  rw [List.any_eq_true] at h ⊢
  obtain ⟨x, h1, h2⟩ := h
  exact ⟨x, List.mem_of_mem_take h1, h2⟩

set_option maxHeartbeats 4000000 in
theorem dsize_calls (L : List Int) (k n : Nat) (hn : n = L.length) (a : Option Addr) (c : Nat) (w : World) (hk : k ≤ 31) (hl : L.length ≤ 600) (hin : ∀ x ∈ L, -2147483648 < x ∧ x < 2147483648) (hx : Hid (Rd w .i64 a L)) :
    Calls Try.prog 59 #[.slice a n c, .int .i64 k] w fun e w' => e = .returned (.int .i64 (dsizeS k (L.map foldS))) ∧ Keeps [] w w' := by
  subst hn
  obtain ⟨P, hP⟩ : ∃ P : Nat, 2 ^ k = P := ⟨_, rfl⟩
  have hPi : (2 : Int) ^ k = (P : Int) := by rw [← hP]; simp
  have HPI := Lib.hid hPi
  have hki : (0 : Int) ≤ (k : Int) := by omega
  have HIN := Lib.hid hin
  clear hP hin
  go_enter Try.func59, Try.ntmps59
  go_wp2_with fail
  go_loopg [5, 6] (L.length + 1) (fun q v5 v6 w2 => ∃ (i : Nat) (S : Int), v6 = .int .i64 i ∧ v5 = .int .i64 S ∧ i ≤ L.length ∧ 0 ≤ S ∧ S ≤ 4294967360 * i ∧ Hid (S = szK k ((L.take i).map foldS)) ∧ Hid (farB k ((L.take i).map foldS) = false) ∧ Hid (i + q = L.length + 1) ∧ Hid (Keeps [] w w2))
  case atStart => exact ⟨0, 0, rfl, rfl, by omega, by omega, by omega, (show _ = _ from by simp [szK, sumK]), (show _ = _ from by simp [farB]), (show _ = _ from by omega), Keeps.refl _ _⟩
  case round =>
    obtain ⟨i, S, rfl, rfl, hi, hS0, hS1, HS, HF, HQ, HK⟩ := hrel
    obtain ⟨q1, rfl⟩ : ∃ g : Nat, g = gk := ⟨_, rfl⟩
    obtain ⟨wa, rfl⟩ : ∃ y : World, y = wr := ⟨_, rfl⟩
    by_cases hlt : i < L.length
    · obtain ⟨b1, o1, rfl, hc1⟩ := (hx.out.new HK.out).at_ i hlt
      obtain ⟨x, hxe⟩ : ∃ x, L[i] = x := ⟨_, rfl⟩
      rw [hxe] at hc1
      have hxr : -2147483648 < x ∧ x < 2147483648 := by rw [← hxe]; exact HIN.out _ (List.getElem_mem _)
      have hfr := foldS_range x hxr
      have htk : (L.take (i + 1)).map foldS = (L.take i).map foldS ++ [foldS x] := by rw [List.take_succ_eq_append_getElem hlt, hxe, List.map_append]; rfl
      have HFX := Lib.hid (fun W => dfold_calls x W (by omega))
      obtain ⟨f, hf⟩ : ∃ f, foldS x = f := ⟨_, rfl⟩
      rw [hf] at HFX htk hfr
      have hD := div_pow_range f k hfr.1 hfr.2
      have hszn := szK_add k ((L.take i).map foldS) f
      have hfan := farB_snoc k ((L.take i).map foldS) f
      rw [← htk, HF.out, Bool.false_or] at hfan
      rw [← htk, ← HS.out] at hszn
      rw [hPi] at hD hszn hfan
      obtain ⟨D, hDe⟩ : ∃ D, f / (P : Int) = D := ⟨_, rfl⟩
      rw [hDe] at hD hszn hfan
      by_cases hfar : 65536 < D
      · rw [decide_eq_true hfar] at hfan
        have hres : dsizeS k (L.map foldS) = -1 := by
          unfold dsizeS
          rw [if_pos]
          rw [List.map_take] at hfan
          exact farB_take k _ (i + 1) hfan
        have HRES := Lib.hid hres
        clear hres hszn htk hf hxe hfan
        go_wp2_with (first
          | (go_at_call 38; go_must (refine (HFX.out _).mono ?_); rintro e w3 ⟨rfl, rfl⟩))
        go_ret
        exact ⟨by rw [HRES.out]; rfl, HK.out⟩
      · rw [decide_eq_false hfar] at hfan
        have HFN := Lib.hid hfan
        have HSN := Lib.hid hszn
        clear hszn htk hf hxe hfan
        go_wp2_with (first
          | (go_at_call 38; go_must (refine (HFX.out _).mono ?_); rintro e w3 ⟨rfl, rfl⟩))
        go_roundg (L.length - i)
        case measure => have := HQ.out; omega
        case rel => exact ⟨i + 1, S + D + 1 + k, by go_num, by first | rfl | (congr 1; omega), by omega, by omega, by omega, HSN.out.symm, HFN.out, (show _ = _ from by have := HQ.out; omega), HK.out⟩
    · obtain rfl : i = L.length := by omega
      have h1 := HS.out
      have h2 := HF.out
      rw [List.take_of_length_le (Nat.le_refl _)] at h1 h2
      have hres : dsizeS k (L.map foldS) = S := by unfold dsizeS; rw [h2, if_neg (by simp), h1]
      have HRES := Lib.hid hres
      clear hres h1 h2
      go_wp2_with fail
      go_ret
      exact ⟨by rw [HRES.out]; rfl, HK.out⟩

set_option maxHeartbeats 4000000 in
theorem dcheck_calls (L : List Int) (order : Int) (n : Nat) (hn : n = L.length) (a : Option Addr) (c : Nat) (w : World) (h1 : -9223372036854775808 ≤ order ∧ order ≤ 9223372036854775807) (hl : L.length ≤ 17592186043904) (hx : Hid (Rd w .i64 a L)) :
    Calls Try.prog 32 #[.slice a n c, .int .i64 order] w fun e w' => e = .returned (.int .i64 (rchkE L order)) ∧ Keeps [] w w' := by
  subst hn
  by_cases g1 : order < 0
  · have e : rchkE L order = 1 := by unfold rchkE; rw [show rightB (L.length + order) order = false from decide_eq_false (by omega)]; rfl
    rw [e]
    go_enter Try.func32, Try.ntmps32
    go_wp2
    go_ret
    exact ⟨rfl, Keeps.refl _ _⟩
  · by_cases g2 : 8 < order
    · have e : rchkE L order = 1 := by unfold rchkE; rw [show rightB (L.length + order) order = false from decide_eq_false (by omega)]; rfl
      rw [e]
      go_enter Try.func32, Try.ntmps32
      go_wp2
      go_ret
      exact ⟨rfl, Keeps.refl _ _⟩
    · obtain ⟨N, hN⟩ : ∃ N, (L.length : Int) + order = N := ⟨_, rfl⟩
      have HBL := Lib.hid (fun W => dblock_calls N order W)
      have hch : rchkE L order = if rightB N order then (if L.all inB then 0 else 12) else 1 := by unfold rchkE; rw [hN]
      rw [hch]
      clear hch
      cases hb : rightB N order with
      | false =>
        rw [hb] at HBL
        rw [if_neg (by simp)]
        clear hb
        go_enter Try.func32, Try.ntmps32
        go_wp2_with (first
          | (go_at_call 50; go_must (refine (HBL.out _).mono ?_); rintro e w3 ⟨rfl, rfl⟩))
        go_ret
        exact ⟨rfl, Keeps.refl _ _⟩
      | true =>
        rw [hb] at HBL
        rw [if_pos rfl]
        obtain ⟨RS, hRS⟩ : ∃ RS : Int, (if L.all inB then 0 else 12) = RS := ⟨_, rfl⟩
        rw [hRS]
        have HRS := Lib.hid hRS
        clear hb hRS
        go_enter Try.func32, Try.ntmps32
        go_wp2_with (first
          | (go_at_call 50; go_must (refine (HBL.out _).mono ?_); rintro e w3 ⟨rfl, rfl⟩))
        go_loopg [5] (L.length + 1) (fun q v5 w2 => ∃ (i : Nat), v5 = .int .i64 i ∧ i ≤ L.length ∧ Hid ((L.take i).all inB = true) ∧ Hid (i + q = L.length + 1) ∧ Hid (Keeps [] w w2))
        case atStart => exact ⟨0, rfl, by omega, (show _ = _ from by simp), (show _ = _ from by omega), Keeps.refl _ _⟩
        case round =>
          obtain ⟨i, rfl, hi, HA, HQ, HK⟩ := hrel
          obtain ⟨q1, rfl⟩ : ∃ g : Nat, g = gk := ⟨_, rfl⟩
          obtain ⟨wa, rfl⟩ : ∃ y : World, y = wr := ⟨_, rfl⟩
          by_cases hlt : i < L.length
          · obtain ⟨b1, o1, rfl, hc1⟩ := (hx.out.new HK.out).at_ i hlt
            obtain ⟨x, hxe⟩ : ∃ x, L[i] = x := ⟨_, rfl⟩
            rw [hxe] at hc1
            have hall : (L.take (i + 1)).all inB = inB x := by rw [List.take_succ_eq_append_getElem hlt, hxe, List.all_append, HA.out]; simp
            have hmem : x ∈ L := by rw [← hxe]; exact List.getElem_mem _
            by_cases hlo : x ≤ -2147483648
            · have hbad : L.all inB = false := by
                rw [List.all_eq_false]
                exact ⟨x, hmem, fun h => by have := (inB_iff x).1 h; omega⟩
              have HBAD := Lib.hid hbad
              clear hall hmem hbad hxe
              go_wp2_with fail
              go_ret
              exact ⟨by rw [← HRS.out, HBAD.out, if_neg (by simp)]; rfl, HK.out⟩
            · by_cases hhi : 2147483648 ≤ x
              · have hbad : L.all inB = false := by
                  rw [List.all_eq_false]
                  exact ⟨x, hmem, fun h => by have := (inB_iff x).1 h; omega⟩
                have HBAD := Lib.hid hbad
                clear hall hmem hbad hxe
                go_wp2_with fail
                go_ret
                exact ⟨by rw [← HRS.out, HBAD.out, if_neg (by simp)]; rfl, HK.out⟩
              · have hok : inB x = true := (inB_iff x).2 (by omega)
                rw [hok] at hall
                have HAN := Lib.hid hall
                clear hall hmem hok hxe
                go_wp2_with fail
                go_roundg (L.length - i)
                case measure => have := HQ.out; omega
                case rel => exact ⟨i + 1, by go_num, by omega, HAN.out, (show _ = _ from by have := HQ.out; omega), HK.out⟩
          · obtain rfl : i = L.length := by omega
            have h2 := HA.out
            rw [List.take_of_length_le (Nat.le_refl _)] at h2
            have HGOOD := Lib.hid h2
            clear h2
            go_wp2_with fail
            go_ret
            exact ⟨by rw [← HRS.out, HGOOD.out, if_pos rfl]; rfl, HK.out⟩
end Go.Proofs.Ytepbngdoeolepaa
