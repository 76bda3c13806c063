/-
  Layer 8 (stereo): Join.
-/
import Derived.Test.YtildkehbogmceaaSte4
set_option linter.unusedVariables false
set_option linter.unusedSimpArgs false
namespace Go.Proofs.Ytildkehbogmceaa
open Go.RowKit

def inC (z : Int × Int) : Bool := decide (InC z)
theorem inC_iff (z : Int × Int) : inC z = true ↔ InC z := by simp [inC]
/-- Join's error. -/
def joinE (L R : List Int) : Int := if L.length ≠ R.length then 1 else if 8192 < L.length then 14 else if (L.zip R).all inC then 0 else 12

set_option maxHeartbeats 4000000 in
set_option maxRecDepth 100000 in
theorem join_calls (L R : List Int) (n1 n2 : Nat) (h1 : n1 = L.length) (h2 : n2 = R.length) (a b : Option Addr) (c d : Nat) (w : World) (hx : Hid (Rd w .i64 a L)) (hy : Hid (Rd w .i64 b R)) :
    Calls Try.prog 6 #[.slice a n1 c, .slice b n2 d] w fun e w' => ∃ v, e = .returned (.tuple #[v, .int .i64 (joinE L R)]) ∧ RowV w' 37 v (if joinE L R = 0 then cxs (L.zip R) else []) ∧ (∀ b, b ∈ fp v → w.heap.size ≤ b) ∧ Keeps [] w w' := by
  subst h1 h2
  have hxl := hx.out.small
  have hyl := hy.out.small
  by_cases hlen : L.length = R.length
  · have hne : ((L.length : Int) != (R.length : Int)) = false := by simp [hlen]
    by_cases hbig : 8192 < L.length
    · have e : joinE L R = 14 := by unfold joinE; rw [if_neg (by simp [hlen]), if_pos hbig]
      rw [e, if_neg (by decide)]
      clear e
      go_enter Try.func6, Try.ntmps6
      go_wp2
      go_ret2
      exact ⟨_, rfl, RowV.nil _ _, fun b hb => (by cases hb), Keeps.refl _ _⟩
    · have hj : joinE L R = if (L.zip R).all inC then 0 else 12 := by unfold joinE; rw [if_neg (by simp [hlen]), if_neg hbig]
      obtain ⟨J, hJ⟩ : ∃ J, joinE L R = J := ⟨_, rfl⟩
      obtain ⟨V, hV⟩ : ∃ V, (if joinE L R = 0 then cxs (L.zip R) else []) = V := ⟨_, rfl⟩
      have HJ : Hid (∀ b, (L.zip R).all inC = b → J = (if b then 0 else 12) ∧ V = (if b then cxs (L.zip R) else [])) := by
        intro b hb
        rw [hb] at hj
        rw [hj] at hJ
        rw [hj] at hV
        cases b
        · exact ⟨hJ.symm, hV.symm⟩
        · exact ⟨hJ.symm, hV.symm⟩
      rw [hV, hJ]
      have hzl : (L.zip R).length = L.length := by simp [List.length_zip]; omega
      have HZL := Lib.hid hzl
      have hfo : ∀ n, floatOfInt .f64 n = FI n := fun _ => rfl
      have HLEN := Lib.hid hlen
      clear hj hJ hV hzl hlen
      go_enter Try.func6, Try.ntmps6
      go_wp2_with fail
      go_loopg [6, 22] (L.length + 1) (fun q v6 v22 wr => ∃ (i : Nat), v22 = .int .i64 i ∧ i ≤ L.length ∧ Hid (RowV wr 37 v6 (cxs ((L.zip R).take i))) ∧ Hid (∀ b, b ∈ fp v6 → w.heap.size ≤ b) ∧ Hid (((L.zip R).take i).all inC = true) ∧ Hid (i + q = L.length + 1) ∧ Hid (Keeps [] w wr))
      case atStart => exact ⟨0, rfl, by omega, RowV.nil _ _, (fun b hb => by cases hb), (show _ = _ from by simp), (show _ = _ from by omega), Keeps.refl _ _⟩
      case round =>
        obtain ⟨i, rfl, hi, HRow, HFp, HA, HQ, HK⟩ := hrel
        obtain ⟨q1, rfl⟩ : ∃ g : Nat, g = gk := ⟨_, rfl⟩
        obtain ⟨wa, rfl⟩ : ∃ y : World, y = wr := ⟨_, rfl⟩
        by_cases hlt : i < L.length
        · have hlt2 : i < R.length := by have := HLEN.out; omega
          obtain ⟨b1, o1, rfl, hc1⟩ := (hx.out.new HK.out).at_ i hlt
          obtain ⟨b2, o2, rfl, hc2⟩ := (hy.out.new HK.out).at_ i hlt2
          have hiz : i < (L.zip R).length := by rw [HZL.out]; exact hlt
          have hz : (L.zip R)[i] = (L[i], R[i]'hlt2) := by simp
          obtain ⟨x, hxe⟩ : ∃ x, L[i] = x := ⟨_, rfl⟩
          obtain ⟨y, hye⟩ : ∃ y, R[i]'hlt2 = y := ⟨_, rfl⟩
          rw [hxe] at hc1
          rw [hye] at hc2
          rw [hxe, hye] at hz
          have htk : (L.zip R).take (i + 1) = (L.zip R).take i ++ [(x, y)] := by rw [List.take_succ_eq_append_getElem hiz, hz]
          have hmem : (x, y) ∈ L.zip R := by rw [← hz]; exact List.getElem_mem _
          have hbad : inC (x, y) = false → J = 12 ∧ V = [] := by
            intro h
            have : (L.zip R).all inC = false := by
              rw [List.all_eq_false]
              exact ⟨(x, y), hmem, by simp [h]⟩
            have := HJ.out false this
            exact this
          have HBAD := Lib.hid hbad
          have HALL : Hid (inC (x, y) = true → ((L.zip R).take (i + 1)).all inC = true) := by
            intro h
            rw [htk, List.all_append, HA.out]
            simp [h]
          have HTK : Hid (cxs ((L.zip R).take (i + 1)) = cxs ((L.zip R).take i) ++ [cx x y]) := by show _ = _; rw [htk, cxs_snoc]
          have HLB : Hid (((cxs ((L.zip R).take i)).length + 1) * 16 ≤ 140737488355328 ∧ (cxs ((L.zip R).take i)).length ≤ 1000000000) := by
            show _ ∧ _
            rw [cxs_length, List.length_take]
            omega
          clear hz hxe hye htk hmem hbad
          by_cases g1 : x < -16777216
          · obtain ⟨rfl, rfl⟩ := HBAD.out (decide_eq_false (by unfold InC; simp only; omega))
            go_wp2_with fail
            go_ret2
            exact ⟨_, rfl, RowV.nil _ _, fun b hb => (by cases hb), HK.out⟩
          · by_cases g2 : 16777216 < x
            · obtain ⟨rfl, rfl⟩ := HBAD.out (decide_eq_false (by unfold InC; simp only; omega))
              go_wp2_with fail
              go_ret2
              exact ⟨_, rfl, RowV.nil _ _, fun b hb => (by cases hb), HK.out⟩
            · by_cases g3 : y < -16777216
              · obtain ⟨rfl, rfl⟩ := HBAD.out (decide_eq_false (by unfold InC; simp only; omega))
                go_wp2_with fail
                go_ret2
                exact ⟨_, rfl, RowV.nil _ _, fun b hb => (by cases hb), HK.out⟩
              · by_cases g4 : 16777216 < y
                · obtain ⟨rfl, rfl⟩ := HBAD.out (decide_eq_false (by unfold InC; simp only; omega))
                  go_wp2_with fail
                  go_ret2
                  exact ⟨_, rfl, RowV.nil _ _, fun b hb => (by cases hb), HK.out⟩
                · have hAN := Lib.hid (HALL.out (decide_eq_true (by unfold InC; simp only; omega)))
                  go_wp2_with (first
                    | (at_builtin; go_must (refine wp_appV (W := wa) rfl (.tmp 45) (.tmp 51) 24 37 (.complex .f64 0 0) 16 rfl Try.underlying24 info_cx rfl _ (cxs ((L.zip R).take i)) (cx x y) rfl rfl rfl HRow.out HLB.out.1 HLB.out.2 ?_); intro v1 w1 hr1 hk1 hf1; rw [← HTK.out] at hr1; have HR1 := Lib.hid hr1; have HK1 : Hid (Keeps [] w w1) := HK.out.then_ hk1 (fun b hb hlt => by have := HFp.out b hb; omega); have HF1 : Hid (∀ b, b ∈ fp v1 → w.heap.size ≤ b) := (fun b hb => by rcases hf1 b hb with h | h; (exact HFp.out b h); (exact Nat.le_trans HK.out.size h)); clear hr1 hk1 hf1))
                  go_roundg (L.length - i)
                  case measure => have := HQ.out; omega
                  case rel => exact ⟨i + 1, by go_num, by omega, HR1.out, HF1.out, hAN.out, (show _ = _ from by have := HQ.out; omega), HK1.out⟩
        · obtain rfl : i = L.length := by omega
          have h5 := HA.out
          have h6 := HRow.out
          rw [List.take_of_length_le (by rw [HZL.out]; exact Nat.le_refl _)] at h5 h6
          obtain ⟨rfl, rfl⟩ := HJ.out true h5
          have HR6 := Lib.hid h6
          clear h5 h6
          go_wp2_with fail
          go_ret2
          exact ⟨_, rfl, HR6.out, HFp.out, HK.out⟩
  · have hne : ((L.length : Int) != (R.length : Int)) = true := by simp; omega
    have e : joinE L R = 1 := by unfold joinE; rw [if_pos hlen]
    rw [e, if_neg (by decide)]
    clear e
    go_enter Try.func6, Try.ntmps6
    go_wp2
    go_ret2
    exact ⟨_, rfl, RowV.nil _ _, fun b hb => (by cases hb), Keeps.refl _ _⟩
end Go.Proofs.Ytildkehbogmceaa
