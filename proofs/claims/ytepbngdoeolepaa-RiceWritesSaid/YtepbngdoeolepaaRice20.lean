/-
  Layer 6 (rice), the document's side: parts.
-/
import Derived.Test.YtepbngdoeolepaaRice5
set_option linter.unusedVariables false
set_option linter.unusedSimpArgs false
namespace Go.Proofs.Ytepbngdoeolepaa
open Go.RowKit

theorem RowV.nil (w : World) (e : TypeId) : RowV w e (.slice none 0 0) [] := World.ownsRow_nil w 0 e 1

set_option maxHeartbeats 8000000 in
set_option maxRecDepth 100000 in
theorem refParts_no (L : List Int) (order p n : Nat) (hn : n = L.length) (a : Option Addr) (c : Nat) (w : World) (hp : p ≤ 15) (hl : L.length ≤ 600) (ho : order ≤ 8) (hf : fitsB (L.length + order) order p = false) :
    Calls Try.prog 35 #[.slice a n c, .int .i64 order, .int .i64 p] w fun e w' => e = .returned (.slice none 0 0) ∧ w = w' := by
  subst hn
  obtain ⟨P, hP⟩ : ∃ P : Nat, 2 ^ p = P := ⟨_, rfl⟩
  have hPi : (2 : Int) ^ p = (P : Int) := by rw [← hP]; simp
  have hP16 : P ≤ 32768 := by rw [← hP]; exact Nat.pow_le_pow_right (show 0 < 2 by omega) hp
  have hP0 : 0 < P := by rw [← hP]; exact Nat.pow_pos (by omega)
  obtain ⟨N, hN⟩ : ∃ N, L.length + order = N := ⟨_, rfl⟩
  obtain ⟨R, hR⟩ : ∃ R, N % P = R := ⟨_, rfl⟩
  obtain ⟨S, hS⟩ : ∃ S, N / P = S := ⟨_, rfl⟩
  have hf2 : ¬ (R = 0 ∧ order ≤ S) := by
    have := of_decide_eq_false hf
    rw [hP, hN, hR, hS] at this
    exact this
  have hNi : (L.length : Int) + (order : Int) = (N : Int) := by omega
  have hmod : Int.tmod (N : Int) (P : Int) = (R : Int) := by rw [← hR]; simp [Int.tmod_eq_emod_of_nonneg]
  have hdiv : (N : Int) / (P : Int) = (S : Int) := by rw [← hS]; simp
  have hRP : R < P := by rw [← hR]; exact Nat.mod_lt _ hP0
  have hpi : (0 : Int) ≤ (p : Int) := by omega
  have hSN : S ≤ N := by rw [← hS]; exact Nat.div_le_self _ _
  have hN6 : N ≤ 608 := by omega
  clear hP hR hS hN hf
  by_cases hR0 : R = 0
  · subst hR0
    have hlt : (S : Int) < (order : Int) := by omega
    clear hf2
    go_enter Try.func35, Try.ntmps35
    go_wp2
    go_ret
    exact ⟨rfl, rfl⟩
  · have hne : ¬ (R : Int) = 0 := by omega
    have hnb : ((R : Int) == 0) = false := beq_eq_false_iff_ne.2 hne
    clear hf2
    go_enter Try.func35, Try.ntmps35
    go_wp2
    go_ret
    exact ⟨rfl, rfl⟩

--GEN
/-- How many numbers are left when i parts are cut. -/
def leftN (f size P i : Nat) : Nat := if i = 0 then f + (P - 1) * size else (P - i) * size
/-- The parts that are left. -/
def leftC (f size P i : Nat) (rest : List Int) : List (List Int) := if i = 0 then rest.take f :: chunks size (P - 1) (rest.drop f) else chunks size (P - i) rest

set_option maxHeartbeats 8000000 in
set_option maxRecDepth 100000 in
theorem refParts_calls (L : List Int) (order p n : Nat) (hn : n = L.length) (a : Option Addr) (c : Nat) (w : World) (hnc : a = none → c = 0) (hp : p ≤ 9) (hl : L.length ≤ 600) (hc : L.length ≤ c) (ho : order ≤ 8) (hf : fitsB (L.length + order) order p = true) (hx : Hid (Rd w .i64 a L)) :
    Calls Try.prog 35 #[.slice a n c, .int .i64 order, .int .i64 p] w fun e w' => ∃ v vs, e = .returned v ∧ RowV w' 22 v vs ∧ (∀ b, b ∈ fp v → w.heap.size ≤ b) ∧ (∀ w0, Rd w0 .i64 a L → PartsOK w0 vs (partsS L order p)) ∧ Keeps [] w w' := by
  subst hn
  obtain ⟨size, hs1, hs2, hs3⟩ := fits_facts _ _ _ hf
  obtain ⟨P, hP⟩ : ∃ P : Nat, 2 ^ p = P := ⟨_, rfl⟩
  have hPi : (2 : Int) ^ p = (P : Int) := by rw [← hP]; simp
  have hP16 : P ≤ 512 := by rw [← hP]; exact Nat.pow_le_pow_right (show 0 < 2 by omega) hp
  have hP0 : 0 < P := by rw [← hP]; exact Nat.pow_pos (by omega)
  have HPS : Hid (partsS L order p = L.take (size - order) :: chunks size (P - 1) (L.drop (size - order))) := by show _ = _; unfold partsS; rw [hs1, hP]
  rw [hP] at hs1 hs2
  obtain ⟨N, hN⟩ : ∃ N, L.length + order = N := ⟨_, rfl⟩
  have hNi : (L.length : Int) + (order : Int) = (N : Int) := by omega
  have hN6 : N ≤ 608 := by omega
  have hmod0 : N % P = 0 := by rw [← hN, ← hs2]; exact Nat.mul_mod_right _ _
  have hmod : Int.tmod (N : Int) (P : Int) = ((0 : Nat) : Int) := by rw [Int.tmod_eq_emod_of_nonneg (by omega)]; omega
  rw [hN] at hs1 hs2
  have hdiv : (N : Int) / (P : Int) = (size : Int) := by rw [← hs1]; simp
  have hsl : size ≤ N := by rw [← hs2]; exact Nat.le_mul_of_pos_left _ hP0
  have hsoi : ¬ ((size : Int) < (order : Int)) := by omega
  obtain ⟨T, hT⟩ : ∃ T, (P - 1) * size = T := ⟨_, rfl⟩
  have hT2 : T + size = N := by
    rw [← hT, ← hs2]
    obtain ⟨P', rfl⟩ : ∃ P', P = P' + 1 := ⟨P - 1, by omega⟩
    rw [Nat.add_sub_cancel, Nat.add_mul, Nat.one_mul]
  have hpi : (0 : Int) ≤ (p : Int) := by omega
  have hfi : size - order ≤ L.length := by omega
  obtain ⟨f, hfe⟩ : ∃ f, size - order = f := ⟨_, rfl⟩
  have hsub : (size : Int) - (order : Int) = (f : Int) := by omega
  rw [hfe] at HPS hfi
  have hfc : f ≤ c := by omega
  have hTf : T + f = L.length := by omega
  have HT := Lib.hid hT
  have hTP : size ≤ T ∨ P = 1 := by
    rcases (show P = 1 ∨ 2 ≤ P by omega) with h | h
    · exact .inr h
    · left
      rw [← hT]
      exact Nat.le_mul_of_pos_left _ (by omega)
  have HTP := Lib.hid hTP
  have HSUB := Lib.hid hsub
  have HTF := Lib.hid hTf
  have HFI := Lib.hid hfi
  have HFC := Lib.hid hfc
  have HHC := Lib.hid hc
  have HSL := Lib.hid hsl
  have HS3 := Lib.hid hs3
  clear hs1 hs2 hf hP hT hfe hT2 hN hmod0 hTP hsub hTf hfi hfc hc hsl hs3
  go_enter Try.func35, Try.ntmps35
  go_wp2_with fail
  clear hmod hsoi
  have hsub := HSUB.out
  have hTf := HTF.out
  have hfi := HFI.out
  have hfc := HFC.out
  have hc := HHC.out
  have hsl := HSL.out
  have hs3 := HS3.out
  go_loopg [0, 8, 9] (P + 1) (fun q v0 v8 v9 wr => ∃ (i R : Nat) (dn : List (List Int)) (vs : List Value) (rest : List Int) (X : Option Addr) (C : Nat), v9 = .int .i64 i ∧ v0 = .slice X R C ∧ R ≤ C ∧ R ≤ 600 ∧ i ≤ P ∧ Hid (R = leftN f size P i) ∧ Hid (rest.length = R) ∧ Hid (vs.length = i) ∧ Hid (i + q = P + 1) ∧
      Hid (dn ++ leftC f size P i rest = partsS L order p) ∧ Hid (RowV wr 22 v8 vs) ∧ Hid (∀ b, b ∈ fp v8 → w.heap.size ≤ b) ∧ Hid (∀ w0, Rd w0 .i64 a L → PartsOK w0 vs dn) ∧ Hid (∀ w0, Rd w0 .i64 a L → Rd w0 .i64 X rest) ∧ Hid (X = none → C = 0) ∧ Hid (Keeps [] w wr))
  case atStart => exact ⟨0, L.length, [], [], L, a, c, rfl, rfl, hc, by omega, by omega, (show _ = _ from by unfold leftN; rw [if_pos rfl, HT.out]; omega), (show _ = _ from rfl), (show _ = _ from rfl), (show _ = _ from by omega), (show _ = _ from HPS.out.symm), RowV.nil _ _, (fun b hb => by cases hb), (fun w0 hr => trivial), (fun w0 hr => hr), hnc, Keeps.refl _ _⟩
  case round =>
    obtain ⟨i, R, dn, vs, rest, X, C, rfl, rfl, hRC, hR6, hiP, HRt, HRL, HVL, HTQ, HCH, HRow, HFp, HPs, HXd, HXn, HKr⟩ := hrel
    obtain ⟨q1, rfl⟩ : ∃ g : Nat, g = gk := ⟨_, rfl⟩
    obtain ⟨wb, rfl⟩ : ∃ x : World, x = wr := ⟨_, rfl⟩
    obtain ⟨a8, c8, he8⟩ := HRow.out.slice
    subst he8
    have hvl := HVL.out
    rw [hvl] at HRow HFp ⊢
    clear hvl
    by_cases hi : i < P
    · obtain ⟨κ, hκ⟩ : ∃ κ, (if i = 0 then f else size) = κ := ⟨_, rfl⟩
      obtain ⟨R', hR'⟩ : ∃ R', leftN f size P (i + 1) = R' := ⟨_, rfl⟩
      have hR2 : R = R' + κ := by
        rw [HRt.out, ← hR', ← hκ]
        unfold leftN
        rw [if_neg (Nat.succ_ne_zero i)]
        split
        · rename_i h; subst h; rw [Nat.zero_add]; omega
        · obtain ⟨z, hz⟩ : ∃ z, P - i = z + 1 := ⟨P - i - 1, by omega⟩
          rw [hz, show P - (i + 1) = z by omega, Nat.succ_mul]
      have hsR : κ ≤ R := by omega
      have hsC : κ ≤ C := by omega
      have hRs : R - κ = R' := by omega
      have hRi : (R : Int) - (κ : Int) = (R' : Int) := by omega
      have htl : (rest.take κ).length = κ := by rw [List.length_take, HRL.out]; omega
      have HR' := Lib.hid hR'
      have HPN : Hid (∀ w0, Rd w0 .i64 a L → PartsOK w0 (vs ++ [.slice X κ C]) (dn ++ [rest.take κ])) := fun w0 hr => PartsOK.snoc ⟨X, C, by rw [htl], (HXd.out w0 hr).take κ, by rw [htl]; exact hsC⟩ (HPs.out w0 hr)
      have HDL : Hid ((rest.drop κ).length = R') := (show _ = _ from by rw [List.length_drop, HRL.out]; omega)
      have HVB : Hid ((vs.length + 1) * 24 ≤ 140737488355328 ∧ vs.length ≤ 1000000000) := (show _ ∧ _ from by rw [HVL.out]; omega)
      have hQ := HTQ.out
      clear hR' htl
      by_cases hi0 : i = 0
      · subst hi0
        rw [if_pos rfl] at hκ
        subst hκ
        have HCN : Hid ((dn ++ [rest.take f]) ++ leftC f size P (0 + 1) (rest.drop f) = partsS L order p) := by
          show _ = _
          rw [← HCH.out, List.append_assoc]
          unfold leftC
          rw [if_neg (by omega), if_pos rfl]
          rfl
        clear hQ
        cases X with
        | none =>
          have hr0 := Rd.none_nil (HXd.out w hx.out)
          have hc0 := HXn.out rfl
          subst hr0 hc0
          obtain rfl : R = 0 := by have := HRL.out; simpa using this.symm
          obtain rfl : f = 0 := by omega
          obtain rfl : R' = 0 := by omega
          clear hR2 hRs hRi hsR hsC hNi hTf hfi hfc hsl hs3 hN6 hc
          go_wp2_with (first
            | (at_builtin; go_must (refine wp_appV (W := wb) rfl (.tmp 41) (.tmp 45) 68 22 (.slice none 0 0) 24 rfl Try.underlying68 info_sl rfl (.slice a8 0 c8) vs (.slice none 0 0) rfl rfl rfl HRow.out HVB.out.1 HVB.out.2 ?_); intro v1 w1 hr1 hk1 hf1; have HR1 := Lib.hid hr1; have HK1 : Hid (Keeps [] w w1) := HKr.out.then_ hk1 (fun b hb hlt => by have := HFp.out b hb; omega); have HF1 : Hid (∀ b, b ∈ fp v1 → w.heap.size ≤ b) := (fun b hb => by rcases hf1 b hb with h | h; (exact HFp.out b h); (exact Nat.le_trans HKr.out.size h)); clear hr1 hk1 hf1))
          go_roundg (P - 0)
          case measure => have := HTQ.out; omega
          case rel => exact ⟨0 + 1, 0, _, _, _, none, 0, by go_num, rfl, by omega, by omega, by omega, HR'.out.symm, HDL.out, (show _ = _ from by rw [List.length_append, HVL.out]; rfl), (show _ = _ from by omega), HCN.out, HR1.out, HF1.out, HPN.out, HXd.out, (fun _ => rfl), HK1.out⟩
        | some ad =>
          have HXT : Hid (∀ w0, Rd w0 .i64 a L → Rd w0 .i64 (some (ad.add f)) (rest.drop f)) := fun w0 hr => Rd.tailAdd (HXd.out w0 hr) f
          go_wp2_with (first
            | (at_builtin; go_must (refine wp_appV (W := wb) rfl (.tmp 41) (.tmp 45) 68 22 (.slice none 0 0) 24 rfl Try.underlying68 info_sl rfl (.slice a8 0 c8) vs (.slice (some ad) f C) rfl rfl rfl HRow.out HVB.out.1 HVB.out.2 ?_); intro v1 w1 hr1 hk1 hf1; have HR1 := Lib.hid hr1; have HK1 : Hid (Keeps [] w w1) := HKr.out.then_ hk1 (fun b hb hlt => by have := HFp.out b hb; omega); have HF1 : Hid (∀ b, b ∈ fp v1 → w.heap.size ≤ b) := (fun b hb => by rcases hf1 b hb with h | h; (exact HFp.out b h); (exact Nat.le_trans HKr.out.size h)); clear hr1 hk1 hf1))
          · obtain rfl : C = f := by assumption
            have hR0 : R' = 0 := by omega
            have hnil : rest.drop C = [] := List.eq_nil_of_length_eq_zero (by rw [HDL.out]; exact hR0)
            have HNIL : Hid (∀ w0, Rd w0 .i64 a L → Rd w0 .i64 (some ad) (rest.drop C)) := by
              intro w0 hr
              rw [hnil]
              exact Rd.nil _ _ _
            clear hnil
            go_roundg (P - 0)
            case measure => have := HTQ.out; omega
            case rel => exact ⟨0 + 1, R', _, _, _, some ad, 0, by go_num, (by first | rfl | (congr 1; omega)), by omega, by omega, by omega, HR'.out.symm, HDL.out, (show _ = _ from by rw [List.length_append, HVL.out]; rfl), (show _ = _ from by omega), HCN.out, HR1.out, HF1.out, HPN.out, HNIL.out, (fun _ => rfl), HK1.out⟩
          · go_roundg (P - 0)
            case measure => have := HTQ.out; omega
            case rel => exact ⟨0 + 1, R', _, _, _, some (ad.add f), C - f, by go_num, (by first | rfl | (congr 1; omega)), by omega, by omega, by omega, HR'.out.symm, HDL.out, (show _ = _ from by rw [List.length_append, HVL.out]; rfl), (show _ = _ from by omega), HCN.out, HR1.out, HF1.out, HPN.out, HXT.out, (fun h => by cases h), HK1.out⟩
      · rw [if_neg hi0] at hκ
        subst hκ
        have HCN : Hid ((dn ++ [rest.take size]) ++ leftC f size P (i + 1) (rest.drop size) = partsS L order p) := by
          show _ = _
          rw [← HCH.out, List.append_assoc]
          unfold leftC
          rw [if_neg (by omega), if_neg hi0]
          obtain ⟨z, hz⟩ : ∃ z, P - i = z + 1 := ⟨P - i - 1, by omega⟩
          rw [hz, show P - (i + 1) = z by omega]
          rfl
        have hib : ((i : Int) == 0) = false := beq_eq_false_iff_ne.2 (by omega)
        clear hQ
        cases X with
        | none =>
          have hr0 := Rd.none_nil (HXd.out w hx.out)
          have hc0 := HXn.out rfl
          subst hr0 hc0
          obtain rfl : R = 0 := by have := HRL.out; simpa using this.symm
          obtain rfl : size = 0 := by omega
          obtain rfl : R' = 0 := by omega
          clear hR2 hRs hRi hsR hsC hNi hTf hfi hfc hsl hs3 hN6 hc
          go_wp2_with (first
            | (at_builtin; go_must (refine wp_appV (W := wb) rfl (.tmp 41) (.tmp 45) 68 22 (.slice none 0 0) 24 rfl Try.underlying68 info_sl rfl (.slice a8 i c8) vs (.slice none 0 0) rfl rfl rfl HRow.out HVB.out.1 HVB.out.2 ?_); intro v1 w1 hr1 hk1 hf1; have HR1 := Lib.hid hr1; have HK1 : Hid (Keeps [] w w1) := HKr.out.then_ hk1 (fun b hb hlt => by have := HFp.out b hb; omega); have HF1 : Hid (∀ b, b ∈ fp v1 → w.heap.size ≤ b) := (fun b hb => by rcases hf1 b hb with h | h; (exact HFp.out b h); (exact Nat.le_trans HKr.out.size h)); clear hr1 hk1 hf1))
          go_roundg (P - i)
          case measure => have := HTQ.out; omega
          case rel => exact ⟨i + 1, 0, _, _, _, none, 0, by go_num, rfl, by omega, by omega, by omega, HR'.out.symm, HDL.out, (show _ = _ from by rw [List.length_append, HVL.out]; rfl), (show _ = _ from by omega), HCN.out, HR1.out, HF1.out, HPN.out, HXd.out, (fun _ => rfl), HK1.out⟩
        | some ad =>
          have HXT : Hid (∀ w0, Rd w0 .i64 a L → Rd w0 .i64 (some (ad.add size)) (rest.drop size)) := fun w0 hr => Rd.tailAdd (HXd.out w0 hr) size
          go_wp2_with (first
            | (at_builtin; go_must (refine wp_appV (W := wb) rfl (.tmp 41) (.tmp 45) 68 22 (.slice none 0 0) 24 rfl Try.underlying68 info_sl rfl (.slice a8 i c8) vs (.slice (some ad) size C) rfl rfl rfl HRow.out HVB.out.1 HVB.out.2 ?_); intro v1 w1 hr1 hk1 hf1; have HR1 := Lib.hid hr1; have HK1 : Hid (Keeps [] w w1) := HKr.out.then_ hk1 (fun b hb hlt => by have := HFp.out b hb; omega); have HF1 : Hid (∀ b, b ∈ fp v1 → w.heap.size ≤ b) := (fun b hb => by rcases hf1 b hb with h | h; (exact HFp.out b h); (exact Nat.le_trans HKr.out.size h)); clear hr1 hk1 hf1))
          · obtain rfl : C = size := by assumption
            have hR0 : R' = 0 := by omega
            have hnil : rest.drop C = [] := List.eq_nil_of_length_eq_zero (by rw [HDL.out]; exact hR0)
            have HNIL : Hid (∀ w0, Rd w0 .i64 a L → Rd w0 .i64 (some ad) (rest.drop C)) := by
              intro w0 hr
              rw [hnil]
              exact Rd.nil _ _ _
            clear hnil
            go_roundg (P - i)
            case measure => have := HTQ.out; omega
            case rel => exact ⟨i + 1, R', _, _, _, some ad, 0, by go_num, (by first | rfl | (congr 1; omega)), by omega, by omega, by omega, HR'.out.symm, HDL.out, (show _ = _ from by rw [List.length_append, HVL.out]; rfl), (show _ = _ from by omega), HCN.out, HR1.out, HF1.out, HPN.out, HNIL.out, (fun _ => rfl), HK1.out⟩
          · go_roundg (P - i)
            case measure => have := HTQ.out; omega
            case rel => exact ⟨i + 1, R', _, _, _, some (ad.add size), C - size, by go_num, (by first | rfl | (congr 1; omega)), by omega, by omega, by omega, HR'.out.symm, HDL.out, (show _ = _ from by rw [List.length_append, HVL.out]; rfl), (show _ = _ from by omega), HCN.out, HR1.out, HF1.out, HPN.out, HXT.out, (fun h => by cases h), HK1.out⟩
    · obtain rfl : i = P := by omega
      have hch := HCH.out
      have hdn : dn = partsS L order p := by
        rw [← hch]
        unfold leftC
        rw [if_neg (by omega), Nat.sub_self]
        simp [chunks]
      subst hdn
      clear hch
      go_wp2_with fail
      go_ret
      exact ⟨_, vs, rfl, HRow.out, HFp.out, HPs.out, HKr.out⟩
end Go.Proofs.Ytepbngdoeolepaa
