/-
  Layer 6 (rice): cut, the walk.
-/
import Derived.Test.YtepbngdoeolepaaRice4
set_option linter.unusedVariables false
set_option linter.unusedSimpArgs false
namespace Go.Proofs.Ytepbngdoeolepaa
open Go.RowKit

theorem Rd.tailAdd {w : World} {k : IntKind} {ad : Addr} {xs : List Int} (h : Rd w k (some ad) xs) (j : Nat) : Rd w k (some (ad.add j)) (xs.drop j) := by
  rcases Nat.eq_zero_or_pos (xs.drop j).length with h0 | h0
  · rw [List.eq_nil_of_length_eq_zero h0]
    exact Rd.nil _ _ _
  · obtain ⟨b, o, e, _⟩ := h.form (by rw [List.length_drop] at h0; omega)
    cases e
    have := h.tail rfl j
    have e2 : (⟨b, o, none⟩ : Addr).add j = ⟨b, o + j, none⟩ := by
      unfold Addr.add
      split
      · rename_i h1; subst h1; rfl
      · rfl
    rw [e2]
    exact this
theorem Rd.none_nil {w : World} {k : IntKind} {xs : List Int} (h : Rd w k none xs) : xs = [] := by
  rcases Nat.eq_zero_or_pos xs.length with h0 | h0
  · exact List.eq_nil_of_length_eq_zero h0
  · obtain ⟨b, o, e, _⟩ := h.form h0
    cases e

set_option maxHeartbeats 8000000 in
set_option maxRecDepth 100000 in
theorem cut_calls (L : List Int) (order p n : Nat) (hn : n = L.length) (a : Option Addr) (c : Nat) (w : World) (hnc : a = none → c = 0) (hp : p ≤ 4) (hl : L.length ≤ 600) (hc : L.length ≤ c) (ho : order ≤ 8) (hf : fitsB (L.length + order) order p = true) (hx : Hid (Rd w .i64 a L)) :
    Calls Try.prog 40 #[.slice a n c, .int .i64 order, .int .i64 p] w fun e w' => ∃ v vs, e = .returned v ∧ RowV w' 22 v vs ∧ (∀ b, b ∈ fp v → w.heap.size ≤ b) ∧ (∀ w0, Rd w0 .i64 a L → PartsOK w0 vs (partsS L order p)) ∧ Keeps [] w w' := by
  subst hn
  obtain ⟨size, hs1, hs2, hs3⟩ := fits_facts _ _ _ hf
  obtain ⟨P, hP⟩ : ∃ P : Nat, 2 ^ p = P := ⟨_, rfl⟩
  have hPi : (2 : Int) ^ p = (P : Int) := by rw [← hP]; simp
  have hP16 : P ≤ 16 := by rw [← hP]; exact Nat.pow_le_pow_right (show 0 < 2 by omega) hp
  have hP0 : 0 < P := by rw [← hP]; exact Nat.pow_pos (by omega)
  have HPS : Hid (partsS L order p = L.take (size - order) :: chunks size (P - 1) (L.drop (size - order))) := by show _ = _; unfold partsS; rw [hs1, hP]
  rw [hP] at hs1 hs2
  have hdiv : ((L.length : Int) + (order : Int)) / (P : Int) = (size : Int) := by rw [← hs1]; simp
  have hsl : size ≤ L.length + order := by rw [← hs2]; exact Nat.le_mul_of_pos_left _ hP0
  obtain ⟨T, hT⟩ : ∃ T, (P - 1) * size = T := ⟨_, rfl⟩
  have hT2 : T + size = L.length + order := by
    rw [← hT, ← hs2]
    obtain ⟨P', rfl⟩ : ∃ P', P = P' + 1 := ⟨P - 1, by omega⟩
    rw [Nat.add_sub_cancel, Nat.add_mul, Nat.one_mul]
  have hpi : (0 : Int) ≤ (p : Int) := by omega
  have hfi : size - order ≤ L.length := by omega
  obtain ⟨f, hfe⟩ : ∃ f, size - order = f := ⟨_, rfl⟩
  have hsub : (size : Int) - (order : Int) = (f : Int) := by omega
  rw [hfe] at HPS hfi
  have hfc : f ≤ c := by omega
  have hTf : T + f = L.length := by omega
  have HT := Lib.hid hT
  clear hs1 hs2 hf hP hT hfe hT2
  go_enter Try.func40, Try.ntmps40
  go_upto_region 3 with fail
  have HRV : Hid (RowV (w.alloc (.cells #[.slice a f c] 22)) 22 (.slice (some ⟨w.heap.size, 0, none⟩) 1 1) [.slice a f c]) := RowV.lit1 w 22 _
  have HK : Hid (Keeps [] w (w.alloc (.cells #[.slice a f c] 22))) := (Keeps.refl _ _).alloc _
  have hfl : (L.take f).length = f := by rw [List.length_take]; omega
  have HPO : Hid (∀ w0, Rd w0 .i64 a L → PartsOK w0 [.slice a f c] [L.take f]) := fun w0 hr => ⟨⟨a, c, by rw [hfl], hr.take f, by rw [hfl]; omega⟩, trivial⟩
  clear hfl
  generalize w.alloc (.cells #[.slice a f c] 22) = wA at *
  obtain ⟨g8, hg8⟩ : ∃ g, w.heap.size = g := ⟨_, rfl⟩
  have HG : Hid (w.heap.size ≤ g8) := (show _ ≤ _ from by omega)
  rw [hg8] at HRV
  rw [hg8]
  clear hg8
  have hTl : (L.length : Int) - (f : Int) = (T : Int) := by omega
  go_cut [9] (fun v9 wx => wx = wA ∧ ∃ X C, v9 = .slice X T C ∧ Hid (∀ w0, Rd w0 .i64 a L → Rd w0 .i64 X (L.drop f)) ∧ Hid (X = none → C = 0) ∧ T ≤ C)
  case first =>
    cases a with
    | none =>
      have hc0 := hnc rfl
      have hL := Rd.none_nil hx.out
      subst hc0 hL
      obtain rfl : f = 0 := by simpa using hfi
      obtain rfl : T = 0 := by simpa using hTf
      go_wp2_with fail
      go_meet
      exact ⟨rfl, none, 0, rfl, (fun w0 hr => hr), (fun _ => rfl), by omega⟩
    | some ad =>
      have HD : Hid (∀ w0, Rd w0 .i64 (some ad) L → Rd w0 .i64 (some (ad.add f)) (L.drop f)) := fun w0 hr => Rd.tailAdd hr f
      have hTe : L.length - f = T := by omega
      go_wp2_with fail
      · obtain rfl : c = f := by assumption
        go_meet
        have hT0 : T = 0 := by omega
        refine ⟨rfl, some ad, 0, rfl, ?_, (fun _ => rfl), by omega⟩
        intro w0 hr
        rw [List.drop_of_length_le (by omega)]
        exact Rd.nil _ _ _
      · go_meet
        exact ⟨rfl, some (ad.add f), c - f, rfl, HD.out, (fun h => by cases h), by omega⟩
  case rest =>
    obtain ⟨rfl, X, C, rfl, HXR, HXC, hTC⟩ := hcut
    have hTl' : (L.drop f).length = T := by rw [List.length_drop]; omega
    go_wp2_with fail
    go_loopg [8, 9] P (fun q v8 v9 wr => ∃ (t R d : Nat) (dn : List (List Int)) (vs : List Value) (rest : List Int) (X : Option Addr) (C : Nat), v9 = .slice X R C ∧ R ≤ C ∧ R ≤ 600 ∧ d ≤ P ∧ Hid (R = t * size) ∧ Hid (rest.length = R) ∧ Hid (vs.length = d) ∧ Hid (d + t = P) ∧ Hid (t + 1 = q) ∧
      Hid (dn ++ chunks size t rest = partsS L order p) ∧ Hid (RowV wr 22 v8 vs) ∧ Hid (∀ b, b ∈ fp v8 → w.heap.size ≤ b) ∧ Hid (∀ w0, Rd w0 .i64 a L → PartsOK w0 vs dn) ∧ Hid (∀ w0, Rd w0 .i64 a L → Rd w0 .i64 X rest) ∧ Hid (X = none → C = 0) ∧ Hid (Keeps [] w wr))
    case atStart => exact ⟨P - 1, T, 1, [L.take f], [.slice a f c], L.drop f, X, C, rfl, hTC, by omega, by omega, HT.out.symm, hTl', (show _ = _ from rfl), (show _ = _ from by omega), (show _ = _ from by omega), HPS.out.symm, HRV.out, (fun b hb => by rw [fp_some, List.mem_singleton] at hb; rw [hb]; exact HG.out), HPO.out, HXR.out, HXC.out, HK.out⟩
    case round =>
      obtain ⟨t, R, d, dn, vs, rest, X, C, rfl, hRC, hR6, hdP, HRt, HRL, HVL, HDT, HTQ, HCH, HRow, HFp, HPs, HXd, HXn, HKr⟩ := hrel
      obtain ⟨q1, rfl⟩ : ∃ g : Nat, g = gk := ⟨_, rfl⟩
      obtain ⟨wb, rfl⟩ : ∃ x : World, x = wr := ⟨_, rfl⟩
      obtain ⟨a8, c8, he8⟩ := HRow.out.slice
      subst he8
      have hvl := HVL.out
      rw [hvl] at HRow HFp ⊢
      clear hvl
      by_cases hd : d < P
      · obtain ⟨t', rfl⟩ : ∃ t', t = t' + 1 := ⟨t - 1, by have := HDT.out; omega⟩
        have hR2 : R = t' * size + size := by rw [HRt.out, Nat.add_mul, Nat.one_mul]
        obtain ⟨R', hR'⟩ : ∃ R', t' * size = R' := ⟨_, rfl⟩
        have HR' := Lib.hid hR'
        rw [hR'] at hR2
        have hsR : size ≤ R := by omega
        have hsC : size ≤ C := by omega
        have hRs : R - size = R' := by omega
        have hRi : (R : Int) - (size : Int) = (R' : Int) := by omega
        have htl : (rest.take size).length = size := by rw [List.length_take, HRL.out]; omega
        have HPN : Hid (∀ w0, Rd w0 .i64 a L → PartsOK w0 (vs ++ [.slice X size C]) (dn ++ [rest.take size])) := fun w0 hr => PartsOK.snoc ⟨X, C, by rw [htl], (HXd.out w0 hr).take size, by rw [htl]; exact hsC⟩ (HPs.out w0 hr)
        have HCN : Hid ((dn ++ [rest.take size]) ++ chunks size t' (rest.drop size) = partsS L order p) := by
          show _ = _
          rw [← HCH.out, List.append_assoc]
          rfl
        have HDL : Hid ((rest.drop size).length = R') := (show _ = _ from by rw [List.length_drop, HRL.out]; omega)
        have HVB : Hid ((vs.length + 1) * 24 ≤ 140737488355328 ∧ vs.length ≤ 1000000000) := (show _ ∧ _ from by rw [HVL.out]; omega)
        clear hR' htl
        cases X with
        | none =>
          have hr0 := Rd.none_nil (HXd.out w hx.out)
          have hc0 := HXn.out rfl
          subst hr0 hc0
          obtain rfl : R = 0 := by have := HRL.out; simpa using this.symm
          obtain rfl : size = 0 := by omega
          obtain rfl : R' = 0 := by omega
          clear hR2 hRs hRi hdiv hsub hsR hsC
          go_wp2_with (first
            | (at_builtin; go_must (refine wp_appV (W := wb) rfl (.tmp 35) (.tmp 39) 68 22 (.slice none 0 0) 24 rfl Try.underlying68 info_sl rfl (.slice a8 d c8) vs (.slice none 0 0) rfl rfl rfl HRow.out HVB.out.1 HVB.out.2 ?_); intro v1 w1 hr1 hk1 hf1; have HR1 := Lib.hid hr1; have HK1 : Hid (Keeps [] w w1) := HKr.out.then_ hk1 (fun b hb hlt => by have := HFp.out b hb; omega); have HF1 : Hid (∀ b, b ∈ fp v1 → w.heap.size ≤ b) := (fun b hb => by rcases hf1 b hb with h | h; (exact HFp.out b h); (exact Nat.le_trans HKr.out.size h)); clear hr1 hk1 hf1))
          go_roundg (t' + 1)
          case measure => have := HTQ.out; omega
          case rel => exact ⟨t', 0, d + 1, _, _, _, none, 0, rfl, by omega, by omega, by omega, HR'.out.symm, HDL.out, (show _ = _ from by rw [List.length_append, HVL.out]; rfl), (show _ = _ from by have := HDT.out; omega), (show _ = _ from rfl), HCN.out, HR1.out, HF1.out, HPN.out, HXd.out, (fun _ => rfl), HK1.out⟩
        | some ad =>
          have HXT : Hid (∀ w0, Rd w0 .i64 a L → Rd w0 .i64 (some (ad.add size)) (rest.drop size)) := fun w0 hr => Rd.tailAdd (HXd.out w0 hr) size
          go_wp2_with (first
            | (at_builtin; go_must (refine wp_appV (W := wb) rfl (.tmp 35) (.tmp 39) 68 22 (.slice none 0 0) 24 rfl Try.underlying68 info_sl rfl (.slice a8 d c8) vs (.slice (some ad) size C) rfl rfl rfl HRow.out HVB.out.1 HVB.out.2 ?_); intro v1 w1 hr1 hk1 hf1; have HR1 := Lib.hid hr1; have HK1 : Hid (Keeps [] w w1) := HKr.out.then_ hk1 (fun b hb hlt => by have := HFp.out b hb; omega); have HF1 : Hid (∀ b, b ∈ fp v1 → w.heap.size ≤ b) := (fun b hb => by rcases hf1 b hb with h | h; (exact HFp.out b h); (exact Nat.le_trans HKr.out.size h)); clear hr1 hk1 hf1))
          · obtain rfl : C = size := by assumption
            have hR0 : R' = 0 := by omega
            have hnil : rest.drop C = [] := List.eq_nil_of_length_eq_zero (by rw [HDL.out]; exact hR0)
            have HNIL : Hid (∀ w0, Rd w0 .i64 a L → Rd w0 .i64 (some ad) (rest.drop C)) := by
              intro w0 hr
              rw [hnil]
              exact Rd.nil _ _ _
            clear hnil
            go_roundg (t' + 1)
            case measure => have := HTQ.out; omega
            case rel => exact ⟨t', R', d + 1, _, _, _, some ad, 0, (by first | rfl | (congr 1; omega)), by omega, by omega, by omega, HR'.out.symm, HDL.out, (show _ = _ from by rw [List.length_append, HVL.out]; rfl), (show _ = _ from by have := HDT.out; omega), (show _ = _ from rfl), HCN.out, HR1.out, HF1.out, HPN.out, HNIL.out, (fun _ => rfl), HK1.out⟩
          · go_roundg (t' + 1)
            case measure => have := HTQ.out; omega
            case rel => exact ⟨t', R', d + 1, _, _, _, some (ad.add size), C - size, (by first | rfl | (congr 1; omega)), by omega, by omega, by omega, HR'.out.symm, HDL.out, (show _ = _ from by rw [List.length_append, HVL.out]; rfl), (show _ = _ from by have := HDT.out; omega), (show _ = _ from rfl), HCN.out, HR1.out, HF1.out, HPN.out, HXT.out, (fun h => by cases h), HK1.out⟩
      · obtain rfl : d = P := by omega
        obtain rfl : t = 0 := by have := HDT.out; omega
        have hch := HCH.out
        have hdn : dn = partsS L order p := by rw [← hch]; simp [chunks]
        subst hdn
        clear hch
        go_wp2_with fail
        go_ret
        exact ⟨_, vs, rfl, HRow.out, HFp.out, HPs.out, HKr.out⟩
end Go.Proofs.Ytepbngdoeolepaa
