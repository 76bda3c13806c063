/-
  Layer 9 (subframe): Write.
-/
import Derived.Test.YtofkiimaoahfjaaDoorZSub8
set_option maxRecDepth 100000
set_option linter.unusedVariables false
set_option linter.unusedSimpArgs false
namespace Go.Proofs.YtofkiimaoahfjaaDoor
open Go.RowKit

theorem Row.same {w w' : World} {k : IntKind} {e : TypeId} {v : Value} {xs : List Int} {bs : List Nat} (h : Row w k e v xs) (hs : Same bs w w') (hd : ∀ b, b ∈ fp v → b ∈ bs) : Row w' k e v xs := by
  refine ⟨h.1, ?_⟩
  rcases h.2 with hn | ⟨g, cap, cur, rfl, hb, hg, rest⟩
  · exact .inl hn
  · exact .inr ⟨g, cap, cur, rfl, hb, (hs g (hd g (by simp [fp, Value.ownBlock]))).trans hg, rest⟩
/-- Write on its way: the Writer, the plan's block, its rows. -/
structure SW (w0 w : World) (pw : Nat) (sv0 : Value) (l : List Bool) (bs : List Nat) (g : Nat) (pl : Pl) (k D : Int) (sv cv rv : Value) (xs : List Int) : Prop where
  wo : WO w0 w pw sv0 l bs
  pb : PB w g pl.kd k D sv cv pl.sh rv pl.sz
  rs : Row w .i64 3 sv xs
  rc : Row w .i64 3 cv pl.cs
  rr : Row w .i64 3 rv pl.L
  mg : g ∈ bs
  ms : ∀ b, b ∈ fp sv → b ∈ bs
  mc : ∀ b, b ∈ fp cv → b ∈ bs
  mr : ∀ b, b ∈ fp rv → b ∈ bs
namespace SW
variable {w0 w w' : World} {pw : Nat} {sv0 : Value} {l l' : List Bool} {bs : List Nat} {g : Nat} {pl : Pl} {k D : Int} {sv cv rv : Value} {xs : List Int}
theorem step (h : SW w0 w pw sv0 l bs g pl k D sv cv rv xs) (hw : WO w0 w' pw sv0 l' bs) (hs : Same bs w w') : SW w0 w' pw sv0 l' bs g pl k D sv cv rv xs :=
  ⟨hw, h.pb.same hs h.mg, Row.same h.rs hs h.ms, Row.same h.rc hs h.mc, Row.same h.rr hs h.mr, h.mg, h.ms, h.mc, h.mr⟩
theorem new (h : SW w0 w pw sv0 l bs g pl k D sv cv rv xs) (hk : Keeps [] w w') : SW w0 w' pw sv0 l bs g pl k D sv cv rv xs := h.step (h.wo.new hk) (h.wo.same hk)
theorem start (hW : IsW w0 pw sv0 l) (hk : Keeps [] w0 w) (hsv : Row w .i64 3 sv xs) (hcv : Row w .i64 3 cv pl.cs) (hrv : Row w .i64 3 rv pl.L)
    (f1 : ∀ j, j ∈ fp sv → w0.heap.size ≤ j) (f2 : ∀ j, j ∈ fp cv → w0.heap.size ≤ j) (f3 : ∀ j, j ∈ fp rv → w0.heap.size ≤ j) :
    SW w0 (w.alloc (.cells #[.int .i64 pl.kd, .int .i64 k, .int .i64 D, sv, cv, .int .i64 pl.sh, rv, .int .i64 pl.sz] 61)) pw sv0 l (w.heap.size :: (fp sv ++ (fp cv ++ fp rv)) ++ []) w.heap.size pl k D sv cv rv xs := by
  have hn : Keeps [] w (w.alloc (.cells #[.int .i64 pl.kd, .int .i64 k, .int .i64 D, sv, cv, .int .i64 pl.sh, rv, .int .i64 pl.sz] 61)) := (Keeps.refl _ _).alloc _
  have hsz : (w.alloc (.cells #[.int .i64 pl.kd, .int .i64 k, .int .i64 D, sv, cv, .int .i64 pl.sh, rv, .int .i64 pl.sz] 61)).heap.size = w.heap.size + 1 := World.size_alloc _ _
  refine ⟨(WO.start hW (bs := []) (fun b hb => by cases hb)).grow (hk.new hn) _ (fun b hb => ?_), ⟨heap_alloc_new _ _⟩, hsv.keeps hn (fun _ _ => by simp), hcv.keeps hn (fun _ _ => by simp), hrv.keeps hn (fun _ _ => by simp), by simp, fun b hb => by simp [hb], fun b hb => by simp [hb], fun b hb => by simp [hb]⟩
  rw [hsz]
  have h0 := hk.size
  rcases List.mem_cons.1 hb with rfl | hb
  · omega
  · rcases List.mem_append.1 hb with hb | hb
    · have := f1 b hb; have := hsv.lt b hb; omega
    · rcases List.mem_append.1 hb with hb | hb
      · have := f2 b hb; have := hcv.lt b hb; omega
      · have := f3 b hb; have := hrv.lt b hb; omega
theorem cs (h : SW w0 w pw sv0 l bs g pl k D sv cv rv xs) : w.cell? ⟨g, 0, none⟩ = some (.int .i64 pl.kd) ∧ w.cell? ⟨g, 1, none⟩ = some (.int .i64 k) ∧ w.cell? ⟨g, 2, none⟩ = some (.int .i64 D) ∧ w.cell? ⟨g, 3, none⟩ = some sv ∧ w.cell? ⟨g, 4, none⟩ = some cv ∧ w.cell? ⟨g, 5, none⟩ = some (.int .i64 pl.sh) ∧ w.cell? ⟨g, 6, none⟩ = some rv :=
  ⟨h.pb.c0, h.pb.c1, h.pb.c2, h.pb.c3, h.pb.c4, h.pb.c5, h.pb.c6⟩
end SW
theorem row_rd {w : World} {a : Option Addr} {n c : Nat} {xs : List Int} (h : Row w .i64 3 (.slice a n c) xs) : Rd w .i64 a xs := by
  obtain ⟨a', c', e1, hx, -⟩ := h.rdd
  simp only [Value.slice.injEq] at e1
  obtain ⟨rfl, rfl, rfl⟩ := e1
  exact hx
theorem row_mem {w : World} {a : Option Addr} {c : Nat} {xs : List Int} {bs : List Nat} (h : Row w .i64 3 (.slice a xs.length c) xs) (hm : ∀ b, b ∈ fp (.slice a xs.length c) → b ∈ bs) : ∀ ad, a = some ad → 0 < xs.length → ad.block ∈ bs := by
  intro ad e hn
  obtain ⟨g, cap, e1⟩ := h.form hn
  simp only [Value.slice.injEq] at e1
  obtain ⟨e2, -, -⟩ := e1
  subst e
  cases e2
  exact hm _ (by simp [fp, Value.ownBlock])
theorem row_mem2 {w : World} {a : Option Addr} {n c : Nat} {xs : List Int} {bs : List Nat} (h : Row w .i64 3 (.slice a n c) xs) (hm : ∀ b, b ∈ fp (.slice a n c) → b ∈ bs) : ∀ ad, a = some ad → 0 < xs.length → ad.block ∈ bs := by
  obtain rfl := h.len
  exact row_mem h hm
/-- So many bits, and no more. -/
def Few (l : List Bool) (t : Nat) : Prop := l.length ≤ 1000000 + 32 * t
theorem Few.put {l : List Bool} {t : Nat} (h : Few l t) (n k : Int) : Few (l ++ putB n k) (t + 1) := by
  have := putB_le n k
  unfold Few at h ⊢
  rw [List.length_append]
  omega
theorem Few.some {l : List Bool} {t : Nat} (h : Few l t) (L : List Int) (k : Int) (hL : L.length ≤ 600) : Few (l ++ psS L k) (t + 600) := by
  have := psS_le L k
  unfold Few at h ⊢
  rw [List.length_append]
  omega
theorem Few.un {l : List Bool} {t : Nat} (h : Few l t) (n : Int) : Few (l ++ unB n) (t + 3000) := by
  have : (unB n).length ≤ 65537 := by
    unfold unB
    by_cases h1 : n < 0 ∨ 65536 < n
    · have e : unE n = 1 := by unfold unE; rw [if_pos h1]
      rw [e]
      simp
    · have e : unE n = 0 := by unfold unE; rw [if_neg h1]
      rw [if_pos e, List.length_append, List.length_replicate, List.length_singleton]
      omega
  unfold Few at h ⊢
  rw [List.length_append]
  omega
theorem Few.ok {l : List Bool} {t : Nat} (h : Few l t) (ht : t ≤ 100000) : l.length ≤ 200000000000 := by unfold Few at h; omega
theorem Few.ok9 {l : List Bool} {t : Nat} (h : Few l t) (ht : t ≤ 100000) : l.length ≤ 1000000000 := by unfold Few at h; omega
/-- What Write puts. -/
def sputB (S : List Int) (depth : Int) : List Bool := if schkE S depth = 0 then swB S depth else []

set_option maxHeartbeats 8000000 in
theorem swrite_calls (S : List Int) (depth : Int) (n : Nat) (hn : n = S.length) (a : Option Addr) (c : Nat) (w : World) (pw : Nat) (sv0 : Value) (l : List Bool) (hr : Hid (∀ x ∈ S, -9223372036854775808 ≤ x ∧ x ≤ 9223372036854775807)) (hx : Hid (Rd w .i64 a S)) (hT : Hid (Tab w))
    (hW : Hid (IsW w pw sv0 l)) (hl : l.length ≤ 1000000) :
    Calls Tryd.prog 13 #[.pointer (some ⟨pw, 0, none⟩), .slice a n c, .int .i64 depth] w fun e w' => e = .returned (.int .i64 (schkE S depth)) ∧ Wrote w w' pw sv0 (l ++ sputB S depth) := by
  subst hn
  have HC := Lib.hid (scheck_calls S depth _ rfl a c w hr hx)
  by_cases he : schkE S depth = 0
  · have hok := s_ok S depth he
    have HCH := Lib.hid (fun W (hk : Keeps [] w W) => choose_s S depth hok a c W hr (Lib.hid (hx.out.new hk)) (Lib.hid (hT.out.new hk)))
    have HN : Hid (sputB S depth = headB (planS S depth).kd (wasS S) ++ bodyB (downS S (wasS S)) (depS S depth) (planS S depth)) := by show _ = _; unfold sputB; rw [if_pos he]; rfl
    have HIS := Lib.hid hok.is
    have HFT := Lib.hid hok.fits
    have hxn := hok.len
    obtain ⟨hn1, hn2⟩ := hok.n
    have hk6 := hok.k
    obtain ⟨hD1, hD2⟩ := hok.D
    have HHB : Hid ((headB (planS S depth).kd (wasS S)).length = 8 + wasS S) := headB_len _ _ (by have := HIS.out.kd; omega) (by have := HIS.out.kd; omega) (by omega)
    rw [HN.out]
    rw [he] at HC ⊢
    obtain ⟨pl, hpl⟩ : ∃ pl, planS S depth = pl := ⟨_, rfl⟩
    obtain ⟨k, hk⟩ : ∃ k, wasS S = k := ⟨_, rfl⟩
    obtain ⟨xs, hxs⟩ : ∃ xs, downS S k = xs := ⟨_, rfl⟩
    obtain ⟨D, hD⟩ : ∃ D, depS S depth = D := ⟨_, rfl⟩
    rw [hpl, hk, hxs, hD] at HCH HIS
    rw [hpl, hk] at HHB
    rw [hk, hxs, hD] at HFT
    rw [hk, hxs] at hxn
    rw [hk] at hk6
    rw [hD] at hD1 hD2
    rw [hpl, hk, hxs, hD]
    have hx1 : 1 ≤ xs.length := by omega
    have hx5 : xs.length ≤ 512 := by omega
    have HL := Lib.hid hl
    have HN1 := Lib.hid hn1
    have HN2 := Lib.hid hn2
    clear he HN hok hpl hk hxs hD hxn hn1 hn2
    go_enter Tryd.func13, Tryd.ntmps13
    go_upto_region 7 with (first
      | (go_at_call 28; go_must (with_reducible refine HC.out.mono ?_); rintro e w1 ⟨rfl, hk1⟩; have HK1 := Lib.hid hk1; clear hk1)
      | (go_at_call 29; go_must (with_reducible refine (HCH.out _ HK1.out).mono ?_); rintro e w2 ⟨sv, cv, rv, rfl, h1, h2, h3, h4, h5, h6, hk2⟩;
          have hs2 := SW.start (pl := pl) (k := (k : Int)) (D := D) hW.out (HK1.out.new hk2) h1 h2 h3 (fun j hj => Nat.le_trans HK1.out.size (h4 j hj)) (fun j hj => Nat.le_trans HK1.out.size (h5 j hj)) (fun j hj => Nat.le_trans HK1.out.size (h6 j hj));
          obtain ⟨sa, sc, rfl, -, hsn, hsc⟩ := h1.rdd; obtain ⟨ca, cc, rfl, -, hcn, hcc⟩ := h2.rdd; obtain ⟨ra, rc, rfl, -, hrn, hrc⟩ := h3.rdd; have HS2 := Lib.hid hs2; clear hs2 h1 h2 h3 h4 h5 h6 hk2))
    generalize w2.alloc (.cells #[.int .i64 pl.kd, .int .i64 k, .int .i64 D, .slice sa xs.length sc, .slice ca pl.cs.length cc, .int .i64 pl.sh, .slice ra pl.L.length rc, .int .i64 pl.sz] 61) = w3 at *
    generalize w2.heap.size :: (fp (.slice sa xs.length sc) ++ (fp (.slice ca pl.cs.length cc) ++ fp (.slice ra pl.L.length rc))) ++ [] = bs at *
    generalize w2.heap.size = g at *
    have HF : Hid (Few l 0) := by show Few l 0; unfold Few; have := HL.out; omega
    have HKD := Lib.hid HIS.out.kd
    have HKR : Hid (-9223372036854775808 ≤ pl.kd ∧ pl.kd ≤ 9223372036854775807) := by show _ ∧ _; have := HKD.out; omega
    have HSR : Hid (-9223372036854775808 ≤ pl.sh ∧ pl.sh ≤ 9223372036854775807) := by show _ ∧ _; have := HIS.out.sh; omega
    have H1 : Hid (-9223372036854775808 ≤ (1 : Int) ∧ (1 : Int) ≤ 9223372036854775807) := (show _ ∧ _ from by omega)
    have H0 : Hid (-9223372036854775808 ≤ (0 : Int) ∧ (0 : Int) ≤ 9223372036854775807) := (show _ ∧ _ from by omega)
    have H11 : Hid (-9223372036854775808 ≤ (11 : Int) ∧ (11 : Int) ≤ 9223372036854775807) := (show _ ∧ _ from by omega)
    obtain ⟨c0, c1, c2, c3, c4, c5, c6⟩ := HS2.out.cs
    clear HK1 hl
    have HCR : Hid (∀ x ∈ pl.cs, -9223372036854775808 ≤ x ∧ x ≤ 9223372036854775807) := fun x hx => by have := HIS.out.cr x hx; omega
    have HFR : Hid (∀ x ∈ xs, -9223372036854775808 ≤ x ∧ x ≤ 9223372036854775807) := by
      intro x hx
      have h := HFT.out x hx
      have h2 : (2 : Nat) ^ (D.toNat - 1) ≤ 2 ^ 30 := Nat.pow_le_pow_right (by omega) (by omega)
      have h3 : ((2 ^ (D.toNat - 1) : Nat) : Int) = (2 : Int) ^ (D.toNat - 1) := by simp
      have h4 : (2 : Nat) ^ 30 = 1073741824 := rfl
      omega
    have hx1i : (1 : Int) ≤ (xs.length : Int) := by omega
    by_cases hk0 : 0 < k
    · have hk0' : (0 : Int) < (k : Int) := by omega
      have HHE : Hid (l ++ headB pl.kd k = l ++ putB pl.kd 7 ++ putB 1 1 ++ unB ((k : Int) - 1)) := by show _ = _; unfold headB; rw [if_pos hk0]; simp only [List.append_assoc]
      go_upto_region 12 with (first
          | (go_at_call 12; with_reducible refine (woPut _ _ (Lib.hid HS2.out.wo) ?hn (Nat.le_trans (HF.out.ok (by decide)) (by decide))).mono ?_; (case hn => exact HKR); rintro e w4 ⟨rfl, hw4, hs4⟩; have HS := Lib.hid (HS2.out.step hw4 hs4); clear HS2 c0 c1 c2 c3 c4 c5 c6 hw4 hs4; replace HF := Lib.hid (HF.out.put pl.kd 7); obtain ⟨c0, c1, c2, c3, c4, c5, c6⟩ := HS.out.cs)
          | (go_at_call 12; with_reducible refine (woPut _ _ (Lib.hid HS.out.wo) ?hn (Nat.le_trans (HF.out.ok (by decide)) (by decide))).mono ?_; (case hn => exact H1); rintro e w5 ⟨rfl, hw5, hs5⟩; have HS5 := Lib.hid (HS.out.step hw5 hs5); clear HS c0 c1 c2 c3 c4 c5 c6 hw5 hs5; replace HF := Lib.hid (HF.out.put 1 1); obtain ⟨c0, c1, c2, c3, c4, c5, c6⟩ := HS5.out.cs)
          | (go_at_call 30; go_must (with_reducible refine (woUnary _ (Lib.hid HS5.out.wo) (Nat.le_trans (HF.out.ok (by decide)) (by decide))).mono ?_); rintro e w6 ⟨rfl, hw6, hs6⟩; have HS6 := Lib.hid (HS5.out.step hw6 hs6); clear HS5 c0 c1 c2 c3 c4 c5 c6 hw6 hs6))
      obtain ⟨wa, rfl⟩ : ∃ x : World, x = w6 := ⟨_, rfl⟩
      have HSH := Lib.hid HS6.out
      rw [← HHE.out] at HSH
      clear HHE HS6 HF hk0'
      have HF : Hid (Few (l ++ headB pl.kd k) 2) := by
        show Few _ _
        unfold Few
        rw [List.length_append, HHB.out]
        have := HL.out
        omega
      obtain ⟨l1, hl1⟩ : ∃ l1, l ++ headB pl.kd k = l1 := ⟨_, rfl⟩
      have HL1 := Lib.hid hl1
      rw [hl1] at HSH HF
      clear hl1
      obtain ⟨c0, c1, c2, c3, c4, c5, c6⟩ := HSH.out.cs
      obtain ⟨kd, hkd⟩ : ∃ kd, pl.kd = kd := ⟨_, rfl⟩
      have HKE := Lib.hid hkd
      rw [hkd] at c0 HKD
      clear hkd
      by_cases k0 : kd = 0
      · subst k0
        have HBD : Hid (bodyB xs D pl = psS (xs.take 1) D) := by show _ = _; unfold bodyB; rw [if_pos HKE.out]
        have hs1 : (1 : Int) ≤ (sc : Int) := by omega
        go_upto_region 14 with fail
        go_still_tail 6, (by kernel_rfl)
        change wpList _ _ _ _ _ wa.drew
        have HSD := Lib.hid (HSH.out.new (Keeps.refl [] wa).drew)
        go_wp2_with (first
          | (go_at_call 31; go_must (with_reducible refine (ssome_calls (xs.take 1) D 1 (by rw [List.length_take]; omega) sa sc _ _ _ _ _ _ (Lib.hid ((row_rd HSD.out.rs).take 1)) (Lib.hid (fun ad e h => row_mem HSD.out.rs HSD.out.ms ad e (by omega))) (Lib.hid (fun x hx => HFR.out x (List.mem_of_mem_take hx))) (Lib.hid HSD.out.wo) (HF.out.ok (by decide)) (by rw [List.length_take]; omega)).mono ?_); rintro e w8 ⟨rfl, hw8, hs8⟩; have HSE := Lib.hid (HSD.out.step hw8 hs8); clear HSD c0 c1 c2 c3 c4 c5 c6 hw8 hs8; replace HF := Lib.hid (HF.out.some (xs.take 1) D (by rw [List.length_take]; omega)); obtain ⟨c0, c1, c2, c3, c4, c5, c6⟩ := HSE.out.cs))
        go_ret
        refine ⟨rfl, ?_⟩
        rw [HBD.out, ← List.append_assoc, HL1.out]
        exact HSE.out.wo.wrote
      · by_cases k1 : kd = 1
        · subst k1
          have HBD : Hid (bodyB xs D pl = psS xs D) := by show _ = _; unfold bodyB; rw [if_neg (by rw [HKE.out]; omega), if_pos HKE.out]
          go_wp2_with (first
            | (go_at_call 31; go_must (with_reducible refine (ssome_calls xs D _ rfl sa sc _ _ _ _ _ _ (Lib.hid (row_rd HSH.out.rs)) (Lib.hid (row_mem HSH.out.rs HSH.out.ms)) HFR (Lib.hid HSH.out.wo) (HF.out.ok (by decide)) (by omega)).mono ?_); rintro e w8 ⟨rfl, hw8, hs8⟩; have HSE := Lib.hid (HSH.out.step hw8 hs8); clear HSH c0 c1 c2 c3 c4 c5 c6 hw8 hs8; replace HF := Lib.hid (HF.out.some xs D (by omega)); obtain ⟨c0, c1, c2, c3, c4, c5, c6⟩ := HSE.out.cs))
          go_ret
          refine ⟨rfl, ?_⟩
          rw [HBD.out, ← List.append_assoc, HL1.out]
          exact HSE.out.wo.wrote
        · have e0 : (kd == 0) = false := beq_eq_false_iff_ne.2 k0
          have e1 : (kd == 1) = false := beq_eq_false_iff_ne.2 k1
          have HRK : Hid (rchkE pl.L pl.cs.length = 0) := HIS.out.rk (by rw [HKE.out]; have := HKD.out; omega)
          obtain ⟨cn, hcn0⟩ : ∃ cn, pl.cs.length = cn := ⟨_, rfl⟩
          have HCN := Lib.hid hcn0
          have hcx : cn ≤ xs.length := by rw [← hcn0]; exact HIS.out.csx
          have hc8 : cn ≤ 8 := by rw [← hcn0]; exact HIS.out.cs8
          have hcs : cn ≤ sc := by omega
          have hcni : (0 : Int) ≤ (cn : Int) := by omega
          have hcni2 : (cn : Int) ≤ (sc : Int) := by omega
          rw [hcn0] at c4 HRK
          clear hcn0
          by_cases k3 : 31 < kd
          · have k3p : 31 < pl.kd := by rw [HKE.out]; exact k3
            have HBD : Hid (l1 ++ bodyB xs D pl = l1 ++ psS (xs.take cn) D ++ putB 11 4 ++ putB pl.sh 5 ++ psS pl.cs 12 ++ rwB pl.L cn) := by
              show _ = _
              unfold bodyB
              rw [if_neg (by rw [HKE.out]; omega), if_neg (by rw [HKE.out]; omega), if_pos (by rw [HKE.out]; omega), HCN.out]
              simp only [List.append_assoc]
            go_upto_region 19 with fail
            go_still_tail 7, (by kernel_rfl)
            change wpList _ _ _ _ _ wa.drew
            have HSD := Lib.hid (HSH.out.new (Keeps.refl [] wa).drew)
            go_wp2_with (first
              | (go_at_call 31; with_reducible refine (ssome_calls (xs.take cn) D cn (by rw [List.length_take]; omega) sa sc _ _ _ _ _ _ (Lib.hid ((row_rd HSD.out.rs).take cn)) (Lib.hid (fun ad e h => row_mem HSD.out.rs HSD.out.ms ad e (by omega))) (Lib.hid (fun x hx => HFR.out x (List.mem_of_mem_take hx))) (Lib.hid HSD.out.wo) (HF.out.ok (by decide)) (by rw [List.length_take]; omega)).mono ?_; rintro e w8 ⟨rfl, hw8, hs8⟩; have HS2a := Lib.hid (HSD.out.step hw8 hs8); clear HSD c0 c1 c2 c3 c4 c5 c6 hw8 hs8; replace HF := Lib.hid (HF.out.some (xs.take cn) D (by rw [List.length_take]; omega)); obtain ⟨c0, c1, c2, c3, c4, c5, c6⟩ := HS2a.out.cs)
              | (go_at_call 12; with_reducible refine (woPut _ _ (Lib.hid HS2a.out.wo) ?hn (Nat.le_trans (HF.out.ok (by decide)) (by decide))).mono ?_; (case hn => exact H11); rintro e w9 ⟨rfl, hw9, hs9⟩; have HS2b := Lib.hid (HS2a.out.step hw9 hs9); clear HS2a c0 c1 c2 c3 c4 c5 c6 hw9 hs9; replace HF := Lib.hid (HF.out.put 11 4); obtain ⟨c0, c1, c2, c3, c4, c5, c6⟩ := HS2b.out.cs)
              | (go_at_call 12; with_reducible refine (woPut _ _ (Lib.hid HS2b.out.wo) ?hn (Nat.le_trans (HF.out.ok (by decide)) (by decide))).mono ?_; (case hn => exact HSR); rintro e w10 ⟨rfl, hw10, hs10⟩; have HS2c := Lib.hid (HS2b.out.step hw10 hs10); clear HS2b c0 c1 c2 c3 c4 c5 c6 hw10 hs10; replace HF := Lib.hid (HF.out.put pl.sh 5); obtain ⟨c0, c1, c2, c3, c4, c5, c6⟩ := HS2c.out.cs)
              | (go_at_call 31; with_reducible refine (ssome_calls pl.cs 12 _ rfl ca cc _ _ _ _ _ _ (Lib.hid (row_rd HS2c.out.rc)) (Lib.hid (fun ad e h => row_mem2 HS2c.out.rc HS2c.out.mc ad e h)) HCR (Lib.hid HS2c.out.wo) (HF.out.ok (by decide)) (by have := HCN.out; omega)).mono ?_; rintro e w11 ⟨rfl, hw11, hs11⟩; have HS2d := Lib.hid (HS2c.out.step hw11 hs11); clear HS2c c0 c1 c2 c3 c4 c5 c6 hw11 hs11; replace HF := Lib.hid (HF.out.some pl.cs 12 (by have := HCN.out; omega)); obtain ⟨c0, c1, c2, c3, c4, c5, c6⟩ := HS2d.out.cs)
              | (go_at_call 32; go_must (with_reducible refine (woRice pl.L cn _ rfl ra rc _ _ _ _ _ _ hrn (by have := HIS.out.Ll; omega) hrc (by omega) (Lib.hid (row_rd HS2d.out.rr)) (Lib.hid (row_mem HS2d.out.rr HS2d.out.mr)) (Lib.hid HS2d.out.wo) (HF.out.ok9 (by decide))).mono ?_); rw [HRK.out]; rintro e w12 ⟨rfl, hw12, hs12⟩; have HSE := Lib.hid (HS2d.out.step hw12 hs12); clear HS2d c0 c1 c2 c3 c4 c5 c6 hw12 hs12))
            go_ret
            refine ⟨rfl, ?_⟩
            rw [← List.append_assoc, HL1.out, HBD.out]
            exact HSE.out.wo.wrote
          · have k3p : ¬ 31 < pl.kd := by rw [HKE.out]; exact k3
            have HBD : Hid (l1 ++ bodyB xs D pl = l1 ++ psS (xs.take cn) D ++ rwB pl.L cn) := by
              show _ = _
              unfold bodyB
              rw [if_neg (by rw [HKE.out]; omega), if_neg (by rw [HKE.out]; omega), if_neg (by rw [HKE.out]; omega), HCN.out]
              simp only [List.append_assoc, List.nil_append]
            go_upto_region 19 with fail
            go_still_tail 7, (by kernel_rfl)
            change wpList _ _ _ _ _ wa.drew
            have HSD := Lib.hid (HSH.out.new (Keeps.refl [] wa).drew)
            go_wp2_with (first
              | (go_at_call 31; with_reducible refine (ssome_calls (xs.take cn) D cn (by rw [List.length_take]; omega) sa sc _ _ _ _ _ _ (Lib.hid ((row_rd HSD.out.rs).take cn)) (Lib.hid (fun ad e h => row_mem HSD.out.rs HSD.out.ms ad e (by omega))) (Lib.hid (fun x hx => HFR.out x (List.mem_of_mem_take hx))) (Lib.hid HSD.out.wo) (HF.out.ok (by decide)) (by rw [List.length_take]; omega)).mono ?_; rintro e w8 ⟨rfl, hw8, hs8⟩; have HS2a := Lib.hid (HSD.out.step hw8 hs8); clear HSD c0 c1 c2 c3 c4 c5 c6 hw8 hs8; replace HF := Lib.hid (HF.out.some (xs.take cn) D (by rw [List.length_take]; omega)); obtain ⟨c0, c1, c2, c3, c4, c5, c6⟩ := HS2a.out.cs)
              | (go_at_call 32; go_must (with_reducible refine (woRice pl.L cn _ rfl ra rc _ _ _ _ _ _ hrn (by have := HIS.out.Ll; omega) hrc (by omega) (Lib.hid (row_rd HS2a.out.rr)) (Lib.hid (row_mem HS2a.out.rr HS2a.out.mr)) (Lib.hid HS2a.out.wo) (HF.out.ok9 (by decide))).mono ?_); rw [HRK.out]; rintro e w12 ⟨rfl, hw12, hs12⟩; have HSE := Lib.hid (HS2a.out.step hw12 hs12); clear HS2a c0 c1 c2 c3 c4 c5 c6 hw12 hs12))
            go_ret
            refine ⟨rfl, ?_⟩
            rw [← List.append_assoc, HL1.out, HBD.out]
            exact HSE.out.wo.wrote
    · obtain rfl : k = 0 := by omega
      have HHE : Hid (l ++ headB pl.kd 0 = l ++ putB pl.kd 7 ++ putB 0 1) := by show _ = _; unfold headB; rw [if_neg hk0]; simp only [List.append_assoc]
      go_upto_region 12 with (first
          | (go_at_call 12; with_reducible refine (woPut _ _ (Lib.hid HS2.out.wo) ?hn (Nat.le_trans (HF.out.ok (by decide)) (by decide))).mono ?_; (case hn => exact HKR); rintro e w4 ⟨rfl, hw4, hs4⟩; have HS := Lib.hid (HS2.out.step hw4 hs4); clear HS2 c0 c1 c2 c3 c4 c5 c6 hw4 hs4; replace HF := Lib.hid (HF.out.put pl.kd 7); obtain ⟨c0, c1, c2, c3, c4, c5, c6⟩ := HS.out.cs)
          | (go_at_call 12; with_reducible refine (woPut _ _ (Lib.hid HS.out.wo) ?hn (Nat.le_trans (HF.out.ok (by decide)) (by decide))).mono ?_; (case hn => exact H0); rintro e w5 ⟨rfl, hw5, hs5⟩; have HS5 := Lib.hid (HS.out.step hw5 hs5); clear HS c0 c1 c2 c3 c4 c5 c6 hw5 hs5; replace HF := Lib.hid (HF.out.put 0 1); obtain ⟨c0, c1, c2, c3, c4, c5, c6⟩ := HS5.out.cs))
      obtain ⟨wa, rfl⟩ : ∃ x : World, x = w5 := ⟨_, rfl⟩
      have HSH := Lib.hid HS5.out
      rw [← HHE.out] at HSH
      clear HHE HS5 HF c0 c1 c2 c3 c4 c5 c6
      have HF : Hid (Few (l ++ headB pl.kd 0) 2) := by
        show Few _ _
        unfold Few
        rw [List.length_append, HHB.out]
        have := HL.out
        omega
      obtain ⟨l1, hl1⟩ : ∃ l1, l ++ headB pl.kd 0 = l1 := ⟨_, rfl⟩
      have HL1 := Lib.hid hl1
      rw [hl1] at HSH HF
      clear hl1
      obtain ⟨c0, c1, c2, c3, c4, c5, c6⟩ := HSH.out.cs
      obtain ⟨kd, hkd⟩ : ∃ kd, pl.kd = kd := ⟨_, rfl⟩
      have HKE := Lib.hid hkd
      rw [hkd] at c0 HKD
      clear hkd
      by_cases k0 : kd = 0
      · subst k0
        have HBD : Hid (bodyB xs D pl = psS (xs.take 1) D) := by show _ = _; unfold bodyB; rw [if_pos HKE.out]
        have hs1 : (1 : Int) ≤ (sc : Int) := by omega
        go_upto_region 14 with fail
        go_still_tail 6, (by kernel_rfl)
        change wpList _ _ _ _ _ wa.drew
        have HSD := Lib.hid (HSH.out.new (Keeps.refl [] wa).drew)
        go_wp2_with (first
          | (go_at_call 31; go_must (with_reducible refine (ssome_calls (xs.take 1) D 1 (by rw [List.length_take]; omega) sa sc _ _ _ _ _ _ (Lib.hid ((row_rd HSD.out.rs).take 1)) (Lib.hid (fun ad e h => row_mem HSD.out.rs HSD.out.ms ad e (by omega))) (Lib.hid (fun x hx => HFR.out x (List.mem_of_mem_take hx))) (Lib.hid HSD.out.wo) (HF.out.ok (by decide)) (by rw [List.length_take]; omega)).mono ?_); rintro e w8 ⟨rfl, hw8, hs8⟩; have HSE := Lib.hid (HSD.out.step hw8 hs8); clear HSD c0 c1 c2 c3 c4 c5 c6 hw8 hs8; replace HF := Lib.hid (HF.out.some (xs.take 1) D (by rw [List.length_take]; omega)); obtain ⟨c0, c1, c2, c3, c4, c5, c6⟩ := HSE.out.cs))
        go_ret
        refine ⟨rfl, ?_⟩
        rw [HBD.out, ← List.append_assoc, HL1.out]
        exact HSE.out.wo.wrote
      · by_cases k1 : kd = 1
        · subst k1
          have HBD : Hid (bodyB xs D pl = psS xs D) := by show _ = _; unfold bodyB; rw [if_neg (by rw [HKE.out]; omega), if_pos HKE.out]
          go_wp2_with (first
            | (go_at_call 31; go_must (with_reducible refine (ssome_calls xs D _ rfl sa sc _ _ _ _ _ _ (Lib.hid (row_rd HSH.out.rs)) (Lib.hid (row_mem HSH.out.rs HSH.out.ms)) HFR (Lib.hid HSH.out.wo) (HF.out.ok (by decide)) (by omega)).mono ?_); rintro e w8 ⟨rfl, hw8, hs8⟩; have HSE := Lib.hid (HSH.out.step hw8 hs8); clear HSH c0 c1 c2 c3 c4 c5 c6 hw8 hs8; replace HF := Lib.hid (HF.out.some xs D (by omega)); obtain ⟨c0, c1, c2, c3, c4, c5, c6⟩ := HSE.out.cs))
          go_ret
          refine ⟨rfl, ?_⟩
          rw [HBD.out, ← List.append_assoc, HL1.out]
          exact HSE.out.wo.wrote
        · have e0 : (kd == 0) = false := beq_eq_false_iff_ne.2 k0
          have e1 : (kd == 1) = false := beq_eq_false_iff_ne.2 k1
          have HRK : Hid (rchkE pl.L pl.cs.length = 0) := HIS.out.rk (by rw [HKE.out]; have := HKD.out; omega)
          obtain ⟨cn, hcn0⟩ : ∃ cn, pl.cs.length = cn := ⟨_, rfl⟩
          have HCN := Lib.hid hcn0
          have hcx : cn ≤ xs.length := by rw [← hcn0]; exact HIS.out.csx
          have hc8 : cn ≤ 8 := by rw [← hcn0]; exact HIS.out.cs8
          have hcs : cn ≤ sc := by omega
          have hcni : (0 : Int) ≤ (cn : Int) := by omega
          have hcni2 : (cn : Int) ≤ (sc : Int) := by omega
          rw [hcn0] at c4 HRK
          clear hcn0
          by_cases k3 : 31 < kd
          · have k3p : 31 < pl.kd := by rw [HKE.out]; exact k3
            have HBD : Hid (l1 ++ bodyB xs D pl = l1 ++ psS (xs.take cn) D ++ putB 11 4 ++ putB pl.sh 5 ++ psS pl.cs 12 ++ rwB pl.L cn) := by
              show _ = _
              unfold bodyB
              rw [if_neg (by rw [HKE.out]; omega), if_neg (by rw [HKE.out]; omega), if_pos (by rw [HKE.out]; omega), HCN.out]
              simp only [List.append_assoc]
            go_upto_region 19 with fail
            go_still_tail 7, (by kernel_rfl)
            change wpList _ _ _ _ _ wa.drew
            have HSD := Lib.hid (HSH.out.new (Keeps.refl [] wa).drew)
            go_wp2_with (first
              | (go_at_call 31; with_reducible refine (ssome_calls (xs.take cn) D cn (by rw [List.length_take]; omega) sa sc _ _ _ _ _ _ (Lib.hid ((row_rd HSD.out.rs).take cn)) (Lib.hid (fun ad e h => row_mem HSD.out.rs HSD.out.ms ad e (by omega))) (Lib.hid (fun x hx => HFR.out x (List.mem_of_mem_take hx))) (Lib.hid HSD.out.wo) (HF.out.ok (by decide)) (by rw [List.length_take]; omega)).mono ?_; rintro e w8 ⟨rfl, hw8, hs8⟩; have HS2a := Lib.hid (HSD.out.step hw8 hs8); clear HSD c0 c1 c2 c3 c4 c5 c6 hw8 hs8; replace HF := Lib.hid (HF.out.some (xs.take cn) D (by rw [List.length_take]; omega)); obtain ⟨c0, c1, c2, c3, c4, c5, c6⟩ := HS2a.out.cs)
              | (go_at_call 12; with_reducible refine (woPut _ _ (Lib.hid HS2a.out.wo) ?hn (Nat.le_trans (HF.out.ok (by decide)) (by decide))).mono ?_; (case hn => exact H11); rintro e w9 ⟨rfl, hw9, hs9⟩; have HS2b := Lib.hid (HS2a.out.step hw9 hs9); clear HS2a c0 c1 c2 c3 c4 c5 c6 hw9 hs9; replace HF := Lib.hid (HF.out.put 11 4); obtain ⟨c0, c1, c2, c3, c4, c5, c6⟩ := HS2b.out.cs)
              | (go_at_call 12; with_reducible refine (woPut _ _ (Lib.hid HS2b.out.wo) ?hn (Nat.le_trans (HF.out.ok (by decide)) (by decide))).mono ?_; (case hn => exact HSR); rintro e w10 ⟨rfl, hw10, hs10⟩; have HS2c := Lib.hid (HS2b.out.step hw10 hs10); clear HS2b c0 c1 c2 c3 c4 c5 c6 hw10 hs10; replace HF := Lib.hid (HF.out.put pl.sh 5); obtain ⟨c0, c1, c2, c3, c4, c5, c6⟩ := HS2c.out.cs)
              | (go_at_call 31; with_reducible refine (ssome_calls pl.cs 12 _ rfl ca cc _ _ _ _ _ _ (Lib.hid (row_rd HS2c.out.rc)) (Lib.hid (fun ad e h => row_mem2 HS2c.out.rc HS2c.out.mc ad e h)) HCR (Lib.hid HS2c.out.wo) (HF.out.ok (by decide)) (by have := HCN.out; omega)).mono ?_; rintro e w11 ⟨rfl, hw11, hs11⟩; have HS2d := Lib.hid (HS2c.out.step hw11 hs11); clear HS2c c0 c1 c2 c3 c4 c5 c6 hw11 hs11; replace HF := Lib.hid (HF.out.some pl.cs 12 (by have := HCN.out; omega)); obtain ⟨c0, c1, c2, c3, c4, c5, c6⟩ := HS2d.out.cs)
              | (go_at_call 32; go_must (with_reducible refine (woRice pl.L cn _ rfl ra rc _ _ _ _ _ _ hrn (by have := HIS.out.Ll; omega) hrc (by omega) (Lib.hid (row_rd HS2d.out.rr)) (Lib.hid (row_mem HS2d.out.rr HS2d.out.mr)) (Lib.hid HS2d.out.wo) (HF.out.ok9 (by decide))).mono ?_); rw [HRK.out]; rintro e w12 ⟨rfl, hw12, hs12⟩; have HSE := Lib.hid (HS2d.out.step hw12 hs12); clear HS2d c0 c1 c2 c3 c4 c5 c6 hw12 hs12))
            go_ret
            refine ⟨rfl, ?_⟩
            rw [← List.append_assoc, HL1.out, HBD.out]
            exact HSE.out.wo.wrote
          · have k3p : ¬ 31 < pl.kd := by rw [HKE.out]; exact k3
            have HBD : Hid (l1 ++ bodyB xs D pl = l1 ++ psS (xs.take cn) D ++ rwB pl.L cn) := by
              show _ = _
              unfold bodyB
              rw [if_neg (by rw [HKE.out]; omega), if_neg (by rw [HKE.out]; omega), if_neg (by rw [HKE.out]; omega), HCN.out]
              simp only [List.append_assoc, List.nil_append]
            go_upto_region 19 with fail
            go_still_tail 7, (by kernel_rfl)
            change wpList _ _ _ _ _ wa.drew
            have HSD := Lib.hid (HSH.out.new (Keeps.refl [] wa).drew)
            go_wp2_with (first
              | (go_at_call 31; with_reducible refine (ssome_calls (xs.take cn) D cn (by rw [List.length_take]; omega) sa sc _ _ _ _ _ _ (Lib.hid ((row_rd HSD.out.rs).take cn)) (Lib.hid (fun ad e h => row_mem HSD.out.rs HSD.out.ms ad e (by omega))) (Lib.hid (fun x hx => HFR.out x (List.mem_of_mem_take hx))) (Lib.hid HSD.out.wo) (HF.out.ok (by decide)) (by rw [List.length_take]; omega)).mono ?_; rintro e w8 ⟨rfl, hw8, hs8⟩; have HS2a := Lib.hid (HSD.out.step hw8 hs8); clear HSD c0 c1 c2 c3 c4 c5 c6 hw8 hs8; replace HF := Lib.hid (HF.out.some (xs.take cn) D (by rw [List.length_take]; omega)); obtain ⟨c0, c1, c2, c3, c4, c5, c6⟩ := HS2a.out.cs)
              | (go_at_call 32; go_must (with_reducible refine (woRice pl.L cn _ rfl ra rc _ _ _ _ _ _ hrn (by have := HIS.out.Ll; omega) hrc (by omega) (Lib.hid (row_rd HS2a.out.rr)) (Lib.hid (row_mem HS2a.out.rr HS2a.out.mr)) (Lib.hid HS2a.out.wo) (HF.out.ok9 (by decide))).mono ?_); rw [HRK.out]; rintro e w12 ⟨rfl, hw12, hs12⟩; have HSE := Lib.hid (HS2a.out.step hw12 hs12); clear HS2a c0 c1 c2 c3 c4 c5 c6 hw12 hs12))
            go_ret
            refine ⟨rfl, ?_⟩
            rw [← List.append_assoc, HL1.out, HBD.out]
            exact HSE.out.wo.wrote
  · have HN : Hid (sputB S depth = []) := by show _ = _; unfold sputB; rw [if_neg he]
    rw [HN.out, List.append_nil]
    have hER := schk_range S depth
    obtain ⟨E, hE⟩ : ∃ E, schkE S depth = E := ⟨_, rfl⟩
    rw [hE] at HC he hER ⊢
    clear HN hE
    go_enter Tryd.func13, Tryd.ntmps13
    go_wp2_with (first
      | (go_at_call 28; go_must (with_reducible refine HC.out.mono ?_); rintro e w1 ⟨rfl, hk1⟩; have HK1 := Lib.hid hk1; clear hk1))
    go_ret
    exact ⟨rfl, Wrote.of_new hW.out HK1.out⟩
theorem swrite_nil (S : List Int) (depth : Int) (n : Nat) (a : Option Addr) (c : Nat) (w : World) :
    Calls Tryd.prog 13 #[.pointer none, .slice a n c, .int .i64 depth] w fun e w' => e = .returned (.int .i64 1) ∧ w' = w := by
  go_enter Tryd.func13, Tryd.ntmps13
  go_wp2
  go_ret
  exact ⟨rfl, rfl⟩
theorem wsSub (S : List Int) (depth : Int) (n : Nat) (hn : n = S.length) (a : Option Addr) (c : Nat) (w0 w : World) (p : Nat) (l : List Bool) (hr : Hid (∀ x ∈ S, -9223372036854775808 ≤ x ∧ x ≤ 9223372036854775807)) (hx : Hid (Rd w .i64 a S)) (hT : Hid (Tab w)) (hW : Hid (WS w0 w p l)) (hl : l.length ≤ 1000000) :
    Calls Tryd.prog 13 #[.pointer (some ⟨p, 0, none⟩), .slice a n c, .int .i64 depth] w fun e w' => e = .returned (.int .i64 (schkE S depth)) ∧ WS w0 w' p (l ++ sputB S depth) := by
  obtain ⟨h1, sv, h2, h3, h4⟩ := hW.out
  exact (swrite_calls S depth n hn a c w p sv l hr hx hT (Lib.hid h2) hl).mono fun e w' ⟨he, hw⟩ => ⟨he, WS.wrote h1 h3 h4 hw⟩
end Go.Proofs.YtofkiimaoahfjaaDoor
