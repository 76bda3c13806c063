/-
  Layer 8 (stereo), the document's side: Pair.Join, DocTogether. (Written by gen_ste13.py.)
-/
import Derived.Test.YtildkehbogmceaaSte10
import Derived.Test.YtildkehbogmceaaSte12
import Derived.Deep.RegionHeld3
import Derived.Deep.AppendLies
set_option linter.unusedVariables false
set_option linter.unusedSimpArgs false
namespace Go.Proofs.Ytildkehbogmceaa
open Go.RowKit

theorem step_appV {P : Program} {ops : Array Oper} {o : Oper} {a : Act} {K : Act → World → Prop} {Q : Exit → Act → World → Prop} {E : Prop} (w : World) (hgd : o.guard = none) (s x : Operand) (t e : TypeId) (z : Value) (bytes : Nat)
    (ho : o.op = .call { callee := .builtin .append, args := #[s, x], argTypes := #[t, t] })
    (ht : P.underlying t = some (.slice e)) (hinfo : (P.info? e).map (fun i => (i.zero, i.size, i.bytes)) = some (some z, 1, bytes)) (hz : z.cells.size = 1)
    (v : Value) (xs : List Value) (y : Value) (hyc : y.oneCell' = true) (hs : a.eval s = v) (HR : RowV w e v xs) (g0 : Nat) (hx : a.eval x = .slice (some ⟨g0, 0, none⟩) 1 1) (hy : w.cell? ⟨g0, 0, none⟩ = some y)
    (hl : (xs.length + 1) * bytes ≤ 140737488355328) (hl2 : xs.length ≤ 1000000000)
    (h : ∀ v1 w1, RowV w1 e v1 (xs ++ [y]) → Keeps (fp v) w w1 → (∀ b, b ∈ fp v1 → b ∈ fp v ∨ w.heap.size ≤ b) → K (a.put o.dst v1) w1) :
    if Region.wanted o (yielded ops a.tmps) = true then Oper.wp P o a w K Q else E := by
  obtain ⟨i0, hi, hzz⟩ := Option.map_eq_some_iff.1 hinfo
  simp only [Prod.mk.injEq] at hzz
  obtain ⟨hz0, hz1, hz2⟩ := hzz
  refine step_append_lies w hgd s x t ho 0 e i0 z 1 bytes ht hi hz0 hz1 hz2 hz (by omega) v xs.length xs hs HR ⟨g0, 0, none⟩ 1 1 [y] hx rfl
    (fun j u hj => ?_) (fun u hu => ?_) (by omega) (by simp only [maxLen]; omega) hl (Nat.zero_le _) w.heap.size rfl ?_
  · cases j with
    | zero => simp at hj; subst hj; simpa [Addr.add] using hy
    | succ j => simp at hj
  · simp at hu; subst hu; exact hyc
  · intro g cap w1 hown hg hat hlt
    refine h _ w1 ?_ ((Keeps.refl _ _).grown hg (fun k hk => .inl (mem_fp.2 hk))) ?_
    · unfold RowV
      rw [List.length_append]
      exact hown
    · intro b hb
      rw [fp_some, List.mem_singleton] at hb
      subst hb
      rcases hat with h1 | h1
      · exact .inl (mem_fp.2 h1)
      · exact .inr (by omega)

set_option maxHeartbeats 4000000 in
theorem pjoin_calls (L R : List Int) (n : Nat) (h1 : L.length = n) (h2 : R.length = n) (hn : n ≤ 8192) (a b : Option Addr) (c d : Nat) (w : World) (hx : Hid (Rd w .i64 a L)) (hy : Hid (Rd w .i64 b R)) :
    Calls Try.prog 22 #[.agg #[.slice a n c, .slice b n d]] w fun e w' => ∃ v, e = .returned v ∧ RowV w' 37 v (cxs (L.zip R)) ∧ Keeps [] w w' := by
  have HL1 := Lib.hid h1
  have HL2 := Lib.hid h2
  have hzl : (L.zip R).length = n := by rw [List.length_zip]; omega
  have HZL := Lib.hid hzl
  have hfo : ∀ n, floatOfInt .f64 n = FI n := fun _ => rfl
  clear h1 h2 hzl
  go_enter Try.func22, Try.ntmps22
  go_upto_region 1 with fail
  have HD : Hid (Duo8 (w.alloc (.cells #[.slice a n c, .slice b n d] 46)) w.heap.size 46 (.slice a n c) (.slice b n d)) := Duo8.made _ _ _ _
  have HKA : Hid (Keeps [] w (w.alloc (.cells #[.slice a n c, .slice b n d] 46))) := (Keeps.refl _ _).alloc _
  generalize w.alloc (.cells #[.slice a n c, .slice b n d] 46) = wA at *
  generalize w.heap.size = g at *
  go_wp2_with fail
  go_loopg [3, 4] (n + 1) (fun q v3 v4 wr => ∃ (i : Nat) (vv : Value), vv = v3 ∧ v4 = .int .i64 i ∧ i ≤ n ∧ Hid (RowV wr 37 vv (cxs ((L.zip R).take i))) ∧ Hid (∀ b, b ∈ fp vv → wA.heap.size ≤ b) ∧ Hid (i + q = n + 1) ∧ Hid (Keeps [] wA wr))
  case atStart => exact ⟨0, _, rfl, rfl, by omega, RowV.nil _ _, (fun b hb => by cases hb), (show _ = _ from by omega), Keeps.refl _ _⟩
  case round =>
    obtain ⟨i, vv, rfl, rfl, hi, HRow, HFp, HQ, HK⟩ := hrel
    obtain ⟨q1, rfl⟩ : ∃ g : Nat, g = gk := ⟨_, rfl⟩
    obtain ⟨wa, rfl⟩ : ∃ x : World, x = wr := ⟨_, rfl⟩
    have HDa := Lib.hid (HD.out.keeps HK.out (by simp))
    have hc0 := HDa.out.c0
    by_cases hlt : i < n
    · have hc1 := HDa.out.c1
      have i1 : i < L.length := by rw [HL1.out]; exact hlt
      have i2 : i < R.length := by rw [HL2.out]; exact hlt
      have i3 : i < (L.zip R).length := by rw [HZL.out]; exact hlt
      obtain ⟨b1, o1, hb1, hcx⟩ := ((hx.out.new HKA.out).new HK.out).at_ i i1
      obtain ⟨b2, o2, hb2, hcy⟩ := ((hy.out.new HKA.out).new HK.out).at_ i i2
      obtain ⟨x, hxe⟩ : ∃ x, L[i] = x := ⟨_, rfl⟩
      obtain ⟨y, hye⟩ : ∃ y, R[i] = y := ⟨_, rfl⟩
      have hz : (L.zip R)[i] = (x, y) := by rw [List.getElem_zip, hxe, hye]
      rw [hxe] at hcx
      rw [hye] at hcy
      have htk : (L.zip R).take (i + 1) = (L.zip R).take i ++ [(x, y)] := by rw [List.take_succ_eq_append_getElem i3, hz]
      have HTK : Hid (cxs ((L.zip R).take (i + 1)) = cxs ((L.zip R).take i) ++ [cx x y]) := by show _ = _; rw [htk, cxs_snoc]
      have HLB : Hid (((cxs ((L.zip R).take i)).length + 1) * 16 ≤ 140737488355328 ∧ (cxs ((L.zip R).take i)).length ≤ 1000000000) := by
        show _ ∧ _
        rw [cxs_length, List.length_take]
        omega
      subst hb1 hb2
      have HB12 : Hid (b1 < wA.heap.size ∧ b2 < wA.heap.size) := ⟨(hx.out.new HKA.out).lt (by omega) _ rfl, (hy.out.new HKA.out).lt (by omega) _ rfl⟩
      have HG : Hid (g < wA.heap.size) := HD.out.lt
      clear hxe hye hz htk i1 i2 i3
      go_wp2_with fail
      have HKC : Hid (∀ W', Keeps (fp vv) (wa.drew.alloc (.cells #[cx x y] 37)) W' → W'.cell? ⟨g, 0, none⟩ = some (.slice (some ⟨b1, o1, none⟩) n c) ∧ W'.cell? ⟨g, 1, none⟩ = some (.slice (some ⟨b2, o2, none⟩) n d) ∧ W'.cell? ⟨b1, o1 + i, none⟩ = some (.int .i64 x) ∧ W'.cell? ⟨b2, o2 + i, none⟩ = some (.int .i64 y)) := by
        intro W' hk
        have hk0 : Keeps [] wa (wa.drew.alloc (.cells #[cx x y] 37)) := ((Keeps.refl [] wa).drew).alloc _
        have l0 := HG.out
        have l1 := HB12.out.1
        have l2 := HB12.out.2
        have hn : ∀ z, z < wA.heap.size → z ∉ fp vv := fun z hz hm => by have := HFp.out z hm; omega
        exact ⟨hk.cell (hk0.cell hc0 (by simp)) (hn _ l0), hk.cell (hk0.cell hc1 (by simp)) (hn _ l0), hk.cell (hk0.cell hcx (by simp)) (hn _ l1), hk.cell (hk0.cell hcy (by simp)) (hn _ l2)⟩
      have HALC : Hid ((wa.drew.alloc (.cells #[cx x y] 37)).cell? ⟨g, 0, none⟩ = some (.slice (some ⟨b1, o1, none⟩) n c) ∧ (wa.drew.alloc (.cells #[cx x y] 37)).cell? ⟨g, 1, none⟩ = some (.slice (some ⟨b2, o2, none⟩) n d) ∧ (wa.drew.alloc (.cells #[cx x y] 37)).cell? ⟨b1, o1 + i, none⟩ = some (.int .i64 x) ∧ (wa.drew.alloc (.cells #[cx x y] 37)).cell? ⟨b2, o2 + i, none⟩ = some (.int .i64 y)) := HKC.out _ (Keeps.refl _ _)
      have HR7 : Hid (RowV (wa.drew.alloc (.cells #[cx x y] 37)) 37 vv (cxs ((L.zip R).take i))) := HRow.out.new (((Keeps.refl [] wa).drew).alloc _)
      have HK7 : Hid (Keeps [] wA (wa.drew.alloc (.cells #[cx x y] 37))) := HK.out.new (((Keeps.refl [] wa).drew).alloc _)
      have HC7 : Hid ((wa.drew.alloc (.cells #[cx x y] 37)).cell? ⟨wa.heap.size, 0, none⟩ = some (cx x y)) := by
        show (wa.drew.alloc (.cells #[cx x y] 37)).cell? ⟨wa.drew.heap.size, 0, none⟩ = some (cx x y)
        go_simp
      go_region_held3 (fun w' => w'.cell? ⟨g, 0, none⟩ = some (.slice (some ⟨b1, o1, none⟩) n c) ∧ w'.cell? ⟨g, 1, none⟩ = some (.slice (some ⟨b2, o2, none⟩) n d) ∧ w'.cell? ⟨b1, o1 + i, none⟩ = some (.int .i64 x) ∧ w'.cell? ⟨b2, o2 + i, none⟩ = some (.int .i64 y))
        (first
          | (exact ⟨hc0, hc1, hcx, hcy⟩)
          | (exact HALC.out)
          | (exact HKC.out _ hk1)
          | go_keep)
        (first
          | (refine step_appV _ (by rfl) _ _ _ 37 (.complex .f64 0 0) 16 (by rfl) Try.underlying24 info_cx rfl vv (cxs ((L.zip R).take i)) (cx x y) rfl (by rfl) HR7.out wa.heap.size (by rfl) HC7.out HLB.out.1 HLB.out.2 ?_; intro v1 w8 hr1 hk1 hf1))
      rw [← HTK.out] at hr1
      have HR1 := Lib.hid hr1
      have HK1 : Hid (Keeps [] wA w8) := HK7.out.then_ hk1 (fun b hb hlt => by have := HFp.out b hb; omega)
      have HF1 : Hid (∀ b, b ∈ fp v1 → wA.heap.size ≤ b) := (fun b hb => by rcases hf1 b hb with h | h; (exact HFp.out b h); (exact Nat.le_trans HK7.out.size h))
      clear hr1 hk1 hf1 hc0 hc1 hcx hcy
      go_wp2_with fail
      go_roundg (n - i)
      case measure => have := HQ.out; omega
      case rel => exact ⟨i + 1, _, rfl, by go_num, by omega, HR1.out, HF1.out, (show _ = _ from by have := HQ.out; omega), HK1.out⟩
    · obtain rfl : i = n := by omega
      have h6 := HRow.out
      rw [List.take_of_length_le (by rw [HZL.out]; exact Nat.le_refl _)] at h6
      have HR6 := Lib.hid h6
      clear h6
      go_wp2_with fail
      go_ret
      exact ⟨_, rfl, HR6.out, HKA.out.new HK.out⟩

/-- The pair that DocTogether builds. -/
structure DP (w0 w : World) (g : Nat) (u v : Value) (A B : List Int) : Prop where
  duo : Duo8 w g 46 u v
  ra : Row w .i64 3 u A
  rb : Row w .i64 3 v B
  fa : ∀ b, b ∈ fp u → w0.heap.size ≤ b ∧ b ≠ g
  fb : ∀ b, b ∈ fp v → w0.heap.size ≤ b ∧ b ≠ g
  ne : ∀ b, b ∈ fp u → b ∉ fp v
  na : w0.heap.size ≤ g
  keep : Keeps [] w0 w
theorem DP.drewN {w0 w : World} {g : Nat} {u v : Value} {A B : List Int} (h : DP w0 w g u v A B) (n : Nat) : DP w0 (w.drewN n) g u v A B :=
  have hk : Keeps [] w (w.drewN n) := (Keeps.refl _ _).drewN n
  ⟨h.duo.keeps hk (by simp), h.ra.keeps hk (fun _ _ => by simp), h.rb.keeps hk (fun _ _ => by simp), h.fa, h.fb, h.ne, h.na, h.keep.new hk⟩
theorem DP.stepL {w0 w w' : World} {g : Nat} {u v u' : Value} {A B A' : List Int} (h : DP w0 w g u v A B) (hr : Row w' .i64 3 u' A') (hk : Keeps (fp u) w w') (hf : ∀ b, b ∈ fp u' → b ∈ fp u ∨ w.heap.size ≤ b) : DP w0 (w'.setCell ⟨g, 0, none⟩ u') g u' v A' B := by
  have hg : g ∉ fp u := fun hm => (h.fa g hm).2 rfl
  have hd := h.duo.keeps hk hg
  have ks : Keeps [g] w' (w'.setCell ⟨g, 0, none⟩ u') := (Keeps.refl _ _).setCell (a := ⟨g, 0, none⟩) (.inl (by simp)) _
  have hlt := h.duo.lt
  have hsz := h.keep.size
  have fa' : ∀ b, b ∈ fp u' → w0.heap.size ≤ b ∧ b ≠ g := by
    intro b hb
    rcases hf b hb with h1 | h1
    · exact h.fa b h1
    · exact ⟨by omega, by omega⟩
  refine ⟨hd.set0 u', hr.keeps ks (fun b hb hm => (fa' b hb).2 (List.mem_singleton.1 hm)), (h.rb.keeps hk (fun b hb hm => h.ne b hm hb)).keeps ks (fun b hb hm => (h.fb b hb).2 (List.mem_singleton.1 hm)), fa', h.fb, ?_, h.na, (h.keep.then_ hk (fun b hb hlt => by have := (h.fa b hb).1; omega)).then_ ks (fun b hb hlt => by rw [List.mem_singleton] at hb; have := h.na; omega)⟩
  intro b hb hm
  rcases hf b hb with h1 | h1
  · exact h.ne b h1 hm
  · have := h.rb.lt b hm
    omega
theorem DP.stepR {w0 w w' : World} {g : Nat} {u v v' : Value} {A B B' : List Int} (h : DP w0 w g u v A B) (hr : Row w' .i64 3 v' B') (hk : Keeps (fp v) w w') (hf : ∀ b, b ∈ fp v' → b ∈ fp v ∨ w.heap.size ≤ b) : DP w0 (w'.setCell ⟨g, 1, none⟩ v') g u v' A B' := by
  have hg : g ∉ fp v := fun hm => (h.fb g hm).2 rfl
  have hd := h.duo.keeps hk hg
  have ks : Keeps [g] w' (w'.setCell ⟨g, 1, none⟩ v') := (Keeps.refl _ _).setCell (a := ⟨g, 1, none⟩) (.inl (by simp)) _
  have hlt := h.duo.lt
  have hsz := h.keep.size
  have fb' : ∀ b, b ∈ fp v' → w0.heap.size ≤ b ∧ b ≠ g := by
    intro b hb
    rcases hf b hb with h1 | h1
    · exact h.fb b h1
    · exact ⟨by omega, by omega⟩
  refine ⟨hd.set1 v', (h.ra.keeps hk (fun b hb hm => h.ne b hb hm)).keeps ks (fun b hb hm => (h.fa b hb).2 (List.mem_singleton.1 hm)), hr.keeps ks (fun b hb hm => (fb' b hb).2 (List.mem_singleton.1 hm)), h.fa, fb', ?_, h.na, (h.keep.then_ hk (fun b hb hlt => by have := (h.fb b hb).1; omega)).then_ ks (fun b hb hlt => by rw [List.mem_singleton] at hb; have := h.na; omega)⟩
  intro b hb hm
  rcases hf b hm with h1 | h1
  · exact h.ne b hb h1
  · have := h.ra.lt b hb
    omega

set_option maxHeartbeats 8000000 in
set_option maxRecDepth 100000 in
theorem dtogether_0 (A B : List Int) (n : Nat) (h1 : A.length = n) (h2 : B.length = n) (hn : n ≤ 8192) (a b : Option Addr) (c d : Nat) (w : World) (hx : Hid (Rd w .i64 a A)) (hy : Hid (Rd w .i64 b B)) :
    Calls Try.prog 10 #[.slice a n c, .slice b n d, .int .i64 0] w fun e w' => ∃ v, e = .returned (.tuple #[v, .int .i64 (togE A B 0)]) ∧ RowV w' 37 v (if togE A B 0 = 0 then cxs (togV A B 0) else []) ∧ Keeps [] w w' := by
  obtain ⟨zs, hzs⟩ : ∃ zs, A.zip B = zs := ⟨_, rfl⟩
  have hzl : zs.length = n := by rw [← hzs, List.length_zip]; omega
  have HZI : Hid (∀ i (h : i < zs.length) (h1 : i < A.length) (h2 : i < B.length), zs[i] = (A[i], B[i])) := by
    intro i h h1 h2
    simp [← hzs]
  obtain ⟨DL, hDL⟩ : ∃ DL, zs.map (tgL 0) = DL := ⟨_, rfl⟩
  obtain ⟨DR, hDR⟩ : ∃ DR, zs.map (tgR 0) = DR := ⟨_, rfl⟩
  have hDl : DL.length = n := by rw [← hDL, List.length_map, hzl]
  have hDr : DR.length = n := by rw [← hDR, List.length_map, hzl]
  have hje : joinE DL DR = if (DL.zip DR).all inC then 0 else 12 := by unfold joinE; rw [if_neg (by omega), if_neg (by omega)]
  have hE : togE A B 0 = if zs.all in4 then joinE DL DR else 12 := by unfold togE; rw [hzs, hDL, hDR]
  have hV : togV A B 0 = DL.zip DR := by unfold togV; rw [hzs, hDL, hDR]
  have HGL : Hid (∀ i (h : i < DL.length) (h1 : i < A.length) (h2 : i < B.length), DL[i] = tgL 0 (A[i], B[i])) := by
    intro i h h1 h2
    have hz := HZI.out i (by omega) h1 h2
    subst hDL
    rw [List.getElem_map, hz]
  have HGR : Hid (∀ i (h : i < DR.length) (h1 : i < A.length) (h2 : i < B.length), DR[i] = tgR 0 (A[i], B[i])) := by
    intro i h h1 h2
    have hz := HZI.out i (by omega) h1 h2
    subst hDR
    rw [List.getElem_map, hz]
  obtain ⟨J, hJ⟩ : ∃ J, togE A B 0 = J := ⟨_, rfl⟩
  obtain ⟨V, hVV⟩ : ∃ V, (if togE A B 0 = 0 then cxs (togV A B 0) else []) = V := ⟨_, rfl⟩
  have HJ : Hid (∀ b, zs.all in4 = b → J = (if b then joinE DL DR else 12) ∧ V = (if J = 0 then cxs (DL.zip DR) else [])) := by
    intro b hb
    rw [hb] at hE
    refine ⟨hJ.symm.trans hE, ?_⟩
    rw [← hVV, hV, hJ]
  rw [hVV, hJ]
  have HZL := Lib.hid hzl
  have HA1 := Lib.hid h1
  have HB1 := Lib.hid h2
  have HDl := Lib.hid hDl
  have HDr := Lib.hid hDr
  have HJE := Lib.hid hje
  have HMO := Lib.hid (dmode_calls 0 w)
  have hmB : modeB 0 = true := by decide
  rw [hmB] at HMO
  clear hzs hzl hDL hDR hE hV hJ hVV h1 h2 hDl hDr hmB hje
  go_enter Try.func10, Try.ntmps10
  go_upto_region 6 with (first
    | (go_at_call 19; go_must (with_reducible refine HMO.out.mono ?_); rintro e w1 ⟨rfl, rfl⟩))
  have HDP : Hid (DP w1 (w1.alloc (.cells #[.slice none 0 0, .slice none 0 0] 46)) w1.heap.size (.slice none 0 0) (.slice none 0 0) [] []) :=
    ⟨Duo8.made _ _ _ _, Row.nil _ _ _, Row.nil _ _ _, fun b hb => (by cases hb), fun b hb => (by cases hb), fun b hb => (by cases hb), Nat.le_refl _, (Keeps.refl _ _).alloc _⟩
  generalize w1.alloc (.cells #[.slice none 0 0, .slice none 0 0] 46) = wA at *
  generalize w1.heap.size = g at *
  go_wp2_with fail
  go_loopg [9] (n + 1) (fun q v9 wr => ∃ (i : Nat) (aL cL aR cR : _), v9 = .int .i64 i ∧ i ≤ n ∧ Hid ((zs.take i).all in4 = true) ∧ Hid (DP w1 wr g (.slice aL i cL) (.slice aR i cR) (DL.take i) (DR.take i)) ∧ Hid (i + q = n + 1))
  case atStart => exact ⟨0, none, 0, none, 0, rfl, by omega, (show _ = _ from by simp), (by have := HDP.out; simp only [List.take_zero]; exact this), (show _ = _ from by omega)⟩
  case round =>
    obtain ⟨i, aL, cL, aR, cR, rfl, hi, HA, HR, HQ⟩ := hrel
    obtain ⟨q1, rfl⟩ : ∃ g : Nat, g = gk := ⟨_, rfl⟩
    obtain ⟨wi, rfl⟩ : ∃ x : World, x = wr := ⟨_, rfl⟩
    by_cases hlt : i < n
    · have i1 : i < A.length := by rw [HA1.out]; exact hlt
      have i2 : i < B.length := by rw [HB1.out]; exact hlt
      have i3 : i < zs.length := by rw [HZL.out]; exact hlt
      have i4 : i < DL.length := by rw [HDl.out]; exact hlt
      have i5 : i < DR.length := by rw [HDr.out]; exact hlt
      obtain ⟨b1, o1, hb1, hcx⟩ := (hx.out.new HR.out.keep).at_ i i1
      obtain ⟨b2, o2, hb2, hcy⟩ := (hy.out.new HR.out.keep).at_ i i2
      have hz := HZI.out i i3 i1 i2
      have hgl := HGL.out i i4 i1 i2
      have hgr := HGR.out i i5 i1 i2
      obtain ⟨x, hxe⟩ : ∃ x, A[i] = x := ⟨_, rfl⟩
      obtain ⟨y, hye⟩ : ∃ y, B[i] = y := ⟨_, rfl⟩
      rw [hxe, hye] at hz hgl hgr
      rw [hxe] at hcx
      rw [hye] at hcy
      have htk : zs.take (i + 1) = zs.take i ++ [(x, y)] := by rw [List.take_succ_eq_append_getElem i3, hz]
      have HTL : Hid (DL.take (i + 1) = DL.take i ++ [tgL 0 (x, y)]) := by show _ = _; rw [List.take_succ_eq_append_getElem i4, hgl]
      have HTR : Hid (DR.take (i + 1) = DR.take i ++ [tgR 0 (x, y)]) := by show _ = _; rw [List.take_succ_eq_append_getElem i5, hgr]
      have hll : (DL.take i).length = i := by rw [List.length_take, HDl.out]; omega
      have hlr : (DR.take i).length = i := by rw [List.length_take, HDr.out]; omega
      have HLN : Hid ((DL.take i).length = i ∧ (DR.take i).length = i) := ⟨hll, hlr⟩
      have hmem : (x, y) ∈ zs := by rw [← hz]; exact List.getElem_mem _
      have HBAD : Hid (in4 (x, y) = false → J = 12 ∧ V = []) := by
        intro h
        have : zs.all in4 = false := by
          rw [List.all_eq_false]
          exact ⟨(x, y), hmem, by simp [h]⟩
        obtain ⟨q1, q2⟩ := HJ.out false this
        simp only [Bool.false_eq_true, if_false] at q1
        rw [q1, if_neg (by decide)] at q2
        exact ⟨q1, q2⟩
      have HALL : Hid (in4 (x, y) = true → (zs.take (i + 1)).all in4 = true) := by
        intro h
        rw [htk, List.all_append, HA.out]
        simp [h]
      subst hb1 hb2
      clear hxe hye hz htk hmem i1 i2 i3 i4 i5 hgl hgr hll hlr
      go_wp2_with fail
      go_quiet (fail)
      have HRq := Lib.hid (HR.out.drewN nq)
      generalize wi.drewN nq = wq at *
      clear hcx hcy HR
      by_cases g1 : x < -67108864
      · obtain ⟨rfl, rfl⟩ := HBAD.out (decide_eq_false (by simp only; omega))
        go_wp2_with fail
        go_ret2
        exact ⟨_, rfl, RowV.nil _ _, HRq.out.keep⟩
      · by_cases g2 : 67108864 < x
        · obtain ⟨rfl, rfl⟩ := HBAD.out (decide_eq_false (by simp only; omega))
          go_wp2_with fail
          go_ret2
          exact ⟨_, rfl, RowV.nil _ _, HRq.out.keep⟩
        · by_cases g3 : y < -67108864
          · obtain ⟨rfl, rfl⟩ := HBAD.out (decide_eq_false (by simp only; omega))
            go_wp2_with fail
            go_ret2
            exact ⟨_, rfl, RowV.nil _ _, HRq.out.keep⟩
          · by_cases g4 : 67108864 < y
            · obtain ⟨rfl, rfl⟩ := HBAD.out (decide_eq_false (by simp only; omega))
              go_wp2_with fail
              go_ret2
              exact ⟨_, rfl, RowV.nil _ _, HRq.out.keep⟩
            · have HAN := Lib.hid (HALL.out (decide_eq_true ⟨⟨by simp only; omega, by simp only; omega⟩, by simp only; omega, by simp only; omega⟩))
              clear HBAD HALL
              have hc0 := HRq.out.duo.c0
              have hc1 := HRq.out.duo.c1
              have hf0 := HRq.out.duo.frozen 0
              have hf1 := HRq.out.duo.frozen 1
              obtain ⟨vl, hvl⟩ : ∃ vl, x = vl := ⟨_, rfl⟩
              obtain ⟨vr, hvr⟩ : ∃ vr, y = vr := ⟨_, rfl⟩
              have HVL : Hid (tgL 0 (x, y) = vl) := by show _ = _; rw [← hvl]; rfl
              have HVR : Hid (tgR 0 (x, y) = vr) := by show _ = _; rw [← hvr]; rfl
              rw [HVL.out] at HTL
              rw [HVR.out] at HTR
              subst hvl hvr
              go_upto_region 22 with (first
                | (at_builtin; go_must (refine wp_app1 (W := wq) rfl (.tmp 90) (.tmp 92) 22 3 .i64 8 rfl Try.underlying22 info_i64s (by decide) _ (DL.take i) _ rfl rfl HRq.out.ra (by have := HLN.out.1; omega) ?_; intro v1 wb hr1 hk1 hfp1; rw [← HTL.out] at hr1; obtain ⟨aL2, cL2, hv1, -⟩ := hr1.rd; rw [HTL.out, List.length_append, HLN.out.1] at hv1; have hv1 : v1 = .slice aL2 (i + 1) cL2 := hv1; subst hv1; have HS1 := Lib.hid (HRq.out.stepL hr1 hk1 hfp1); have HDb := Lib.hid (HRq.out.duo.keeps hk1 (fun hm => (HRq.out.fa g hm).2 rfl)); have hg0 := HDb.out.c0; have hgf0 := HDb.out.frozen 0; have hs1 := HS1.out.duo.c1; have hs0 := HS1.out.duo.c0; have hsf1 := HS1.out.duo.frozen 1; clear hr1 hk1 hfp1)))
              generalize wb.setCell ⟨g, 0, none⟩ (.slice aL2 (i + 1) cL2) = ws at *
              clear hg0 hgf0 HDb hc0 hc1 hf0 hf1
              go_wp2_with (first
                | (at_builtin; go_must (refine wp_app1 (W := ws) rfl (.tmp 96) (.tmp 98) 22 3 .i64 8 rfl Try.underlying22 info_i64s (by decide) _ (DR.take i) _ rfl rfl HS1.out.rb (by have := HLN.out.2; omega) ?_; intro v2 wd hr2 hk2 hfp2; rw [← HTR.out] at hr2; obtain ⟨aR2, cR2, hv2, -⟩ := hr2.rd; rw [HTR.out, List.length_append, HLN.out.2] at hv2; have hv2 : v2 = .slice aR2 (i + 1) cR2 := hv2; subst hv2; have HS2 := Lib.hid (HS1.out.stepR hr2 hk2 hfp2); have HDd := Lib.hid (HS1.out.duo.keeps hk2 (fun hm => (HS1.out.fb g hm).2 rfl)); have hgd1 := HDd.out.c1; have hgdf1 := HDd.out.frozen 1; clear hr2 hk2 hfp2)))
              go_roundg (n - i)
              case measure => have := HQ.out; omega
              case rel => exact ⟨i + 1, _, _, _, _, by go_num, by omega, HAN.out, HS2.out, (show _ = _ from by have := HQ.out; omega)⟩
    · obtain rfl : i = n := by omega
      have h5 := HA.out
      have h6 := HR.out
      rw [List.take_of_length_le (by rw [HZL.out]; exact Nat.le_refl _)] at h5
      rw [List.take_of_length_le (by rw [HDl.out]; exact Nat.le_refl _), List.take_of_length_le (by rw [HDr.out]; exact Nat.le_refl _)] at h6
      obtain ⟨q1, q2⟩ := HJ.out true h5
      simp only [if_true] at q1
      have hra := h6.ra.rdAt
      have hrb := h6.rb.rdAt
      have hcc0 := h6.duo.c0
      have hcc1 := h6.duo.c1
      have HPC := Lib.hid (pcheck_calls DL DR i HDl.out HDr.out hn aL aR cL cR wi (Lib.hid hra) (Lib.hid hrb))
      have HPJ := Lib.hid (fun W (hk : Keeps [] wi W) => pjoin_calls DL DR i HDl.out HDr.out hn aL aR cL cR W (Lib.hid (hra.new hk)) (Lib.hid (hrb.new hk)))
      rw [← HJE.out, ← q1] at HPC
      have HKI := Lib.hid h6.keep
      have HDU := Lib.hid h6.duo
      have HV2 := Lib.hid q2
      clear h5 h6 q1 q2 hra hrb
      by_cases hJ0 : J = 0
      · subst hJ0
        have hv := HV2.out
        rw [if_pos rfl] at hv
        subst hv
        go_wp2_with (first
          | (go_at_call 21; go_must (with_reducible refine HPC.out.mono ?_); rintro e w5 ⟨rfl, hk5⟩; have HK5 := Lib.hid hk5; have HD5 := Lib.hid (HDU.out.keeps hk5 (by simp)); have he0 := HD5.out.c0; have he1 := HD5.out.c1; clear hk5)
          | (go_at_call 22; go_must (with_reducible refine (HPJ.out _ HK5.out).mono ?_); rintro e w6 ⟨v6, rfl, hr6, hk6⟩; have HR6 := Lib.hid hr6; have HK6 := Lib.hid ((HKI.out.new HK5.out).new hk6); clear hr6 hk6))
        go_ret2
        exact ⟨_, rfl, HR6.out, HK6.out⟩
      · have hv := HV2.out
        rw [if_neg hJ0] at hv
        subst hv
        go_wp2_with (first
          | (go_at_call 21; go_must (with_reducible refine HPC.out.mono ?_); rintro e w5 ⟨rfl, hk5⟩; have HK5 := Lib.hid hk5; clear hk5))
        go_ret2
        exact ⟨_, rfl, RowV.nil _ _, HKI.out.new HK5.out⟩

set_option maxHeartbeats 8000000 in
set_option maxRecDepth 100000 in
theorem dtogether_8 (A B : List Int) (n : Nat) (h1 : A.length = n) (h2 : B.length = n) (hn : n ≤ 8192) (a b : Option Addr) (c d : Nat) (w : World) (hx : Hid (Rd w .i64 a A)) (hy : Hid (Rd w .i64 b B)) :
    Calls Try.prog 10 #[.slice a n c, .slice b n d, .int .i64 8] w fun e w' => ∃ v, e = .returned (.tuple #[v, .int .i64 (togE A B 8)]) ∧ RowV w' 37 v (if togE A B 8 = 0 then cxs (togV A B 8) else []) ∧ Keeps [] w w' := by
  obtain ⟨zs, hzs⟩ : ∃ zs, A.zip B = zs := ⟨_, rfl⟩
  have hzl : zs.length = n := by rw [← hzs, List.length_zip]; omega
  have HZI : Hid (∀ i (h : i < zs.length) (h1 : i < A.length) (h2 : i < B.length), zs[i] = (A[i], B[i])) := by
    intro i h h1 h2
    simp [← hzs]
  obtain ⟨DL, hDL⟩ : ∃ DL, zs.map (tgL 8) = DL := ⟨_, rfl⟩
  obtain ⟨DR, hDR⟩ : ∃ DR, zs.map (tgR 8) = DR := ⟨_, rfl⟩
  have hDl : DL.length = n := by rw [← hDL, List.length_map, hzl]
  have hDr : DR.length = n := by rw [← hDR, List.length_map, hzl]
  have hje : joinE DL DR = if (DL.zip DR).all inC then 0 else 12 := by unfold joinE; rw [if_neg (by omega), if_neg (by omega)]
  have hE : togE A B 8 = if zs.all in4 then joinE DL DR else 12 := by unfold togE; rw [hzs, hDL, hDR]
  have hV : togV A B 8 = DL.zip DR := by unfold togV; rw [hzs, hDL, hDR]
  have HGL : Hid (∀ i (h : i < DL.length) (h1 : i < A.length) (h2 : i < B.length), DL[i] = tgL 8 (A[i], B[i])) := by
    intro i h h1 h2
    have hz := HZI.out i (by omega) h1 h2
    subst hDL
    rw [List.getElem_map, hz]
  have HGR : Hid (∀ i (h : i < DR.length) (h1 : i < A.length) (h2 : i < B.length), DR[i] = tgR 8 (A[i], B[i])) := by
    intro i h h1 h2
    have hz := HZI.out i (by omega) h1 h2
    subst hDR
    rw [List.getElem_map, hz]
  obtain ⟨J, hJ⟩ : ∃ J, togE A B 8 = J := ⟨_, rfl⟩
  obtain ⟨V, hVV⟩ : ∃ V, (if togE A B 8 = 0 then cxs (togV A B 8) else []) = V := ⟨_, rfl⟩
  have HJ : Hid (∀ b, zs.all in4 = b → J = (if b then joinE DL DR else 12) ∧ V = (if J = 0 then cxs (DL.zip DR) else [])) := by
    intro b hb
    rw [hb] at hE
    refine ⟨hJ.symm.trans hE, ?_⟩
    rw [← hVV, hV, hJ]
  rw [hVV, hJ]
  have HZL := Lib.hid hzl
  have HA1 := Lib.hid h1
  have HB1 := Lib.hid h2
  have HDl := Lib.hid hDl
  have HDr := Lib.hid hDr
  have HJE := Lib.hid hje
  have HMO := Lib.hid (dmode_calls 8 w)
  have hmB : modeB 8 = true := by decide
  rw [hmB] at HMO
  clear hzs hzl hDL hDR hE hV hJ hVV h1 h2 hDl hDr hmB hje
  go_enter Try.func10, Try.ntmps10
  go_upto_region 6 with (first
    | (go_at_call 19; go_must (with_reducible refine HMO.out.mono ?_); rintro e w1 ⟨rfl, rfl⟩))
  have HDP : Hid (DP w1 (w1.alloc (.cells #[.slice none 0 0, .slice none 0 0] 46)) w1.heap.size (.slice none 0 0) (.slice none 0 0) [] []) :=
    ⟨Duo8.made _ _ _ _, Row.nil _ _ _, Row.nil _ _ _, fun b hb => (by cases hb), fun b hb => (by cases hb), fun b hb => (by cases hb), Nat.le_refl _, (Keeps.refl _ _).alloc _⟩
  generalize w1.alloc (.cells #[.slice none 0 0, .slice none 0 0] 46) = wA at *
  generalize w1.heap.size = g at *
  go_wp2_with fail
  go_loopg [9] (n + 1) (fun q v9 wr => ∃ (i : Nat) (aL cL aR cR : _), v9 = .int .i64 i ∧ i ≤ n ∧ Hid ((zs.take i).all in4 = true) ∧ Hid (DP w1 wr g (.slice aL i cL) (.slice aR i cR) (DL.take i) (DR.take i)) ∧ Hid (i + q = n + 1))
  case atStart => exact ⟨0, none, 0, none, 0, rfl, by omega, (show _ = _ from by simp), (by have := HDP.out; simp only [List.take_zero]; exact this), (show _ = _ from by omega)⟩
  case round =>
    obtain ⟨i, aL, cL, aR, cR, rfl, hi, HA, HR, HQ⟩ := hrel
    obtain ⟨q1, rfl⟩ : ∃ g : Nat, g = gk := ⟨_, rfl⟩
    obtain ⟨wi, rfl⟩ : ∃ x : World, x = wr := ⟨_, rfl⟩
    by_cases hlt : i < n
    · have i1 : i < A.length := by rw [HA1.out]; exact hlt
      have i2 : i < B.length := by rw [HB1.out]; exact hlt
      have i3 : i < zs.length := by rw [HZL.out]; exact hlt
      have i4 : i < DL.length := by rw [HDl.out]; exact hlt
      have i5 : i < DR.length := by rw [HDr.out]; exact hlt
      obtain ⟨b1, o1, hb1, hcx⟩ := (hx.out.new HR.out.keep).at_ i i1
      obtain ⟨b2, o2, hb2, hcy⟩ := (hy.out.new HR.out.keep).at_ i i2
      have hz := HZI.out i i3 i1 i2
      have hgl := HGL.out i i4 i1 i2
      have hgr := HGR.out i i5 i1 i2
      obtain ⟨x, hxe⟩ : ∃ x, A[i] = x := ⟨_, rfl⟩
      obtain ⟨y, hye⟩ : ∃ y, B[i] = y := ⟨_, rfl⟩
      rw [hxe, hye] at hz hgl hgr
      rw [hxe] at hcx
      rw [hye] at hcy
      have htk : zs.take (i + 1) = zs.take i ++ [(x, y)] := by rw [List.take_succ_eq_append_getElem i3, hz]
      have HTL : Hid (DL.take (i + 1) = DL.take i ++ [tgL 8 (x, y)]) := by show _ = _; rw [List.take_succ_eq_append_getElem i4, hgl]
      have HTR : Hid (DR.take (i + 1) = DR.take i ++ [tgR 8 (x, y)]) := by show _ = _; rw [List.take_succ_eq_append_getElem i5, hgr]
      have hll : (DL.take i).length = i := by rw [List.length_take, HDl.out]; omega
      have hlr : (DR.take i).length = i := by rw [List.length_take, HDr.out]; omega
      have HLN : Hid ((DL.take i).length = i ∧ (DR.take i).length = i) := ⟨hll, hlr⟩
      have hmem : (x, y) ∈ zs := by rw [← hz]; exact List.getElem_mem _
      have HBAD : Hid (in4 (x, y) = false → J = 12 ∧ V = []) := by
        intro h
        have : zs.all in4 = false := by
          rw [List.all_eq_false]
          exact ⟨(x, y), hmem, by simp [h]⟩
        obtain ⟨q1, q2⟩ := HJ.out false this
        simp only [Bool.false_eq_true, if_false] at q1
        rw [q1, if_neg (by decide)] at q2
        exact ⟨q1, q2⟩
      have HALL : Hid (in4 (x, y) = true → (zs.take (i + 1)).all in4 = true) := by
        intro h
        rw [htk, List.all_append, HA.out]
        simp [h]
      subst hb1 hb2
      clear hxe hye hz htk hmem i1 i2 i3 i4 i5 hgl hgr hll hlr
      go_wp2_with fail
      go_quiet (fail)
      have HRq := Lib.hid (HR.out.drewN nq)
      generalize wi.drewN nq = wq at *
      clear hcx hcy HR
      by_cases g1 : x < -67108864
      · obtain ⟨rfl, rfl⟩ := HBAD.out (decide_eq_false (by simp only; omega))
        go_wp2_with fail
        go_ret2
        exact ⟨_, rfl, RowV.nil _ _, HRq.out.keep⟩
      · by_cases g2 : 67108864 < x
        · obtain ⟨rfl, rfl⟩ := HBAD.out (decide_eq_false (by simp only; omega))
          go_wp2_with fail
          go_ret2
          exact ⟨_, rfl, RowV.nil _ _, HRq.out.keep⟩
        · by_cases g3 : y < -67108864
          · obtain ⟨rfl, rfl⟩ := HBAD.out (decide_eq_false (by simp only; omega))
            go_wp2_with fail
            go_ret2
            exact ⟨_, rfl, RowV.nil _ _, HRq.out.keep⟩
          · by_cases g4 : 67108864 < y
            · obtain ⟨rfl, rfl⟩ := HBAD.out (decide_eq_false (by simp only; omega))
              go_wp2_with fail
              go_ret2
              exact ⟨_, rfl, RowV.nil _ _, HRq.out.keep⟩
            · have HAN := Lib.hid (HALL.out (decide_eq_true ⟨⟨by simp only; omega, by simp only; omega⟩, by simp only; omega, by simp only; omega⟩))
              clear HBAD HALL
              have hc0 := HRq.out.duo.c0
              have hc1 := HRq.out.duo.c1
              have hf0 := HRq.out.duo.frozen 0
              have hf1 := HRq.out.duo.frozen 1
              obtain ⟨vl, hvl⟩ : ∃ vl, x = vl := ⟨_, rfl⟩
              obtain ⟨vr, hvr⟩ : ∃ vr, x - y = vr := ⟨_, rfl⟩
              have HVL : Hid (tgL 8 (x, y) = vl) := by show _ = _; rw [← hvl]; rfl
              have HVR : Hid (tgR 8 (x, y) = vr) := by show _ = _; rw [← hvr]; rfl
              rw [HVL.out] at HTL
              rw [HVR.out] at HTR
              subst hvl
              go_upto_region 22 with (first
                | (at_builtin; go_must (refine wp_app1 (W := wq) rfl (.tmp 90) (.tmp 92) 22 3 .i64 8 rfl Try.underlying22 info_i64s (by decide) _ (DL.take i) _ rfl rfl HRq.out.ra (by have := HLN.out.1; omega) ?_; intro v1 wb hr1 hk1 hfp1; rw [← HTL.out] at hr1; obtain ⟨aL2, cL2, hv1, -⟩ := hr1.rd; rw [HTL.out, List.length_append, HLN.out.1] at hv1; have hv1 : v1 = .slice aL2 (i + 1) cL2 := hv1; subst hv1; have HS1 := Lib.hid (HRq.out.stepL hr1 hk1 hfp1); have HDb := Lib.hid (HRq.out.duo.keeps hk1 (fun hm => (HRq.out.fa g hm).2 rfl)); have hg0 := HDb.out.c0; have hgf0 := HDb.out.frozen 0; have hs1 := HS1.out.duo.c1; have hs0 := HS1.out.duo.c0; have hsf1 := HS1.out.duo.frozen 1; clear hr1 hk1 hfp1)))
              generalize wb.setCell ⟨g, 0, none⟩ (.slice aL2 (i + 1) cL2) = ws at *
              clear hg0 hgf0 HDb hc0 hc1 hf0 hf1
              go_wp2_with (first
                | (at_builtin; go_must (refine wp_app1 (W := ws) rfl (.tmp 96) (.tmp 98) 22 3 .i64 8 rfl Try.underlying22 info_i64s (by decide) _ (DR.take i) _ rfl rfl HS1.out.rb (by have := HLN.out.2; omega) ?_; intro v2 wd hr2 hk2 hfp2; rw [← HTR.out] at hr2; obtain ⟨aR2, cR2, hv2, -⟩ := hr2.rd; rw [HTR.out, List.length_append, HLN.out.2] at hv2; have hv2 : v2 = .slice aR2 (i + 1) cR2 := hv2; subst hv2; have HS2 := Lib.hid (HS1.out.stepR hr2 hk2 hfp2); have HDd := Lib.hid (HS1.out.duo.keeps hk2 (fun hm => (HS1.out.fb g hm).2 rfl)); have hgd1 := HDd.out.c1; have hgdf1 := HDd.out.frozen 1; clear hr2 hk2 hfp2)))
              go_roundg (n - i)
              case measure => have := HQ.out; omega
              case rel => exact ⟨i + 1, _, _, _, _, by go_num, by omega, HAN.out, HS2.out, (show _ = _ from by have := HQ.out; omega)⟩
    · obtain rfl : i = n := by omega
      have h5 := HA.out
      have h6 := HR.out
      rw [List.take_of_length_le (by rw [HZL.out]; exact Nat.le_refl _)] at h5
      rw [List.take_of_length_le (by rw [HDl.out]; exact Nat.le_refl _), List.take_of_length_le (by rw [HDr.out]; exact Nat.le_refl _)] at h6
      obtain ⟨q1, q2⟩ := HJ.out true h5
      simp only [if_true] at q1
      have hra := h6.ra.rdAt
      have hrb := h6.rb.rdAt
      have hcc0 := h6.duo.c0
      have hcc1 := h6.duo.c1
      have HPC := Lib.hid (pcheck_calls DL DR i HDl.out HDr.out hn aL aR cL cR wi (Lib.hid hra) (Lib.hid hrb))
      have HPJ := Lib.hid (fun W (hk : Keeps [] wi W) => pjoin_calls DL DR i HDl.out HDr.out hn aL aR cL cR W (Lib.hid (hra.new hk)) (Lib.hid (hrb.new hk)))
      rw [← HJE.out, ← q1] at HPC
      have HKI := Lib.hid h6.keep
      have HDU := Lib.hid h6.duo
      have HV2 := Lib.hid q2
      clear h5 h6 q1 q2 hra hrb
      by_cases hJ0 : J = 0
      · subst hJ0
        have hv := HV2.out
        rw [if_pos rfl] at hv
        subst hv
        go_wp2_with (first
          | (go_at_call 21; go_must (with_reducible refine HPC.out.mono ?_); rintro e w5 ⟨rfl, hk5⟩; have HK5 := Lib.hid hk5; have HD5 := Lib.hid (HDU.out.keeps hk5 (by simp)); have he0 := HD5.out.c0; have he1 := HD5.out.c1; clear hk5)
          | (go_at_call 22; go_must (with_reducible refine (HPJ.out _ HK5.out).mono ?_); rintro e w6 ⟨v6, rfl, hr6, hk6⟩; have HR6 := Lib.hid hr6; have HK6 := Lib.hid ((HKI.out.new HK5.out).new hk6); clear hr6 hk6))
        go_ret2
        exact ⟨_, rfl, HR6.out, HK6.out⟩
      · have hv := HV2.out
        rw [if_neg hJ0] at hv
        subst hv
        go_wp2_with (first
          | (go_at_call 21; go_must (with_reducible refine HPC.out.mono ?_); rintro e w5 ⟨rfl, hk5⟩; have HK5 := Lib.hid hk5; clear hk5))
        go_ret2
        exact ⟨_, rfl, RowV.nil _ _, HKI.out.new HK5.out⟩

set_option maxHeartbeats 8000000 in
set_option maxRecDepth 100000 in
theorem dtogether_9 (A B : List Int) (n : Nat) (h1 : A.length = n) (h2 : B.length = n) (hn : n ≤ 8192) (a b : Option Addr) (c d : Nat) (w : World) (hx : Hid (Rd w .i64 a A)) (hy : Hid (Rd w .i64 b B)) :
    Calls Try.prog 10 #[.slice a n c, .slice b n d, .int .i64 9] w fun e w' => ∃ v, e = .returned (.tuple #[v, .int .i64 (togE A B 9)]) ∧ RowV w' 37 v (if togE A B 9 = 0 then cxs (togV A B 9) else []) ∧ Keeps [] w w' := by
  obtain ⟨zs, hzs⟩ : ∃ zs, A.zip B = zs := ⟨_, rfl⟩
  have hzl : zs.length = n := by rw [← hzs, List.length_zip]; omega
  have HZI : Hid (∀ i (h : i < zs.length) (h1 : i < A.length) (h2 : i < B.length), zs[i] = (A[i], B[i])) := by
    intro i h h1 h2
    simp [← hzs]
  obtain ⟨DL, hDL⟩ : ∃ DL, zs.map (tgL 9) = DL := ⟨_, rfl⟩
  obtain ⟨DR, hDR⟩ : ∃ DR, zs.map (tgR 9) = DR := ⟨_, rfl⟩
  have hDl : DL.length = n := by rw [← hDL, List.length_map, hzl]
  have hDr : DR.length = n := by rw [← hDR, List.length_map, hzl]
  have hje : joinE DL DR = if (DL.zip DR).all inC then 0 else 12 := by unfold joinE; rw [if_neg (by omega), if_neg (by omega)]
  have hE : togE A B 9 = if zs.all in4 then joinE DL DR else 12 := by unfold togE; rw [hzs, hDL, hDR]
  have hV : togV A B 9 = DL.zip DR := by unfold togV; rw [hzs, hDL, hDR]
  have HGL : Hid (∀ i (h : i < DL.length) (h1 : i < A.length) (h2 : i < B.length), DL[i] = tgL 9 (A[i], B[i])) := by
    intro i h h1 h2
    have hz := HZI.out i (by omega) h1 h2
    subst hDL
    rw [List.getElem_map, hz]
  have HGR : Hid (∀ i (h : i < DR.length) (h1 : i < A.length) (h2 : i < B.length), DR[i] = tgR 9 (A[i], B[i])) := by
    intro i h h1 h2
    have hz := HZI.out i (by omega) h1 h2
    subst hDR
    rw [List.getElem_map, hz]
  obtain ⟨J, hJ⟩ : ∃ J, togE A B 9 = J := ⟨_, rfl⟩
  obtain ⟨V, hVV⟩ : ∃ V, (if togE A B 9 = 0 then cxs (togV A B 9) else []) = V := ⟨_, rfl⟩
  have HJ : Hid (∀ b, zs.all in4 = b → J = (if b then joinE DL DR else 12) ∧ V = (if J = 0 then cxs (DL.zip DR) else [])) := by
    intro b hb
    rw [hb] at hE
    refine ⟨hJ.symm.trans hE, ?_⟩
    rw [← hVV, hV, hJ]
  rw [hVV, hJ]
  have HZL := Lib.hid hzl
  have HA1 := Lib.hid h1
  have HB1 := Lib.hid h2
  have HDl := Lib.hid hDl
  have HDr := Lib.hid hDr
  have HJE := Lib.hid hje
  have HMO := Lib.hid (dmode_calls 9 w)
  have hmB : modeB 9 = true := by decide
  rw [hmB] at HMO
  clear hzs hzl hDL hDR hE hV hJ hVV h1 h2 hDl hDr hmB hje
  go_enter Try.func10, Try.ntmps10
  go_upto_region 6 with (first
    | (go_at_call 19; go_must (with_reducible refine HMO.out.mono ?_); rintro e w1 ⟨rfl, rfl⟩))
  have HDP : Hid (DP w1 (w1.alloc (.cells #[.slice none 0 0, .slice none 0 0] 46)) w1.heap.size (.slice none 0 0) (.slice none 0 0) [] []) :=
    ⟨Duo8.made _ _ _ _, Row.nil _ _ _, Row.nil _ _ _, fun b hb => (by cases hb), fun b hb => (by cases hb), fun b hb => (by cases hb), Nat.le_refl _, (Keeps.refl _ _).alloc _⟩
  generalize w1.alloc (.cells #[.slice none 0 0, .slice none 0 0] 46) = wA at *
  generalize w1.heap.size = g at *
  go_wp2_with fail
  go_loopg [9] (n + 1) (fun q v9 wr => ∃ (i : Nat) (aL cL aR cR : _), v9 = .int .i64 i ∧ i ≤ n ∧ Hid ((zs.take i).all in4 = true) ∧ Hid (DP w1 wr g (.slice aL i cL) (.slice aR i cR) (DL.take i) (DR.take i)) ∧ Hid (i + q = n + 1))
  case atStart => exact ⟨0, none, 0, none, 0, rfl, by omega, (show _ = _ from by simp), (by have := HDP.out; simp only [List.take_zero]; exact this), (show _ = _ from by omega)⟩
  case round =>
    obtain ⟨i, aL, cL, aR, cR, rfl, hi, HA, HR, HQ⟩ := hrel
    obtain ⟨q1, rfl⟩ : ∃ g : Nat, g = gk := ⟨_, rfl⟩
    obtain ⟨wi, rfl⟩ : ∃ x : World, x = wr := ⟨_, rfl⟩
    by_cases hlt : i < n
    · have i1 : i < A.length := by rw [HA1.out]; exact hlt
      have i2 : i < B.length := by rw [HB1.out]; exact hlt
      have i3 : i < zs.length := by rw [HZL.out]; exact hlt
      have i4 : i < DL.length := by rw [HDl.out]; exact hlt
      have i5 : i < DR.length := by rw [HDr.out]; exact hlt
      obtain ⟨b1, o1, hb1, hcx⟩ := (hx.out.new HR.out.keep).at_ i i1
      obtain ⟨b2, o2, hb2, hcy⟩ := (hy.out.new HR.out.keep).at_ i i2
      have hz := HZI.out i i3 i1 i2
      have hgl := HGL.out i i4 i1 i2
      have hgr := HGR.out i i5 i1 i2
      obtain ⟨x, hxe⟩ : ∃ x, A[i] = x := ⟨_, rfl⟩
      obtain ⟨y, hye⟩ : ∃ y, B[i] = y := ⟨_, rfl⟩
      rw [hxe, hye] at hz hgl hgr
      rw [hxe] at hcx
      rw [hye] at hcy
      have htk : zs.take (i + 1) = zs.take i ++ [(x, y)] := by rw [List.take_succ_eq_append_getElem i3, hz]
      have HTL : Hid (DL.take (i + 1) = DL.take i ++ [tgL 9 (x, y)]) := by show _ = _; rw [List.take_succ_eq_append_getElem i4, hgl]
      have HTR : Hid (DR.take (i + 1) = DR.take i ++ [tgR 9 (x, y)]) := by show _ = _; rw [List.take_succ_eq_append_getElem i5, hgr]
      have hll : (DL.take i).length = i := by rw [List.length_take, HDl.out]; omega
      have hlr : (DR.take i).length = i := by rw [List.length_take, HDr.out]; omega
      have HLN : Hid ((DL.take i).length = i ∧ (DR.take i).length = i) := ⟨hll, hlr⟩
      have hmem : (x, y) ∈ zs := by rw [← hz]; exact List.getElem_mem _
      have HBAD : Hid (in4 (x, y) = false → J = 12 ∧ V = []) := by
        intro h
        have : zs.all in4 = false := by
          rw [List.all_eq_false]
          exact ⟨(x, y), hmem, by simp [h]⟩
        obtain ⟨q1, q2⟩ := HJ.out false this
        simp only [Bool.false_eq_true, if_false] at q1
        rw [q1, if_neg (by decide)] at q2
        exact ⟨q1, q2⟩
      have HALL : Hid (in4 (x, y) = true → (zs.take (i + 1)).all in4 = true) := by
        intro h
        rw [htk, List.all_append, HA.out]
        simp [h]
      subst hb1 hb2
      clear hxe hye hz htk hmem i1 i2 i3 i4 i5 hgl hgr hll hlr
      go_wp2_with fail
      go_quiet (fail)
      have HRq := Lib.hid (HR.out.drewN nq)
      generalize wi.drewN nq = wq at *
      clear hcx hcy HR
      by_cases g1 : x < -67108864
      · obtain ⟨rfl, rfl⟩ := HBAD.out (decide_eq_false (by simp only; omega))
        go_wp2_with fail
        go_ret2
        exact ⟨_, rfl, RowV.nil _ _, HRq.out.keep⟩
      · by_cases g2 : 67108864 < x
        · obtain ⟨rfl, rfl⟩ := HBAD.out (decide_eq_false (by simp only; omega))
          go_wp2_with fail
          go_ret2
          exact ⟨_, rfl, RowV.nil _ _, HRq.out.keep⟩
        · by_cases g3 : y < -67108864
          · obtain ⟨rfl, rfl⟩ := HBAD.out (decide_eq_false (by simp only; omega))
            go_wp2_with fail
            go_ret2
            exact ⟨_, rfl, RowV.nil _ _, HRq.out.keep⟩
          · by_cases g4 : 67108864 < y
            · obtain ⟨rfl, rfl⟩ := HBAD.out (decide_eq_false (by simp only; omega))
              go_wp2_with fail
              go_ret2
              exact ⟨_, rfl, RowV.nil _ _, HRq.out.keep⟩
            · have HAN := Lib.hid (HALL.out (decide_eq_true ⟨⟨by simp only; omega, by simp only; omega⟩, by simp only; omega, by simp only; omega⟩))
              clear HBAD HALL
              have hc0 := HRq.out.duo.c0
              have hc1 := HRq.out.duo.c1
              have hf0 := HRq.out.duo.frozen 0
              have hf1 := HRq.out.duo.frozen 1
              obtain ⟨vl, hvl⟩ : ∃ vl, x + y = vl := ⟨_, rfl⟩
              obtain ⟨vr, hvr⟩ : ∃ vr, y = vr := ⟨_, rfl⟩
              have HVL : Hid (tgL 9 (x, y) = vl) := by show _ = _; rw [← hvl]; rfl
              have HVR : Hid (tgR 9 (x, y) = vr) := by show _ = _; rw [← hvr]; rfl
              rw [HVL.out] at HTL
              rw [HVR.out] at HTR
              subst hvr
              go_upto_region 22 with (first
                | (at_builtin; go_must (refine wp_app1 (W := wq) rfl (.tmp 90) (.tmp 92) 22 3 .i64 8 rfl Try.underlying22 info_i64s (by decide) _ (DL.take i) _ rfl rfl HRq.out.ra (by have := HLN.out.1; omega) ?_; intro v1 wb hr1 hk1 hfp1; rw [← HTL.out] at hr1; obtain ⟨aL2, cL2, hv1, -⟩ := hr1.rd; rw [HTL.out, List.length_append, HLN.out.1] at hv1; have hv1 : v1 = .slice aL2 (i + 1) cL2 := hv1; subst hv1; have HS1 := Lib.hid (HRq.out.stepL hr1 hk1 hfp1); have HDb := Lib.hid (HRq.out.duo.keeps hk1 (fun hm => (HRq.out.fa g hm).2 rfl)); have hg0 := HDb.out.c0; have hgf0 := HDb.out.frozen 0; have hs1 := HS1.out.duo.c1; have hs0 := HS1.out.duo.c0; have hsf1 := HS1.out.duo.frozen 1; clear hr1 hk1 hfp1)))
              generalize wb.setCell ⟨g, 0, none⟩ (.slice aL2 (i + 1) cL2) = ws at *
              clear hg0 hgf0 HDb hc0 hc1 hf0 hf1
              go_wp2_with (first
                | (at_builtin; go_must (refine wp_app1 (W := ws) rfl (.tmp 96) (.tmp 98) 22 3 .i64 8 rfl Try.underlying22 info_i64s (by decide) _ (DR.take i) _ rfl rfl HS1.out.rb (by have := HLN.out.2; omega) ?_; intro v2 wd hr2 hk2 hfp2; rw [← HTR.out] at hr2; obtain ⟨aR2, cR2, hv2, -⟩ := hr2.rd; rw [HTR.out, List.length_append, HLN.out.2] at hv2; have hv2 : v2 = .slice aR2 (i + 1) cR2 := hv2; subst hv2; have HS2 := Lib.hid (HS1.out.stepR hr2 hk2 hfp2); have HDd := Lib.hid (HS1.out.duo.keeps hk2 (fun hm => (HS1.out.fb g hm).2 rfl)); have hgd1 := HDd.out.c1; have hgdf1 := HDd.out.frozen 1; clear hr2 hk2 hfp2)))
              go_roundg (n - i)
              case measure => have := HQ.out; omega
              case rel => exact ⟨i + 1, _, _, _, _, by go_num, by omega, HAN.out, HS2.out, (show _ = _ from by have := HQ.out; omega)⟩
    · obtain rfl : i = n := by omega
      have h5 := HA.out
      have h6 := HR.out
      rw [List.take_of_length_le (by rw [HZL.out]; exact Nat.le_refl _)] at h5
      rw [List.take_of_length_le (by rw [HDl.out]; exact Nat.le_refl _), List.take_of_length_le (by rw [HDr.out]; exact Nat.le_refl _)] at h6
      obtain ⟨q1, q2⟩ := HJ.out true h5
      simp only [if_true] at q1
      have hra := h6.ra.rdAt
      have hrb := h6.rb.rdAt
      have hcc0 := h6.duo.c0
      have hcc1 := h6.duo.c1
      have HPC := Lib.hid (pcheck_calls DL DR i HDl.out HDr.out hn aL aR cL cR wi (Lib.hid hra) (Lib.hid hrb))
      have HPJ := Lib.hid (fun W (hk : Keeps [] wi W) => pjoin_calls DL DR i HDl.out HDr.out hn aL aR cL cR W (Lib.hid (hra.new hk)) (Lib.hid (hrb.new hk)))
      rw [← HJE.out, ← q1] at HPC
      have HKI := Lib.hid h6.keep
      have HDU := Lib.hid h6.duo
      have HV2 := Lib.hid q2
      clear h5 h6 q1 q2 hra hrb
      by_cases hJ0 : J = 0
      · subst hJ0
        have hv := HV2.out
        rw [if_pos rfl] at hv
        subst hv
        go_wp2_with (first
          | (go_at_call 21; go_must (with_reducible refine HPC.out.mono ?_); rintro e w5 ⟨rfl, hk5⟩; have HK5 := Lib.hid hk5; have HD5 := Lib.hid (HDU.out.keeps hk5 (by simp)); have he0 := HD5.out.c0; have he1 := HD5.out.c1; clear hk5)
          | (go_at_call 22; go_must (with_reducible refine (HPJ.out _ HK5.out).mono ?_); rintro e w6 ⟨v6, rfl, hr6, hk6⟩; have HR6 := Lib.hid hr6; have HK6 := Lib.hid ((HKI.out.new HK5.out).new hk6); clear hr6 hk6))
        go_ret2
        exact ⟨_, rfl, HR6.out, HK6.out⟩
      · have hv := HV2.out
        rw [if_neg hJ0] at hv
        subst hv
        go_wp2_with (first
          | (go_at_call 21; go_must (with_reducible refine HPC.out.mono ?_); rintro e w5 ⟨rfl, hk5⟩; have HK5 := Lib.hid hk5; clear hk5))
        go_ret2
        exact ⟨_, rfl, RowV.nil _ _, HKI.out.new HK5.out⟩

set_option maxHeartbeats 8000000 in
set_option maxRecDepth 100000 in
theorem dtogether_10 (A B : List Int) (n : Nat) (h1 : A.length = n) (h2 : B.length = n) (hn : n ≤ 8192) (a b : Option Addr) (c d : Nat) (w : World) (hx : Hid (Rd w .i64 a A)) (hy : Hid (Rd w .i64 b B)) :
    Calls Try.prog 10 #[.slice a n c, .slice b n d, .int .i64 10] w fun e w' => ∃ v, e = .returned (.tuple #[v, .int .i64 (togE A B 10)]) ∧ RowV w' 37 v (if togE A B 10 = 0 then cxs (togV A B 10) else []) ∧ Keeps [] w w' := by
  obtain ⟨zs, hzs⟩ : ∃ zs, A.zip B = zs := ⟨_, rfl⟩
  have hzl : zs.length = n := by rw [← hzs, List.length_zip]; omega
  have HZI : Hid (∀ i (h : i < zs.length) (h1 : i < A.length) (h2 : i < B.length), zs[i] = (A[i], B[i])) := by
    intro i h h1 h2
    simp [← hzs]
  obtain ⟨DL, hDL⟩ : ∃ DL, zs.map (tgL 10) = DL := ⟨_, rfl⟩
  obtain ⟨DR, hDR⟩ : ∃ DR, zs.map (tgR 10) = DR := ⟨_, rfl⟩
  have hDl : DL.length = n := by rw [← hDL, List.length_map, hzl]
  have hDr : DR.length = n := by rw [← hDR, List.length_map, hzl]
  have hje : joinE DL DR = if (DL.zip DR).all inC then 0 else 12 := by unfold joinE; rw [if_neg (by omega), if_neg (by omega)]
  have hE : togE A B 10 = if zs.all in4 then joinE DL DR else 12 := by unfold togE; rw [hzs, hDL, hDR]
  have hV : togV A B 10 = DL.zip DR := by unfold togV; rw [hzs, hDL, hDR]
  have HGL : Hid (∀ i (h : i < DL.length) (h1 : i < A.length) (h2 : i < B.length), DL[i] = tgL 10 (A[i], B[i])) := by
    intro i h h1 h2
    have hz := HZI.out i (by omega) h1 h2
    subst hDL
    rw [List.getElem_map, hz]
  have HGR : Hid (∀ i (h : i < DR.length) (h1 : i < A.length) (h2 : i < B.length), DR[i] = tgR 10 (A[i], B[i])) := by
    intro i h h1 h2
    have hz := HZI.out i (by omega) h1 h2
    subst hDR
    rw [List.getElem_map, hz]
  obtain ⟨J, hJ⟩ : ∃ J, togE A B 10 = J := ⟨_, rfl⟩
  obtain ⟨V, hVV⟩ : ∃ V, (if togE A B 10 = 0 then cxs (togV A B 10) else []) = V := ⟨_, rfl⟩
  have HJ : Hid (∀ b, zs.all in4 = b → J = (if b then joinE DL DR else 12) ∧ V = (if J = 0 then cxs (DL.zip DR) else [])) := by
    intro b hb
    rw [hb] at hE
    refine ⟨hJ.symm.trans hE, ?_⟩
    rw [← hVV, hV, hJ]
  rw [hVV, hJ]
  have HZL := Lib.hid hzl
  have HA1 := Lib.hid h1
  have HB1 := Lib.hid h2
  have HDl := Lib.hid hDl
  have HDr := Lib.hid hDr
  have HJE := Lib.hid hje
  have HMO := Lib.hid (dmode_calls 10 w)
  have hmB : modeB 10 = true := by decide
  rw [hmB] at HMO
  clear hzs hzl hDL hDR hE hV hJ hVV h1 h2 hDl hDr hmB hje
  go_enter Try.func10, Try.ntmps10
  go_upto_region 6 with (first
    | (go_at_call 19; go_must (with_reducible refine HMO.out.mono ?_); rintro e w1 ⟨rfl, rfl⟩))
  have HDP : Hid (DP w1 (w1.alloc (.cells #[.slice none 0 0, .slice none 0 0] 46)) w1.heap.size (.slice none 0 0) (.slice none 0 0) [] []) :=
    ⟨Duo8.made _ _ _ _, Row.nil _ _ _, Row.nil _ _ _, fun b hb => (by cases hb), fun b hb => (by cases hb), fun b hb => (by cases hb), Nat.le_refl _, (Keeps.refl _ _).alloc _⟩
  generalize w1.alloc (.cells #[.slice none 0 0, .slice none 0 0] 46) = wA at *
  generalize w1.heap.size = g at *
  go_wp2_with fail
  go_loopg [9] (n + 1) (fun q v9 wr => ∃ (i : Nat) (aL cL aR cR : _), v9 = .int .i64 i ∧ i ≤ n ∧ Hid ((zs.take i).all in4 = true) ∧ Hid (DP w1 wr g (.slice aL i cL) (.slice aR i cR) (DL.take i) (DR.take i)) ∧ Hid (i + q = n + 1))
  case atStart => exact ⟨0, none, 0, none, 0, rfl, by omega, (show _ = _ from by simp), (by have := HDP.out; simp only [List.take_zero]; exact this), (show _ = _ from by omega)⟩
  case round =>
    obtain ⟨i, aL, cL, aR, cR, rfl, hi, HA, HR, HQ⟩ := hrel
    obtain ⟨q1, rfl⟩ : ∃ g : Nat, g = gk := ⟨_, rfl⟩
    obtain ⟨wi, rfl⟩ : ∃ x : World, x = wr := ⟨_, rfl⟩
    by_cases hlt : i < n
    · have i1 : i < A.length := by rw [HA1.out]; exact hlt
      have i2 : i < B.length := by rw [HB1.out]; exact hlt
      have i3 : i < zs.length := by rw [HZL.out]; exact hlt
      have i4 : i < DL.length := by rw [HDl.out]; exact hlt
      have i5 : i < DR.length := by rw [HDr.out]; exact hlt
      obtain ⟨b1, o1, hb1, hcx⟩ := (hx.out.new HR.out.keep).at_ i i1
      obtain ⟨b2, o2, hb2, hcy⟩ := (hy.out.new HR.out.keep).at_ i i2
      have hz := HZI.out i i3 i1 i2
      have hgl := HGL.out i i4 i1 i2
      have hgr := HGR.out i i5 i1 i2
      obtain ⟨x, hxe⟩ : ∃ x, A[i] = x := ⟨_, rfl⟩
      obtain ⟨y, hye⟩ : ∃ y, B[i] = y := ⟨_, rfl⟩
      rw [hxe, hye] at hz hgl hgr
      rw [hxe] at hcx
      rw [hye] at hcy
      have htk : zs.take (i + 1) = zs.take i ++ [(x, y)] := by rw [List.take_succ_eq_append_getElem i3, hz]
      have HTL : Hid (DL.take (i + 1) = DL.take i ++ [tgL 10 (x, y)]) := by show _ = _; rw [List.take_succ_eq_append_getElem i4, hgl]
      have HTR : Hid (DR.take (i + 1) = DR.take i ++ [tgR 10 (x, y)]) := by show _ = _; rw [List.take_succ_eq_append_getElem i5, hgr]
      have hll : (DL.take i).length = i := by rw [List.length_take, HDl.out]; omega
      have hlr : (DR.take i).length = i := by rw [List.length_take, HDr.out]; omega
      have HLN : Hid ((DL.take i).length = i ∧ (DR.take i).length = i) := ⟨hll, hlr⟩
      have hmem : (x, y) ∈ zs := by rw [← hz]; exact List.getElem_mem _
      have HBAD : Hid (in4 (x, y) = false → J = 12 ∧ V = []) := by
        intro h
        have : zs.all in4 = false := by
          rw [List.all_eq_false]
          exact ⟨(x, y), hmem, by simp [h]⟩
        obtain ⟨q1, q2⟩ := HJ.out false this
        simp only [Bool.false_eq_true, if_false] at q1
        rw [q1, if_neg (by decide)] at q2
        exact ⟨q1, q2⟩
      have HALL : Hid (in4 (x, y) = true → (zs.take (i + 1)).all in4 = true) := by
        intro h
        rw [htk, List.all_append, HA.out]
        simp [h]
      subst hb1 hb2
      clear hxe hye hz htk hmem i1 i2 i3 i4 i5 hgl hgr hll hlr
      go_wp2_with fail
      go_quiet (fail)
      have HRq := Lib.hid (HR.out.drewN nq)
      generalize wi.drewN nq = wq at *
      clear hcx hcy HR
      by_cases g1 : x < -67108864
      · obtain ⟨rfl, rfl⟩ := HBAD.out (decide_eq_false (by simp only; omega))
        go_wp2_with fail
        go_ret2
        exact ⟨_, rfl, RowV.nil _ _, HRq.out.keep⟩
      · by_cases g2 : 67108864 < x
        · obtain ⟨rfl, rfl⟩ := HBAD.out (decide_eq_false (by simp only; omega))
          go_wp2_with fail
          go_ret2
          exact ⟨_, rfl, RowV.nil _ _, HRq.out.keep⟩
        · by_cases g3 : y < -67108864
          · obtain ⟨rfl, rfl⟩ := HBAD.out (decide_eq_false (by simp only; omega))
            go_wp2_with fail
            go_ret2
            exact ⟨_, rfl, RowV.nil _ _, HRq.out.keep⟩
          · by_cases g4 : 67108864 < y
            · obtain ⟨rfl, rfl⟩ := HBAD.out (decide_eq_false (by simp only; omega))
              go_wp2_with fail
              go_ret2
              exact ⟨_, rfl, RowV.nil _ _, HRq.out.keep⟩
            · have HAN := Lib.hid (HALL.out (decide_eq_true ⟨⟨by simp only; omega, by simp only; omega⟩, by simp only; omega, by simp only; omega⟩))
              clear HBAD HALL
              have hc0 := HRq.out.duo.c0
              have hc1 := HRq.out.duo.c1
              have hf0 := HRq.out.duo.frozen 0
              have hf1 := HRq.out.duo.frozen 1
              obtain ⟨r, hr0⟩ : ∃ r, y % 2 = r := ⟨_, rfl⟩
              obtain ⟨r1, hr1e⟩ : ∃ r1, y.tmod 2 = r1 := ⟨_, rfl⟩
              have hr12 : (r1 + 2).tmod 2 = r := by
                have h9 := Int.mul_tdiv_add_tmod y 2
                have h8 : -2 < y.tmod 2 ∧ y.tmod 2 < 2 := ⟨Int.lt_tmod_of_pos y (by omega), Int.tmod_lt_of_pos y (by omega)⟩
                rw [Int.tmod_eq_emod_of_nonneg (by omega)]
                omega
              have hr1b : -1 ≤ r1 ∧ r1 ≤ 1 := by
                have h8 : -2 < y.tmod 2 ∧ y.tmod 2 < 2 := ⟨Int.lt_tmod_of_pos y (by omega), Int.tmod_lt_of_pos y (by omega)⟩
                omega
              have hrb : 0 ≤ r ∧ r ≤ 1 := by omega
              obtain ⟨hl, hhl⟩ : ∃ hl, 2 * x + r + y = 2 * hl := ⟨(2 * x + r + y) / 2, by omega⟩
              obtain ⟨hr, hhr⟩ : ∃ hr, 2 * x + r - y = 2 * hr := ⟨(2 * x + r - y) / 2, by omega⟩
              have HH1 := Lib.hid (fun W => dhalf_calls hl W (by omega))
              have HH2 := Lib.hid (fun W => dhalf_calls hr W (by omega))
              rw [← hhl] at HH1
              rw [← hhr] at HH2
              have HHL := Lib.hid hhl
              have HHR := Lib.hid hhr
              have HR0 := Lib.hid hr0
              clear hr0 hhl hhr
              obtain ⟨vl, hvl⟩ : ∃ vl, hl = vl := ⟨_, rfl⟩
              obtain ⟨vr, hvr⟩ : ∃ vr, hr = vr := ⟨_, rfl⟩
              have HVL : Hid (tgL 10 (x, y) = vl) := by show _ = _; rw [← hvl]; show (2 * x + y % 2 + y) / 2 = hl; have q1 := HHL.out; have q2 := HR0.out; omega
              have HVR : Hid (tgR 10 (x, y) = vr) := by show _ = _; rw [← hvr]; show (2 * x + y % 2 - y) / 2 = hr; have q1 := HHR.out; have q2 := HR0.out; omega
              rw [HVL.out] at HTL
              rw [HVR.out] at HTR
              subst hvl hvr
              go_upto_region 22 with (first
                | (go_at_call 20; go_must (first | (with_reducible refine (HH1.out _).mono ?_; rintro e w3 ⟨rfl, hw3⟩; have hw4 := hw3.symm; clear hw3; subst hw4) | (with_reducible refine (HH2.out _).mono ?_; rintro e w3 ⟨rfl, hw3⟩; have hw4 := hw3.symm; clear hw3; subst hw4)))
                | (at_builtin; go_must (refine wp_app1 (W := wq) rfl (.tmp 90) (.tmp 92) 22 3 .i64 8 rfl Try.underlying22 info_i64s (by decide) _ (DL.take i) _ rfl rfl HRq.out.ra (by have := HLN.out.1; omega) ?_; intro v1 wb hr1 hk1 hfp1; rw [← HTL.out] at hr1; obtain ⟨aL2, cL2, hv1, -⟩ := hr1.rd; rw [HTL.out, List.length_append, HLN.out.1] at hv1; have hv1 : v1 = .slice aL2 (i + 1) cL2 := hv1; subst hv1; have HS1 := Lib.hid (HRq.out.stepL hr1 hk1 hfp1); have HDb := Lib.hid (HRq.out.duo.keeps hk1 (fun hm => (HRq.out.fa g hm).2 rfl)); have hg0 := HDb.out.c0; have hgf0 := HDb.out.frozen 0; have hs1 := HS1.out.duo.c1; have hs0 := HS1.out.duo.c0; have hsf1 := HS1.out.duo.frozen 1; clear hr1 hk1 hfp1)))
              generalize wb.setCell ⟨g, 0, none⟩ (.slice aL2 (i + 1) cL2) = ws at *
              clear hg0 hgf0 HDb hc0 hc1 hf0 hf1
              go_wp2_with (first
                | (at_builtin; go_must (refine wp_app1 (W := ws) rfl (.tmp 96) (.tmp 98) 22 3 .i64 8 rfl Try.underlying22 info_i64s (by decide) _ (DR.take i) _ rfl rfl HS1.out.rb (by have := HLN.out.2; omega) ?_; intro v2 wd hr2 hk2 hfp2; rw [← HTR.out] at hr2; obtain ⟨aR2, cR2, hv2, -⟩ := hr2.rd; rw [HTR.out, List.length_append, HLN.out.2] at hv2; have hv2 : v2 = .slice aR2 (i + 1) cR2 := hv2; subst hv2; have HS2 := Lib.hid (HS1.out.stepR hr2 hk2 hfp2); have HDd := Lib.hid (HS1.out.duo.keeps hk2 (fun hm => (HS1.out.fb g hm).2 rfl)); have hgd1 := HDd.out.c1; have hgdf1 := HDd.out.frozen 1; clear hr2 hk2 hfp2)))
              go_roundg (n - i)
              case measure => have := HQ.out; omega
              case rel => exact ⟨i + 1, _, _, _, _, by go_num, by omega, HAN.out, HS2.out, (show _ = _ from by have := HQ.out; omega)⟩
    · obtain rfl : i = n := by omega
      have h5 := HA.out
      have h6 := HR.out
      rw [List.take_of_length_le (by rw [HZL.out]; exact Nat.le_refl _)] at h5
      rw [List.take_of_length_le (by rw [HDl.out]; exact Nat.le_refl _), List.take_of_length_le (by rw [HDr.out]; exact Nat.le_refl _)] at h6
      obtain ⟨q1, q2⟩ := HJ.out true h5
      simp only [if_true] at q1
      have hra := h6.ra.rdAt
      have hrb := h6.rb.rdAt
      have hcc0 := h6.duo.c0
      have hcc1 := h6.duo.c1
      have HPC := Lib.hid (pcheck_calls DL DR i HDl.out HDr.out hn aL aR cL cR wi (Lib.hid hra) (Lib.hid hrb))
      have HPJ := Lib.hid (fun W (hk : Keeps [] wi W) => pjoin_calls DL DR i HDl.out HDr.out hn aL aR cL cR W (Lib.hid (hra.new hk)) (Lib.hid (hrb.new hk)))
      rw [← HJE.out, ← q1] at HPC
      have HKI := Lib.hid h6.keep
      have HDU := Lib.hid h6.duo
      have HV2 := Lib.hid q2
      clear h5 h6 q1 q2 hra hrb
      by_cases hJ0 : J = 0
      · subst hJ0
        have hv := HV2.out
        rw [if_pos rfl] at hv
        subst hv
        go_wp2_with (first
          | (go_at_call 21; go_must (with_reducible refine HPC.out.mono ?_); rintro e w5 ⟨rfl, hk5⟩; have HK5 := Lib.hid hk5; have HD5 := Lib.hid (HDU.out.keeps hk5 (by simp)); have he0 := HD5.out.c0; have he1 := HD5.out.c1; clear hk5)
          | (go_at_call 22; go_must (with_reducible refine (HPJ.out _ HK5.out).mono ?_); rintro e w6 ⟨v6, rfl, hr6, hk6⟩; have HR6 := Lib.hid hr6; have HK6 := Lib.hid ((HKI.out.new HK5.out).new hk6); clear hr6 hk6))
        go_ret2
        exact ⟨_, rfl, HR6.out, HK6.out⟩
      · have hv := HV2.out
        rw [if_neg hJ0] at hv
        subst hv
        go_wp2_with (first
          | (go_at_call 21; go_must (with_reducible refine HPC.out.mono ?_); rintro e w5 ⟨rfl, hk5⟩; have HK5 := Lib.hid hk5; clear hk5))
        go_ret2
        exact ⟨_, rfl, RowV.nil _ _, HKI.out.new HK5.out⟩
end Go.Proofs.Ytildkehbogmceaa
