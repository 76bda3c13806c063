/-
  Layer 8 (stereo): Together. (Written by gen_ste12.py.)
-/
import Derived.Test.YtildkehbogmceaaSte6
set_option linter.unusedVariables false
set_option linter.unusedSimpArgs false
namespace Go.Proofs.Ytildkehbogmceaa
open Go.RowKit

def tgL (mode : Int) (z : Int × Int) : Int := if mode = 9 then z.1 + z.2 else if mode = 10 then (2 * z.1 + z.2 % 2 + z.2) / 2 else z.1
def tgR (mode : Int) (z : Int × Int) : Int := if mode = 8 then z.1 - z.2 else if mode = 10 then (2 * z.1 + z.2 % 2 - z.2) / 2 else z.2
def in4 (z : Int × Int) : Bool := decide ((-67108864 ≤ z.1 ∧ z.1 ≤ 67108864) ∧ (-67108864 ≤ z.2 ∧ z.2 ≤ 67108864))
/-- What both Togethers make of lists of one length that isn't too great. -/
def togE (A B : List Int) (mode : Int) : Int := if (A.zip B).all in4 then joinE ((A.zip B).map (tgL mode)) ((A.zip B).map (tgR mode)) else 12
def togV (A B : List Int) (mode : Int) : List (Int × Int) := ((A.zip B).map (tgL mode)).zip ((A.zip B).map (tgR mode))
theorem or_even (x r : Int) (hx : -4611686018427387904 ≤ x ∧ x < 4611686018427387904) (hr : r = 0 ∨ r = 1) : bits .or .i64 (x * 2) r = x * 2 + r := by
  show IntKind.i64.wrap ((BitVec.ofInt 64 (x * 2) ||| BitVec.ofInt 64 r).toNat : Int) = _
  have e : IntKind.i64.wrap (x * 2 + r) = x * 2 + r := IntWalk.i64_in _ (by omega)
  obtain ⟨k, hk⟩ : ∃ k : Nat, ((x * 2) % 18446744073709551616).toNat = 2 * k := ⟨((x * 2) % 18446744073709551616).toNat / 2, by omega⟩
  rcases hr with rfl | rfl
  · have h0 : ((0 : Int) % 18446744073709551616).toNat = 0 := by decide
    rw [BitVec.toNat_or, BitVec.toNat_ofInt, BitVec.toNat_ofInt]
    show IntKind.i64.wrap (((((x * 2) % 18446744073709551616).toNat ||| ((0 : Int) % 18446744073709551616).toNat) : Nat) : Int) = _
    rw [h0, Nat.or_zero, ← e]
    have : ((((x * 2) % 18446744073709551616).toNat : Nat) : Int) = (x * 2) % 18446744073709551616 := by omega
    rw [this, IntKind.wrap_i64, IntKind.wrap_i64]
    omega
  · have h1 : ((1 : Int) % 18446744073709551616).toNat = 1 := by decide
    rw [BitVec.toNat_or, BitVec.toNat_ofInt, BitVec.toNat_ofInt]
    show IntKind.i64.wrap (((((x * 2) % 18446744073709551616).toNat ||| ((1 : Int) % 18446744073709551616).toNat) : Nat) : Int) = _
    rw [h1, hk]
    have h2 : 2 * k ||| 1 = 2 * k + 1 := by
      have := Nat.two_pow_add_eq_or_of_lt (i := 1) (b := 1) (by decide) k
      rw [Nat.pow_one] at this
      exact this.symm
    rw [h2, ← e]
    have : ((2 * k + 1 : Nat) : Int) = (x * 2) % 18446744073709551616 + 1 := by omega
    rw [this, IntKind.wrap_i64, IntKind.wrap_i64]
    omega
theorem and_one (y : Int) : bits .and .i64 y 1 = y % 2 := by
  have := and_mask 1 (by omega) y
  simpa using this
theorem set_mid (D : List Int) (n i : Nat) (h : D.length = n) (hi : i < n) (hi2 : i < D.length) : (D.take i ++ List.replicate (n - i) 0).set i D[i] = D.take (i + 1) ++ List.replicate (n - (i + 1)) 0 := by
  have e : n - i = (n - (i + 1)) + 1 := by omega
  rw [List.set_append_right _ _ (by rw [List.length_take]; omega), List.length_take, Nat.min_eq_left (by omega), Nat.sub_self, e, List.replicate_succ, List.set_cons_zero, List.take_succ_eq_append_getElem hi2, List.append_assoc]
  rfl
/-- Both rows. -/
structure LR (w0 w : World) (gl gr n : Nat) (A B : List Int) : Prop where
  ra : Row w .i64 3 (.slice (some ⟨gl, 0, none⟩) n n) A
  rb : Row w .i64 3 (.slice (some ⟨gr, 0, none⟩) n n) B
  na : w0.heap.size ≤ gl
  nb : w0.heap.size ≤ gr
  ne : gl ≠ gr
  keep : Keeps [] w0 w
theorem LR.set {w0 w : World} {gl gr n : Nat} {A B : List Int} (h : LR w0 w gl gr n A B) (i : Nat) (x y : Int) : LR w0 ((w.setCell ⟨gl, i, none⟩ (.int .i64 x)).setCell ⟨gr, i, none⟩ (.int .i64 y)) gl gr n (A.set i x) (B.set i y) := by
  have k1 : Keeps [gl] w (w.setCell ⟨gl, i, none⟩ (.int .i64 x)) := (Keeps.refl _ _).setCell (a := ⟨gl, i, none⟩) (.inl (by simp)) _
  have k2 : Keeps [gr] (w.setCell ⟨gl, i, none⟩ (.int .i64 x)) ((w.setCell ⟨gl, i, none⟩ (.int .i64 x)).setCell ⟨gr, i, none⟩ (.int .i64 y)) := (Keeps.refl _ _).setCell (a := ⟨gr, i, none⟩) (.inl (by simp)) _
  have hne := h.ne
  have hna := h.na
  have hnb := h.nb
  refine ⟨(h.ra.set i x).keeps k2 (fun b hb => by rw [fp_some, List.mem_singleton] at hb; subst hb; simpa using hne), (h.rb.keeps k1 (fun b hb => by rw [fp_some, List.mem_singleton] at hb; subst hb; simpa using hne.symm)).set i y, h.na, h.nb, h.ne, (h.keep.then_ k1 (fun b hb hlt => by rw [List.mem_singleton] at hb; omega)).then_ k2 (fun b hb hlt => by rw [List.mem_singleton] at hb; omega)⟩

set_option maxHeartbeats 8000000 in
set_option maxRecDepth 100000 in
theorem together_0 (A B : List Int) (n : Nat) (h1 : A.length = n) (h2 : B.length = n) (hn : n ≤ 8192) (a b : Option Addr) (c d : Nat) (w : World) (hx : Hid (Rd w .i64 a A)) (hy : Hid (Rd w .i64 b B)) :
    Calls Try.prog 11 #[.slice a n c, .slice b n d, .int .i64 0] w fun e w' => ∃ v, e = .returned (.tuple #[v, .int .i64 (togE A B 0)]) ∧ RowV w' 37 v (if togE A B 0 = 0 then cxs (togV A B 0) else []) ∧ Keeps [] w w' := by
  obtain ⟨zs, hzs⟩ : ∃ zs, A.zip B = zs := ⟨_, rfl⟩
  have hzl : zs.length = n := by rw [← hzs, List.length_zip]; omega
  have HZI : Hid (∀ i (h : i < zs.length) (h1 : i < A.length) (h2 : i < B.length), zs[i] = (A[i], B[i])) := by
    intro i h h1 h2
    simp [← hzs]
  obtain ⟨DL, hDL⟩ : ∃ DL, zs.map (tgL 0) = DL := ⟨_, rfl⟩
  obtain ⟨DR, hDR⟩ : ∃ DR, zs.map (tgR 0) = DR := ⟨_, rfl⟩
  have hDl : DL.length = n := by rw [← hDL, List.length_map, hzl]
  have hDr : DR.length = n := by rw [← hDR, List.length_map, hzl]
  have hE : togE A B 0 = if zs.all in4 then joinE DL DR else 12 := by unfold togE; rw [hzs, hDL, hDR]
  have hV : togV A B 0 = DL.zip DR := by unfold togV; rw [hzs, hDL, hDR]
  have HGL : Hid (∀ i (h : i < DL.length) (h1 : i < A.length) (h2 : i < B.length), DL[i] = tgL 0 (A[i], B[i])) := by
    intro i h h1 h2
    have hz := HZI.out i (by omega) h1 h2
    subst hDL
    rw [List.getElem_map, hz]
  have HGR : Hid (∀ i (h : i < DR.length) (h1 : i < A.length) (h2 : i < B.length), DR[i] = tgR 0 (A[i], B[i])) := by
    intro i h h1 h2
    have hz := HZI.out i (by omega) h1 h2
    subst hDR
    rw [List.getElem_map, hz]
  obtain ⟨J, hJ⟩ : ∃ J, togE A B 0 = J := ⟨_, rfl⟩
  obtain ⟨V, hVV⟩ : ∃ V, (if togE A B 0 = 0 then cxs (togV A B 0) else []) = V := ⟨_, rfl⟩
  have HJ : Hid (∀ b, zs.all in4 = b → J = (if b then joinE DL DR else 12) ∧ V = (if J = 0 then cxs (DL.zip DR) else [])) := by
    intro b hb
    rw [hb] at hE
    refine ⟨hJ.symm.trans hE, ?_⟩
    rw [← hVV, hV, hJ]
  rw [hVV, hJ]
  have HZL := Lib.hid hzl
  have HA1 := Lib.hid h1
  have HB1 := Lib.hid h2
  have HDl := Lib.hid hDl
  have HDr := Lib.hid hDr
  have HMO := Lib.hid (isMode_calls 0 w)
  have hmB : modeB 0 = true := by decide
  rw [hmB] at HMO
  have hmk : ∀ W : World, Sem.run Try.prog (Instr.makeSlice 22 (.int .i64 (n : Int)) (.int .i64 (n : Int))) W = .ok (.slice (some ⟨W.heap.size, 0, none⟩) n n) (W.alloc (.cells (madeCells #[.int .i64 0] n) 3)) :=
    fun W => run_mk Try.prog 22 3 .i64 8 Try.underlying22 info_i64s .i64 .i64 n n (n : Int) (n : Int) rfl rfl (by omega) (by omega) (by omega) W
  clear hzs hzl hDL hDR hE hV hJ hVV h1 h2 hDl hDr hmB
  go_enter Try.func11, Try.ntmps11
  go_upto_region 5 with (first
    | (go_at_call 14; go_must (with_reducible refine HMO.out.mono ?_); rintro e w1 ⟨rfl, rfl⟩))
  go_cut [8, 9] (fun v8 v9 wx => ∃ gl gr, v8 = .slice (some ⟨gl, 0, none⟩) n n ∧ v9 = .slice (some ⟨gr, 0, none⟩) n n ∧ Hid (LR w1 wx gl gr n (List.replicate n 0) (List.replicate n 0)))
  case first =>
    have HLR : Hid (∀ W, Keeps [] w1 W → LR w1 ((W.alloc (.cells (madeCells #[.int .i64 0] n) 3)).alloc (.cells (madeCells #[.int .i64 0] n) 3)) W.heap.size (W.heap.size + 1) n (List.replicate n 0) (List.replicate n 0) ∧ LR w1 ((W.alloc (.cells (madeCells #[.int .i64 0] n) 3)).alloc (.cells (madeCells #[.int .i64 0] n) 3)) (W.heap.size + 1) W.heap.size n (List.replicate n 0) (List.replicate n 0)) := by
      intro W hk
      have r1 := (Row.made W .i64 3 n (by omega)).keeps ((Keeps.refl [] (W.alloc (.cells (madeCells #[.int .i64 0] n) 3))).alloc (.cells (madeCells #[.int .i64 0] n) 3)) (fun _ _ => by simp)
      have r2 := Row.made (W.alloc (.cells (madeCells #[.int .i64 0] n) 3)) .i64 3 n (by omega)
      rw [World.size_alloc] at r2
      have hs := hk.size
      exact ⟨⟨r1, r2, hs, by omega, by omega, (hk.alloc _).alloc _⟩, ⟨r2, r1, by omega, hs, by omega, (hk.alloc _).alloc _⟩⟩
    go_region
    all_goals
      go_wp2_with fail
      go_meet
      first
        | exact ⟨_, _, rfl, rfl, (HLR.out w1.drew ((Keeps.refl [] w1).drew)).1⟩
        | exact ⟨_, _, rfl, rfl, (HLR.out w1.drew ((Keeps.refl [] w1).drew)).2⟩
  case rest =>
    obtain ⟨gl, gr, rfl, rfl, HLR⟩ := hcut
    obtain ⟨wB, rfl⟩ : ∃ x : World, x = wc := ⟨_, rfl⟩
    clear hmk
    go_wp2_with fail
    go_loopg [37] (n + 1) (fun q v37 wr => ∃ (i : Nat), v37 = .int .i64 i ∧ i ≤ n ∧ Hid ((zs.take i).all in4 = true) ∧ Hid (LR w1 wr gl gr n (DL.take i ++ List.replicate (n - i) 0) (DR.take i ++ List.replicate (n - i) 0)) ∧ Hid (i + q = n + 1))
    case atStart => exact ⟨0, rfl, by omega, (show _ = _ from by simp), (by have := HLR.out; simp only [List.take_zero, List.nil_append, Nat.sub_zero]; exact this), (show _ = _ from by omega)⟩
    case round =>
      obtain ⟨i, rfl, hi, HA, HR, HQ⟩ := hrel
      obtain ⟨q1, rfl⟩ : ∃ g : Nat, g = gk := ⟨_, rfl⟩
      obtain ⟨wi, rfl⟩ : ∃ x : World, x = wr := ⟨_, rfl⟩
      by_cases hlt : i < n
      · have i1 : i < A.length := by rw [HA1.out]; exact hlt
        have i2 : i < B.length := by rw [HB1.out]; exact hlt
        have i3 : i < zs.length := by rw [HZL.out]; exact hlt
        have i4 : i < DL.length := by rw [HDl.out]; exact hlt
        have i5 : i < DR.length := by rw [HDr.out]; exact hlt
        obtain ⟨b1, o1, hb1, hcx⟩ := (hx.out.new HR.out.keep).at_ i i1
        obtain ⟨b2, o2, hb2, hcy⟩ := (hy.out.new HR.out.keep).at_ i i2
        have hz := HZI.out i i3 i1 i2
        have hgl := HGL.out i i4 i1 i2
        have hgr := HGR.out i i5 i1 i2
        have hsl := set_mid DL n i HDl.out hlt i4
        have hsr := set_mid DR n i HDr.out hlt i5
        obtain ⟨x, hxe⟩ : ∃ x, A[i] = x := ⟨_, rfl⟩
        obtain ⟨y, hye⟩ : ∃ y, B[i] = y := ⟨_, rfl⟩
        rw [hxe, hye] at hz hgl hgr
        rw [hxe] at hcx
        rw [hye] at hcy
        rw [hgl] at hsl
        rw [hgr] at hsr
        have htk : zs.take (i + 1) = zs.take i ++ [(x, y)] := by rw [List.take_succ_eq_append_getElem i3, hz]
        have hmem : (x, y) ∈ zs := by rw [← hz]; exact List.getElem_mem _
        have HBAD : Hid (in4 (x, y) = false → J = 12 ∧ V = []) := by
          intro h
          have : zs.all in4 = false := by
            rw [List.all_eq_false]
            exact ⟨(x, y), hmem, by simp [h]⟩
          obtain ⟨q1, q2⟩ := HJ.out false this
          simp only [Bool.false_eq_true, if_false] at q1
          rw [q1, if_neg (by decide)] at q2
          exact ⟨q1, q2⟩
        have HALL : Hid (in4 (x, y) = true → (zs.take (i + 1)).all in4 = true) := by
          intro h
          rw [htk, List.all_append, HA.out]
          simp [h]
        have hll : i < (DL.take i ++ List.replicate (n - i) 0).length := by rw [List.length_append, List.length_take, List.length_replicate, HDl.out]; omega
        have hlr : i < (DR.take i ++ List.replicate (n - i) 0).length := by rw [List.length_append, List.length_take, List.length_replicate, HDr.out]; omega
        obtain ⟨vx, hvx⟩ : ∃ v, wi.cell? ⟨gl, i, none⟩ = some v := ⟨_, HR.out.ra.cell i hll⟩
        obtain ⟨vy, hvy⟩ : ∃ v, wi.cell? ⟨gr, i, none⟩ = some v := ⟨_, HR.out.rb.cell i hlr⟩
        have hfx := HR.out.ra.frozen i
        have hfy := HR.out.rb.frozen i
        have hne := HR.out.ne
        have hne2 := HR.out.ne.symm
        have HST := Lib.hid (HR.out.set i (tgL 0 (x, y)) (tgR 0 (x, y)))
        rw [hsl, hsr] at HST
        subst hb1 hb2
        obtain ⟨mn, hmn⟩ : ∃ mn : Int, (if y < x then y else x) = mn := ⟨_, rfl⟩
        obtain ⟨mx, hmx⟩ : ∃ mx : Int, (if y > x then y else x) = mx := ⟨_, rfl⟩
        clear hxe hye hz htk hmem i1 i2 i3 i4 i5 hgl hgr hsl hsr hll hlr
        by_cases g1 : mn < -67108864
        · obtain ⟨rfl, rfl⟩ := HBAD.out (decide_eq_false (by simp only; split at hmn <;> omega))
          clear HBAD HALL
          go_wp2_with fail
          go_ret2
          exact ⟨_, rfl, RowV.nil _ _, HR.out.keep⟩
        · by_cases g2 : 67108864 < mx
          · obtain ⟨rfl, rfl⟩ := HBAD.out (decide_eq_false (by simp only; split at hmx <;> omega))
            clear HBAD HALL
            go_wp2_with fail
            go_ret2
            exact ⟨_, rfl, RowV.nil _ _, HR.out.keep⟩
          · have hxr : -67108864 ≤ x ∧ x ≤ 67108864 := by split at hmn <;> split at hmx <;> omega
            have hyr : -67108864 ≤ y ∧ y ≤ 67108864 := by split at hmn <;> split at hmx <;> omega
            have HAN := Lib.hid (HALL.out (decide_eq_true ⟨hxr, hyr⟩))
            clear HBAD HALL
            have hL : tgL 0 (x, y) = x := rfl
            have hR : tgR 0 (x, y) = y := rfl
            rw [hL, hR] at HST
            clear hL hR
            go_wp2_with fail
            go_roundg (n - i)
            case measure => have := HQ.out; omega
            case rel => exact ⟨i + 1, by go_num, by omega, HAN.out, HST.out, (show _ = _ from by have := HQ.out; omega)⟩
      · obtain rfl : i = n := by omega
        have h5 := HA.out
        have h6 := HR.out
        rw [List.take_of_length_le (by rw [HZL.out]; exact Nat.le_refl _)] at h5
        rw [Nat.sub_self, List.replicate_zero, List.append_nil, List.append_nil, List.take_of_length_le (by rw [HDl.out]; exact Nat.le_refl _), List.take_of_length_le (by rw [HDr.out]; exact Nat.le_refl _)] at h6
        obtain ⟨q1, q2⟩ := HJ.out true h5
        simp only [if_true] at q1
        have hra := h6.ra.rdAt
        have hrb := h6.rb.rdAt
        have HJN := Lib.hid (join_calls DL DR i i HDl.out.symm HDr.out.symm _ _ i i wi (Lib.hid hra) (Lib.hid hrb))
        rw [← q1, ← q2] at HJN
        have HKI := Lib.hid h6.keep
        clear h5 h6 q1 q2 hra hrb
        go_wp2_with (first
          | (go_at_call 6; go_must (with_reducible refine HJN.out.mono ?_); rintro e w5 ⟨v5, rfl, hr5, -, hk5⟩; have HR5 := Lib.hid hr5; have HK5 := Lib.hid (HKI.out.new hk5); clear hr5 hk5))
        go_ret2
        exact ⟨_, rfl, HR5.out, HK5.out⟩

set_option maxHeartbeats 8000000 in
set_option maxRecDepth 100000 in
theorem together_8 (A B : List Int) (n : Nat) (h1 : A.length = n) (h2 : B.length = n) (hn : n ≤ 8192) (a b : Option Addr) (c d : Nat) (w : World) (hx : Hid (Rd w .i64 a A)) (hy : Hid (Rd w .i64 b B)) :
    Calls Try.prog 11 #[.slice a n c, .slice b n d, .int .i64 8] w fun e w' => ∃ v, e = .returned (.tuple #[v, .int .i64 (togE A B 8)]) ∧ RowV w' 37 v (if togE A B 8 = 0 then cxs (togV A B 8) else []) ∧ Keeps [] w w' := by
  obtain ⟨zs, hzs⟩ : ∃ zs, A.zip B = zs := ⟨_, rfl⟩
  have hzl : zs.length = n := by rw [← hzs, List.length_zip]; omega
  have HZI : Hid (∀ i (h : i < zs.length) (h1 : i < A.length) (h2 : i < B.length), zs[i] = (A[i], B[i])) := by
    intro i h h1 h2
    simp [← hzs]
  obtain ⟨DL, hDL⟩ : ∃ DL, zs.map (tgL 8) = DL := ⟨_, rfl⟩
  obtain ⟨DR, hDR⟩ : ∃ DR, zs.map (tgR 8) = DR := ⟨_, rfl⟩
  have hDl : DL.length = n := by rw [← hDL, List.length_map, hzl]
  have hDr : DR.length = n := by rw [← hDR, List.length_map, hzl]
  have hE : togE A B 8 = if zs.all in4 then joinE DL DR else 12 := by unfold togE; rw [hzs, hDL, hDR]
  have hV : togV A B 8 = DL.zip DR := by unfold togV; rw [hzs, hDL, hDR]
  have HGL : Hid (∀ i (h : i < DL.length) (h1 : i < A.length) (h2 : i < B.length), DL[i] = tgL 8 (A[i], B[i])) := by
    intro i h h1 h2
    have hz := HZI.out i (by omega) h1 h2
    subst hDL
    rw [List.getElem_map, hz]
  have HGR : Hid (∀ i (h : i < DR.length) (h1 : i < A.length) (h2 : i < B.length), DR[i] = tgR 8 (A[i], B[i])) := by
    intro i h h1 h2
    have hz := HZI.out i (by omega) h1 h2
    subst hDR
    rw [List.getElem_map, hz]
  obtain ⟨J, hJ⟩ : ∃ J, togE A B 8 = J := ⟨_, rfl⟩
  obtain ⟨V, hVV⟩ : ∃ V, (if togE A B 8 = 0 then cxs (togV A B 8) else []) = V := ⟨_, rfl⟩
  have HJ : Hid (∀ b, zs.all in4 = b → J = (if b then joinE DL DR else 12) ∧ V = (if J = 0 then cxs (DL.zip DR) else [])) := by
    intro b hb
    rw [hb] at hE
    refine ⟨hJ.symm.trans hE, ?_⟩
    rw [← hVV, hV, hJ]
  rw [hVV, hJ]
  have HZL := Lib.hid hzl
  have HA1 := Lib.hid h1
  have HB1 := Lib.hid h2
  have HDl := Lib.hid hDl
  have HDr := Lib.hid hDr
  have HMO := Lib.hid (isMode_calls 8 w)
  have hmB : modeB 8 = true := by decide
  rw [hmB] at HMO
  have hmk : ∀ W : World, Sem.run Try.prog (Instr.makeSlice 22 (.int .i64 (n : Int)) (.int .i64 (n : Int))) W = .ok (.slice (some ⟨W.heap.size, 0, none⟩) n n) (W.alloc (.cells (madeCells #[.int .i64 0] n) 3)) :=
    fun W => run_mk Try.prog 22 3 .i64 8 Try.underlying22 info_i64s .i64 .i64 n n (n : Int) (n : Int) rfl rfl (by omega) (by omega) (by omega) W
  clear hzs hzl hDL hDR hE hV hJ hVV h1 h2 hDl hDr hmB
  go_enter Try.func11, Try.ntmps11
  go_upto_region 5 with (first
    | (go_at_call 14; go_must (with_reducible refine HMO.out.mono ?_); rintro e w1 ⟨rfl, rfl⟩))
  go_cut [8, 9] (fun v8 v9 wx => ∃ gl gr, v8 = .slice (some ⟨gl, 0, none⟩) n n ∧ v9 = .slice (some ⟨gr, 0, none⟩) n n ∧ Hid (LR w1 wx gl gr n (List.replicate n 0) (List.replicate n 0)))
  case first =>
    have HLR : Hid (∀ W, Keeps [] w1 W → LR w1 ((W.alloc (.cells (madeCells #[.int .i64 0] n) 3)).alloc (.cells (madeCells #[.int .i64 0] n) 3)) W.heap.size (W.heap.size + 1) n (List.replicate n 0) (List.replicate n 0) ∧ LR w1 ((W.alloc (.cells (madeCells #[.int .i64 0] n) 3)).alloc (.cells (madeCells #[.int .i64 0] n) 3)) (W.heap.size + 1) W.heap.size n (List.replicate n 0) (List.replicate n 0)) := by
      intro W hk
      have r1 := (Row.made W .i64 3 n (by omega)).keeps ((Keeps.refl [] (W.alloc (.cells (madeCells #[.int .i64 0] n) 3))).alloc (.cells (madeCells #[.int .i64 0] n) 3)) (fun _ _ => by simp)
      have r2 := Row.made (W.alloc (.cells (madeCells #[.int .i64 0] n) 3)) .i64 3 n (by omega)
      rw [World.size_alloc] at r2
      have hs := hk.size
      exact ⟨⟨r1, r2, hs, by omega, by omega, (hk.alloc _).alloc _⟩, ⟨r2, r1, by omega, hs, by omega, (hk.alloc _).alloc _⟩⟩
    go_region
    all_goals
      go_wp2_with fail
      go_meet
      first
        | exact ⟨_, _, rfl, rfl, (HLR.out w1.drew ((Keeps.refl [] w1).drew)).1⟩
        | exact ⟨_, _, rfl, rfl, (HLR.out w1.drew ((Keeps.refl [] w1).drew)).2⟩
  case rest =>
    obtain ⟨gl, gr, rfl, rfl, HLR⟩ := hcut
    obtain ⟨wB, rfl⟩ : ∃ x : World, x = wc := ⟨_, rfl⟩
    clear hmk
    go_wp2_with fail
    go_loopg [37] (n + 1) (fun q v37 wr => ∃ (i : Nat), v37 = .int .i64 i ∧ i ≤ n ∧ Hid ((zs.take i).all in4 = true) ∧ Hid (LR w1 wr gl gr n (DL.take i ++ List.replicate (n - i) 0) (DR.take i ++ List.replicate (n - i) 0)) ∧ Hid (i + q = n + 1))
    case atStart => exact ⟨0, rfl, by omega, (show _ = _ from by simp), (by have := HLR.out; simp only [List.take_zero, List.nil_append, Nat.sub_zero]; exact this), (show _ = _ from by omega)⟩
    case round =>
      obtain ⟨i, rfl, hi, HA, HR, HQ⟩ := hrel
      obtain ⟨q1, rfl⟩ : ∃ g : Nat, g = gk := ⟨_, rfl⟩
      obtain ⟨wi, rfl⟩ : ∃ x : World, x = wr := ⟨_, rfl⟩
      by_cases hlt : i < n
      · have i1 : i < A.length := by rw [HA1.out]; exact hlt
        have i2 : i < B.length := by rw [HB1.out]; exact hlt
        have i3 : i < zs.length := by rw [HZL.out]; exact hlt
        have i4 : i < DL.length := by rw [HDl.out]; exact hlt
        have i5 : i < DR.length := by rw [HDr.out]; exact hlt
        obtain ⟨b1, o1, hb1, hcx⟩ := (hx.out.new HR.out.keep).at_ i i1
        obtain ⟨b2, o2, hb2, hcy⟩ := (hy.out.new HR.out.keep).at_ i i2
        have hz := HZI.out i i3 i1 i2
        have hgl := HGL.out i i4 i1 i2
        have hgr := HGR.out i i5 i1 i2
        have hsl := set_mid DL n i HDl.out hlt i4
        have hsr := set_mid DR n i HDr.out hlt i5
        obtain ⟨x, hxe⟩ : ∃ x, A[i] = x := ⟨_, rfl⟩
        obtain ⟨y, hye⟩ : ∃ y, B[i] = y := ⟨_, rfl⟩
        rw [hxe, hye] at hz hgl hgr
        rw [hxe] at hcx
        rw [hye] at hcy
        rw [hgl] at hsl
        rw [hgr] at hsr
        have htk : zs.take (i + 1) = zs.take i ++ [(x, y)] := by rw [List.take_succ_eq_append_getElem i3, hz]
        have hmem : (x, y) ∈ zs := by rw [← hz]; exact List.getElem_mem _
        have HBAD : Hid (in4 (x, y) = false → J = 12 ∧ V = []) := by
          intro h
          have : zs.all in4 = false := by
            rw [List.all_eq_false]
            exact ⟨(x, y), hmem, by simp [h]⟩
          obtain ⟨q1, q2⟩ := HJ.out false this
          simp only [Bool.false_eq_true, if_false] at q1
          rw [q1, if_neg (by decide)] at q2
          exact ⟨q1, q2⟩
        have HALL : Hid (in4 (x, y) = true → (zs.take (i + 1)).all in4 = true) := by
          intro h
          rw [htk, List.all_append, HA.out]
          simp [h]
        have hll : i < (DL.take i ++ List.replicate (n - i) 0).length := by rw [List.length_append, List.length_take, List.length_replicate, HDl.out]; omega
        have hlr : i < (DR.take i ++ List.replicate (n - i) 0).length := by rw [List.length_append, List.length_take, List.length_replicate, HDr.out]; omega
        obtain ⟨vx, hvx⟩ : ∃ v, wi.cell? ⟨gl, i, none⟩ = some v := ⟨_, HR.out.ra.cell i hll⟩
        obtain ⟨vy, hvy⟩ : ∃ v, wi.cell? ⟨gr, i, none⟩ = some v := ⟨_, HR.out.rb.cell i hlr⟩
        have hfx := HR.out.ra.frozen i
        have hfy := HR.out.rb.frozen i
        have hne := HR.out.ne
        have hne2 := HR.out.ne.symm
        have HST := Lib.hid (HR.out.set i (tgL 8 (x, y)) (tgR 8 (x, y)))
        rw [hsl, hsr] at HST
        subst hb1 hb2
        obtain ⟨mn, hmn⟩ : ∃ mn : Int, (if y < x then y else x) = mn := ⟨_, rfl⟩
        obtain ⟨mx, hmx⟩ : ∃ mx : Int, (if y > x then y else x) = mx := ⟨_, rfl⟩
        clear hxe hye hz htk hmem i1 i2 i3 i4 i5 hgl hgr hsl hsr hll hlr
        by_cases g1 : mn < -67108864
        · obtain ⟨rfl, rfl⟩ := HBAD.out (decide_eq_false (by simp only; split at hmn <;> omega))
          clear HBAD HALL
          go_wp2_with fail
          go_ret2
          exact ⟨_, rfl, RowV.nil _ _, HR.out.keep⟩
        · by_cases g2 : 67108864 < mx
          · obtain ⟨rfl, rfl⟩ := HBAD.out (decide_eq_false (by simp only; split at hmx <;> omega))
            clear HBAD HALL
            go_wp2_with fail
            go_ret2
            exact ⟨_, rfl, RowV.nil _ _, HR.out.keep⟩
          · have hxr : -67108864 ≤ x ∧ x ≤ 67108864 := by split at hmn <;> split at hmx <;> omega
            have hyr : -67108864 ≤ y ∧ y ≤ 67108864 := by split at hmn <;> split at hmx <;> omega
            have HAN := Lib.hid (HALL.out (decide_eq_true ⟨hxr, hyr⟩))
            clear HBAD HALL
            have hL : tgL 8 (x, y) = x := rfl
            have hR : tgR 8 (x, y) = x - y := rfl
            rw [hL, hR] at HST
            clear hL hR
            go_wp2_with fail
            go_roundg (n - i)
            case measure => have := HQ.out; omega
            case rel => exact ⟨i + 1, by go_num, by omega, HAN.out, HST.out, (show _ = _ from by have := HQ.out; omega)⟩
      · obtain rfl : i = n := by omega
        have h5 := HA.out
        have h6 := HR.out
        rw [List.take_of_length_le (by rw [HZL.out]; exact Nat.le_refl _)] at h5
        rw [Nat.sub_self, List.replicate_zero, List.append_nil, List.append_nil, List.take_of_length_le (by rw [HDl.out]; exact Nat.le_refl _), List.take_of_length_le (by rw [HDr.out]; exact Nat.le_refl _)] at h6
        obtain ⟨q1, q2⟩ := HJ.out true h5
        simp only [if_true] at q1
        have hra := h6.ra.rdAt
        have hrb := h6.rb.rdAt
        have HJN := Lib.hid (join_calls DL DR i i HDl.out.symm HDr.out.symm _ _ i i wi (Lib.hid hra) (Lib.hid hrb))
        rw [← q1, ← q2] at HJN
        have HKI := Lib.hid h6.keep
        clear h5 h6 q1 q2 hra hrb
        go_wp2_with (first
          | (go_at_call 6; go_must (with_reducible refine HJN.out.mono ?_); rintro e w5 ⟨v5, rfl, hr5, -, hk5⟩; have HR5 := Lib.hid hr5; have HK5 := Lib.hid (HKI.out.new hk5); clear hr5 hk5))
        go_ret2
        exact ⟨_, rfl, HR5.out, HK5.out⟩

set_option maxHeartbeats 8000000 in
set_option maxRecDepth 100000 in
theorem together_9 (A B : List Int) (n : Nat) (h1 : A.length = n) (h2 : B.length = n) (hn : n ≤ 8192) (a b : Option Addr) (c d : Nat) (w : World) (hx : Hid (Rd w .i64 a A)) (hy : Hid (Rd w .i64 b B)) :
    Calls Try.prog 11 #[.slice a n c, .slice b n d, .int .i64 9] w fun e w' => ∃ v, e = .returned (.tuple #[v, .int .i64 (togE A B 9)]) ∧ RowV w' 37 v (if togE A B 9 = 0 then cxs (togV A B 9) else []) ∧ Keeps [] w w' := by
  obtain ⟨zs, hzs⟩ : ∃ zs, A.zip B = zs := ⟨_, rfl⟩
  have hzl : zs.length = n := by rw [← hzs, List.length_zip]; omega
  have HZI : Hid (∀ i (h : i < zs.length) (h1 : i < A.length) (h2 : i < B.length), zs[i] = (A[i], B[i])) := by
    intro i h h1 h2
    simp [← hzs]
  obtain ⟨DL, hDL⟩ : ∃ DL, zs.map (tgL 9) = DL := ⟨_, rfl⟩
  obtain ⟨DR, hDR⟩ : ∃ DR, zs.map (tgR 9) = DR := ⟨_, rfl⟩
  have hDl : DL.length = n := by rw [← hDL, List.length_map, hzl]
  have hDr : DR.length = n := by rw [← hDR, List.length_map, hzl]
  have hE : togE A B 9 = if zs.all in4 then joinE DL DR else 12 := by unfold togE; rw [hzs, hDL, hDR]
  have hV : togV A B 9 = DL.zip DR := by unfold togV; rw [hzs, hDL, hDR]
  have HGL : Hid (∀ i (h : i < DL.length) (h1 : i < A.length) (h2 : i < B.length), DL[i] = tgL 9 (A[i], B[i])) := by
    intro i h h1 h2
    have hz := HZI.out i (by omega) h1 h2
    subst hDL
    rw [List.getElem_map, hz]
  have HGR : Hid (∀ i (h : i < DR.length) (h1 : i < A.length) (h2 : i < B.length), DR[i] = tgR 9 (A[i], B[i])) := by
    intro i h h1 h2
    have hz := HZI.out i (by omega) h1 h2
    subst hDR
    rw [List.getElem_map, hz]
  obtain ⟨J, hJ⟩ : ∃ J, togE A B 9 = J := ⟨_, rfl⟩
  obtain ⟨V, hVV⟩ : ∃ V, (if togE A B 9 = 0 then cxs (togV A B 9) else []) = V := ⟨_, rfl⟩
  have HJ : Hid (∀ b, zs.all in4 = b → J = (if b then joinE DL DR else 12) ∧ V = (if J = 0 then cxs (DL.zip DR) else [])) := by
    intro b hb
    rw [hb] at hE
    refine ⟨hJ.symm.trans hE, ?_⟩
    rw [← hVV, hV, hJ]
  rw [hVV, hJ]
  have HZL := Lib.hid hzl
  have HA1 := Lib.hid h1
  have HB1 := Lib.hid h2
  have HDl := Lib.hid hDl
  have HDr := Lib.hid hDr
  have HMO := Lib.hid (isMode_calls 9 w)
  have hmB : modeB 9 = true := by decide
  rw [hmB] at HMO
  have hmk : ∀ W : World, Sem.run Try.prog (Instr.makeSlice 22 (.int .i64 (n : Int)) (.int .i64 (n : Int))) W = .ok (.slice (some ⟨W.heap.size, 0, none⟩) n n) (W.alloc (.cells (madeCells #[.int .i64 0] n) 3)) :=
    fun W => run_mk Try.prog 22 3 .i64 8 Try.underlying22 info_i64s .i64 .i64 n n (n : Int) (n : Int) rfl rfl (by omega) (by omega) (by omega) W
  clear hzs hzl hDL hDR hE hV hJ hVV h1 h2 hDl hDr hmB
  go_enter Try.func11, Try.ntmps11
  go_upto_region 5 with (first
    | (go_at_call 14; go_must (with_reducible refine HMO.out.mono ?_); rintro e w1 ⟨rfl, rfl⟩))
  go_cut [8, 9] (fun v8 v9 wx => ∃ gl gr, v8 = .slice (some ⟨gl, 0, none⟩) n n ∧ v9 = .slice (some ⟨gr, 0, none⟩) n n ∧ Hid (LR w1 wx gl gr n (List.replicate n 0) (List.replicate n 0)))
  case first =>
    have HLR : Hid (∀ W, Keeps [] w1 W → LR w1 ((W.alloc (.cells (madeCells #[.int .i64 0] n) 3)).alloc (.cells (madeCells #[.int .i64 0] n) 3)) W.heap.size (W.heap.size + 1) n (List.replicate n 0) (List.replicate n 0) ∧ LR w1 ((W.alloc (.cells (madeCells #[.int .i64 0] n) 3)).alloc (.cells (madeCells #[.int .i64 0] n) 3)) (W.heap.size + 1) W.heap.size n (List.replicate n 0) (List.replicate n 0)) := by
      intro W hk
      have r1 := (Row.made W .i64 3 n (by omega)).keeps ((Keeps.refl [] (W.alloc (.cells (madeCells #[.int .i64 0] n) 3))).alloc (.cells (madeCells #[.int .i64 0] n) 3)) (fun _ _ => by simp)
      have r2 := Row.made (W.alloc (.cells (madeCells #[.int .i64 0] n) 3)) .i64 3 n (by omega)
      rw [World.size_alloc] at r2
      have hs := hk.size
      exact ⟨⟨r1, r2, hs, by omega, by omega, (hk.alloc _).alloc _⟩, ⟨r2, r1, by omega, hs, by omega, (hk.alloc _).alloc _⟩⟩
    go_region
    all_goals
      go_wp2_with fail
      go_meet
      first
        | exact ⟨_, _, rfl, rfl, (HLR.out w1.drew ((Keeps.refl [] w1).drew)).1⟩
        | exact ⟨_, _, rfl, rfl, (HLR.out w1.drew ((Keeps.refl [] w1).drew)).2⟩
  case rest =>
    obtain ⟨gl, gr, rfl, rfl, HLR⟩ := hcut
    obtain ⟨wB, rfl⟩ : ∃ x : World, x = wc := ⟨_, rfl⟩
    clear hmk
    go_wp2_with fail
    go_loopg [37] (n + 1) (fun q v37 wr => ∃ (i : Nat), v37 = .int .i64 i ∧ i ≤ n ∧ Hid ((zs.take i).all in4 = true) ∧ Hid (LR w1 wr gl gr n (DL.take i ++ List.replicate (n - i) 0) (DR.take i ++ List.replicate (n - i) 0)) ∧ Hid (i + q = n + 1))
    case atStart => exact ⟨0, rfl, by omega, (show _ = _ from by simp), (by have := HLR.out; simp only [List.take_zero, List.nil_append, Nat.sub_zero]; exact this), (show _ = _ from by omega)⟩
    case round =>
      obtain ⟨i, rfl, hi, HA, HR, HQ⟩ := hrel
      obtain ⟨q1, rfl⟩ : ∃ g : Nat, g = gk := ⟨_, rfl⟩
      obtain ⟨wi, rfl⟩ : ∃ x : World, x = wr := ⟨_, rfl⟩
      by_cases hlt : i < n
      · have i1 : i < A.length := by rw [HA1.out]; exact hlt
        have i2 : i < B.length := by rw [HB1.out]; exact hlt
        have i3 : i < zs.length := by rw [HZL.out]; exact hlt
        have i4 : i < DL.length := by rw [HDl.out]; exact hlt
        have i5 : i < DR.length := by rw [HDr.out]; exact hlt
        obtain ⟨b1, o1, hb1, hcx⟩ := (hx.out.new HR.out.keep).at_ i i1
        obtain ⟨b2, o2, hb2, hcy⟩ := (hy.out.new HR.out.keep).at_ i i2
        have hz := HZI.out i i3 i1 i2
        have hgl := HGL.out i i4 i1 i2
        have hgr := HGR.out i i5 i1 i2
        have hsl := set_mid DL n i HDl.out hlt i4
        have hsr := set_mid DR n i HDr.out hlt i5
        obtain ⟨x, hxe⟩ : ∃ x, A[i] = x := ⟨_, rfl⟩
        obtain ⟨y, hye⟩ : ∃ y, B[i] = y := ⟨_, rfl⟩
        rw [hxe, hye] at hz hgl hgr
        rw [hxe] at hcx
        rw [hye] at hcy
        rw [hgl] at hsl
        rw [hgr] at hsr
        have htk : zs.take (i + 1) = zs.take i ++ [(x, y)] := by rw [List.take_succ_eq_append_getElem i3, hz]
        have hmem : (x, y) ∈ zs := by rw [← hz]; exact List.getElem_mem _
        have HBAD : Hid (in4 (x, y) = false → J = 12 ∧ V = []) := by
          intro h
          have : zs.all in4 = false := by
            rw [List.all_eq_false]
            exact ⟨(x, y), hmem, by simp [h]⟩
          obtain ⟨q1, q2⟩ := HJ.out false this
          simp only [Bool.false_eq_true, if_false] at q1
          rw [q1, if_neg (by decide)] at q2
          exact ⟨q1, q2⟩
        have HALL : Hid (in4 (x, y) = true → (zs.take (i + 1)).all in4 = true) := by
          intro h
          rw [htk, List.all_append, HA.out]
          simp [h]
        have hll : i < (DL.take i ++ List.replicate (n - i) 0).length := by rw [List.length_append, List.length_take, List.length_replicate, HDl.out]; omega
        have hlr : i < (DR.take i ++ List.replicate (n - i) 0).length := by rw [List.length_append, List.length_take, List.length_replicate, HDr.out]; omega
        obtain ⟨vx, hvx⟩ : ∃ v, wi.cell? ⟨gl, i, none⟩ = some v := ⟨_, HR.out.ra.cell i hll⟩
        obtain ⟨vy, hvy⟩ : ∃ v, wi.cell? ⟨gr, i, none⟩ = some v := ⟨_, HR.out.rb.cell i hlr⟩
        have hfx := HR.out.ra.frozen i
        have hfy := HR.out.rb.frozen i
        have hne := HR.out.ne
        have hne2 := HR.out.ne.symm
        have HST := Lib.hid (HR.out.set i (tgL 9 (x, y)) (tgR 9 (x, y)))
        rw [hsl, hsr] at HST
        subst hb1 hb2
        obtain ⟨mn, hmn⟩ : ∃ mn : Int, (if y < x then y else x) = mn := ⟨_, rfl⟩
        obtain ⟨mx, hmx⟩ : ∃ mx : Int, (if y > x then y else x) = mx := ⟨_, rfl⟩
        clear hxe hye hz htk hmem i1 i2 i3 i4 i5 hgl hgr hsl hsr hll hlr
        by_cases g1 : mn < -67108864
        · obtain ⟨rfl, rfl⟩ := HBAD.out (decide_eq_false (by simp only; split at hmn <;> omega))
          clear HBAD HALL
          go_wp2_with fail
          go_ret2
          exact ⟨_, rfl, RowV.nil _ _, HR.out.keep⟩
        · by_cases g2 : 67108864 < mx
          · obtain ⟨rfl, rfl⟩ := HBAD.out (decide_eq_false (by simp only; split at hmx <;> omega))
            clear HBAD HALL
            go_wp2_with fail
            go_ret2
            exact ⟨_, rfl, RowV.nil _ _, HR.out.keep⟩
          · have hxr : -67108864 ≤ x ∧ x ≤ 67108864 := by split at hmn <;> split at hmx <;> omega
            have hyr : -67108864 ≤ y ∧ y ≤ 67108864 := by split at hmn <;> split at hmx <;> omega
            have HAN := Lib.hid (HALL.out (decide_eq_true ⟨hxr, hyr⟩))
            clear HBAD HALL
            have hL : tgL 9 (x, y) = x + y := rfl
            have hR : tgR 9 (x, y) = y := rfl
            rw [hL, hR] at HST
            clear hL hR
            go_wp2_with fail
            go_roundg (n - i)
            case measure => have := HQ.out; omega
            case rel => exact ⟨i + 1, by go_num, by omega, HAN.out, HST.out, (show _ = _ from by have := HQ.out; omega)⟩
      · obtain rfl : i = n := by omega
        have h5 := HA.out
        have h6 := HR.out
        rw [List.take_of_length_le (by rw [HZL.out]; exact Nat.le_refl _)] at h5
        rw [Nat.sub_self, List.replicate_zero, List.append_nil, List.append_nil, List.take_of_length_le (by rw [HDl.out]; exact Nat.le_refl _), List.take_of_length_le (by rw [HDr.out]; exact Nat.le_refl _)] at h6
        obtain ⟨q1, q2⟩ := HJ.out true h5
        simp only [if_true] at q1
        have hra := h6.ra.rdAt
        have hrb := h6.rb.rdAt
        have HJN := Lib.hid (join_calls DL DR i i HDl.out.symm HDr.out.symm _ _ i i wi (Lib.hid hra) (Lib.hid hrb))
        rw [← q1, ← q2] at HJN
        have HKI := Lib.hid h6.keep
        clear h5 h6 q1 q2 hra hrb
        go_wp2_with (first
          | (go_at_call 6; go_must (with_reducible refine HJN.out.mono ?_); rintro e w5 ⟨v5, rfl, hr5, -, hk5⟩; have HR5 := Lib.hid hr5; have HK5 := Lib.hid (HKI.out.new hk5); clear hr5 hk5))
        go_ret2
        exact ⟨_, rfl, HR5.out, HK5.out⟩

set_option maxHeartbeats 8000000 in
set_option maxRecDepth 100000 in
theorem together_10 (A B : List Int) (n : Nat) (h1 : A.length = n) (h2 : B.length = n) (hn : n ≤ 8192) (a b : Option Addr) (c d : Nat) (w : World) (hx : Hid (Rd w .i64 a A)) (hy : Hid (Rd w .i64 b B)) :
    Calls Try.prog 11 #[.slice a n c, .slice b n d, .int .i64 10] w fun e w' => ∃ v, e = .returned (.tuple #[v, .int .i64 (togE A B 10)]) ∧ RowV w' 37 v (if togE A B 10 = 0 then cxs (togV A B 10) else []) ∧ Keeps [] w w' := by
  obtain ⟨zs, hzs⟩ : ∃ zs, A.zip B = zs := ⟨_, rfl⟩
  have hzl : zs.length = n := by rw [← hzs, List.length_zip]; omega
  have HZI : Hid (∀ i (h : i < zs.length) (h1 : i < A.length) (h2 : i < B.length), zs[i] = (A[i], B[i])) := by
    intro i h h1 h2
    simp [← hzs]
  obtain ⟨DL, hDL⟩ : ∃ DL, zs.map (tgL 10) = DL := ⟨_, rfl⟩
  obtain ⟨DR, hDR⟩ : ∃ DR, zs.map (tgR 10) = DR := ⟨_, rfl⟩
  have hDl : DL.length = n := by rw [← hDL, List.length_map, hzl]
  have hDr : DR.length = n := by rw [← hDR, List.length_map, hzl]
  have hE : togE A B 10 = if zs.all in4 then joinE DL DR else 12 := by unfold togE; rw [hzs, hDL, hDR]
  have hV : togV A B 10 = DL.zip DR := by unfold togV; rw [hzs, hDL, hDR]
  have HGL : Hid (∀ i (h : i < DL.length) (h1 : i < A.length) (h2 : i < B.length), DL[i] = tgL 10 (A[i], B[i])) := by
    intro i h h1 h2
    have hz := HZI.out i (by omega) h1 h2
    subst hDL
    rw [List.getElem_map, hz]
  have HGR : Hid (∀ i (h : i < DR.length) (h1 : i < A.length) (h2 : i < B.length), DR[i] = tgR 10 (A[i], B[i])) := by
    intro i h h1 h2
    have hz := HZI.out i (by omega) h1 h2
    subst hDR
    rw [List.getElem_map, hz]
  obtain ⟨J, hJ⟩ : ∃ J, togE A B 10 = J := ⟨_, rfl⟩
  obtain ⟨V, hVV⟩ : ∃ V, (if togE A B 10 = 0 then cxs (togV A B 10) else []) = V := ⟨_, rfl⟩
  have HJ : Hid (∀ b, zs.all in4 = b → J = (if b then joinE DL DR else 12) ∧ V = (if J = 0 then cxs (DL.zip DR) else [])) := by
    intro b hb
    rw [hb] at hE
    refine ⟨hJ.symm.trans hE, ?_⟩
    rw [← hVV, hV, hJ]
  rw [hVV, hJ]
  have HZL := Lib.hid hzl
  have HA1 := Lib.hid h1
  have HB1 := Lib.hid h2
  have HDl := Lib.hid hDl
  have HDr := Lib.hid hDr
  have HMO := Lib.hid (isMode_calls 10 w)
  have hmB : modeB 10 = true := by decide
  rw [hmB] at HMO
  have hmk : ∀ W : World, Sem.run Try.prog (Instr.makeSlice 22 (.int .i64 (n : Int)) (.int .i64 (n : Int))) W = .ok (.slice (some ⟨W.heap.size, 0, none⟩) n n) (W.alloc (.cells (madeCells #[.int .i64 0] n) 3)) :=
    fun W => run_mk Try.prog 22 3 .i64 8 Try.underlying22 info_i64s .i64 .i64 n n (n : Int) (n : Int) rfl rfl (by omega) (by omega) (by omega) W
  clear hzs hzl hDL hDR hE hV hJ hVV h1 h2 hDl hDr hmB
  go_enter Try.func11, Try.ntmps11
  go_upto_region 5 with (first
    | (go_at_call 14; go_must (with_reducible refine HMO.out.mono ?_); rintro e w1 ⟨rfl, rfl⟩))
  go_cut [8, 9] (fun v8 v9 wx => ∃ gl gr, v8 = .slice (some ⟨gl, 0, none⟩) n n ∧ v9 = .slice (some ⟨gr, 0, none⟩) n n ∧ Hid (LR w1 wx gl gr n (List.replicate n 0) (List.replicate n 0)))
  case first =>
    have HLR : Hid (∀ W, Keeps [] w1 W → LR w1 ((W.alloc (.cells (madeCells #[.int .i64 0] n) 3)).alloc (.cells (madeCells #[.int .i64 0] n) 3)) W.heap.size (W.heap.size + 1) n (List.replicate n 0) (List.replicate n 0) ∧ LR w1 ((W.alloc (.cells (madeCells #[.int .i64 0] n) 3)).alloc (.cells (madeCells #[.int .i64 0] n) 3)) (W.heap.size + 1) W.heap.size n (List.replicate n 0) (List.replicate n 0)) := by
      intro W hk
      have r1 := (Row.made W .i64 3 n (by omega)).keeps ((Keeps.refl [] (W.alloc (.cells (madeCells #[.int .i64 0] n) 3))).alloc (.cells (madeCells #[.int .i64 0] n) 3)) (fun _ _ => by simp)
      have r2 := Row.made (W.alloc (.cells (madeCells #[.int .i64 0] n) 3)) .i64 3 n (by omega)
      rw [World.size_alloc] at r2
      have hs := hk.size
      exact ⟨⟨r1, r2, hs, by omega, by omega, (hk.alloc _).alloc _⟩, ⟨r2, r1, by omega, hs, by omega, (hk.alloc _).alloc _⟩⟩
    go_region
    all_goals
      go_wp2_with fail
      go_meet
      first
        | exact ⟨_, _, rfl, rfl, (HLR.out w1.drew ((Keeps.refl [] w1).drew)).1⟩
        | exact ⟨_, _, rfl, rfl, (HLR.out w1.drew ((Keeps.refl [] w1).drew)).2⟩
  case rest =>
    obtain ⟨gl, gr, rfl, rfl, HLR⟩ := hcut
    obtain ⟨wB, rfl⟩ : ∃ x : World, x = wc := ⟨_, rfl⟩
    clear hmk
    go_wp2_with fail
    go_loopg [37] (n + 1) (fun q v37 wr => ∃ (i : Nat), v37 = .int .i64 i ∧ i ≤ n ∧ Hid ((zs.take i).all in4 = true) ∧ Hid (LR w1 wr gl gr n (DL.take i ++ List.replicate (n - i) 0) (DR.take i ++ List.replicate (n - i) 0)) ∧ Hid (i + q = n + 1))
    case atStart => exact ⟨0, rfl, by omega, (show _ = _ from by simp), (by have := HLR.out; simp only [List.take_zero, List.nil_append, Nat.sub_zero]; exact this), (show _ = _ from by omega)⟩
    case round =>
      obtain ⟨i, rfl, hi, HA, HR, HQ⟩ := hrel
      obtain ⟨q1, rfl⟩ : ∃ g : Nat, g = gk := ⟨_, rfl⟩
      obtain ⟨wi, rfl⟩ : ∃ x : World, x = wr := ⟨_, rfl⟩
      by_cases hlt : i < n
      · have i1 : i < A.length := by rw [HA1.out]; exact hlt
        have i2 : i < B.length := by rw [HB1.out]; exact hlt
        have i3 : i < zs.length := by rw [HZL.out]; exact hlt
        have i4 : i < DL.length := by rw [HDl.out]; exact hlt
        have i5 : i < DR.length := by rw [HDr.out]; exact hlt
        obtain ⟨b1, o1, hb1, hcx⟩ := (hx.out.new HR.out.keep).at_ i i1
        obtain ⟨b2, o2, hb2, hcy⟩ := (hy.out.new HR.out.keep).at_ i i2
        have hz := HZI.out i i3 i1 i2
        have hgl := HGL.out i i4 i1 i2
        have hgr := HGR.out i i5 i1 i2
        have hsl := set_mid DL n i HDl.out hlt i4
        have hsr := set_mid DR n i HDr.out hlt i5
        obtain ⟨x, hxe⟩ : ∃ x, A[i] = x := ⟨_, rfl⟩
        obtain ⟨y, hye⟩ : ∃ y, B[i] = y := ⟨_, rfl⟩
        rw [hxe, hye] at hz hgl hgr
        rw [hxe] at hcx
        rw [hye] at hcy
        rw [hgl] at hsl
        rw [hgr] at hsr
        have htk : zs.take (i + 1) = zs.take i ++ [(x, y)] := by rw [List.take_succ_eq_append_getElem i3, hz]
        have hmem : (x, y) ∈ zs := by rw [← hz]; exact List.getElem_mem _
        have HBAD : Hid (in4 (x, y) = false → J = 12 ∧ V = []) := by
          intro h
          have : zs.all in4 = false := by
            rw [List.all_eq_false]
            exact ⟨(x, y), hmem, by simp [h]⟩
          obtain ⟨q1, q2⟩ := HJ.out false this
          simp only [Bool.false_eq_true, if_false] at q1
          rw [q1, if_neg (by decide)] at q2
          exact ⟨q1, q2⟩
        have HALL : Hid (in4 (x, y) = true → (zs.take (i + 1)).all in4 = true) := by
          intro h
          rw [htk, List.all_append, HA.out]
          simp [h]
        have hll : i < (DL.take i ++ List.replicate (n - i) 0).length := by rw [List.length_append, List.length_take, List.length_replicate, HDl.out]; omega
        have hlr : i < (DR.take i ++ List.replicate (n - i) 0).length := by rw [List.length_append, List.length_take, List.length_replicate, HDr.out]; omega
        obtain ⟨vx, hvx⟩ : ∃ v, wi.cell? ⟨gl, i, none⟩ = some v := ⟨_, HR.out.ra.cell i hll⟩
        obtain ⟨vy, hvy⟩ : ∃ v, wi.cell? ⟨gr, i, none⟩ = some v := ⟨_, HR.out.rb.cell i hlr⟩
        have hfx := HR.out.ra.frozen i
        have hfy := HR.out.rb.frozen i
        have hne := HR.out.ne
        have hne2 := HR.out.ne.symm
        have HST := Lib.hid (HR.out.set i (tgL 10 (x, y)) (tgR 10 (x, y)))
        rw [hsl, hsr] at HST
        subst hb1 hb2
        obtain ⟨mn, hmn⟩ : ∃ mn : Int, (if y < x then y else x) = mn := ⟨_, rfl⟩
        obtain ⟨mx, hmx⟩ : ∃ mx : Int, (if y > x then y else x) = mx := ⟨_, rfl⟩
        clear hxe hye hz htk hmem i1 i2 i3 i4 i5 hgl hgr hsl hsr hll hlr
        by_cases g1 : mn < -67108864
        · obtain ⟨rfl, rfl⟩ := HBAD.out (decide_eq_false (by simp only; split at hmn <;> omega))
          clear HBAD HALL
          go_wp2_with fail
          go_ret2
          exact ⟨_, rfl, RowV.nil _ _, HR.out.keep⟩
        · by_cases g2 : 67108864 < mx
          · obtain ⟨rfl, rfl⟩ := HBAD.out (decide_eq_false (by simp only; split at hmx <;> omega))
            clear HBAD HALL
            go_wp2_with fail
            go_ret2
            exact ⟨_, rfl, RowV.nil _ _, HR.out.keep⟩
          · have hxr : -67108864 ≤ x ∧ x ≤ 67108864 := by split at hmn <;> split at hmx <;> omega
            have hyr : -67108864 ≤ y ∧ y ≤ 67108864 := by split at hmn <;> split at hmx <;> omega
            have HAN := Lib.hid (HALL.out (decide_eq_true ⟨hxr, hyr⟩))
            clear HBAD HALL
            have hand : bits .and .i64 y 1 = y % 2 := and_one y
            have hor : bits .or .i64 (x * 2) (y % 2) = x * 2 + y % 2 := or_even x (y % 2) (by omega) (by omega)
            have hL : tgL 10 (x, y) = (x * 2 + y % 2 + y) / 2 := by show (2 * x + y % 2 + y) / 2 = _; rw [Int.mul_comm]
            have hR : tgR 10 (x, y) = (x * 2 + y % 2 - y) / 2 := by show (2 * x + y % 2 - y) / 2 = _; rw [Int.mul_comm]
            rw [hL, hR] at HST
            go_wp2_with fail
            go_roundg (n - i)
            case measure => have := HQ.out; omega
            case rel => exact ⟨i + 1, by go_num, by omega, HAN.out, HST.out, (show _ = _ from by have := HQ.out; omega)⟩
      · obtain rfl : i = n := by omega
        have h5 := HA.out
        have h6 := HR.out
        rw [List.take_of_length_le (by rw [HZL.out]; exact Nat.le_refl _)] at h5
        rw [Nat.sub_self, List.replicate_zero, List.append_nil, List.append_nil, List.take_of_length_le (by rw [HDl.out]; exact Nat.le_refl _), List.take_of_length_le (by rw [HDr.out]; exact Nat.le_refl _)] at h6
        obtain ⟨q1, q2⟩ := HJ.out true h5
        simp only [if_true] at q1
        have hra := h6.ra.rdAt
        have hrb := h6.rb.rdAt
        have HJN := Lib.hid (join_calls DL DR i i HDl.out.symm HDr.out.symm _ _ i i wi (Lib.hid hra) (Lib.hid hrb))
        rw [← q1, ← q2] at HJN
        have HKI := Lib.hid h6.keep
        clear h5 h6 q1 q2 hra hrb
        go_wp2_with (first
          | (go_at_call 6; go_must (with_reducible refine HJN.out.mono ?_); rintro e w5 ⟨v5, rfl, hr5, -, hk5⟩; have HR5 := Lib.hid hr5; have HK5 := Lib.hid (HKI.out.new hk5); clear hr5 hk5))
        go_ret2
        exact ⟨_, rfl, HR5.out, HK5.out⟩
end Go.Proofs.Ytildkehbogmceaa
