/-
  The statement BitsPieces of layer 3: the walk.
-/
import Derived.Test.YtlnpajnejapckaaBits8
import Derived.Test.YtlnpajnejapckaaIn
set_option linter.unusedVariables false
set_option linter.unusedSimpArgs false
namespace Go.Proofs.Ytlnpajnejapckaa
open Go.RowKit Go.Proofs.Ytlnpajnejapckaa.Pure

theorem u64_modP (a : Int) (m : Nat) (h0 : 0 < m) (h1 : m ≤ 4611686018427387904) : ∃ k : Nat, k < m ∧ wrap64 ((IntKind.u64.wrap a).tmod m) = k := by
  have e : IntKind.u64.wrap a = a % 18446744073709551616 := IntKind.wrap_u64 a
  have h2 : 0 ≤ IntKind.u64.wrap a := by rw [e]; omega
  rw [Int.tmod_eq_emod_of_nonneg h2]
  have h3 := Int.emod_nonneg (IntKind.u64.wrap a) (show (m : Int) ≠ 0 by omega)
  have h4 := Int.emod_lt_of_pos (IntKind.u64.wrap a) (show (0 : Int) < m by omega)
  refine ⟨((IntKind.u64.wrap a) % m).toNat, by omega, ?_⟩
  unfold wrap64
  omega

theorem wrapB (x : Int) (h0 : -9223372036854775808 ≤ x) (h1 : x ≤ 9223372036854775807) : wrap64 x = x := by unfold wrap64; omega
theorem put_ok (n k : Nat) (h : n < 2 ^ k) (hk : k ≤ 32) : putE n k = 0 ∧ putB n k = bitsN k n := by
  have h1 : putE n k = 0 := by
    unfold putE
    rw [if_neg (by omega), if_neg]
    rw [Int.toNat_natCast]
    rintro (h1 | h1)
    · omega
    · apply h1
      have : ((n : Nat) : Int) / ((2 ^ k : Nat) : Int) = ((n / 2 ^ k : Nat) : Int) := by simp
      rw [Nat.div_eq_of_lt h] at this
      simpa using this
  refine ⟨h1, ?_⟩
  unfold putB
  rw [if_pos h1]
  rfl

theorem pieces_read (L : List Bool) (hl : L.length = 32) (o o2 : Nat) (h : o + o2 = 32) : ∃ a b U : Nat, (gtE (o : Int) (restB (pack L) 0) = 0 ∧ gtN (o : Int) (restB (pack L) 0) = a ∧ gtT (o : Int) (restB (pack L) 0) = o) ∧
    (gtE (o2 : Int) (restB (pack L) (0 + o)) = 0 ∧ gtN (o2 : Int) (restB (pack L) (0 + o)) = b ∧ gtT (o2 : Int) (restB (pack L) (0 + o)) = o2) ∧ (pack L).length ≤ 1000000000000 ∧ 8 * (pack L).length - (0 + o + o2) = 0 ∧ (a : Int) * 2 ^ o2 = (U : Int) ∧ U + b = val L := by
  have e0 : unpack (pack L) = L := by rw [unpack_pack, hl]; simp
  have e1 : restB (pack L) 0 = L := by unfold restB; rw [e0]; rfl
  have e2 : restB (pack L) (0 + o) = L.drop o := by unfold restB; rw [e0, Nat.zero_add]
  have hpl : (pack L).length = 4 := by rw [pack_length, hl]
  have hdl : (L.drop o).length = o2 := by rw [List.length_drop]; omega
  rw [e1, e2]
  obtain ⟨a1, a2, a3⟩ := gt_ok (k := o) (R := L) (by omega) (by omega)
  obtain ⟨b1, b2, b3⟩ := gt_ok (k := o2) (R := L.drop o) (by omega) (by omega)
  refine ⟨_, _, val (L.take o) * 2 ^ o2, ⟨a1, a2, a3⟩, ⟨b1, b2, b3⟩, by omega, by omega, by simp, ?_⟩
  rw [List.take_of_length_le (show (L.drop o).length ≤ o2 by omega)]
  have := val_append (L.take o) (L.drop o)
  rw [List.take_append_drop, hdl] at this
  exact this.symm

set_option maxHeartbeats 40000000 in
set_option maxRecDepth 100000 in
theorem bitsPieces_walk (a0 a1 a2 : Int) (w : World) (w0 : (Lit.int .i64 a0).wf = true) (w1 : (Lit.int .i64 a1).wf = true) (w2 : (Lit.int .i64 a2).wf = true) :
    Calls Try.prog 4 #[.int .i64 a0, .int .i64 a1, .int .i64 a2] w fun e w' => e = .returned (.bool true) ∧ Below w.heap.size w w' := by
  clear w0 w1 w2
  obtain ⟨N, hN, hNe⟩ := u64_modP a0 4294967296 (by omega) (by omega)
  obtain ⟨c, hc, hce⟩ := u64_modP a1 33 (by omega) (by omega)
  obtain ⟨o, ho, hoe⟩ := u64_modP a2 33 (by omega) (by omega)
  rw [show ((33 : Nat) : Int) = 33 from rfl] at hce hoe
  rw [show ((4294967296 : Nat) : Int) = 4294967296 from rfl] at hNe
  obtain ⟨d, hd⟩ : ∃ d : Nat, c + d = 32 := ⟨32 - c, by omega⟩
  obtain ⟨o2, ho2⟩ : ∃ o2 : Nat, o + o2 = 32 := ⟨32 - o, by omega⟩
  have hd' : (32 : Int) - (c : Int) = (d : Int) := by omega
  have ho' : (32 : Int) - (o : Int) = (o2 : Int) := by omega
  have HK : Hid (Keeps [] w w) := Keeps.refl _ _
  have hdl : d ≤ 32 := by omega
  have hcl : c ≤ 32 := by omega
  have h2d : 2 ^ d ≤ 2 ^ 32 := Nat.pow_le_pow_right (by omega) hdl
  have h2p : 0 < 2 ^ d := Nat.pow_pos (by omega)
  obtain ⟨D, hD⟩ : ∃ D : Nat, 2 ^ d = D := ⟨_, rfl⟩
  have hDi : (2 : Int) ^ d = (D : Int) := by rw [← hD]; simp
  obtain ⟨x1, x2⟩ := put_ok N 32 (by omega) (by omega)
  have x1 : putE (N : Int) 32 = 0 := x1
  have x2 : putB (N : Int) 32 = bitsN 32 N := x2
  have hAc : N / 2 ^ d < 2 ^ c := by
    rw [Nat.div_lt_iff_lt_mul h2p, ← Nat.pow_add, hd]; omega
  have hBd : N % 2 ^ d < 2 ^ d := Nat.mod_lt _ h2p
  obtain ⟨y1, y2⟩ := put_ok (N / 2 ^ d) c hAc hcl
  obtain ⟨z1, z2⟩ := put_ok (N % 2 ^ d) d hBd hdl
  have hL : ([] ++ bitsN c (N / 2 ^ d)) ++ bitsN d (N % 2 ^ d) = bitsN 32 N := by
    rw [bitsN_mod, List.nil_append, ← bitsN_append, hd]
  have hbAnd := and_mask d (by omega) (N : Int)
  have hbAnd2 : bits .and .i64 (N : Int) ((D : Int) - 1) = ((N % 2 ^ d : Nat) : Int) := by rw [← hDi, hbAnd, hDi, hD]; simp
  have hshr : (N : Int) / (D : Int) = ((N / 2 ^ d : Nat) : Int) := by rw [hD]; simp
  have hLl := bitsN_length 32 N
  have hAm : N / 2 ^ d ≤ N := Nat.div_le_self _ _
  have hBm : N % 2 ^ d ≤ N := Nat.mod_le _ _
  have hD32 : D ≤ 2 ^ 32 := by rw [← hD]; exact h2d
  rw [← y2, ← z2] at hL
  rw [hD] at y1 y2 z1 z2 hL hbAnd2 hshr hAm hBm
  generalize N / D = A at *
  generalize N % D = B at *
  have hNr : Hid (-9223372036854775808 ≤ (N : Int) ∧ (N : Int) ≤ 9223372036854775807) := by show _ ∧ _; omega
  have hAr : Hid (-9223372036854775808 ≤ (A : Int) ∧ (A : Int) ≤ 9223372036854775807) := by show _ ∧ _; omega
  have hBr : Hid (-9223372036854775808 ≤ (B : Int) ∧ (B : Int) ≤ 9223372036854775807) := by show _ ∧ _; omega
  have hb1 : -9223372036854775808 ≤ (D : Int) := by omega
  have hb2 : (D : Int) ≤ 9223372036854775807 := by omega
  have hb3 : -9223372036854775808 ≤ (D : Int) - 1 := by omega
  have hb4 : (D : Int) - 1 ≤ 9223372036854775807 := by omega
  have hwd : IntKind.i64.wrap (d : Int) = (d : Int) := wraps_i64 _ (by omega) (by omega)
  have hwD : IntKind.i64.wrap (D : Int) = (D : Int) := wraps_i64 _ (by omega) (by omega)
  have hwE : IntKind.i64.wrap ((D : Int) - 1) = (D : Int) - 1 := IntWalk.i64_in _ ⟨hb3, hb4⟩
  have hd0 : (0 : Int) ≤ (d : Int) := by omega
  clear hbAnd hAc hBd
  have X1 := Lib.hid x1
  have X2 := Lib.hid x2
  have Y1 := Lib.hid y1
  have Y2 := Lib.hid y2
  have Z1 := Lib.hid z1
  have Z2 := Lib.hid z2
  obtain ⟨L, hLe⟩ : ∃ L, bitsN 32 N = L := ⟨_, rfl⟩
  rw [hLe] at X2 hL hLl
  have HL := Lib.hid hL
  have HLL := Lib.hid hLl
  have HLE := Lib.hid hLe
  obtain ⟨S, hS⟩ : ∃ S, strOfNums (pack L) = S := ⟨_, rfl⟩
  have HS := Lib.hid hS
  obtain ⟨a, b, U, ⟨g1, g2, g3⟩, ⟨g4, g5, g6⟩, g7, g8, hsl, hub⟩ := pieces_read L hLl o o2 ho2
  have hvl : val L = N := by rw [← hLe, val_bitsN]; exact Nat.mod_eq_of_lt hN
  rw [hvl] at hub
  have G1 := Lib.hid g1
  have G2 := Lib.hid g2
  have G3 := Lib.hid g3
  have G4 := Lib.hid g4
  have G5 := Lib.hid g5
  have G6 := Lib.hid g6
  have G7 := Lib.hid g8
  have HPL2 := Lib.hid g7
  have hUb : (U : Int) + (b : Int) = (N : Int) := by omega
  have ho0 : (0 : Int) ≤ (o2 : Int) := by omega
  have hUl : (U : Int) ≤ 4294967296 := by omega
  clear g1 g2 g3 g4 g5 g6 g7 g8 hub hvl
  clear hL hLl hLe hS hD hAm hBm h2d h2p hD32 hb1 hb2 hb3 hb4 y1 y2 z1 z2 x1 x2
  go_enter Try.func4, Try.ntmps4
  go_upto_region 5 with (first
    | (go_at_call 9; go_must (refine (bknown_calls _).mono ?_); rintro e w1 ⟨rfl, hk1⟩; replace HK : Hid (Keeps [] w w1) := HK.out.new hk1; clear hk1))
  rw [hNe, hce, hoe]
  clear hNe hce hoe
  go_upto_region 6 with (first
    | (go_at_call 10; with_reducible refine (ws2_new w _ HW1).mono ?_; rintro e w2 ⟨q, rfl, hW2, -⟩; have HW2 := Lib.hid hW2; clear hW2)
    | (go_at_call 10; go_must (refine (wsNew w _ HK).mono ?_); rintro e w1 ⟨p, rfl, hW1, -, -⟩; have HW1 := Lib.hid hW1; clear hW1))
  have HWd : Hid (WS2 w w2.drew p [] q []) := HW2.out.new (Keeps.refl [] w2).drew
  clear HK HW1 HW2
  go_cut [65] (fun c6 wx => c6 = .bool false ∧ Hid (WS2 w wx q L p L))
  case first =>
    refine wp_region_any (by kernel_rfl) ?_
    change wpAny _ _ _ _ _ _ _ (World.drew _)
    refine wpAny_take (i := 0) (v := ?_) rfl (by kernel_rfl) (by kernel_rfl) (by kernel_rfl) (fun _ _ _ h => h) (Or.inl ⟨by rfl, ?_⟩) ?_
    rotate_left 1
    · (intro w; go_simp; try with_reducible rfl)
    simp only [Act.put, List.setIfInBounds_toArray, List.set_cons_zero, List.set_cons_succ, List.getElem_toArray, List.getElem_cons_zero, List.getElem_cons_succ]
    refine wpAny_take (i := 1) (v := ?_) rfl (by kernel_rfl) (by kernel_rfl) (by kernel_rfl) (fun _ _ _ h => h) (Or.inl ⟨by rfl, ?_⟩) ?_
    rotate_left 1
    · (intro w; go_simp; try with_reducible rfl)
    simp only [Act.put, List.setIfInBounds_toArray, List.set_cons_zero, List.set_cons_succ, List.getElem_toArray, List.getElem_cons_zero, List.getElem_cons_succ]
    refine wpAny_ready (rs := [2]) (by kernel_rfl) (by simp) (AllReady.cons rfl (fun K hK => ?_) AllReady.nil)
    go_simp
    (go_at_call 11; with_reducible refine (ws2Put (N : Int) 32 HWd hNr (by simp)).mono ?_; rw [X1.out, X2.out, List.nil_append]; rintro e w3 ⟨rfl, hW3⟩; have HW3 := Lib.hid hW3.symm; clear hW3)
    go_wp2_with fail
    (try (refine hK _ _ ?_; clear hK K))
    (try simp only [Act.put, List.setIfInBounds_toArray, List.set_cons_zero, List.set_cons_succ, List.getElem_toArray, List.getElem_cons_zero, List.getElem_cons_succ])
    refine wpAny_take (i := 3) (v := ?_) rfl (by kernel_rfl) (by kernel_rfl) (by kernel_rfl) (fun _ _ _ h => h) (Or.inl ⟨by rfl, ?_⟩) ?_
    rotate_left 1
    · (intro w; go_simp; try with_reducible rfl)
    simp only [Act.put, List.setIfInBounds_toArray, List.set_cons_zero, List.set_cons_succ, List.getElem_toArray, List.getElem_cons_zero, List.getElem_cons_succ]
    refine wpAny_take (i := 4) (v := ?_) rfl (by kernel_rfl) (by kernel_rfl) (by kernel_rfl) (fun _ _ _ h => h) (Or.inl ⟨by rfl, ?_⟩) ?_
    rotate_left 1
    · (intro w; go_simp; try with_reducible rfl)
    simp only [Act.put, List.setIfInBounds_toArray, List.set_cons_zero, List.set_cons_succ, List.getElem_toArray, List.getElem_cons_zero, List.getElem_cons_succ]
    refine wpAny_take (i := 5) (v := ?_) rfl (by kernel_rfl) (by kernel_rfl) (by kernel_rfl) (fun _ _ _ h => h) (Or.inl ⟨by rfl, ?_⟩) ?_
    rotate_left 1
    · (intro w; go_simp; try with_reducible rfl)
    simp only [Act.put, List.setIfInBounds_toArray, List.set_cons_zero, List.set_cons_succ, List.getElem_toArray, List.getElem_cons_zero, List.getElem_cons_succ]
    refine wpAny_take (i := 6) (v := ?_) rfl (by kernel_rfl) (by kernel_rfl) (by kernel_rfl) (fun _ _ _ h => h) (Or.inl ⟨by rfl, ?_⟩) ?_
    rotate_left 1
    · (intro w; go_simp; try with_reducible rfl)
    simp only [Act.put, List.setIfInBounds_toArray, List.set_cons_zero, List.set_cons_succ, List.getElem_toArray, List.getElem_cons_zero, List.getElem_cons_succ]
    refine wpAny_take (i := 7) (v := ?_) rfl (by kernel_rfl) (by kernel_rfl) (by kernel_rfl) (fun _ _ _ h => h) (Or.inl ⟨by rfl, ?_⟩) ?_
    rotate_left 1
    · (intro w; go_simp; try with_reducible rfl)
    simp only [Act.put, List.setIfInBounds_toArray, List.set_cons_zero, List.set_cons_succ, List.getElem_toArray, List.getElem_cons_zero, List.getElem_cons_succ]
    refine wpAny_take (i := 8) (v := ?_) rfl (by kernel_rfl) (by kernel_rfl) (by kernel_rfl) (fun _ _ _ h => h) (Or.inl ⟨by rfl, ?_⟩) ?_
    rotate_left 1
    · (intro w; go_simp; try with_reducible rfl)
    simp only [Act.put, List.setIfInBounds_toArray, List.set_cons_zero, List.set_cons_succ, List.getElem_toArray, List.getElem_cons_zero, List.getElem_cons_succ]
    refine wpAny_take (i := 9) (v := ?_) rfl (by kernel_rfl) (by kernel_rfl) (by kernel_rfl) (fun _ _ _ h => h) (Or.inl ⟨by rfl, ?_⟩) ?_
    rotate_left 1
    · (intro w; go_simp; try with_reducible rfl)
    simp only [Act.put, List.setIfInBounds_toArray, List.set_cons_zero, List.set_cons_succ, List.getElem_toArray, List.getElem_cons_zero, List.getElem_cons_succ]
    refine wpAny_take (i := 10) (v := ?_) rfl (by kernel_rfl) (by kernel_rfl) (by kernel_rfl) (fun _ _ _ h => h) (Or.inl ⟨by rfl, ?_⟩) ?_
    rotate_left 1
    · (intro w; go_simp; try with_reducible rfl)
    simp only [Act.put, List.setIfInBounds_toArray, List.set_cons_zero, List.set_cons_succ, List.getElem_toArray, List.getElem_cons_zero, List.getElem_cons_succ]
    refine wpAny_ready (rs := [11]) (by kernel_rfl) (by simp) (AllReady.cons rfl (fun K hK => ?_) AllReady.nil)
    go_simp
    (go_at_call 11; with_reducible refine (ws2Put (A : Int) (c : Int) HW3 hAr (by simp)).mono ?_; rw [Y1.out]; rintro e w4 ⟨rfl, hW4⟩; have HW4 := Lib.hid hW4; clear hW4)
    go_wp2_with fail
    (try (refine hK _ _ ?_; clear hK K))
    (try simp only [Act.put, List.setIfInBounds_toArray, List.set_cons_zero, List.set_cons_succ, List.getElem_toArray, List.getElem_cons_zero, List.getElem_cons_succ])
    refine wpAny_take (i := 12) (v := ?_) rfl (by kernel_rfl) (by kernel_rfl) (by kernel_rfl) (fun _ _ _ h => h) (Or.inl ⟨by rfl, ?_⟩) ?_
    rotate_left 1
    · (intro w; go_simp; try with_reducible rfl)
    simp only [Act.put, List.setIfInBounds_toArray, List.set_cons_zero, List.set_cons_succ, List.getElem_toArray, List.getElem_cons_zero, List.getElem_cons_succ]
    refine wpAny_take (i := 13) (v := ?_) rfl (by kernel_rfl) (by kernel_rfl) (by kernel_rfl) (fun _ _ _ h => h) (Or.inl ⟨by rfl, ?_⟩) ?_
    rotate_left 1
    · (intro w; go_simp; try with_reducible rfl)
    simp only [Act.put, List.setIfInBounds_toArray, List.set_cons_zero, List.set_cons_succ, List.getElem_toArray, List.getElem_cons_zero, List.getElem_cons_succ]
    refine wpAny_take (i := 14) (v := ?_) rfl (by kernel_rfl) (by kernel_rfl) (by kernel_rfl) (fun _ _ _ h => h) (Or.inl ⟨by rfl, ?_⟩) ?_
    rotate_left 1
    · (intro w; go_simp; try with_reducible rfl)
    simp only [Act.put, List.setIfInBounds_toArray, List.set_cons_zero, List.set_cons_succ, List.getElem_toArray, List.getElem_cons_zero, List.getElem_cons_succ]
    refine wpAny_take (i := 15) (v := ?_) rfl (by kernel_rfl) (by kernel_rfl) (by kernel_rfl) (fun _ _ _ h => h) (Or.inl ⟨by rfl, ?_⟩) ?_
    rotate_left 1
    · (intro w; go_simp; try with_reducible rfl)
    simp only [Act.put, List.setIfInBounds_toArray, List.set_cons_zero, List.set_cons_succ, List.getElem_toArray, List.getElem_cons_zero, List.getElem_cons_succ]
    refine wpAny_take (i := 16) (v := ?_) rfl (by kernel_rfl) (by kernel_rfl) (by kernel_rfl) (fun _ _ _ h => h) (Or.inl ⟨by rfl, ?_⟩) ?_
    rotate_left 1
    · (intro w; go_simp; try with_reducible rfl)
    simp only [Act.put, List.setIfInBounds_toArray, List.set_cons_zero, List.set_cons_succ, List.getElem_toArray, List.getElem_cons_zero, List.getElem_cons_succ]
    refine wpAny_take (i := 17) (v := ?_) rfl (by kernel_rfl) (by kernel_rfl) (by kernel_rfl) (fun _ _ _ h => h) (Or.inl ⟨by rfl, ?_⟩) ?_
    rotate_left 1
    · (intro w; go_simp; try with_reducible rfl)
    simp only [Act.put, List.setIfInBounds_toArray, List.set_cons_zero, List.set_cons_succ, List.getElem_toArray, List.getElem_cons_zero, List.getElem_cons_succ]
    refine wpAny_take (i := 18) (v := ?_) rfl (by kernel_rfl) (by kernel_rfl) (by kernel_rfl) (fun _ _ _ h => h) (Or.inl ⟨by rfl, ?_⟩) ?_
    rotate_left 1
    · (intro w; go_simp; try with_reducible rfl)
    simp only [Act.put, List.setIfInBounds_toArray, List.set_cons_zero, List.set_cons_succ, List.getElem_toArray, List.getElem_cons_zero, List.getElem_cons_succ]
    refine wpAny_take (i := 19) (v := ?_) rfl (by kernel_rfl) (by kernel_rfl) (by kernel_rfl) (fun _ _ _ h => h) (Or.inl ⟨by rfl, ?_⟩) ?_
    rotate_left 1
    · (intro w; go_simp; try with_reducible rfl)
    simp only [Act.put, List.setIfInBounds_toArray, List.set_cons_zero, List.set_cons_succ, List.getElem_toArray, List.getElem_cons_zero, List.getElem_cons_succ]
    refine wpAny_take (i := 20) (v := ?_) rfl (by kernel_rfl) (by kernel_rfl) (by kernel_rfl) (fun _ _ _ h => h) (Or.inl ⟨by rfl, ?_⟩) ?_
    rotate_left 1
    · (intro w; go_simp; try with_reducible rfl)
    simp only [Act.put, List.setIfInBounds_toArray, List.set_cons_zero, List.set_cons_succ, List.getElem_toArray, List.getElem_cons_zero, List.getElem_cons_succ]
    refine wpAny_take (i := 21) (v := ?_) rfl (by kernel_rfl) (by kernel_rfl) (by kernel_rfl) (fun _ _ _ h => h) (Or.inl ⟨by rfl, ?_⟩) ?_
    rotate_left 1
    · (intro w; go_simp; try with_reducible rfl)
    simp only [Act.put, List.setIfInBounds_toArray, List.set_cons_zero, List.set_cons_succ, List.getElem_toArray, List.getElem_cons_zero, List.getElem_cons_succ]
    refine wpAny_take (i := 22) (v := ?_) rfl (by kernel_rfl) (by kernel_rfl) (by kernel_rfl) (fun _ _ _ h => h) (Or.inl ⟨by rfl, ?_⟩) ?_
    rotate_left 1
    · (intro w; go_simp; try with_reducible rfl)
    simp only [Act.put, List.setIfInBounds_toArray, List.set_cons_zero, List.set_cons_succ, List.getElem_toArray, List.getElem_cons_zero, List.getElem_cons_succ]
    refine wpAny_take (i := 23) (v := ?_) rfl (by kernel_rfl) (by kernel_rfl) (by kernel_rfl) (fun _ _ _ h => h) (Or.inl ⟨by rfl, ?_⟩) ?_
    rotate_left 1
    · (intro w; go_simp; try with_reducible rfl)
    simp only [Act.put, List.setIfInBounds_toArray, List.set_cons_zero, List.set_cons_succ, List.getElem_toArray, List.getElem_cons_zero, List.getElem_cons_succ]
    refine wpAny_ready (rs := [24]) (by kernel_rfl) (by simp) (AllReady.cons rfl (fun K hK => ?_) AllReady.nil)
    go_simp
    (go_at_call 11; with_reducible refine (ws2Put (B : Int) (d : Int) HW4 hBr ?hs).mono ?_; (case hs => rw [Y2.out, List.nil_append, bitsN_length]; omega); rw [Z1.out, HL.out]; rintro e w5 ⟨rfl, hW5⟩; have HW5 := Lib.hid hW5; clear hW5)
    go_wp2_with fail
    (try (refine hK _ _ ?_; clear hK K))
    (try simp only [Act.put, List.setIfInBounds_toArray, List.set_cons_zero, List.set_cons_succ, List.getElem_toArray, List.getElem_cons_zero, List.getElem_cons_succ])
    refine wpAny_take (i := 25) (v := ?_) rfl (by kernel_rfl) (by kernel_rfl) (by kernel_rfl) (fun _ _ _ h => h) (Or.inl ⟨by rfl, ?_⟩) ?_
    rotate_left 1
    · (intro w; go_simp; try with_reducible rfl)
    simp only [Act.put, List.setIfInBounds_toArray, List.set_cons_zero, List.set_cons_succ, List.getElem_toArray, List.getElem_cons_zero, List.getElem_cons_succ]
    refine wpAny_take (i := 26) (v := ?_) rfl (by kernel_rfl) (by kernel_rfl) (by kernel_rfl) (fun _ _ _ h => h) (Or.inl ⟨by rfl, ?_⟩) ?_
    rotate_left 1
    · (intro w; go_simp; try with_reducible rfl)
    simp only [Act.put, List.setIfInBounds_toArray, List.set_cons_zero, List.set_cons_succ, List.getElem_toArray, List.getElem_cons_zero, List.getElem_cons_succ]
    refine wpAny_take (i := 27) (v := ?_) rfl (by kernel_rfl) (by kernel_rfl) (by kernel_rfl) (fun _ _ _ h => h) (Or.inl ⟨by rfl, ?_⟩) ?_
    rotate_left 1
    · (intro w; go_simp; try with_reducible rfl)
    simp only [Act.put, List.setIfInBounds_toArray, List.set_cons_zero, List.set_cons_succ, List.getElem_toArray, List.getElem_cons_zero, List.getElem_cons_succ]
    refine wpAny_take (i := 28) (v := ?_) rfl (by kernel_rfl) (by kernel_rfl) (by kernel_rfl) (fun _ _ _ h => h) (Or.inl ⟨by rfl, ?_⟩) ?_
    rotate_left 1
    · (intro w; go_simp; try with_reducible rfl)
    simp only [Act.put, List.setIfInBounds_toArray, List.set_cons_zero, List.set_cons_succ, List.getElem_toArray, List.getElem_cons_zero, List.getElem_cons_succ]
    refine wpAny_take (i := 31) (v := ?_) rfl (by kernel_rfl) (by kernel_rfl) (by kernel_rfl) (fun _ _ _ h => h) (Or.inl ⟨by rfl, ?_⟩) ?_
    rotate_left 1
    · (intro w; go_simp; try with_reducible rfl)
    simp only [Act.put, List.setIfInBounds_toArray, List.set_cons_zero, List.set_cons_succ, List.getElem_toArray, List.getElem_cons_zero, List.getElem_cons_succ]
    refine wpAny_ready (rs := [29]) (by kernel_rfl) (by simp) (AllReady.cons rfl (fun K hK => ?_) AllReady.nil)
    go_simp
    (go_at_call 18; with_reducible refine (wsBytes (Lib.hid HW5.out.right)).mono ?_; rintro e w6 ⟨v6, rfl, hr6, -, hk6⟩; have HW6 := Lib.hid (HW5.out.new hk6); clear hk6; have HR6 := Lib.hid hr6; have hcv6 := hr6.textv (P := Try.prog) 22 5 9 Try.underlying22 Try.underlying5 Try.underlying9; rw [HS.out] at hcv6; clear hr6)
    go_wp2_with fail
    (try (refine hK _ _ ?_; clear hK K))
    (try simp only [Act.put, List.setIfInBounds_toArray, List.set_cons_zero, List.set_cons_succ, List.getElem_toArray, List.getElem_cons_zero, List.getElem_cons_succ])
    refine wpAny_ready (rs := [30, 32]) (by kernel_rfl) (by simp) (AllReady.cons rfl (fun K hK => ?_) (AllReady.cons rfl (fun K hK => ?_) AllReady.nil))
    · go_simp
      (try (refine hK _ _ ?_; clear hK K))
      (try simp only [Act.put, List.setIfInBounds_toArray, List.set_cons_zero, List.set_cons_succ, List.getElem_toArray, List.getElem_cons_zero, List.getElem_cons_succ])
      refine wpAny_ready (rs := [32]) (by kernel_rfl) (by simp) (AllReady.cons rfl (fun K hK => ?_) AllReady.nil)
      go_simp
      (go_at_call 18; with_reducible refine (wsBytes (Lib.hid HW6.out.left)).mono ?_; rintro e w7 ⟨v7, rfl, hr7, -, hk7⟩; have HW7 := Lib.hid (HW6.out.new hk7); have hcv67 := (HR6.out.keeps hk7 (fun _ _ => by simp)).textv (P := Try.prog) 22 5 9 Try.underlying22 Try.underlying5 Try.underlying9; rw [HS.out] at hcv67; have hcv7 := hr7.textv (P := Try.prog) 22 5 9 Try.underlying22 Try.underlying5 Try.underlying9; rw [HS.out] at hcv7; clear hr7 hk7)
      go_wp2_with fail
      (try (refine hK _ _ ?_; clear hK K))
      (try simp only [Act.put, List.setIfInBounds_toArray, List.set_cons_zero, List.set_cons_succ, List.getElem_toArray, List.getElem_cons_zero, List.getElem_cons_succ])
      refine wpAny_ready (rs := [33]) (by kernel_rfl) (by simp) (AllReady.cons rfl (fun K hK => ?_) AllReady.nil)
      go_simp
      (try (refine hK _ _ ?_; clear hK K))
      (try simp only [Act.put, List.setIfInBounds_toArray, List.set_cons_zero, List.set_cons_succ, List.getElem_toArray, List.getElem_cons_zero, List.getElem_cons_succ])
      refine wpAny_take (i := 34) (v := ?_) rfl (by kernel_rfl) (by kernel_rfl) (by kernel_rfl) (fun _ _ _ h => h) (Or.inl ⟨by rfl, ?_⟩) ?_
      rotate_left 1
      · (intro w; go_simp; try with_reducible rfl)
      simp only [Act.put, List.setIfInBounds_toArray, List.set_cons_zero, List.set_cons_succ, List.getElem_toArray, List.getElem_cons_zero, List.getElem_cons_succ]
      refine wpAny_take (i := 35) (v := ?_) rfl (by kernel_rfl) (by kernel_rfl) (by kernel_rfl) (fun _ _ _ h => h) (Or.inl ⟨by rfl, ?_⟩) ?_
      rotate_left 1
      · (intro w; go_simp; try with_reducible rfl)
      simp only [Act.put, List.setIfInBounds_toArray, List.set_cons_zero, List.set_cons_succ, List.getElem_toArray, List.getElem_cons_zero, List.getElem_cons_succ]
      refine wpAny_done (by kernel_rfl) ?_ _
      go_wp2_with fail
      go_meet
      exact ⟨rfl, HW7.out⟩
    · go_simp
      (go_at_call 18; with_reducible refine (wsBytes (Lib.hid HW6.out.left)).mono ?_; rintro e w7 ⟨v7, rfl, hr7, -, hk7⟩; have HW7 := Lib.hid (HW6.out.new hk7); have hcv67 := (HR6.out.keeps hk7 (fun _ _ => by simp)).textv (P := Try.prog) 22 5 9 Try.underlying22 Try.underlying5 Try.underlying9; rw [HS.out] at hcv67; have hcv7 := hr7.textv (P := Try.prog) 22 5 9 Try.underlying22 Try.underlying5 Try.underlying9; rw [HS.out] at hcv7; clear hr7 hk7)
      go_wp2_with fail
      (try (refine hK _ _ ?_; clear hK K))
      (try simp only [Act.put, List.setIfInBounds_toArray, List.set_cons_zero, List.set_cons_succ, List.getElem_toArray, List.getElem_cons_zero, List.getElem_cons_succ])
      refine wpAny_ready (rs := [30, 33]) (by kernel_rfl) (by simp) (AllReady.cons rfl (fun K hK => ?_) (AllReady.cons rfl (fun K hK => ?_) AllReady.nil))
      · go_simp
        (try (refine hK _ _ ?_; clear hK K))
        (try simp only [Act.put, List.setIfInBounds_toArray, List.set_cons_zero, List.set_cons_succ, List.getElem_toArray, List.getElem_cons_zero, List.getElem_cons_succ])
        refine wpAny_ready (rs := [33]) (by kernel_rfl) (by simp) (AllReady.cons rfl (fun K hK => ?_) AllReady.nil)
        go_simp
        (try (refine hK _ _ ?_; clear hK K))
        (try simp only [Act.put, List.setIfInBounds_toArray, List.set_cons_zero, List.set_cons_succ, List.getElem_toArray, List.getElem_cons_zero, List.getElem_cons_succ])
        refine wpAny_take (i := 34) (v := ?_) rfl (by kernel_rfl) (by kernel_rfl) (by kernel_rfl) (fun _ _ _ h => h) (Or.inl ⟨by rfl, ?_⟩) ?_
        rotate_left 1
        · (intro w; go_simp; try with_reducible rfl)
        simp only [Act.put, List.setIfInBounds_toArray, List.set_cons_zero, List.set_cons_succ, List.getElem_toArray, List.getElem_cons_zero, List.getElem_cons_succ]
        refine wpAny_take (i := 35) (v := ?_) rfl (by kernel_rfl) (by kernel_rfl) (by kernel_rfl) (fun _ _ _ h => h) (Or.inl ⟨by rfl, ?_⟩) ?_
        rotate_left 1
        · (intro w; go_simp; try with_reducible rfl)
        simp only [Act.put, List.setIfInBounds_toArray, List.set_cons_zero, List.set_cons_succ, List.getElem_toArray, List.getElem_cons_zero, List.getElem_cons_succ]
        refine wpAny_done (by kernel_rfl) ?_ _
        go_wp2_with fail
        go_meet
        exact ⟨rfl, HW7.out⟩
      · go_simp
        (try (refine hK _ _ ?_; clear hK K))
        (try simp only [Act.put, List.setIfInBounds_toArray, List.set_cons_zero, List.set_cons_succ, List.getElem_toArray, List.getElem_cons_zero, List.getElem_cons_succ])
        refine wpAny_ready (rs := [30]) (by kernel_rfl) (by simp) (AllReady.cons rfl (fun K hK => ?_) AllReady.nil)
        go_simp
        (try (refine hK _ _ ?_; clear hK K))
        (try simp only [Act.put, List.setIfInBounds_toArray, List.set_cons_zero, List.set_cons_succ, List.getElem_toArray, List.getElem_cons_zero, List.getElem_cons_succ])
        refine wpAny_take (i := 34) (v := ?_) rfl (by kernel_rfl) (by kernel_rfl) (by kernel_rfl) (fun _ _ _ h => h) (Or.inl ⟨by rfl, ?_⟩) ?_
        rotate_left 1
        · (intro w; go_simp; try with_reducible rfl)
        simp only [Act.put, List.setIfInBounds_toArray, List.set_cons_zero, List.set_cons_succ, List.getElem_toArray, List.getElem_cons_zero, List.getElem_cons_succ]
        refine wpAny_take (i := 35) (v := ?_) rfl (by kernel_rfl) (by kernel_rfl) (by kernel_rfl) (fun _ _ _ h => h) (Or.inl ⟨by rfl, ?_⟩) ?_
        rotate_left 1
        · (intro w; go_simp; try with_reducible rfl)
        simp only [Act.put, List.setIfInBounds_toArray, List.set_cons_zero, List.set_cons_succ, List.getElem_toArray, List.getElem_cons_zero, List.getElem_cons_succ]
        refine wpAny_done (by kernel_rfl) ?_ _
        go_wp2_with fail
        go_meet
        exact ⟨rfl, HW7.out⟩
  case rest =>
    obtain ⟨rfl, HW7⟩ := hcut
    go_wp2_with (first
      | (go_at_call 18; go_must (with_reducible refine (wsBytes (Lib.hid HW7.out.left)).mono ?_); rintro e w8 ⟨v8, rfl, hr8, -, hk8⟩; have hnc8 := hr8; obtain ⟨a8, c8, rfl, hrd8⟩ := hr8.rd; have HNC8 := Lib.hid (Row.noneCapB hnc8); have HRD8 := Lib.hid hrd8; have HK8 := Lib.hid (HW7.out.keeps.new hk8); clear hr8 hnc8 hrd8 hk8)
      | (go_at_call 15; go_must (with_reducible refine (rsNew w _ (pack L) _ rfl a8 c8 HK8 HNC8.out HPL2.out (pack_range L) HRD8).mono ?_); rintro e w9 ⟨r, rfl, hR9, -, -⟩; have HR9 := Lib.hid hR9; clear hR9)
      | (go_at_call 17; with_reducible refine (rsGet (o : Int) HR9).mono ?_; rw [G1.out, G2.out, G3.out]; rintro e wa ⟨rfl, hRa, -⟩; have HRa := Lib.hid hRa; clear hRa)
      | (go_at_call 17; with_reducible refine (rsGet (o2 : Int) HRa).mono ?_; rw [G4.out, G5.out, G6.out]; rintro e wb ⟨rfl, hRb, -⟩; have HRb := Lib.hid hRb; clear hRb)
      | (go_at_call 16; go_must (with_reducible refine (rsLeft HRb).mono ?_); rw [G7.out]; rintro e wc ⟨rfl, hRc, -⟩; have HRc := Lib.hid hRc; clear hRc))
    go_ret
    exact ⟨rfl, HRc.out.keeps.below⟩
end Go.Proofs.Ytlnpajnejapckaa
