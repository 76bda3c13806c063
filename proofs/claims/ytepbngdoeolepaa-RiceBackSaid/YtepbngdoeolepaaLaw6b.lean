/-
  The statement RiceBack of layer 6: the walk.
-/
import Derived.Test.YtepbngdoeolepaaRice21
import Derived.Test.YtepbngdoeolepaaIn
set_option linter.unusedVariables false
set_option linter.unusedSimpArgs false
namespace Go.Proofs.Ytepbngdoeolepaa
open Go.RowKit Go.Proofs.Ytepbngdoeolepaa.Pure

set_option maxHeartbeats 8000000 in
set_option maxRecDepth 100000 in
theorem riceBack_walk (a0 : Option Addr) (len0 cap0 : Nat) (z0 : List Int) (a1 a2 : Int) (w : World) (w0 : InRow .i64 w a0 len0 cap0 z0) (s0 : cap0 * 8 ≤ 140737488351232) (w1 : (Lit.int .i64 a1).wf = true) (w2 : (Lit.int .i64 a2).wf = true) :
    Calls Try.prog 7 #[.slice a0 len0 cap0, .int .i64 a1, .int .i64 a2] w fun e w' => e = .returned (.bool true) ∧ Below w.heap.size w w' := by
  obtain ⟨hr, hl, hw, hcap⟩ := w0.rd
  have hn := w0.nil_cap
  have hwf1 := wf_i64 w1
  generalize z0.take len0 = xs at *
  subst hl
  have HK : Hid (Keeps [] w w) := Keeps.refl _ _
  have hxl : xs.length ≤ 17592186043904 := by omega
  have hxm : min xs.length 513 = (xs.take 513).length := by rw [List.length_take]; omega
  have HR := Lib.hid (hr.take 513)
  have hL5 : (xs.take 513).length ≤ 513 := by rw [List.length_take]; omega
  have hLc : (xs.take 513).length ≤ cap0 := by rw [List.length_take]; omega
  generalize xs.take 513 = L at *
  obtain ⟨k, hk, hke⟩ := u64_modR a2 33 (by omega) (by omega)
  have HN := Lib.hid hn
  have HO := Lib.hid hwf1
  clear w0 s0 w1 w2 hw hr hn hwf1
  go_enter Try.func7, Try.ntmps7
  go_upto_region 5 with (first
    | (go_at_call 8; go_must (refine (rknown_calls _).mono ?_); rintro e w1 ⟨rfl, hk1⟩; replace HK : Hid (Keeps [] w w1) := HK.out.new hk1; clear hk1)
    | (go_at_call 9; go_must (refine (rcut_law _ _ _ _ (by omega) (by omega)).mono ?_); rw [hxm]; rintro e w2 ⟨rfl, rfl⟩))
  have hke1 : wrap64 ((IntKind.u64.wrap a2).tmod 33) = (k : Int) := hke
  rw [hke1]
  clear hke hke1
  generalize (IntKind.u64.wrap a2).tmod 33 = u23
  generalize IntKind.u64.wrap a2 = u22
  have p0 : putE 0 (k : Int) = 0 := putE_small 0 k (by omega) (Nat.two_pow_pos k)
  obtain ⟨Z, hZ⟩ : ∃ Z, putB 0 (k : Int) = Z := ⟨_, rfl⟩
  have hZl : Z.length = k := by
    have := putB_length p0 (by omega)
    rw [hZ] at this
    omega
  have HP0 : Hid (∀ W W1 p, Hid (WS W W1 p []) → Calls Try.prog 14 #[.pointer (some ⟨p, 0, none⟩), .int .i64 0, .int .i64 k] W1 fun e w' => e = .returned (.int .i64 0) ∧ WS W w' p Z) := by
    intro W W1 p h
    have := wsPut 0 (k : Int) h (show _ ∧ _ from by omega) (by simp)
    rwa [p0, hZ, List.nil_append] at this
  have HBG := Lib.hid (fun R => back_get 0 (k : Int) R p0)
  rw [hZ, hZl] at HBG
  have hR1 := HR.out.new HK.out
  have hR1lt : ∀ ad, a0 = some ad → 0 < L.length → ad.block < w1.heap.size := fun ad e h => (HR.out.new HK.out).lt h ad e
  have HRW := Lib.hid (fun (l : List Bool) W1 p (hW : Hid (WS w1 W1 p l)) (hb : l.length ≤ 1000000000) => wsRice L a1 _ rfl a0 cap0 hW (Lib.hid (Keeps.refl [] W1)) HN.out (by omega) hLc HO.out (Lib.hid (hR1.new hW.out.keeps)) hb (fun ad e h => .inl (hR1lt ad e h)))
  have HSZ := Lib.hid (fun W (hk : Keeps [] w1 W) => rsize_calls L a1 _ rfl a0 cap0 W HN.out (by omega) hLc HO.out (Lib.hid (hR1.new hk)))
  have HRL := Lib.hid hR1
  clear hR1 hR1lt p0 hZ
  by_cases he : rchkE L a1 = 0
  · obtain ⟨o, rfl, ho8, hL2, hrb, hin, hbl, hbs, hblk⟩ := rw_ok L a1 he
    rw [he] at HRW HSZ
    rw [← hbs] at HSZ
    generalize rwB L (o : Int) = B at *
    obtain ⟨D, hD⟩ : ∃ D, Z ++ B = D := ⟨_, rfl⟩
    obtain ⟨nb, hnb⟩ : ∃ nb, B.length = nb := ⟨_, rfl⟩
    obtain ⟨nd, hnd⟩ : ∃ nd, D.length = nd := ⟨_, rfl⟩
    obtain ⟨ln, hln⟩ : ∃ ln : Nat, L.length + o = ln := ⟨_, rfl⟩
    have hlni : (L.length : Int) + (o : Int) = (ln : Int) := by omega
    have hndk : k + nb = nd := by rw [← hnd, ← hD, List.length_append]; omega
    have hsum : (k : Int) + (nb : Int) = (nd : Int) := by omega
    have hD0 : restB (pack D) 0 = Z ++ (B ++ List.replicate (8 * ((D.length + 7) / 8) - D.length) false) := by
      rw [restB_pack D 0 (Nat.zero_le _), List.drop_zero, ← List.append_assoc]
      congr 1
      exact hD.symm
    have hDk : restB (pack D) k = B ++ List.replicate (8 * ((D.length + 7) / 8) - D.length) false := by
      rw [restB_pack D k (by omega)]
      congr 1
      rw [← hD, ← hZl, List.drop_left]
    have hpl : (pack D).length ≤ 10000 := by rw [pack_length]; omega
    have hWR := HRW.out Z
    rw [hD] at hWR
    have HWR := Lib.hid (fun W1 p h => hWR W1 p h (by omega))
    rw [hnb] at HSZ
    have HRG : Hid (∀ W q, Hid (RS w1 W q (pack D) 0) → Calls Try.prog 27 #[.pointer (some ⟨q, 0, none⟩), .int .i64 k] W fun e w' => e = .returned (.tuple #[.int .i64 0, .int .i64 0]) ∧ RS w1 w' q (pack D) k) := by
      intro W q h
      refine (rsGet (k : Int) h).mono ?_
      rintro e w' ⟨rfl, h1, -⟩
      rw [hD0] at h1 ⊢
      obtain ⟨g1, g2, g3⟩ := HBG.out (B ++ List.replicate (8 * ((D.length + 7) / 8) - D.length) false)
      rw [g3, Nat.zero_add] at h1
      rw [g1, g2]
      exact ⟨rfl, h1⟩
    have HRR : Hid (∀ W q, Hid (RS w1 W q (pack D) k) → Calls Try.prog 18 #[.pointer (some ⟨q, 0, none⟩), .int .i64 ln, .int .i64 o] W fun e w' => ∃ v, e = .returned (.tuple #[v, .int .i64 0]) ∧ Row w' .i64 3 v L ∧ RS w1 w' q (pack D) nd) := by
      intro W q h
      refine (rsRead (ln : Int) (o : Int) h (by omega) (by omega) (by omega)).mono ?_
      rintro e w' ⟨v, rfl, h1, h2, -, -⟩
      have hb := hblk (List.replicate (8 * ((D.length + 7) / 8) - D.length) false)
      rw [hlni] at hb
      rw [hDk, hb] at h1 h2
      rw [hDk, hb]
      rw [hnb, hndk] at h2
      exact ⟨v, rfl, h1, h2⟩
    have HPB : Hid ((pack D).length ≤ 10000) := hpl
    have hnd4 : nd ≤ 40000 := by omega
    have hnb4 : nb ≤ 40000 := by omega
    have HND := Lib.hid hnd
    clear he hbs hrb hin hblk HRW HBG hDk hD0 hWR hndk hpl hD hnd hnb hbl hZl hln
    go_upto_region 12 with (first
      | (go_at_call 13; go_must (refine (wsNew w1 _ (Lib.hid (Keeps.refl [] w1))).mono ?_); rintro e w3 ⟨p, rfl, hW3, -, -⟩; have HW3 := Lib.hid hW3; clear hW3)
      | (go_at_call 14; go_must (with_reducible refine (HP0.out _ _ _ HW3).mono ?_); rintro e w4 ⟨rfl, hW4⟩; have HW4 := Lib.hid hW4; clear hW4)
      | (go_at_call 16; go_must (with_reducible refine (HWR.out _ _ HW4).mono ?_); rintro e w5 ⟨rfl, hW5⟩; have HW5 := Lib.hid hW5; clear hW5)
      | (go_at_call 10; go_must (with_reducible refine (HSZ.out _ HW5.out.keeps).mono ?_); rintro e w6 ⟨rfl, hk6⟩; have HW6 := Lib.hid (HW5.out.new hk6); clear hk6))
    have HL6 := Lib.hid (wsLen HW6)
    rw [HND.out] at HL6
    go_wp2_with (first
      | (go_at_call 21; go_must (with_reducible refine HL6.out.mono ?_); rintro e w7 ⟨rfl, rfl⟩)
      | (go_at_call 19; go_must (with_reducible refine (wsBytes HW6).mono ?_); rintro e w8 ⟨v8, rfl, hr8, hf8, hk8⟩; have HW8 := Lib.hid (HW6.out.new hk8); obtain ⟨a8, c8, hv8, hrd8, hnc8, hsp8⟩ := hr8.rdc; subst hv8; have HRD8 := Lib.hid hrd8; have HNC8 := Lib.hid hnc8; clear hr8 hf8 hk8 hrd8 hnc8 hsp8)
      | (go_at_call 22; go_must (with_reducible refine (rsNew w1 _ (pack D) _ rfl a8 c8 (Lib.hid HW8.out.keeps) HNC8.out ?hl (pack_range D) HRD8).mono ?_); (case hl => have := HPB.out; omega); rintro e w9 ⟨q, rfl, hR9, -, -⟩; have HR9 := Lib.hid hR9; clear hR9)
      | (go_at_call 27; go_must (with_reducible refine (HRG.out _ _ HR9).mono ?_); rintro e w10 ⟨rfl, hR10⟩; have HR10 := Lib.hid hR10; clear hR10)
      | (go_at_call 18; go_must (with_reducible refine (HRR.out _ _ HR10).mono ?_); rintro e w11 ⟨v11, rfl, hr11, hR11⟩; have HR11 := Lib.hid hR11; obtain ⟨a11, c11, hv11, hrd11, -, -⟩ := hr11.rdc; subst hv11; have HRD11 := Lib.hid hrd11; clear hR11 hr11 hrd11)
      | (go_at_call 25; go_must (with_reducible refine (rsame_calls L L _ _ rfl rfl a11 a0 c11 cap0 _ HRD11 (Lib.hid (HRL.out.new HR11.out.keeps))).mono ?_); rw [decide_eq_true rfl]; rintro e w12 ⟨rfl, hk12⟩; have HR12 := Lib.hid (HR11.out.new hk12); clear hk12)
      | (go_at_call 26; go_must (with_reducible refine (rsAt HR12).mono ?_); rintro e w13 ⟨rfl, rfl⟩))
    go_ret
    exact ⟨rfl, (HK.out.new HR12.out.keeps).below⟩
  · obtain ⟨e1, e2⟩ := rw_no L a1 he
    simp only [e1, List.append_nil] at HRW
    rw [e2] at HSZ
    obtain ⟨E, hE⟩ : ∃ E, rchkE L a1 = E := ⟨_, rfl⟩
    rw [hE] at he HRW HSZ
    have HWR := Lib.hid (fun W1 p h => HRW.out Z W1 p h (by omega))
    have HZ := Lib.hid hZl
    clear e1 e2 hE HRW HBG hZl
    go_upto_region 10 with (first
      | (go_at_call 13; go_must (refine (wsNew w1 _ (Lib.hid (Keeps.refl [] w1))).mono ?_); rintro e w3 ⟨p, rfl, hW3, -, -⟩; have HW3 := Lib.hid hW3; clear hW3)
      | (go_at_call 14; go_must (with_reducible refine (HP0.out _ _ _ HW3).mono ?_); rintro e w4 ⟨rfl, hW4⟩; have HW4 := Lib.hid hW4; clear hW4)
      | (go_at_call 16; go_must (with_reducible refine (HWR.out _ _ HW4).mono ?_); rintro e w5 ⟨rfl, hW5⟩; have HW5 := Lib.hid hW5; clear hW5)
      | (go_at_call 10; go_must (with_reducible refine (HSZ.out _ HW5.out.keeps).mono ?_); rintro e w6 ⟨rfl, hk6⟩; have HW6 := Lib.hid (HW5.out.new hk6); clear hk6))
    have HL6 := Lib.hid (wsLen HW6)
    rw [HZ.out] at HL6
    go_wp2_with (first
      | (go_at_call 21; go_must (with_reducible refine HL6.out.mono ?_); rintro e w7 ⟨rfl, rfl⟩))
    go_ret
    exact ⟨rfl, (HK.out.new HW6.out.keeps).below⟩
end Go.Proofs.Ytepbngdoeolepaa
