/-
  Layer 8 (stereo): whole, Turn of known's number, known.
-/
import Derived.Test.YtildkehbogmceaaSte8
set_option linter.unusedVariables false
set_option linter.unusedSimpArgs false
namespace Go.Proofs.Ytildkehbogmceaa
open Go.RowKit

theorem whole_calls (x y : Int) (w : World) (hx : Sm x) (hy : Sm y) :
    Calls Try.prog 23 #[cx x y] w fun e w' => e = .returned (cx x y) ∧ w' = w := by
  have h1 : ∀ W, (binOp .add 38 (.float .f64 (FI x)) (.float .f64 0)).run Try.prog W = .ok (.float .f64 (FI x)) W := by
    intro W
    have := run_addF x 0 hx (by constructor <;> omega) (by constructor <;> omega) W
    rwa [FI_zero, Int.add_zero] at this
  have h2 : ∀ W, (binOp .add 38 (.float .f64 (FI y)) (.float .f64 0)).run Try.prog W = .ok (.float .f64 (FI y)) W := by
    intro W
    have := run_addF y 0 hy (by constructor <;> omega) (by constructor <;> omega) W
    rwa [FI_zero, Int.add_zero] at this
  go_enter Try.func23, Try.ntmps23
  go_wp2
  go_ret
  exact ⟨rfl, rfl⟩
theorem FI_3 : FI 3 = 4613937818241073152 := by decide
theorem FI_5 : FI 5 = 4617315517961601024 := by decide
theorem FI_m3 : FI (-3) = 13837309855095848960 := by decide
theorem run_turn1 (W : World) : (binOp .mul 37 (cx 1 3) (.complex .f64 0 4607182418800017408)).run Try.prog W = .ok (cx (-3) 1) W := by
  refine run_complex_mul W _ _ _ _ _ _ _ ?_
  have a1 : floatBits .mul .f64 (FI 1) (FI 0) = some (FI 0) := mul_FI 1 0 (by decide) (by decide) (by decide) (by intro h; omega) (by intro _; omega)
  have a2 : floatBits .mul .f64 (FI 3) (FI 1) = some (FI 3) := mul_FI 3 1 (by decide) (by decide) (by decide) (by intro h; omega) (by intro _; omega)
  have a3 : floatBits .sub .f64 (FI 0) (FI 3) = some (FI (-3)) := sub_FI 0 3 (by decide) (by decide) (by decide)
  have a4 : floatBits .mul .f64 (FI 1) (FI 1) = some (FI 1) := mul_FI 1 1 (by decide) (by decide) (by decide) (by intro h; omega) (by intro _; omega)
  have a5 : floatBits .mul .f64 (FI 3) (FI 0) = some (FI 0) := mul_FI 3 0 (by decide) (by decide) (by decide) (by intro h; omega) (by intro _; omega)
  have a6 : floatBits .add .f64 (FI 1) (FI 0) = some (FI 1) := add_FI 1 0 (by decide) (by decide) (by decide)
  have h : cMulBits (FI 1) (FI 3) (FI 0) (FI 1) = some (FI (-3), FI 1) := by
    unfold cMulBits
    rw [a1, a2]
    simp only [Option.bind_some, a3, a4, a5, a6]
  rw [FI_zero] at h
  have e : cMulBits (FI 1) (FI 3) 0 (FI 1) = cMulBits (FI 1) (FI 3) 0 4607182418800017408 := congrArg (cMulBits (FI 1) (FI 3) 0) FI_one
  rw [← e]
  exact h
theorem run_indexC (u0 u1 u2 u3 : Value) (W : World) : Sem.run Try.prog (Instr.index 51 (.agg #[u0, u1, u2, u3]) (.int .i64 1)) W = .ok u1 W := by kernel_rfl
/-- A row that has just been laid. -/
theorem RdV.lit (w : World) (e : TypeId) (cs : Array Value) (hm : cs.size ≤ 9223372036854775807) : RdV (w.alloc (.cells cs e)) (some ⟨w.heap.size, 0, none⟩) cs.toList := by
  refine ⟨by simpa using hm, fun i hi => ⟨w.heap.size, 0, rfl, ?_⟩⟩
  have hi2 : i < cs.size := by simpa using hi
  have hp : (w.alloc (.cells cs e)).heap[w.heap.size]? = some (.cells cs e (0, 0)) := by show (w.heap.push _)[w.heap.size]? = _; simp
  unfold World.cell?
  rw [hp]
  show cs[0 + i]? = _
  rw [Nat.zero_add]
  simp [hi2]

set_option maxHeartbeats 2000000 in
theorem turn1_calls (a : Option Addr) (c : Nat) (w : World) (hx : Hid (RdV w a (cxs [(1, 3)]))) :
    Calls Try.prog 13 #[.slice a 1 c, .int .i64 1] w fun e w' => ∃ v, e = .returned (.tuple #[v, .int .i64 0]) ∧ RowV w' 37 v (cxs [(-3, 1)]) ∧ Keeps [] w w' := by
  have HCK := Lib.hid (scheck_calls [(1, 3)] 1 rfl a c w (by simp) (by intro z hz; rw [List.mem_singleton] at hz; subst hz; decide) hx)
  have HWH := Lib.hid (fun W => whole_calls (-3) 1 W (by constructor <;> omega) (by constructor <;> omega))
  have ht := run_turn1
  have hix := run_indexC (.complex .f64 4607182418800017408 0) (.complex .f64 0 4607182418800017408) (.complex .f64 13830554455654793216 0) (.complex .f64 0 13830554455654793216)
  have hand : bits .and .i64 1 3 = 1 := by decide
  go_enter Try.func13, Try.ntmps13
  go_wp2_with (first
    | (go_at_call 15; go_must (refine HCK.out.mono ?_); rintro e w1 ⟨rfl, rfl⟩))
  go_loopg [8, 22] 2 (fun q v8 v22 wr => (v22 = .int .i64 0 ∧ v8 = .slice none 0 0 ∧ Hid (q = 2) ∧ Hid (wr = w1)) ∨ (v22 = .int .i64 1 ∧ Hid (RowV wr 37 v8 (cxs [(-3, 1)])) ∧ Hid (q = 1) ∧ Hid (Keeps [] w1 wr)))
  case atStart => exact .inl ⟨rfl, rfl, (show _ = _ from rfl), (show _ = _ from rfl)⟩
  case round =>
    rcases hrel with ⟨rfl, rfl, HQ, HW⟩ | ⟨rfl, HR, HQ, HK⟩
    · obtain rfl := HW.out
      obtain ⟨wa, rfl⟩ : ∃ y : World, y = wr := ⟨_, rfl⟩
      obtain ⟨b1, o1, rfl, hc1⟩ := hx.out.at_ 0 (by simp [cxs])
      have hc1 : wa.cell? ⟨b1, o1, none⟩ = some (cx 1 3) := hc1
      go_wp2_with (first
        | (go_at_call 23; go_must (refine (HWH.out _).mono ?_); rintro e w3 ⟨rfl, rfl⟩)
        | (at_builtin; go_must (refine wp_appV rfl (.tmp 26) (.tmp 31) 24 37 (.complex .f64 0 0) 16 rfl Try.underlying24 info_cx rfl (.slice none 0 0) [] (cx (-3) 1) rfl rfl rfl (RowV.nil _ _) (by simp) (by simp) ?_); intro v1 w4 hr1 hk1 hf1; have HR1 := Lib.hid hr1; have HK1 := Lib.hid hk1; clear hr1 hk1 hf1))
      go_roundg 1
      case measure => have := HQ.out; omega
      case rel => exact .inr ⟨by go_num, HR1.out, (show _ = _ from rfl), HK1.out⟩
    · go_wp2_with fail
      go_ret2
      exact ⟨_, rfl, HR.out, HK.out⟩

set_option maxHeartbeats 4000000 in
set_option maxRecDepth 100000 in
theorem sknown_calls (w : World) :
    Calls Try.prog 5 #[] w fun e w' => e = .returned (.bool true) ∧ Keeps [] w w' := by
  have hj : joinE [1, 2] [3, 5] = 0 := by decide
  have hz : ([1, 2] : List Int).zip ([3, 5] : List Int) = [(1, 3), (2, 5)] := rfl
  have HJ : Hid (∀ W a b, Hid (Rd W .i64 a [1, 2]) → Hid (Rd W .i64 b [3, 5]) → Calls Try.prog 6 #[.slice a 2 2, .slice b 2 2] W fun e w' => ∃ v, e = .returned (.tuple #[v, .int .i64 0]) ∧ RowV w' 37 v (cxs [(1, 3), (2, 5)]) ∧ Keeps [] W w') := by
    intro W a b h1 h2
    refine (join_calls [1, 2] [3, 5] 2 2 rfl rfl a b 2 2 W h1 h2).mono ?_
    rintro e w' ⟨v, rfl, q1, -, q3⟩
    rw [hj, if_pos rfl, hz] at q1
    rw [hj]
    exact ⟨v, rfl, q1, q3⟩
  have c1 : (#[.complex .f64 4607182418800017408 4613937818241073152] : Array Value).toList = cxs [(1, 3)] := by
    show _ = [cx 1 3]
    rw [← FI_one, ← FI_3]
  have c2 : (#[.complex .f64 4607182418800017408 4613937818241073152, .complex .f64 4611686018427387904 4617315517961601024] : Array Value).toList = cxs [(1, 3), (2, 5)] := by
    show _ = [cx 1 3, cx 2 5]
    rw [← FI_one, ← FI_3, ← FI_two, ← FI_5]
  have c3 : (#[.complex .f64 13837309855095848960 4607182418800017408] : Array Value).toList = cxs [(-3, 1)] := by
    show _ = [cx (-3) 1]
    rw [← FI_one, ← FI_m3]
  have HC1 := Lib.hid c1
  have HC2 := Lib.hid c2
  have HC3 := Lib.hid c3
  clear hj hz c1 c2 c3
  go_enter Try.func5, Try.ntmps5
  have HRD1 : Hid (Rd ((w.alloc (.cells #[.int .i64 1, .int .i64 2] 3)).alloc (.cells #[.int .i64 3, .int .i64 5] 3)) .i64 (some ⟨w.heap.size, 0, none⟩) [1, 2]) :=
    (Rd.lit0 w .i64 3 #[.int .i64 1, .int .i64 2] [1, 2] rfl (by simp)).new ((Keeps.refl _ _).alloc _)
  have HRD2 : Hid (Rd ((w.alloc (.cells #[.int .i64 1, .int .i64 2] 3)).alloc (.cells #[.int .i64 3, .int .i64 5] 3)) .i64 (some ⟨w.heap.size + 1, 0, none⟩) [3, 5]) :=
    Rd.lit1 w _ .i64 3 #[.int .i64 3, .int .i64 5] [3, 5] rfl (by simp)
  have HKA : Hid (Keeps [] w ((w.alloc (.cells #[.int .i64 1, .int .i64 2] 3)).alloc (.cells #[.int .i64 3, .int .i64 5] 3))) := ((Keeps.refl _ _).alloc _).alloc _
  go_upto_region 2 with (first
    | (go_at_call 6; go_must (with_reducible refine (HJ.out _ _ _ HRD1 HRD2).mono ?_); rintro e w3 ⟨v1, rfl, hr1, hk1⟩; have HR1 := Lib.hid hr1; have HK1 := Lib.hid (HKA.out.new hk1); clear hr1 hk1))
  have HKB : Hid (Keeps [] w3 (w3.alloc (.cells #[.complex .f64 4607182418800017408 4613937818241073152] 37))) := (Keeps.refl _ _).alloc _
  have HRC : Hid (RdV (w3.alloc (.cells #[.complex .f64 4607182418800017408 4613937818241073152] 37)) (some ⟨w3.heap.size, 0, none⟩) (cxs [(1, 3)])) := by
    have := RdV.lit w3 37 #[.complex .f64 4607182418800017408 4613937818241073152] (by simp)
    rw [HC1.out] at this
    exact this
  go_upto_region 3 with (first
    | (go_at_call 13; go_must (with_reducible refine (turn1_calls _ 1 _ HRC).mono ?_); rintro e w4 ⟨v3, rfl, hr3, hk3⟩; have HR3 := Lib.hid hr3; have HK3 := Lib.hid ((HK1.out.new HKB.out).new hk3); have HR1' := Lib.hid (HR1.out.new (HKB.out.new hk3)); clear hr3 hk3))
  obtain ⟨a1, c1, hv1, hrd1⟩ := HR1'.out.rdV
  obtain ⟨a3, c3, hv3, hrd3⟩ := HR3.out.rdV
  have hv1 : v1 = .slice a1 2 c1 := hv1
  have hv3 : v3 = .slice a3 1 c3 := hv3
  subst hv1 hv3
  have HP1 := Lib.hid hrd1
  have HP3 := Lib.hid hrd3
  clear hrd1 hrd3 HRD1 HRD2 HKA HKB HRC HJ HR1 HR3 HR1' HK1
  have HS1 := Lib.hid (fun W b d (hk : Keeps [] w4 W) (h : Hid (RdV W b (cxs [(1, 3), (2, 5)]))) => csame_calls [(1, 3), (2, 5)] 2 2 rfl rfl a1 b c1 d W (by intro z hz; simp only [List.mem_cons, List.not_mem_nil, or_false] at hz; rcases hz with rfl | rfl <;> decide) (Lib.hid (HP1.out.new hk)) h)
  have HS3 := Lib.hid (fun W b d (hk : Keeps [] w4 W) (h : Hid (RdV W b (cxs [(-3, 1)]))) => csame_calls [(-3, 1)] 1 1 rfl rfl a3 b c3 d W (by intro z hz; rw [List.mem_singleton] at hz; subst hz; decide) (Lib.hid (HP3.out.new hk)) h)
  have HKC : Hid (Keeps [] w4 (w4.alloc (.cells #[.complex .f64 4607182418800017408 4613937818241073152, .complex .f64 4611686018427387904 4617315517961601024] 37))) := (Keeps.refl _ _).alloc _
  have HRC2 : Hid (RdV (w4.alloc (.cells #[.complex .f64 4607182418800017408 4613937818241073152, .complex .f64 4611686018427387904 4617315517961601024] 37)) (some ⟨w4.heap.size, 0, none⟩) (cxs [(1, 3), (2, 5)])) := by
    have := RdV.lit w4 37 #[.complex .f64 4607182418800017408 4613937818241073152, .complex .f64 4611686018427387904 4617315517961601024] (by simp)
    rw [HC2.out] at this
    exact this
  have HRC3 : Hid (∀ W : World, RdV (W.alloc (.cells #[.complex .f64 13837309855095848960 4607182418800017408] 37)) (some ⟨W.heap.size, 0, none⟩) (cxs [(-3, 1)])) := by
    intro W
    have := RdV.lit W 37 #[.complex .f64 13837309855095848960 4607182418800017408] (by simp)
    rw [HC3.out] at this
    exact this
  go_wp2_with (first
    | (go_at_call 12; go_must (first
        | (with_reducible refine (HS1.out _ _ _ HKC.out HRC2).mono ?_; rintro e w5 ⟨rfl, k5, hk5⟩; have hq5 : Keeps [] w4 w5 := (by rw [hk5]; exact HKC.out.drewN k5); have HK5 := Lib.hid hq5; clear hk5 hq5)
        | (refine (HS3.out _ _ _ (HK5.out.alloc _) (Lib.hid (HRC3.out w5))).mono ?_; rintro e w6 ⟨rfl, k6, hk6⟩; have hq6 : Keeps [] w4 w6 := (by rw [hk6]; exact (HK5.out.alloc _).drewN k6); have HK6 := Lib.hid hq6; clear hk6 hq6))))
  go_ret
  exact ⟨rfl, HK3.out.new HK6.out⟩
end Go.Proofs.Ytildkehbogmceaa
