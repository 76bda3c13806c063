/-
  Layer 8 (stereo): Apart. (Written by gen_ste6.py.)
-/
import Derived.Test.YtildkehbogmceaaSte5
set_option linter.unusedVariables false
set_option linter.unusedSimpArgs false
namespace Go.Proofs.Ytildkehbogmceaa
open Go.RowKit

theorem info_i64s : (Try.prog.info? 3).map (fun i => (i.zero, i.size, i.bytes)) = some (some (.int .i64 0), 1, 8) := by kernel_rfl
def apA (mode : Int) (z : Int × Int) : Int := if mode = 9 then z.1 - z.2 else if mode = 10 then (z.1 + z.2) / 2 else z.1
def apB (mode : Int) (z : Int × Int) : Int := if mode = 8 ∨ mode = 10 then z.1 - z.2 else z.2
theorem run_toInt (n : Int) (h : Sm n) (W : World) : Sem.run Try.prog (convert 38 3 (.float .f64 (FI n))) W = .ok (.int .i64 n) W :=
  run_convert_float_int W 38 3 .f64 .i64 (FI n) n (by kernel_rfl) (by kernel_rfl) (int_FI n h.lt)
theorem FI_two : FI 2 = 4611686018427387904 := by decide
theorem run_addF (a b : Int) (ha : Sm a) (hb : Sm b) (hs : Sm (a + b)) (W : World) : (binOp .add 38 (.float .f64 (FI a)) (.float .f64 (FI b))).run Try.prog W = .ok (.float .f64 (FI (a + b))) W :=
  run_float_arith W .add _ .f64 _ _ _ (add_FI a b ha.lt hb.lt hs.lt)
theorem run_halfF (s : Int) (hs : Sm s) (W : World) : (binOp .quo 38 (.float .f64 (FI s)) (.float .f64 4611686018427387904)).run Try.prog W = .ok (.float .f64 (HI s)) W := by
  rw [← FI_two]
  exact run_float_arith W .quo _ .f64 _ _ _ (half_FI s hs.lt)
/-- Both rows that Apart makes. -/
structure AB (w0 w : World) (va vb : Value) (A B : List Int) : Prop where
  ra : Row w .i64 3 va A
  rb : Row w .i64 3 vb B
  fa : ∀ b, b ∈ fp va → w0.heap.size ≤ b
  fb : ∀ b, b ∈ fp vb → w0.heap.size ≤ b
  ne : ∀ b, b ∈ fp va → b ∉ fp vb
  keep : Keeps [] w0 w
theorem AB.appA {w0 w w' : World} {va vb va' : Value} {A A' B : List Int} (h : AB w0 w va vb A B) (hr : Row w' .i64 3 va' A') (hk : Keeps (fp va) w w') (hf : ∀ b, b ∈ fp va' → b ∈ fp va ∨ w.heap.size ≤ b) : AB w0 w' va' vb A' B := by
  refine ⟨hr, h.rb.keeps hk (fun b hb hm => h.ne b hm hb), ?_, h.fb, ?_, h.keep.then_ hk (fun b hb hlt => by have := h.fa b hb; omega)⟩
  · intro b hb
    rcases hf b hb with h1 | h1
    · exact h.fa b h1
    · exact Nat.le_trans h.keep.size h1
  · intro b hb hm
    rcases hf b hb with h1 | h1
    · exact h.ne b h1 hm
    · have := h.rb.lt b hm
      omega
theorem AB.appB {w0 w w' : World} {va vb vb' : Value} {A B B' : List Int} (h : AB w0 w va vb A B) (hr : Row w' .i64 3 vb' B') (hk : Keeps (fp vb) w w') (hf : ∀ b, b ∈ fp vb' → b ∈ fp vb ∨ w.heap.size ≤ b) : AB w0 w' va vb' A B' := by
  refine ⟨h.ra.keeps hk (fun b hb hm => h.ne b hb hm), hr, h.fa, ?_, ?_, h.keep.then_ hk (fun b hb hlt => by have := h.fb b hb; omega)⟩
  · intro b hb
    rcases hf b hb with h1 | h1
    · exact h.fb b h1
    · exact Nat.le_trans h.keep.size h1
  · intro b hb hm
    rcases hf b hm with h1 | h1
    · exact h.ne b hb h1
    · have := h.ra.lt b hb
      omega

set_option maxHeartbeats 4000000 in
set_option maxRecDepth 100000 in
theorem apart_0 (zs : List (Int × Int)) (n : Nat) (hn : n = zs.length) (a : Option Addr) (c : Nat) (w : World) (hl : zs.length ≤ 8192) (hin : ∀ z ∈ zs, InC z) (hx : Hid (RdV w a (cxs zs))) :
    Calls Try.prog 7 #[.slice a n c, .int .i64 0] w fun e w' => ∃ va vb, e = .returned (.tuple #[va, vb, .int .i64 0]) ∧ AB w w' va vb (zs.map (apA 0)) (zs.map (apB 0)) := by
  subst hn
  have HIN := Lib.hid hin
  have HCK := Lib.hid (scheck_calls zs _ rfl a c w hl hin hx)
  have HMO : Hid (Calls Try.prog 14 #[.int .i64 0] w fun e w' => e = .returned (.bool true) ∧ w' = w) := isMode_calls 0 w
  clear hin
  go_enter Try.func7, Try.ntmps7
  go_wp2_with (first
    | (go_at_call 14; go_must (refine HMO.out.mono ?_); rintro e w1 ⟨rfl, rfl⟩)
    | (go_at_call 15; go_must (refine HCK.out.mono ?_); rintro e w1 ⟨rfl, rfl⟩))
  go_loopg [8, 9, 24] (zs.length + 1) (fun q v8 v9 v24 wr => ∃ (i : Nat), v24 = .int .i64 i ∧ i ≤ zs.length ∧ Hid (AB w1 wr v8 v9 ((zs.take i).map (apA 0)) ((zs.take i).map (apB 0))) ∧ Hid (i + q = zs.length + 1))
  case atStart => exact ⟨0, rfl, by omega, ⟨Row.nil _ _ _, Row.nil _ _ _, fun b hb => (by cases hb), fun b hb => (by cases hb), fun b hb => (by cases hb), Keeps.refl _ _⟩, (show _ = _ from by omega)⟩
  case round =>
    obtain ⟨i, rfl, hi, HAB, HQ⟩ := hrel
    obtain ⟨q1, rfl⟩ : ∃ g : Nat, g = gk := ⟨_, rfl⟩
    obtain ⟨wa, rfl⟩ : ∃ y : World, y = wr := ⟨_, rfl⟩
    by_cases hlt : i < zs.length
    · obtain ⟨b1, o1, rfl, hc1⟩ := (hx.out.new HAB.out.keep).at_ i (by rw [cxs_length]; exact hlt)
      rw [cxs_get zs i hlt] at hc1
      have hr := HIN.out zs[i] (List.getElem_mem _)
      obtain ⟨⟨x, y⟩, hze⟩ : ∃ z, zs[i] = z := ⟨_, rfl⟩
      rw [hze] at hc1 hr
      have htk : zs.take (i + 1) = zs.take i ++ [(x, y)] := by rw [List.take_succ_eq_append_getElem hlt, hze]
      have hc1 : wa.cell? ⟨b1, o1 + i, none⟩ = some (cx x y) := hc1
      unfold InC at hr
      obtain ⟨⟨r1, r2⟩, r3, r4⟩ := hr
      have r1 : -16777216 ≤ x := r1
      have r2 : x ≤ 16777216 := r2
      have r3 : -16777216 ≤ y := r3
      have r4 : y ≤ 16777216 := r4
      have hA : apA 0 (x, y) = x := rfl
      have hB : apB 0 (x, y) = y := rfl
      have HTA : Hid ((zs.take (i + 1)).map (apA 0) = (zs.take i).map (apA 0) ++ [x]) := by show _ = _; rw [htk, List.map_append, ← hA]; rfl
      have HTB : Hid ((zs.take (i + 1)).map (apB 0) = (zs.take i).map (apB 0) ++ [y]) := by show _ = _; rw [htk, List.map_append, ← hB]; rfl
      have HSD := Lib.hid (fun W => side_calls x y W (by omega) (by omega))
      have hcvA := fun W => run_toInt (x) (by constructor <;> omega) W
      have hcvB := fun W => run_toInt (y) (by constructor <;> omega) W
      have HFL : Hid (∀ W, Calls Try.prog 17 #[.float .f64 (HI 0)] W fun e w' => e = .returned (.float .f64 (FI (0 / 2))) ∧ w' = W) := fun W => floor_calls 0 W (by constructor <;> omega)
      have HLA : Hid (((zs.take i).map (apA 0)).length + 1 ≤ 8193 ∧ ((zs.take i).map (apB 0)).length + 1 ≤ 8193) := (show _ ∧ _ from by rw [List.length_map, List.length_map, List.length_take]; omega)
      clear hze htk hA hB
      go_wp2_with (first
        | (go_at_call 16; go_must (refine (HSD.out _).mono ?_); rintro e w3 ⟨rfl, rfl⟩)
        | (go_at_call 17; go_must (refine (HFL.out _).mono ?_); rintro e w3 ⟨rfl, rfl⟩)
        | (at_builtin; go_must (first
            | (refine wp_app1 (W := _) rfl (.tmp 50) (.tmp 53) 22 3 .i64 8 rfl Try.underlying22 info_i64s (by decide) _ ((zs.take i).map (apA 0)) (x) rfl rfl HAB.out.ra (by have := HLA.out.1; omega) ?_; intro v1 wb hr1 hk1 hf1; rw [← HTA.out] at hr1; have HAC := Lib.hid (HAB.out.appA hr1 hk1 hf1); clear hr1 hk1 hf1)
            | (refine wp_app1 (W := wb) rfl (.tmp 55) (.tmp 58) 22 3 .i64 8 rfl Try.underlying22 info_i64s (by decide) _ ((zs.take i).map (apB 0)) (y) rfl rfl HAC.out.rb (by have := HLA.out.2; omega) ?_; intro v2 wd hr1 hk1 hf1; rw [← HTB.out] at hr1; have HAD := Lib.hid (HAC.out.appB hr1 hk1 hf1); clear hr1 hk1 hf1))))
      go_roundg (zs.length - i)
      case measure => have := HQ.out; omega
      case rel => exact ⟨i + 1, by go_num, by omega, HAD.out, (show _ = _ from by have := HQ.out; omega)⟩
    · obtain rfl : i = zs.length := by omega
      have h5 := HAB.out
      rw [List.take_of_length_le (Nat.le_refl _)] at h5
      have HAE := Lib.hid h5
      clear h5
      go_wp2_with fail
      go_ret3
      exact ⟨_, _, rfl, HAE.out⟩

set_option maxHeartbeats 4000000 in
set_option maxRecDepth 100000 in
theorem apart_8 (zs : List (Int × Int)) (n : Nat) (hn : n = zs.length) (a : Option Addr) (c : Nat) (w : World) (hl : zs.length ≤ 8192) (hin : ∀ z ∈ zs, InC z) (hx : Hid (RdV w a (cxs zs))) :
    Calls Try.prog 7 #[.slice a n c, .int .i64 8] w fun e w' => ∃ va vb, e = .returned (.tuple #[va, vb, .int .i64 0]) ∧ AB w w' va vb (zs.map (apA 8)) (zs.map (apB 8)) := by
  subst hn
  have HIN := Lib.hid hin
  have HCK := Lib.hid (scheck_calls zs _ rfl a c w hl hin hx)
  have HMO : Hid (Calls Try.prog 14 #[.int .i64 8] w fun e w' => e = .returned (.bool true) ∧ w' = w) := isMode_calls 8 w
  clear hin
  go_enter Try.func7, Try.ntmps7
  go_wp2_with (first
    | (go_at_call 14; go_must (refine HMO.out.mono ?_); rintro e w1 ⟨rfl, rfl⟩)
    | (go_at_call 15; go_must (refine HCK.out.mono ?_); rintro e w1 ⟨rfl, rfl⟩))
  go_loopg [8, 9, 24] (zs.length + 1) (fun q v8 v9 v24 wr => ∃ (i : Nat), v24 = .int .i64 i ∧ i ≤ zs.length ∧ Hid (AB w1 wr v8 v9 ((zs.take i).map (apA 8)) ((zs.take i).map (apB 8))) ∧ Hid (i + q = zs.length + 1))
  case atStart => exact ⟨0, rfl, by omega, ⟨Row.nil _ _ _, Row.nil _ _ _, fun b hb => (by cases hb), fun b hb => (by cases hb), fun b hb => (by cases hb), Keeps.refl _ _⟩, (show _ = _ from by omega)⟩
  case round =>
    obtain ⟨i, rfl, hi, HAB, HQ⟩ := hrel
    obtain ⟨q1, rfl⟩ : ∃ g : Nat, g = gk := ⟨_, rfl⟩
    obtain ⟨wa, rfl⟩ : ∃ y : World, y = wr := ⟨_, rfl⟩
    by_cases hlt : i < zs.length
    · obtain ⟨b1, o1, rfl, hc1⟩ := (hx.out.new HAB.out.keep).at_ i (by rw [cxs_length]; exact hlt)
      rw [cxs_get zs i hlt] at hc1
      have hr := HIN.out zs[i] (List.getElem_mem _)
      obtain ⟨⟨x, y⟩, hze⟩ : ∃ z, zs[i] = z := ⟨_, rfl⟩
      rw [hze] at hc1 hr
      have htk : zs.take (i + 1) = zs.take i ++ [(x, y)] := by rw [List.take_succ_eq_append_getElem hlt, hze]
      have hc1 : wa.cell? ⟨b1, o1 + i, none⟩ = some (cx x y) := hc1
      unfold InC at hr
      obtain ⟨⟨r1, r2⟩, r3, r4⟩ := hr
      have r1 : -16777216 ≤ x := r1
      have r2 : x ≤ 16777216 := r2
      have r3 : -16777216 ≤ y := r3
      have r4 : y ≤ 16777216 := r4
      have hA : apA 8 (x, y) = x := rfl
      have hB : apB 8 (x, y) = x - y := rfl
      have HTA : Hid ((zs.take (i + 1)).map (apA 8) = (zs.take i).map (apA 8) ++ [x]) := by show _ = _; rw [htk, List.map_append, ← hA]; rfl
      have HTB : Hid ((zs.take (i + 1)).map (apB 8) = (zs.take i).map (apB 8) ++ [x - y]) := by show _ = _; rw [htk, List.map_append, ← hB]; rfl
      have HSD := Lib.hid (fun W => side_calls x y W (by omega) (by omega))
      have hcvA := fun W => run_toInt (x) (by constructor <;> omega) W
      have hcvB := fun W => run_toInt (x - y) (by constructor <;> omega) W
      have HFL : Hid (∀ W, Calls Try.prog 17 #[.float .f64 (HI 0)] W fun e w' => e = .returned (.float .f64 (FI (0 / 2))) ∧ w' = W) := fun W => floor_calls 0 W (by constructor <;> omega)
      have HLA : Hid (((zs.take i).map (apA 8)).length + 1 ≤ 8193 ∧ ((zs.take i).map (apB 8)).length + 1 ≤ 8193) := (show _ ∧ _ from by rw [List.length_map, List.length_map, List.length_take]; omega)
      clear hze htk hA hB
      go_wp2_with (first
        | (go_at_call 16; go_must (refine (HSD.out _).mono ?_); rintro e w3 ⟨rfl, rfl⟩)
        | (go_at_call 17; go_must (refine (HFL.out _).mono ?_); rintro e w3 ⟨rfl, rfl⟩)
        | (at_builtin; go_must (first
            | (refine wp_app1 (W := _) rfl (.tmp 50) (.tmp 53) 22 3 .i64 8 rfl Try.underlying22 info_i64s (by decide) _ ((zs.take i).map (apA 8)) (x) rfl rfl HAB.out.ra (by have := HLA.out.1; omega) ?_; intro v1 wb hr1 hk1 hf1; rw [← HTA.out] at hr1; have HAC := Lib.hid (HAB.out.appA hr1 hk1 hf1); clear hr1 hk1 hf1)
            | (refine wp_app1 (W := wb) rfl (.tmp 55) (.tmp 58) 22 3 .i64 8 rfl Try.underlying22 info_i64s (by decide) _ ((zs.take i).map (apB 8)) (x - y) rfl rfl HAC.out.rb (by have := HLA.out.2; omega) ?_; intro v2 wd hr1 hk1 hf1; rw [← HTB.out] at hr1; have HAD := Lib.hid (HAC.out.appB hr1 hk1 hf1); clear hr1 hk1 hf1))))
      go_roundg (zs.length - i)
      case measure => have := HQ.out; omega
      case rel => exact ⟨i + 1, by go_num, by omega, HAD.out, (show _ = _ from by have := HQ.out; omega)⟩
    · obtain rfl : i = zs.length := by omega
      have h5 := HAB.out
      rw [List.take_of_length_le (Nat.le_refl _)] at h5
      have HAE := Lib.hid h5
      clear h5
      go_wp2_with fail
      go_ret3
      exact ⟨_, _, rfl, HAE.out⟩

set_option maxHeartbeats 4000000 in
set_option maxRecDepth 100000 in
theorem apart_9 (zs : List (Int × Int)) (n : Nat) (hn : n = zs.length) (a : Option Addr) (c : Nat) (w : World) (hl : zs.length ≤ 8192) (hin : ∀ z ∈ zs, InC z) (hx : Hid (RdV w a (cxs zs))) :
    Calls Try.prog 7 #[.slice a n c, .int .i64 9] w fun e w' => ∃ va vb, e = .returned (.tuple #[va, vb, .int .i64 0]) ∧ AB w w' va vb (zs.map (apA 9)) (zs.map (apB 9)) := by
  subst hn
  have HIN := Lib.hid hin
  have HCK := Lib.hid (scheck_calls zs _ rfl a c w hl hin hx)
  have HMO : Hid (Calls Try.prog 14 #[.int .i64 9] w fun e w' => e = .returned (.bool true) ∧ w' = w) := isMode_calls 9 w
  clear hin
  go_enter Try.func7, Try.ntmps7
  go_wp2_with (first
    | (go_at_call 14; go_must (refine HMO.out.mono ?_); rintro e w1 ⟨rfl, rfl⟩)
    | (go_at_call 15; go_must (refine HCK.out.mono ?_); rintro e w1 ⟨rfl, rfl⟩))
  go_loopg [8, 9, 24] (zs.length + 1) (fun q v8 v9 v24 wr => ∃ (i : Nat), v24 = .int .i64 i ∧ i ≤ zs.length ∧ Hid (AB w1 wr v8 v9 ((zs.take i).map (apA 9)) ((zs.take i).map (apB 9))) ∧ Hid (i + q = zs.length + 1))
  case atStart => exact ⟨0, rfl, by omega, ⟨Row.nil _ _ _, Row.nil _ _ _, fun b hb => (by cases hb), fun b hb => (by cases hb), fun b hb => (by cases hb), Keeps.refl _ _⟩, (show _ = _ from by omega)⟩
  case round =>
    obtain ⟨i, rfl, hi, HAB, HQ⟩ := hrel
    obtain ⟨q1, rfl⟩ : ∃ g : Nat, g = gk := ⟨_, rfl⟩
    obtain ⟨wa, rfl⟩ : ∃ y : World, y = wr := ⟨_, rfl⟩
    by_cases hlt : i < zs.length
    · obtain ⟨b1, o1, rfl, hc1⟩ := (hx.out.new HAB.out.keep).at_ i (by rw [cxs_length]; exact hlt)
      rw [cxs_get zs i hlt] at hc1
      have hr := HIN.out zs[i] (List.getElem_mem _)
      obtain ⟨⟨x, y⟩, hze⟩ : ∃ z, zs[i] = z := ⟨_, rfl⟩
      rw [hze] at hc1 hr
      have htk : zs.take (i + 1) = zs.take i ++ [(x, y)] := by rw [List.take_succ_eq_append_getElem hlt, hze]
      have hc1 : wa.cell? ⟨b1, o1 + i, none⟩ = some (cx x y) := hc1
      unfold InC at hr
      obtain ⟨⟨r1, r2⟩, r3, r4⟩ := hr
      have r1 : -16777216 ≤ x := r1
      have r2 : x ≤ 16777216 := r2
      have r3 : -16777216 ≤ y := r3
      have r4 : y ≤ 16777216 := r4
      have hA : apA 9 (x, y) = x - y := rfl
      have hB : apB 9 (x, y) = y := rfl
      have HTA : Hid ((zs.take (i + 1)).map (apA 9) = (zs.take i).map (apA 9) ++ [x - y]) := by show _ = _; rw [htk, List.map_append, ← hA]; rfl
      have HTB : Hid ((zs.take (i + 1)).map (apB 9) = (zs.take i).map (apB 9) ++ [y]) := by show _ = _; rw [htk, List.map_append, ← hB]; rfl
      have HSD := Lib.hid (fun W => side_calls x y W (by omega) (by omega))
      have hcvA := fun W => run_toInt (x - y) (by constructor <;> omega) W
      have hcvB := fun W => run_toInt (y) (by constructor <;> omega) W
      have HFL : Hid (∀ W, Calls Try.prog 17 #[.float .f64 (HI 0)] W fun e w' => e = .returned (.float .f64 (FI (0 / 2))) ∧ w' = W) := fun W => floor_calls 0 W (by constructor <;> omega)
      have HLA : Hid (((zs.take i).map (apA 9)).length + 1 ≤ 8193 ∧ ((zs.take i).map (apB 9)).length + 1 ≤ 8193) := (show _ ∧ _ from by rw [List.length_map, List.length_map, List.length_take]; omega)
      clear hze htk hA hB
      go_wp2_with (first
        | (go_at_call 16; go_must (refine (HSD.out _).mono ?_); rintro e w3 ⟨rfl, rfl⟩)
        | (go_at_call 17; go_must (refine (HFL.out _).mono ?_); rintro e w3 ⟨rfl, rfl⟩)
        | (at_builtin; go_must (first
            | (refine wp_app1 (W := _) rfl (.tmp 50) (.tmp 53) 22 3 .i64 8 rfl Try.underlying22 info_i64s (by decide) _ ((zs.take i).map (apA 9)) (x - y) rfl rfl HAB.out.ra (by have := HLA.out.1; omega) ?_; intro v1 wb hr1 hk1 hf1; rw [← HTA.out] at hr1; have HAC := Lib.hid (HAB.out.appA hr1 hk1 hf1); clear hr1 hk1 hf1)
            | (refine wp_app1 (W := wb) rfl (.tmp 55) (.tmp 58) 22 3 .i64 8 rfl Try.underlying22 info_i64s (by decide) _ ((zs.take i).map (apB 9)) (y) rfl rfl HAC.out.rb (by have := HLA.out.2; omega) ?_; intro v2 wd hr1 hk1 hf1; rw [← HTB.out] at hr1; have HAD := Lib.hid (HAC.out.appB hr1 hk1 hf1); clear hr1 hk1 hf1))))
      go_roundg (zs.length - i)
      case measure => have := HQ.out; omega
      case rel => exact ⟨i + 1, by go_num, by omega, HAD.out, (show _ = _ from by have := HQ.out; omega)⟩
    · obtain rfl : i = zs.length := by omega
      have h5 := HAB.out
      rw [List.take_of_length_le (Nat.le_refl _)] at h5
      have HAE := Lib.hid h5
      clear h5
      go_wp2_with fail
      go_ret3
      exact ⟨_, _, rfl, HAE.out⟩

set_option maxHeartbeats 4000000 in
set_option maxRecDepth 100000 in
theorem apart_10 (zs : List (Int × Int)) (n : Nat) (hn : n = zs.length) (a : Option Addr) (c : Nat) (w : World) (hl : zs.length ≤ 8192) (hin : ∀ z ∈ zs, InC z) (hx : Hid (RdV w a (cxs zs))) :
    Calls Try.prog 7 #[.slice a n c, .int .i64 10] w fun e w' => ∃ va vb, e = .returned (.tuple #[va, vb, .int .i64 0]) ∧ AB w w' va vb (zs.map (apA 10)) (zs.map (apB 10)) := by
  subst hn
  have HIN := Lib.hid hin
  have HCK := Lib.hid (scheck_calls zs _ rfl a c w hl hin hx)
  have HMO : Hid (Calls Try.prog 14 #[.int .i64 10] w fun e w' => e = .returned (.bool true) ∧ w' = w) := isMode_calls 10 w
  clear hin
  go_enter Try.func7, Try.ntmps7
  go_wp2_with (first
    | (go_at_call 14; go_must (refine HMO.out.mono ?_); rintro e w1 ⟨rfl, rfl⟩)
    | (go_at_call 15; go_must (refine HCK.out.mono ?_); rintro e w1 ⟨rfl, rfl⟩))
  go_loopg [8, 9, 24] (zs.length + 1) (fun q v8 v9 v24 wr => ∃ (i : Nat), v24 = .int .i64 i ∧ i ≤ zs.length ∧ Hid (AB w1 wr v8 v9 ((zs.take i).map (apA 10)) ((zs.take i).map (apB 10))) ∧ Hid (i + q = zs.length + 1))
  case atStart => exact ⟨0, rfl, by omega, ⟨Row.nil _ _ _, Row.nil _ _ _, fun b hb => (by cases hb), fun b hb => (by cases hb), fun b hb => (by cases hb), Keeps.refl _ _⟩, (show _ = _ from by omega)⟩
  case round =>
    obtain ⟨i, rfl, hi, HAB, HQ⟩ := hrel
    obtain ⟨q1, rfl⟩ : ∃ g : Nat, g = gk := ⟨_, rfl⟩
    obtain ⟨wa, rfl⟩ : ∃ y : World, y = wr := ⟨_, rfl⟩
    by_cases hlt : i < zs.length
    · obtain ⟨b1, o1, rfl, hc1⟩ := (hx.out.new HAB.out.keep).at_ i (by rw [cxs_length]; exact hlt)
      rw [cxs_get zs i hlt] at hc1
      have hr := HIN.out zs[i] (List.getElem_mem _)
      obtain ⟨⟨x, y⟩, hze⟩ : ∃ z, zs[i] = z := ⟨_, rfl⟩
      rw [hze] at hc1 hr
      have htk : zs.take (i + 1) = zs.take i ++ [(x, y)] := by rw [List.take_succ_eq_append_getElem hlt, hze]
      have hc1 : wa.cell? ⟨b1, o1 + i, none⟩ = some (cx x y) := hc1
      unfold InC at hr
      obtain ⟨⟨r1, r2⟩, r3, r4⟩ := hr
      have r1 : -16777216 ≤ x := r1
      have r2 : x ≤ 16777216 := r2
      have r3 : -16777216 ≤ y := r3
      have r4 : y ≤ 16777216 := r4
      have hA : apA 10 (x, y) = (x + y) / 2 := rfl
      have hB : apB 10 (x, y) = x - y := rfl
      have HTA : Hid ((zs.take (i + 1)).map (apA 10) = (zs.take i).map (apA 10) ++ [(x + y) / 2]) := by show _ = _; rw [htk, List.map_append, ← hA]; rfl
      have HTB : Hid ((zs.take (i + 1)).map (apB 10) = (zs.take i).map (apB 10) ++ [x - y]) := by show _ = _; rw [htk, List.map_append, ← hB]; rfl
      have HSD := Lib.hid (fun W => side_calls x y W (by omega) (by omega))
      have hcvA := fun W => run_toInt ((x + y) / 2) (by constructor <;> omega) W
      have hcvB := fun W => run_toInt (x - y) (by constructor <;> omega) W
      have HFL := Lib.hid (fun W => floor_calls (x + y) W (by constructor <;> omega))
      have hadd := fun W => run_addF x y (by constructor <;> omega) (by constructor <;> omega) (by constructor <;> omega) W
      have hquo := fun W => run_halfF (x + y) (by constructor <;> omega) W
      have HLA : Hid (((zs.take i).map (apA 10)).length + 1 ≤ 8193 ∧ ((zs.take i).map (apB 10)).length + 1 ≤ 8193) := (show _ ∧ _ from by rw [List.length_map, List.length_map, List.length_take]; omega)
      clear hze htk hA hB
      go_wp2_with (first
        | (go_at_call 16; go_must (refine (HSD.out _).mono ?_); rintro e w3 ⟨rfl, rfl⟩)
        | (go_at_call 17; go_must (refine (HFL.out _).mono ?_); rintro e w3 ⟨rfl, rfl⟩)
        | (at_builtin; go_must (first
            | (refine wp_app1 (W := _) rfl (.tmp 50) (.tmp 53) 22 3 .i64 8 rfl Try.underlying22 info_i64s (by decide) _ ((zs.take i).map (apA 10)) ((x + y) / 2) rfl rfl HAB.out.ra (by have := HLA.out.1; omega) ?_; intro v1 wb hr1 hk1 hf1; rw [← HTA.out] at hr1; have HAC := Lib.hid (HAB.out.appA hr1 hk1 hf1); clear hr1 hk1 hf1)
            | (refine wp_app1 (W := wb) rfl (.tmp 55) (.tmp 58) 22 3 .i64 8 rfl Try.underlying22 info_i64s (by decide) _ ((zs.take i).map (apB 10)) (x - y) rfl rfl HAC.out.rb (by have := HLA.out.2; omega) ?_; intro v2 wd hr1 hk1 hf1; rw [← HTB.out] at hr1; have HAD := Lib.hid (HAC.out.appB hr1 hk1 hf1); clear hr1 hk1 hf1))))
      go_roundg (zs.length - i)
      case measure => have := HQ.out; omega
      case rel => exact ⟨i + 1, by go_num, by omega, HAD.out, (show _ = _ from by have := HQ.out; omega)⟩
    · obtain rfl : i = zs.length := by omega
      have h5 := HAB.out
      rw [List.take_of_length_le (Nat.le_refl _)] at h5
      have HAE := Lib.hid h5
      clear h5
      go_wp2_with fail
      go_ret3
      exact ⟨_, _, rfl, HAE.out⟩

theorem apart_calls (mode : Int) (hm : mode = 0 ∨ mode = 8 ∨ mode = 9 ∨ mode = 10) (zs : List (Int × Int)) (n : Nat) (hn : n = zs.length) (a : Option Addr) (c : Nat) (w : World) (hl : zs.length ≤ 8192) (hin : ∀ z ∈ zs, InC z) (hx : Hid (RdV w a (cxs zs))) :
    Calls Try.prog 7 #[.slice a n c, .int .i64 mode] w fun e w' => ∃ va vb, e = .returned (.tuple #[va, vb, .int .i64 0]) ∧ AB w w' va vb (zs.map (apA mode)) (zs.map (apB mode)) := by
  rcases hm with rfl | rfl | rfl | rfl
  · exact apart_0 zs n hn a c w hl hin hx
  · exact apart_8 zs n hn a c w hl hin hx
  · exact apart_9 zs n hn a c w hl hin hx
  · exact apart_10 zs n hn a c w hl hin hx
end Go.Proofs.Ytildkehbogmceaa
