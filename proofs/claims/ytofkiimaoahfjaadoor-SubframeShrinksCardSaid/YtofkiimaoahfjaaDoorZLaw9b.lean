/-
  The statement SubframeShrinks of layer 9: the walk.
-/
import Derived.Test.YtofkiimaoahfjaaDoorZShr1
import Derived.Test.YtofkiimaoahfjaaDoorZSub15
import Derived.Test.YtofkiimaoahfjaaDoorZIn
set_option maxRecDepth 100000
set_option linter.unusedVariables false
set_option linter.unusedSimpArgs false
namespace Go.Proofs.YtofkiimaoahfjaaDoor
open Go.RowKit Go.Proofs.YtofkiimaoahfjaaDoor.Pure

theorem u64_mod9 (a : Int) (m : Nat) (h0 : 0 < m) (h1 : m ≤ 4611686018427387904) : ∃ k : Nat, k < m ∧ wrap64 ((IntKind.u64.wrap a).tmod m) = k := by
  have e : IntKind.u64.wrap a = a % 18446744073709551616 := IntKind.wrap_u64 a
  have h2 : 0 ≤ IntKind.u64.wrap a := by rw [e]; omega
  rw [Int.tmod_eq_emod_of_nonneg h2]
  have h3 := Int.emod_nonneg (IntKind.u64.wrap a) (show (m : Int) ≠ 0 by omega)
  have h4 := Int.emod_lt_of_pos (IntKind.u64.wrap a) (show (0 : Int) < m by omega)
  refine ⟨((IntKind.u64.wrap a) % m).toNat, by omega, ?_⟩
  unfold wrap64
  omega

/-- Three rows of the run's own, apart from one another. -/
structure Rows3 (w0 w : World) (u v x : Value) (l m n : List Int) : Prop where
  hk : Keeps [] w0 w
  ru : Row w .i64 3 u l
  rv : Row w .i64 3 v m
  rx : Row w .i64 3 x n
  fu : ∀ b, b ∈ fp u → w0.heap.size ≤ b
  fv : ∀ b, b ∈ fp v → w0.heap.size ≤ b
  fx : ∀ b, b ∈ fp x → w0.heap.size ≤ b
  duv : ∀ b, b ∈ fp u → b ∉ fp v
  dvx : ∀ b, b ∈ fp v → b ∉ fp x
  dxu : ∀ b, b ∈ fp x → b ∉ fp u
namespace Rows3
variable {w0 w w' : World} {u v x u' : Value} {l m n l' : List Int}
theorem rot (h : Rows3 w0 w u v x l m n) : Rows3 w0 w v x u m n l := ⟨h.hk, h.rv, h.rx, h.ru, h.fv, h.fx, h.fu, h.dvx, h.dxu, h.duv⟩
theorem new (h : Rows3 w0 w u v x l m n) (hn : Keeps [] w w') : Rows3 w0 w' u v x l m n :=
  ⟨h.hk.new hn, h.ru.keeps hn (fun _ _ => by simp), h.rv.keeps hn (fun _ _ => by simp), h.rx.keeps hn (fun _ _ => by simp), h.fu, h.fv, h.fx, h.duv, h.dvx, h.dxu⟩
theorem app (h : Rows3 w0 w u v x l m n) (hr : Row w' .i64 3 u' l') (hk : Keeps (fp u) w w') (hf : ∀ b, b ∈ fp u' → b ∈ fp u ∨ w.heap.size ≤ b) : Rows3 w0 w' u' v x l' m n := by
  have n1 : ∀ b, b ∈ fp v → b ∉ fp u := fun b hb hu => h.duv b hu hb
  refine ⟨h.hk.then_ hk (fun b hb hlt => by have := h.fu b hb; omega), hr, h.rv.keeps hk n1, h.rx.keeps hk h.dxu, fun b hb => ?_, h.fv, h.fx, fun b hb hv => ?_, h.dvx, fun b hb hu => ?_⟩
  · rcases hf b hb with h1 | h1
    · exact h.fu b h1
    · exact Nat.le_trans h.hk.size h1
  · rcases hf b hb with h1 | h1
    · exact h.duv b h1 hv
    · have := h.rv.lt b hv; omega
  · rcases hf b hu with h1 | h1
    · exact h.dxu b hb h1
    · have := h.rx.lt b hb; omega
end Rows3
/-- Three Writers of the run's own, apart from one another and from the three rows. -/
structure Wr3 (w0 w : World) (u v x : Value) (l m n : List Int) (p q r : Nat) (s t y : Value) (a b c : List Bool) : Prop where
  hk : Keeps [] w0 w
  ru : Row w .i64 3 u l
  rv : Row w .i64 3 v m
  rx : Row w .i64 3 x n
  ip : IsW w p s a
  iq : IsW w q t b
  ir : IsW w r y c
  gp : ∀ k, k ∈ p :: fp s → w0.heap.size ≤ k ∧ k ∉ fp u ∧ k ∉ fp v ∧ k ∉ fp x ∧ k ∉ q :: fp t ∧ k ∉ r :: fp y
  gq : ∀ k, k ∈ q :: fp t → w0.heap.size ≤ k ∧ k ∉ fp u ∧ k ∉ fp v ∧ k ∉ fp x ∧ k ∉ p :: fp s ∧ k ∉ r :: fp y
  gr : ∀ k, k ∈ r :: fp y → w0.heap.size ≤ k ∧ k ∉ fp u ∧ k ∉ fp v ∧ k ∉ fp x ∧ k ∉ p :: fp s ∧ k ∉ q :: fp t
namespace Wr3
variable {w0 w w' : World} {u v x s t y : Value} {l m n : List Int} {p q r : Nat} {a b c a' : List Bool}
theorem rot (h : Wr3 w0 w u v x l m n p q r s t y a b c) : Wr3 w0 w u v x l m n q r p t y s b c a :=
  ⟨h.hk, h.ru, h.rv, h.rx, h.iq, h.ir, h.ip, fun k hk => by obtain ⟨a, b, c, d, e, f⟩ := h.gq k hk; exact ⟨a, b, c, d, f, e⟩, fun k hk => by obtain ⟨a, b, c, d, e, f⟩ := h.gr k hk; exact ⟨a, b, c, d, f, e⟩, h.gp⟩
theorem new (h : Wr3 w0 w u v x l m n p q r s t y a b c) (hn : Keeps [] w w') : Wr3 w0 w' u v x l m n p q r s t y a b c :=
  ⟨h.hk.new hn, h.ru.keeps hn (fun _ _ => by simp), h.rv.keeps hn (fun _ _ => by simp), h.rx.keeps hn (fun _ _ => by simp), h.ip.new hn, h.iq.new hn, h.ir.new hn, h.gp, h.gq, h.gr⟩
theorem wrote (h : Wr3 w0 w u v x l m n p q r s t y a b c) (hw : Wrote w w' p s a') : ∃ s', Wr3 w0 w' u v x l m n p q r s' t y a' b c := by
  obtain ⟨s', hi, hk, hf⟩ := hw
  have old : ∀ k, k ∈ p :: fp s' → k ∈ p :: fp s ∨ w.heap.size ≤ k := by
    intro k hk'
    rcases List.mem_cons.1 hk' with rfl | hk'
    · exact .inl List.mem_cons_self
    · rcases hf k hk' with h1 | h1
      · exact .inl (List.mem_cons_of_mem _ h1)
      · exact .inr h1
  have hq := h.iq.duo.lt
  have hr := h.ir.duo.lt
  have hqs := h.iq.row.lt
  have hrs := h.ir.row.lt
  have hu := h.ru.lt
  have hv := h.rv.lt
  have hx := h.rx.lt
  have q0 : ∀ k, k ∈ q :: fp t → k < w.heap.size := fun k hk' => by
    rcases List.mem_cons.1 hk' with rfl | hk'
    · exact hq
    · exact hqs k hk'
  have r0 : ∀ k, k ∈ r :: fp y → k < w.heap.size := fun k hk' => by
    rcases List.mem_cons.1 hk' with rfl | hk'
    · exact hr
    · exact hrs k hk'
  refine ⟨s', h.hk.then_ hk (fun k hk' hlt => by have := (h.gp k hk').1; omega), h.ru.keeps hk (fun k hk' hp => (h.gp k hp).2.1 hk'), h.rv.keeps hk (fun k hk' hp => (h.gp k hp).2.2.1 hk'), h.rx.keeps hk (fun k hk' hp => (h.gp k hp).2.2.2.1 hk'), hi,
    h.iq.keeps hk (fun hp => (h.gp q hp).2.2.2.2.1 List.mem_cons_self) (fun k hk' hp => (h.gp k hp).2.2.2.2.1 (List.mem_cons_of_mem _ hk')), h.ir.keeps hk (fun hp => (h.gp r hp).2.2.2.2.2 List.mem_cons_self) (fun k hk' hp => (h.gp k hp).2.2.2.2.2 (List.mem_cons_of_mem _ hk')), ?_, ?_, ?_⟩
  · intro k hk'
    rcases old k hk' with h1 | h1
    · exact h.gp k h1
    · exact ⟨Nat.le_trans h.hk.size h1, fun h2 => by have := hu k h2; omega, fun h2 => by have := hv k h2; omega, fun h2 => by have := hx k h2; omega, fun h2 => by have := q0 k h2; omega, fun h2 => by have := r0 k h2; omega⟩
  · intro k hk'
    obtain ⟨a1, a2, a3, a4, a5, a6⟩ := h.gq k hk'
    refine ⟨a1, a2, a3, a4, fun h2 => ?_, a6⟩
    rcases old k h2 with h3 | h3
    · exact a5 h3
    · have := q0 k hk'; omega
  · intro k hk'
    obtain ⟨a1, a2, a3, a4, a5, a6⟩ := h.gr k hk'
    refine ⟨a1, a2, a3, a4, fun h2 => ?_, a6⟩
    rcases old k h2 with h3 | h3
    · exact a5 h3
    · have := r0 k hk'; omega
end Wr3
theorem rd_row {w : World} {a : Option Addr} {n c : Nat} {xs : List Int} (h : Row w .i64 3 (.slice a n c) xs) : Rd w .i64 a xs := row_rd h
theorem lineS_snoc (A ST : Int) (i : Nat) : lineS A ST (i + 1) = lineS A ST i ++ [A + ST * i] := by
  unfold lineS
  rw [List.range_succ, List.map_append]
  rfl
theorem upS_snoc (S : List Int) (x : Int) : upS (S ++ [x]) = upS S ++ [16 * x] := by simp [upS]
theorem rep_snoc (i : Nat) (A : Int) : List.replicate (i + 1) A = List.replicate i A ++ [A] := by rw [List.replicate_succ']

set_option maxHeartbeats 16000000 in
theorem subframeShrinks_walk (a0 : Int) (a1 : Int) (a2 : Int) (w : World) (w0 : (Lit.int .i64 a0).wf = true) (w1 : (Lit.int .i64 a1).wf = true) (w2 : (Lit.int .i64 a2).wf = true) (hT : Hid (Tab w)) :
    Calls Tryd.prog 4 #[.int .i64 a0, .int .i64 a1, .int .i64 a2] w fun e w' => e = .returned (.bool true) ∧ Below w.heap.size w w' := by
  have HK : Hid (Keeps [] w w) := Keeps.refl _ _
  obtain ⟨A, hA, hA0, hA1⟩ : ∃ A : Int, wrap64 ((IntKind.u64.wrap a0).tmod 1000) = A ∧ 0 ≤ A ∧ A ≤ 999 := by
    obtain ⟨k, h1, h2⟩ := u64_mod9 a0 1000 (by omega) (by omega)
    exact ⟨k, h2, by omega, by omega⟩
  obtain ⟨S0, hS, hS0, hS1⟩ : ∃ A : Int, wrap64 ((IntKind.u64.wrap a1).tmod 50) = A ∧ 0 ≤ A ∧ A ≤ 49 := by
    obtain ⟨k, h1, h2⟩ := u64_mod9 a1 50 (by omega) (by omega)
    exact ⟨k, h2, by omega, by omega⟩
  obtain ⟨C0, hC, hC0, hC1⟩ : ∃ A : Int, wrap64 ((IntKind.u64.wrap a2).tmod 200) = A ∧ 0 ≤ A ∧ A ≤ 199 := by
    obtain ⟨k, h1, h2⟩ := u64_mod9 a2 200 (by omega) (by omega)
    exact ⟨k, h2, by omega, by omega⟩
  clear w0 w1 w2
  go_enter Tryd.func4, Tryd.ntmps4
  go_upto_region 4 with (first
    | (go_at_call 9; go_must (refine (sknown_calls _ hT).mono ?_); rintro e wk ⟨rfl, hk1⟩; replace HK : Hid (Keeps [] w wk) := HK.out.new hk1; clear hk1))
  rw [hA, hS, hC]
  obtain ⟨ST, hST⟩ : ∃ ST, 1 + S0 = ST := ⟨_, rfl⟩
  obtain ⟨n, hn⟩ : ∃ n : Nat, 40 + C0 = n := ⟨(40 + C0).toNat, by omega⟩
  rw [hST, hn]
  have hn0 : 40 ≤ n ∧ n ≤ 239 := by omega
  have hs0 : 1 ≤ ST ∧ ST ≤ 50 := by omega
  clear hA hS hC hST hn hS0 hS1 hC0 hC1
  generalize (IntKind.u64.wrap a0).tmod 1000 = y0
  generalize (IntKind.u64.wrap a1).tmod 50 = y1
  generalize (IntKind.u64.wrap a2).tmod 200 = y2
  generalize IntKind.u64.wrap a0 = z0
  generalize IntKind.u64.wrap a1 = z1
  generalize IntKind.u64.wrap a2 = z2
  go_wp2_with fail
  go_loopg [7, 8, 9, 10] (n + 1) (fun q v7 v8 v9 v10 wr => ∃ (i : Nat), v10 = .int .i64 i ∧ i ≤ n ∧ Hid (Rows3 w wr v7 v8 v9 (List.replicate i A) (lineS A ST i) (upS (lineS A ST i))) ∧ Hid (i + q = n + 1))
  case atStart => exact ⟨0, rfl, by omega, ⟨HK.out, Row.nil _ _ _, Row.nil _ _ _, Row.nil _ _ _, (fun b h => by cases h), (fun b h => by cases h), (fun b h => by cases h), (fun b h => by cases h), (fun b h => by cases h), (fun b h => by cases h)⟩, (show _ = _ from by omega)⟩
  case round =>
    obtain ⟨i, rfl, hi, HR, HQ⟩ := hrel
    obtain ⟨q1, rfl⟩ : ∃ g : Nat, g = gk := ⟨_, rfl⟩
    obtain ⟨wa, rfl⟩ : ∃ y : World, y = wr := ⟨_, rfl⟩
    by_cases hlt : i < n
    · obtain ⟨SI, hSI⟩ : ∃ SI, ST * (i : Int) = SI := ⟨_, rfl⟩
      have hSIb : 0 ≤ SI ∧ SI ≤ 12000 := by
        rw [← hSI]
        have h1 : ST * (i : Int) ≤ 50 * (i : Int) := Int.mul_le_mul_of_nonneg_right hs0.2 (by omega)
        have h2 : 0 ≤ ST * (i : Int) := Int.mul_nonneg (by omega) (by omega)
        omega
      obtain ⟨hSI0, hSI1⟩ := hSIb
      have HN1 : Hid (List.replicate (i + 1) A = List.replicate i A ++ [A]) := rep_snoc i A
      have HN2 : Hid (lineS A ST (i + 1) = lineS A ST i ++ [A + SI]) := by show _ = _; rw [lineS_snoc, hSI]
      have HN3 : Hid (upS (lineS A ST (i + 1)) = upS (lineS A ST i) ++ [16 * (A + SI)]) := by show _ = _; rw [HN2.out, upS_snoc]
      have hl1 : (List.replicate i A).length = i := List.length_replicate
      have hl2 : (lineS A ST i).length = i := lineS_length _ _ _
      have hl3 : (upS (lineS A ST i)).length = i := by unfold upS; rw [List.length_map, hl2]
      obtain ⟨l1, e1⟩ : ∃ l, List.replicate i A = l := ⟨_, rfl⟩
      obtain ⟨l2, e2⟩ : ∃ l, lineS A ST i = l := ⟨_, rfl⟩
      obtain ⟨l3, e3⟩ : ∃ l, upS (lineS A ST i) = l := ⟨_, rfl⟩
      rw [e1] at HN1 hl1
      rw [e2] at HN2 hl2
      rw [e3] at HN3 hl3
      rw [e1, e3, e2] at HR
      have HB1 : Hid ((l1.length + 1) * 8 ≤ 140737488355328) := by show _ ≤ _; omega
      have HB2 : Hid ((l2.length + 1) * 8 ≤ 140737488355328) := by show _ ≤ _; omega
      have HB3 : Hid ((l3.length + 1) * 8 ≤ 140737488355328) := by show _ ≤ _; omega
      clear e1 e2 e3 hl1 hl2 hl3
      go_wp2_with (first
        | (at_builtin; refine wp_app1 (W := wa) rfl (.tmp 39) (.tmp 41) 22 3 .i64 8 rfl Tryd.underlying22 info_i64 (by decide) _ l1 A rfl rfl HR.out.ru HB1.out ?_; intro v5 w5 hr5 hk5 hf5; have HR5 := Lib.hid (HR.out.app hr5 hk5 hf5); clear hr5 hk5 hf5)
        | (at_builtin; refine wp_app1 (W := w5) rfl (.tmp 43) (.tmp 49) 22 3 .i64 8 rfl Tryd.underlying22 info_i64 (by decide) _ l2 (A + SI) rfl rfl HR5.out.rv HB2.out ?_; intro v6 w6 hr6 hk6 hf6; have HR6 := Lib.hid (HR5.out.rot.app hr6 hk6 hf6); clear hr6 hk6 hf6)
        | (at_builtin; refine wp_app1 (W := w6) rfl (.tmp 51) (.tmp 58) 22 3 .i64 8 rfl Tryd.underlying22 info_i64 (by decide) _ l3 (16 * (A + SI)) rfl rfl HR6.out.rv HB3.out ?_; intro v7 w7 hr7 hk7 hf7; have HR7 := Lib.hid (HR6.out.rot.app hr7 hk7 hf7); clear hr7 hk7 hf7))
      go_roundg (n - i)
      case measure => have := HQ.out; omega
      case rel =>
        refine ⟨i + 1, by go_num, by omega, ?_, (show _ = _ from by have := HQ.out; omega)⟩
        show Rows3 _ _ _ _ _ _ _ _
        rw [HN1.out, HN3.out, HN2.out]
        exact HR7.out.rot
    · have hin : n = i := by omega
      subst hin
      obtain ⟨fc, fk, fl⟩ := flat_law A n ⟨hA0, hA1⟩ hn0
      obtain ⟨lc, lk0, lk1, ll⟩ := line_law A ST n ⟨hA0, hA1⟩ hs0 hn0
      have hmem : ∀ x ∈ lineS A ST n, 0 ≤ x ∧ x ≤ 13000 := by
        intro x hx
        obtain ⟨i, hi, rfl⟩ := lineS_mem hx
        have h1 : ST * (i : Int) ≤ 50 * (i : Int) := Int.mul_le_mul_of_nonneg_right hs0.2 (by omega)
        have h2 : 0 ≤ ST * (i : Int) := Int.mul_nonneg (by omega) (by omega)
        omega
      obtain ⟨-, uc, ul⟩ := up_law (lineS A ST n) hmem ⟨A + ST * ((1 : Nat) : Int), List.mem_map.2 ⟨1, List.mem_range.2 (by omega), rfl⟩, by simp; omega⟩ (by rw [lineS_length]; omega)
      have HRF : Hid (∀ x ∈ List.replicate n A, -9223372036854775808 ≤ x ∧ x ≤ 9223372036854775807) := fun x hx => by have := List.eq_of_mem_replicate hx; omega
      have HRL : Hid (∀ x ∈ lineS A ST n, -9223372036854775808 ≤ x ∧ x ≤ 9223372036854775807) := fun x hx => by have := hmem x hx; omega
      have HRU : Hid (∀ x ∈ upS (lineS A ST n), -9223372036854775808 ≤ x ∧ x ≤ 9223372036854775807) := fun x hx => by
        obtain ⟨y, hy, rfl⟩ := List.mem_map.1 hx
        have := hmem y hy
        omega
      obtain ⟨K1, eK1⟩ : ∃ k, skindN (List.replicate n A) 20 = k := ⟨_, rfl⟩
      obtain ⟨K2, eK2⟩ : ∃ k, skindN (lineS A ST n) 20 = k := ⟨_, rfl⟩
      obtain ⟨B1, eB1⟩ : ∃ k, sputB (List.replicate n A) 20 = k := ⟨_, rfl⟩
      obtain ⟨B2, eB2⟩ : ∃ k, sputB (lineS A ST n) 20 = k := ⟨_, rfl⟩
      obtain ⟨B3, eB3⟩ : ∃ k, sputB (upS (lineS A ST n)) 24 = k := ⟨_, rfl⟩
      rw [eK1] at fk
      rw [eB1] at fl
      rw [eK2] at lk0 lk1
      rw [eB2] at ll ul
      rw [eB3] at ul
      clear hmem
      obtain ⟨F, eF⟩ : ∃ l, List.replicate n A = l := ⟨_, rfl⟩
      obtain ⟨U, eU⟩ : ∃ l, upS (lineS A ST n) = l := ⟨_, rfl⟩
      obtain ⟨G, eG⟩ : ∃ l, lineS A ST n = l := ⟨_, rfl⟩
      rw [eF] at HR fc HRF eK1 eB1
      rw [eU] at HR uc HRU eB3
      rw [eG] at HR lc HRL eK2 eB2
      have HFC := Lib.hid fc
      have HLC := Lib.hid lc
      have HUC := Lib.hid uc
      have HK1 := Lib.hid eK1
      have HK2 := Lib.hid eK2
      have HB1 := Lib.hid eB1
      have HB2 := Lib.hid eB2
      have HB3 := Lib.hid eB3
      clear fc lc uc eK1 eK2 eB1 eB2 eB3 eF eU eG
      obtain ⟨n1, en1⟩ : ∃ k, B1.length = k := ⟨_, rfl⟩
      obtain ⟨n2, en2⟩ : ∃ k, B2.length = k := ⟨_, rfl⟩
      obtain ⟨n3, en3⟩ : ∃ k, B3.length = k := ⟨_, rfl⟩
      rw [en1] at fl
      rw [en2] at ll ul
      rw [en3] at ul
      have HN1 := Lib.hid en1
      have HN2 := Lib.hid en2
      have HN3 := Lib.hid en3
      clear en1 en2 en3
      obtain ⟨au, cu, rfl, -, -, -⟩ := HR.out.ru.rdd
      obtain ⟨av, cv, rfl, -, -, -⟩ := HR.out.rv.rdd
      obtain ⟨ax, cx, rfl, -, -, -⟩ := HR.out.rx.rdd
      clear HQ hlt hi HK
      go_upto_region 12 with (first
        | (go_at_call 11; have hh := HI2; with_reducible refine (newWriter_calls _).mono ?_; rintro e w3 ⟨rfl, hi3, hk3⟩; have HI3 := Lib.hid hi3; have HKc := Lib.hid hk3; clear hi3 hk3 hh)
        | (go_at_call 11; have hh := HI1; with_reducible refine (newWriter_calls _).mono ?_; rintro e w2 ⟨rfl, hi3, hk3⟩; have HI2 := Lib.hid hi3; have HKb := Lib.hid hk3; clear hi3 hk3 hh)
        | (go_at_call 11; with_reducible refine (newWriter_calls _).mono ?_; rintro e w1 ⟨rfl, hi3, hk3⟩; have HI1 := Lib.hid hi3; have HKa := Lib.hid hk3; clear hi3 hk3))
      have HW : Hid (Wr3 w w3 (.slice au F.length cu) (.slice av G.length cv) (.slice ax U.length cx) F G U wa.heap.size w1.heap.size w2.heap.size (.slice none 0 0) (.slice none 0 0) (.slice none 0 0) [] [] []) := by
        have hk := (HKa.out.new HKb.out).new HKc.out
        have g1 := HI1.out.duo.lt
        have g2 := HI2.out.duo.lt
        have hsz := HR.out.hk.size
        have hu := HR.out.ru.lt
        have hv := HR.out.rv.lt
        have hx := HR.out.rx.lt
        have s1 := HKa.out.size
        have s2 := HKb.out.size
        refine ⟨HR.out.hk.new hk, HR.out.ru.keeps hk (fun _ _ => by simp), HR.out.rv.keeps hk (fun _ _ => by simp), HR.out.rx.keeps hk (fun _ _ => by simp), (HI1.out.new HKb.out).new HKc.out, HI2.out.new HKc.out, HI3.out, ?_, ?_, ?_⟩
        all_goals
          intro k hk'
          simp only [fp_nil, List.mem_singleton] at hk' ⊢
          subst hk'
          exact ⟨by omega, fun h => by have := hu _ h; omega, fun h => by have := hv _ h; omega, fun h => by have := hx _ h; omega, by omega, by omega⟩
      generalize wa.heap.size = p at *
      generalize w1.heap.size = q at *
      generalize w2.heap.size = r at *
      clear HI1 HI2 HI3 HKa HKb HKc HR
      have htd : Int.tdiv (20 * (n : Int)) 2 = 10 * n := by
        rw [Int.tdiv_eq_ediv_of_nonneg (by omega)]
        omega
      have hl0 : (K2 != 0) = true := by simpa using lk0
      have hl1 : (K2 != 1) = true := by simpa using lk1
      go_upto_region 16 with (first
        | (go_at_call 13; with_reducible refine (swrite_calls F 20 _ rfl au cu _ _ _ [] HRF (Lib.hid (row_rd HW.out.ru)) (Lib.hid (hT.out.new HW.out.hk)) (Lib.hid HW.out.ip) (by simp)).mono ?_; rw [HFC.out, HB1.out]; rintro e w4 ⟨rfl, hw4⟩; obtain ⟨s4, hx4⟩ := HW.out.wrote hw4; have HWb := Lib.hid hx4; clear hw4 hx4 HW)
        | (go_at_call 13; with_reducible refine (swrite_calls G 20 _ rfl av cv _ _ _ [] HRL (Lib.hid (row_rd HWb.out.rv)) (Lib.hid (hT.out.new HWb.out.hk)) (Lib.hid HWb.out.iq) (by simp)).mono ?_; rw [HLC.out, HB2.out]; rintro e w5 ⟨rfl, hw5⟩; obtain ⟨s5, hx5⟩ := HWb.out.rot.wrote hw5; have HWc := Lib.hid hx5; clear hw5 hx5 HWb)
        | (go_at_call 13; with_reducible refine (swrite_calls U 24 _ rfl ax cx _ _ _ [] HRU (Lib.hid (row_rd HWc.out.rx)) (Lib.hid (hT.out.new HWc.out.hk)) (Lib.hid HWc.out.iq) (by simp)).mono ?_; rw [HUC.out, HB3.out]; rintro e w6 ⟨rfl, hw6⟩; obtain ⟨s6, hx6⟩ := HWc.out.rot.wrote hw6; have HWd := Lib.hid hx6.rot; clear hw6 hx6 HWc)
        | (go_at_call 14; with_reducible refine (skind_calls F 20 _ rfl au cu _ HRF (Lib.hid (row_rd HWd.out.ru)) (Lib.hid (hT.out.new HWd.out.hk))).mono ?_; rw [HFC.out, HK1.out]; rintro e w7 ⟨rfl, hk7⟩; have HWe := Lib.hid (HWd.out.new hk7); clear hk7 HWd)
        | (go_at_call 14; with_reducible refine (skind_calls G 20 _ rfl av cv _ HRL (Lib.hid (row_rd HWe.out.rv)) (Lib.hid (hT.out.new HWe.out.hk))).mono ?_; rw [HLC.out, HK2.out]; rintro e w8 ⟨rfl, hk8⟩; have HWf := Lib.hid (HWe.out.new hk8); clear hk8 HWe))
      have LEN1 := Lib.hid (wLen_calls p s4 ([] ++ B1) w8 (Lib.hid HWf.out.ip))
      have LEN2 := Lib.hid (wLen_calls q s5 ([] ++ B2) w8 (Lib.hid HWf.out.iq))
      have LEN3 := Lib.hid (wLen_calls r s6 ([] ++ B3) w8 (Lib.hid HWf.out.ir))
      rw [List.nil_append, HN1.out] at LEN1
      rw [List.nil_append, HN2.out] at LEN2
      rw [List.nil_append, HN3.out] at LEN3
      have fl' : (n1 : Int) ≤ 48 := by omega
      have ul' : (n3 : Int) ≤ (n2 : Int) + 4 := by omega
      clear HFC HLC HUC HK1 HK2 HB1 HB2 HB3 HN1 HN2 HN3 HRF HRL HRU fl ul
      by_cases hk1 : K1 = 0
      · subst hk1
        go_wp2_with (first
          | (go_at_call 16; with_reducible refine LEN1.out.mono ?_; rintro e w9 ⟨rfl, rfl⟩)
          | (go_at_call 16; with_reducible refine LEN2.out.mono ?_; rintro e w9 ⟨rfl, rfl⟩)
          | (go_at_call 16; with_reducible refine LEN3.out.mono ?_; rintro e w9 ⟨rfl, rfl⟩))
        go_ret
        exact ⟨rfl, HWf.out.hk.below⟩
      · have hA : A = 0 := by rcases fk with h | h <;> omega
        subst hA
        have hk1' : (K1 == 0) = false := beq_eq_false_iff_ne.2 hk1
        go_wp2_with (first
          | (go_at_call 16; with_reducible refine LEN1.out.mono ?_; rintro e w9 ⟨rfl, rfl⟩)
          | (go_at_call 16; with_reducible refine LEN2.out.mono ?_; rintro e w9 ⟨rfl, rfl⟩)
          | (go_at_call 16; with_reducible refine LEN3.out.mono ?_; rintro e w9 ⟨rfl, rfl⟩))
        go_ret
        exact ⟨rfl, HWf.out.hk.below⟩
end Go.Proofs.YtofkiimaoahfjaaDoor
