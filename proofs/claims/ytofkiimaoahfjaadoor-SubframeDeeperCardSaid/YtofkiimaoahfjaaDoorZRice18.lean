/-
  Layer 6 (rice): read. (Written by gen_rice18.py.)
-/
import Derived.Test.YtofkiimaoahfjaaDoorZRice14
set_option maxRecDepth 100000
set_option linter.unusedVariables false
set_option linter.unusedSimpArgs false
namespace Go.Proofs.YtofkiimaoahfjaaDoor
open Go.RowKit Go.Proofs.YtofkiimaoahfjaaDoor.Pure

section
variable {w0 w w' : World} {q : Nat} {sv : Value} {bs : List Int} {t t' : Nat} {g3 gx : Nat} {x : Int} {v v' : Value} {acc acc' : List Int}
/-- read's boxes, the reader, and what has been read. -/
structure RB6 (w0 w : World) (q : Nat) (sv : Value) (bs : List Int) (t : Nat) (g3 gx : Nat) (x : Int) (v : Value) (acc : List Int) : Prop where
  rd : IsR w q sv bs t
  row : Row w .i64 3 v acc
  keep : Keeps [q] w0 w
  box : w.cell? ⟨g3, 0, none⟩ = some (.pointer (some ⟨q, 0, none⟩))
  num : w.cell? ⟨gx, 0, none⟩ = some (.int .i64 x)
  new3 : w0.heap.size ≤ g3
  newx : w0.heap.size ≤ gx
  newv : ∀ b, b ∈ fp v → w0.heap.size ≤ b ∧ b ≠ g3 ∧ b ≠ gx
  old : q < w0.heap.size
  olds : ∀ b, b ∈ fp sv → b < w0.heap.size
theorem RB6.read (h : RB6 w0 w q sv bs t g3 gx x v acc) (hr : IsR w' q sv bs t') (hk : Keeps [q] w w') : RB6 w0 w' q sv bs t' g3 gx x v acc :=
  have hq := h.old
  ⟨hr, h.row.keeps hk (fun b hb hm => by have := (h.newv b hb).1; have : b = q := by simpa using hm
                                         omega), h.keep.then_ hk (fun b hb _ => hb),
    hk.cell h.box (by simp; have := h.new3; omega), hk.cell h.num (by simp; have := h.newx; omega), h.new3, h.newx, h.newv, h.old, h.olds⟩
theorem RB6.app (h : RB6 w0 w q sv bs t g3 gx x v acc) (hr : Row w' .i64 3 v' acc') (hk : Keeps (fp v) w w') (hf : ∀ b, b ∈ fp v' → b ∈ fp v ∨ w.heap.size ≤ b) : RB6 w0 w' q sv bs t g3 gx x v' acc' := by
  have hq := h.old
  have l3 : g3 < w.heap.size := World.block_lt_of_cell? w ⟨g3, 0, none⟩ h.box
  have lx : gx < w.heap.size := World.block_lt_of_cell? w ⟨gx, 0, none⟩ h.num
  have hs0 := h.keep.size
  refine ⟨h.rd.keeps hk (fun hm => by have := (h.newv _ hm).1; omega) (fun b hb hm => by have := (h.newv _ hm).1; have := h.olds b hb; omega), hr, h.keep.then_ hk (fun b hb hlt => by have := (h.newv b hb).1; omega),
    hk.cell h.box (fun hm => (h.newv _ hm).2.1 rfl), hk.cell h.num (fun hm => (h.newv _ hm).2.2 rfl), h.new3, h.newx, ?_, h.old, h.olds⟩
  intro b hb
  rcases hf b hb with h1 | h1
  · exact h.newv b h1
  · exact ⟨by omega, by omega, by omega⟩
theorem RB6.new (h : RB6 w0 w q sv bs t g3 gx x v acc) (hk : Keeps [] w w') : RB6 w0 w' q sv bs t g3 gx x v acc :=
  ⟨h.rd.new hk, h.row.keeps hk (fun _ _ => by simp), h.keep.new hk, hk.cell h.box (by simp), hk.cell h.num (by simp), h.new3, h.newx, h.newv, h.old, h.olds⟩
theorem RB6.box2 (h : RB6 w0 w q sv bs t g3 gx x (.slice none 0 0) []) (y : Int) : RB6 w0 (w.alloc (.cells #[.int .i64 y] 3)) q sv bs t g3 w.heap.size y (.slice none 0 0) [] :=
  have hk : Keeps [] w (w.alloc (.cells #[.int .i64 y] 3)) := (Keeps.refl _ _).alloc _
  ⟨h.rd.new hk, Row.nil _ _ _, h.keep.new hk, hk.cell h.box (by simp), by go_simp, h.new3, h.keep.size, fun b hb => (by cases hb), h.old, h.olds⟩
/-- What the two readings of one number want of the memory. -/
structure RC6 (w : World) (q : Nat) (sv : Value) (bs : List Int) (t : Nat) (g3 gx : Nat) (x : Int) : Prop where
  rd : IsR w q sv bs t
  box : w.cell? ⟨g3, 0, none⟩ = some (.pointer (some ⟨q, 0, none⟩))
  num : w.cell? ⟨gx, 0, none⟩ = some (.int .i64 x)
theorem RB6.rc (h : RB6 w0 w q sv bs t g3 gx x v acc) : RC6 w q sv bs t g3 gx x := ⟨h.rd, h.box, h.num⟩
end

set_option maxHeartbeats 2000000 in
theorem readPlain_calls (q : Nat) (sv : Value) (bs : List Int) (t : Nat) (g3 gx : Nat) (k : Int) (w : World) (hR : Hid (RC6 w q sv bs t g3 gx k)) (h0 : 0 ≤ k) (h1 : k ≤ 31) (hs : bs.length ≤ 1000000) :
    Calls Tryd.prog 121 #[.pointer (some ⟨g3, 0, none⟩), .pointer (some ⟨gx, 0, none⟩)] w fun e w' => e = .returned (.tuple #[.int .i64 (oneS false k 0 (restB bs t)).1, .int .i64 (oneS false k 0 (restB bs t)).2.1]) ∧ IsR w' q sv bs (t + (oneS false k 0 (restB bs t)).2.2) ∧ Keeps [q] w w' := by
  have hb := hR.out.box
  have hn := hR.out.num
  have HN := Lib.hid (number_calls q sv bs t k w (Lib.hid hR.out.rd) h0 h1 hs)
  have e : oneS false k 0 (restB bs t) = numS k (restB bs t) := rfl
  rw [e]
  clear e
  generalize numS k (restB bs t) = X at *
  go_enter Tryd.func121, Tryd.ntmps121
  go_wp2_with (first
    | (go_at_call 122; go_must (refine HN.out.mono ?_); rintro e w1 ⟨rfl, hR1, hk1⟩))
  go_ret2
  exact ⟨rfl, hR1, hk1⟩

set_option maxHeartbeats 2000000 in
theorem readEsc_calls (q : Nat) (sv : Value) (bs : List Int) (t : Nat) (g3 gx : Nat) (wd : Int) (w : World) (hR : Hid (RC6 w q sv bs t g3 gx wd)) :
    Calls Tryd.prog 123 #[.pointer (some ⟨g3, 0, none⟩), .pointer (some ⟨gx, 0, none⟩)] w fun e w' => e = .returned (.tuple #[.int .i64 (oneS true 0 wd (restB bs t)).1, .int .i64 (oneS true 0 wd (restB bs t)).2.1]) ∧ IsR w' q sv bs (t + (oneS true 0 wd (restB bs t)).2.2) ∧ Keeps [q] w w' := by
  have hb := hR.out.box
  have hn := hR.out.num
  have HN := Lib.hid (rGetSigned_calls q sv bs t wd w (Lib.hid hR.out.rd))
  have e : oneS true 0 wd (restB bs t) = (gsN wd (restB bs t), gtE wd (restB bs t), gtT wd (restB bs t)) := rfl
  rw [e]
  clear e
  go_enter Tryd.func123, Tryd.ntmps123
  go_wp2_with (first
    | (go_at_call 108; go_must (refine HN.out.mono ?_); rintro e w1 ⟨rfl, hR1, hk1⟩))
  go_ret2
  exact ⟨rfl, hR1, hk1⟩

theorem mk6 : ∀ (fn : Fn) (first cap : Array Value) (w : World), Sem.run Tryd.prog (Instr.makeFunc fn first cap) w = .ok (.func fn first cap) w := fun _ _ _ _ => rfl

theorem info_i64r : (Tryd.prog.info? 3).map (fun i => (i.zero, i.size, i.bytes)) = some (some (.int .i64 0), 1, 8) := by kernel_rfl

set_option maxHeartbeats 8000000 in
theorem readM_calls (q : Nat) (sv : Value) (bs : List Int) (t m count : Nat) (w : World) (hR : Hid (IsR w q sv bs t)) (hm : m ≤ 1) (hc : count ≤ 512) (hs : bs.length ≤ 1000000) :
    Calls Tryd.prog 109 #[.pointer (some ⟨q, 0, none⟩), .int .i64 m, .int .i64 count] w fun e w' => ∃ v, e = .returned (.tuple #[v, .int .i64 (readS m count (restB bs t)).2.1]) ∧ Row w' .i64 3 v (readS m count (restB bs t)).1 ∧ IsR w' q sv bs (t + (readS m count (restB bs t)).2.2) ∧ Keeps [q] w w' ∧ (∀ b, b ∈ fp v → w.heap.size ≤ b) := by
  have hmf := mk6
  obtain ⟨M4, hM4⟩ : ∃ M4 : Int, ((4 + m : Nat) : Int) = M4 := ⟨_, rfl⟩
  obtain ⟨EE, hEE⟩ : ∃ EE : Int, (escS m : Int) = EE := ⟨_, rfl⟩
  have HMB : Hid (∀ W, Calls Tryd.prog 62 #[.int .i64 m] W fun e w' => e = .returned (.int .i64 M4) ∧ W = w') := by
    intro W
    have := mbits_calls m W hm
    rwa [hM4] at this
  have HES : Hid (∀ W, Calls Tryd.prog 63 #[.int .i64 m] W fun e w' => e = .returned (.int .i64 EE) ∧ w' = W) := by
    intro W
    have := (escape_calls m W hm).mono (R' := fun e w' => e = .returned (.int .i64 (escS m : Int)) ∧ w' = W) (fun e w' ⟨h1, h2⟩ => ⟨h1, h2.symm⟩)
    rwa [hEE] at this
  have HG := Lib.hid (fun W (h : Hid (IsR W q sv bs t)) => rGet_calls q sv bs t M4 W h)
  obtain ⟨R, hRe⟩ : ∃ R, restB bs t = R := ⟨_, rfl⟩
  obtain ⟨X, hX⟩ : ∃ X, readS m count R = X := ⟨_, rfl⟩
  obtain ⟨K, hK⟩ : ∃ K, gtN M4 R = K := ⟨_, rfl⟩
  obtain ⟨E, hE⟩ : ∃ E, gtE M4 R = E := ⟨_, rfl⟩
  obtain ⟨T, hT⟩ : ∃ T, gtT M4 R = T := ⟨_, rfl⟩
  rw [hRe, hK, hE, hT] at HG
  rw [hRe, hX]
  have HRE := Lib.hid hRe
  have HX := Lib.hid hX
  have HK := Lib.hid hK
  have HE := Lib.hid hE
  have HT := Lib.hid hT
  have HM4 := Lib.hid hM4
  have HEE := Lib.hid hEE
  have HQ0 : Hid (q < w.heap.size) := World.block_lt_of_cell? w ⟨q, 0, none⟩ hR.out.duo.c0
  have HQS := Lib.hid hR.out.row.lt
  clear hRe hX hK hE hT hM4 hEE
  go_enter Tryd.func109, Tryd.ntmps109
  go_upto_region 1 with fail
  have HR0 := Lib.hid (hR.out.new ((Keeps.refl [] w).alloc (.cells #[.pointer (some ⟨q, 0, none⟩)] 42)))
  have HKA : Hid (Keeps [] w (w.alloc (.cells #[.pointer (some ⟨q, 0, none⟩)] 42))) := (Keeps.refl [] w).alloc _
  have hbox : (w.alloc (.cells #[.pointer (some ⟨q, 0, none⟩)] 42)).cell? ⟨w.heap.size, 0, none⟩ = some (.pointer (some ⟨q, 0, none⟩)) := by go_simp
  have hsz : (w.alloc (.cells #[.pointer (some ⟨q, 0, none⟩)] 42)).heap.size = w.heap.size + 1 := by simp
  obtain ⟨wA, hwA⟩ : ∃ wA, w.alloc (.cells #[.pointer (some ⟨q, 0, none⟩)] 42) = wA := ⟨_, rfl⟩
  obtain ⟨g3, hg3⟩ : ∃ g, w.heap.size = g := ⟨_, rfl⟩
  rw [hwA] at HR0 HKA hbox hsz ⊢
  rw [hg3] at hbox hsz ⊢
  have HG3 := Lib.hid hg3
  have HSZ := Lib.hid hsz
  clear hwA hg3 hsz
  go_cut [8, 9] (fun v8 v9 wx => ∃ g8, v8 = .pointer (some ⟨g8, 0, none⟩) ∧ v9 = .int .i64 E ∧ Hid (RB6 w wx q sv bs (t + T) g3 g8 K (.slice none 0 0) []))
  case first =>
    have HG2 : Hid (∀ W, Keeps [] wA W → Calls Tryd.prog 105 #[.pointer (some ⟨q, 0, none⟩), .int .i64 M4] W fun e w' => e = .returned (.tuple #[.int .i64 K, .int .i64 E]) ∧ IsR w' q sv bs (t + T) ∧ Keeps [q] W w') := fun W hk => HG.out W (HR0.out.new hk)
    have HBX : Hid (∀ W, Keeps [] wA W → ∀ W', Keeps [q] W W' → W'.cell? ⟨g3, 0, none⟩ = some (.pointer (some ⟨q, 0, none⟩))) := fun W h1 W' h2 => h2.cell (h1.cell hbox (by simp)) (by have := HQ0.out; have := HG3.out; simp; omega)
    have HST : Hid (∀ W', Keeps [q] ((wA.alloc (.cells #[.int .i64 0] 3)).drew) W' → W'.cell? ⟨wA.heap.size, 0, none⟩ = some (.int .i64 0) ∧ W'.frozen? ⟨wA.heap.size, 0, none⟩ = false ∧ W'.heap[wA.heap.size]? = some (.cells #[.int .i64 0] 3 (0, 0))) := by
      intro W' hk
      have hq : wA.heap.size ≠ q := by have := HQ0.out; have := HSZ.out; have := HG3.out; omega
      have hb : W'.heap[wA.heap.size]? = ((wA.alloc (.cells #[.int .i64 0] 3)).drew).heap[wA.heap.size]? := hk.block _ (by simp) (by simpa using hq)
      have h1 : ((wA.alloc (.cells #[.int .i64 0] 3)).drew).cell? ⟨wA.heap.size, 0, none⟩ = some (.int .i64 0) := by go_simp
      have h2 : ((wA.alloc (.cells #[.int .i64 0] 3)).drew).frozen? ⟨wA.heap.size, 0, none⟩ = false := by go_simp
      have h3 : ((wA.alloc (.cells #[.int .i64 0] 3)).drew).heap[wA.heap.size]? = some (.cells #[.int .i64 0] 3 (0, 0)) := by show (wA.heap.push _)[wA.heap.size]? = _; simp
      exact ⟨(World.cell?_of_block hb).trans h1, (World.frozen?_of_block hb).trans h2, hb.trans h3⟩
    have HKW : Hid (∀ W, Keeps [] wA W → Keeps [q] w W) := fun W h => (HKA.out.new h).mono (fun _ hb _ => by cases hb)
    have HFA : Hid (∀ W W', Keeps [] wA W → Keeps [q] W W' → IsR W' q sv bs (t + T) → RB6 w (W'.alloc (.cells #[.int .i64 K] 3)) q sv bs (t + T) g3 W'.heap.size K (.slice none 0 0) []) := by
      intro W W' h1 h2 h3
      have hs1 := h1.size
      have hs2 := h2.size
      have e1 := HSZ.out
      have e2 := HG3.out
      refine ⟨h3.new ((Keeps.refl [] W').alloc _), Row.nil _ _ _, ((HKW.out W h1).then_ h2 (fun b hb _ => hb)).alloc _, ((Keeps.refl [] W').alloc _).cell (HBX.out W h1 W' h2) (by simp), by go_simp, by omega, by omega, fun b hb => (by cases hb), HQ0.out, HQS.out⟩
    have HFB : Hid (∀ W', Keeps [q] ((wA.alloc (.cells #[.int .i64 0] 3)).drew) W' → IsR W' q sv bs (t + T) → RB6 w (W'.setCell ⟨wA.heap.size, 0, none⟩ (.int .i64 K)) q sv bs (t + T) g3 wA.heap.size K (.slice none 0 0) []) := by
      intro W' h2 h3
      have h1 : Keeps [] wA ((wA.alloc (.cells #[.int .i64 0] 3)).drew) := ((Keeps.refl [] wA).alloc _).drew
      obtain ⟨c1, c2, c3⟩ := HST.out W' h2
      have c4 := b_blk_set c3 0 (.int .i64 K)
      have c5 : (W'.setCell ⟨wA.heap.size, 0, none⟩ (.int .i64 K)).cell? ⟨wA.heap.size, 0, none⟩ = some (.int .i64 K) := by simp [World.cell?, c4]
      have e1 := HSZ.out
      have e2 := HG3.out
      have e3 := HQ0.out
      have hset : Keeps [wA.heap.size] W' (W'.setCell ⟨wA.heap.size, 0, none⟩ (.int .i64 K)) := (Keeps.refl _ _).setCell (.inl (by simp)) _
      refine ⟨h3.keeps hset (by simp; omega) (fun b hb => by have := HQS.out b hb; simp; omega), Row.nil _ _ _, ((HKW.out _ h1).then_ h2 (fun b hb _ => hb)).setCell (.inr (by show _ ≤ wA.heap.size; omega)) _, hset.cell (HBX.out _ h1 W' h2) (by simp; omega), c5, by omega, by omega, fun b hb => (by cases hb), HQ0.out, HQS.out⟩
    have HALC : Hid (∀ (W : World) (o : Obj), W.cell? ⟨g3, 0, none⟩ = some (.pointer (some ⟨q, 0, none⟩)) → (W.alloc o).cell? ⟨g3, 0, none⟩ = some (.pointer (some ⟨q, 0, none⟩))) := fun W o h => ((Keeps.refl [] W).alloc o).cell h (by simp)
    have HSET : Hid (∀ (W : World) (u : Value), W.cell? ⟨g3, 0, none⟩ = some (.pointer (some ⟨q, 0, none⟩)) → (W.setCell ⟨wA.heap.size, 0, none⟩ u).cell? ⟨g3, 0, none⟩ = some (.pointer (some ⟨q, 0, none⟩))) := by
      intro W u h
      have hset : Keeps [wA.heap.size] W (W.setCell ⟨wA.heap.size, 0, none⟩ u) := (Keeps.refl _ _).setCell (.inl (by simp)) _
      exact hset.cell h (by have := HSZ.out; simp; omega)
    go_region_held3 (fun w' => w'.cell? ⟨g3, 0, none⟩ = some (.pointer (some ⟨q, 0, none⟩)))
      (first
        | (exact hbox)
        | (exact HBX.out _ ((Keeps.refl [] wA).drew) _ hk1)
        | (exact HBX.out _ (((Keeps.refl [] wA).alloc _).drew) _ hk1)
        | (exact HALC.out _ _ (HBX.out _ ((Keeps.refl [] wA).drew) _ hk1))
        | (exact HALC.out _ _ (HBX.out _ (((Keeps.refl [] wA).alloc _).drew) _ hk1))
        | (exact HSET.out _ _ (HBX.out _ ((Keeps.refl [] wA).drew) _ hk1))
        | (exact HSET.out _ _ (HBX.out _ (((Keeps.refl [] wA).alloc _).drew) _ hk1))
        | go_keep)
      (first
        | (go_at_call 62; go_must (refine (HMB.out _).mono ?_); rintro e wb ⟨rfl, rfl⟩)
        | (go_at_call 105; go_must (first
            | (refine (HG2.out _ ((Keeps.refl [] wA).drew)).mono ?_; rintro e wp ⟨rfl, hr1, hk1⟩)
            | (refine (HG2.out _ (((Keeps.refl [] wA).alloc _).drew)).mono ?_; rintro e wp ⟨rfl, hr1, hk1⟩; obtain ⟨hc8, hf8, -⟩ := HST.out _ hk1))))
    all_goals
      go_wp2_with fail
      go_meet
      first
        | exact ⟨_, rfl, rfl, HFA.out _ _ ((Keeps.refl [] wA).drew) hk1 hr1⟩
        | exact ⟨_, rfl, rfl, HFB.out _ hk1 hr1⟩
  case rest =>
    obtain ⟨g8, rfl, rfl, HB⟩ := hcut
    obtain ⟨wB, rfl⟩ : ∃ x : World, x = wc := ⟨_, rfl⟩
    clear hbox HSZ HR0 HKA
    by_cases hE0 : E = 0
    · subst hE0
      have hT : T = 4 + m := by rw [← HT.out]; unfold gtT; rw [if_pos HE.out, ← HM4.out]; rfl
      subst hT
      have hKr : 0 ≤ K ∧ K ≤ 31 := by
        have h1 := val_take_lt R M4.toNat
        have h2 : M4.toNat ≤ 5 := by have := HM4.out; omega
        have h3 : 2 ^ M4.toNat ≤ 2 ^ 5 := Nat.pow_le_pow_right (by omega) h2
        have h4 := HK.out
        unfold gtN at h4
        rw [if_pos HE.out] at h4
        omega
      obtain ⟨hK0, hK31⟩ := hKr
      have hn8 := HB.out.num
      have hb3 := HB.out.box
      by_cases hKE : K = EE
      · subst hKE
        have hKEb : (K == K) = true := beq_self_eq_true K
        have HG5 := Lib.hid (fun W (h : Hid (IsR W q sv bs (t + (4 + m)))) => rGet_calls q sv bs (t + (4 + m)) 5 W h)
        have hRt : restB bs (t + (4 + m)) = R.drop (4 + m) := by rw [restB_add, HRE.out]
        rw [hRt] at HG5
        obtain ⟨D, hD⟩ : ∃ D, gtN 5 (R.drop (4 + m)) = D := ⟨_, rfl⟩
        obtain ⟨F, hF⟩ : ∃ F, gtE 5 (R.drop (4 + m)) = F := ⟨_, rfl⟩
        obtain ⟨U, hU⟩ : ∃ U, gtT 5 (R.drop (4 + m)) = U := ⟨_, rfl⟩
        rw [hD, hF, hU] at HG5
        by_cases hF0 : F = 0
        · subst hF0
          have hU5 : U = 5 := by rw [← hU]; unfold gtT; rw [if_pos hF]; rfl
          subst hU5
          have hXe : X = ((listS (oneS true 0 D) count (R.drop (4 + m + 5))).1, (listS (oneS true 0 D) count (R.drop (4 + m + 5))).2.1, 4 + m + 5 + (listS (oneS true 0 D) count (R.drop (4 + m + 5))).2.2) := by
            rw [← HX.out]
            unfold readS
            rw [HM4.out, HE.out, HK.out, HEE.out, hF, hD, if_neg (by simp), if_pos rfl, if_neg (by simp)]
          have HRS0 := Lib.hid (RestS.start (oneS true 0 D) count (R.drop (4 + m + 5)))
          obtain ⟨Y, hY⟩ : ∃ Y, listS (oneS true 0 D) count (R.drop (4 + m + 5)) = Y := ⟨_, rfl⟩
          rw [hY] at hXe HRS0
          subst hXe
          clear hY hD hF hU hRt
          go_wp2_with fail
          go_quiet (first | (go_at_call 63; exact Calls.quiet_of_same (HES.out _)))
          have HBp := Lib.hid (HB.out.new ((Keeps.refl [] wB).drewN nq))
          generalize wB.drewN nq = wD at *
          clear hn8 hb3 HB
          have hb3 := HBp.out.box
          go_upto_region 7 with (first
            | (go_at_call 105; go_must (refine (HG5.out _ (Lib.hid HBp.out.rd)).mono ?_); rintro e wE ⟨rfl, hr1, hk1⟩; have HBe := Lib.hid (HBp.out.read hr1 hk1); clear hr1 hk1))
          have HBq := Lib.hid (HBe.out.box2 D)
          generalize wE.alloc (.cells #[.int .i64 D] 3) = wF at *
          generalize wE.heap.size = g11 at *
          clear hb3
          go_wp2_with fail
          go_loopg [13, 41] (count + 1) (fun u v13 v41 wr => ∃ (i : Nat) (acc : List Int) (tt : Nat), v41 = .int .i64 i ∧ i ≤ count ∧ Hid (acc.length = i) ∧ Hid (i + u = count + 1) ∧ Hid (RB6 w wr q sv bs (t + (4 + m + 5) + tt) g3 g11 D v13 acc) ∧ Hid (RestS (oneS true 0 D) acc (count - i) (R.drop (4 + m + 5 + tt)) tt Y))
          case atStart => exact ⟨0, [], 0, by go_num, by omega, (show _ = _ from rfl), (show _ = _ from by omega), HBq.out, HRS0.out⟩
          case round =>
            obtain ⟨i, acc, tt, rfl, hi, HAL, HQ, HBi, HRS⟩ := hrel
            obtain ⟨q1, rfl⟩ : ∃ g : Nat, g = gk := ⟨_, rfl⟩
            obtain ⟨wi, rfl⟩ : ∃ x : World, x = wr := ⟨_, rfl⟩
            by_cases hlt : i < count
            · obtain ⟨n, hn⟩ : ∃ n, count - i = n + 1 := ⟨count - i - 1, by omega⟩
              have hrs := HRS.out
              rw [hn] at hrs
              have hRt : restB bs (t + (4 + m + 5) + tt) = R.drop (4 + m + 5 + tt) := by rw [Nat.add_assoc, restB_add, HRE.out]
              have hcall := readEsc_calls q sv bs (t + (4 + m + 5) + tt) g3 g11 D wi HBi.out.rc
              rw [hRt] at hcall
              have hdd : (R.drop (4 + m + 5 + tt)).drop ((oneS true 0 D) (R.drop (4 + m + 5 + tt))).2.2 = R.drop (4 + m + 5 + (tt + ((oneS true 0 D) (R.drop (4 + m + 5 + tt))).2.2)) := by rw [List.drop_drop, Nat.add_assoc]
              have herr := fun h => RestS.err hrs h
              have hok := fun h => RestS.ok hrs h
              rw [hdd] at hok
              clear hdd hrs hRt
              obtain ⟨o1, o2, o3, ho⟩ : ∃ o1 o2 o3, (oneS true 0 D) (R.drop (4 + m + 5 + tt)) = (o1, o2, o3) := ⟨_, _, _, rfl⟩
              rw [ho] at herr hok hcall
              have HC := Lib.hid hcall
              have hnn : n = count - (i + 1) := by omega
              subst hnn
              clear hcall ho hn
              by_cases ho2 : o2 = 0
              · subst ho2
                have HOK := Lib.hid (hok rfl)
                have HLA : Hid ((acc.length + 1) * 8 ≤ 140737488355328) := (show _ ≤ _ from by rw [HAL.out]; omega)
                clear herr hok
                go_wp2_with (first
                  | (go_at_call 123; go_must (refine HC.out.mono ?_); rintro e wj ⟨rfl, hr1, hk1⟩; have HBj := Lib.hid (HBi.out.read hr1 hk1); clear hr1 hk1)
                  | (at_builtin; go_must (refine wp_app1 (W := wj) rfl (.tmp 51) (.tmp 53) 22 3 .i64 8 rfl Tryd.underlying22 info_i64r (by decide) _ acc o1 rfl rfl HBj.out.row HLA.out ?_); intro v1 w1 hr1 hk1 hf1; have HB1 := Lib.hid (HBj.out.app hr1 hk1 hf1); clear hr1 hk1 hf1))
                go_roundg (count - i)
                case measure => have := HQ.out; omega
                case rel => exact ⟨i + 1, acc ++ [o1], tt + o3, by go_num, by omega, (show _ = _ from by rw [List.length_append, HAL.out]; rfl), (show _ = _ from by have := HQ.out; omega), by rw [← Nat.add_assoc]; exact HB1.out, HOK.out⟩
              · have hY := herr ho2
                subst hY
                clear herr hok
                go_wp2_with (first
                  | (go_at_call 123; go_must (refine HC.out.mono ?_); rintro e wj ⟨rfl, hr1, hk1⟩; have HBj := Lib.hid (HBi.out.read hr1 hk1); clear hr1 hk1))
                go_ret2
                refine ⟨_, rfl, Row.nil _ _ _, ?_, HBj.out.keep, fun b hb => by cases hb⟩
                have h9 := HBj.out.rd
                rw [show t + (4 + m + 5) + tt + o3 = t + (4 + m + 5 + (tt + o3)) by omega] at h9
                exact h9
            · obtain rfl : i = count := by omega
              have hY := RestS.fin (by have := HRS.out; rwa [Nat.sub_self] at this)
              subst hY
              go_wp2_with fail
              go_ret2
              refine ⟨_, rfl, HBi.out.row, ?_, HBi.out.keep, fun b hb => (HBi.out.newv b hb).1⟩
              have h9 := HBi.out.rd
              rw [show t + (4 + m + 5) + tt = t + (4 + m + 5 + tt) by omega] at h9
              exact h9
        · have hXe : X = ([], F, 4 + m + U) := by
            rw [← HX.out]
            unfold readS
            rw [HM4.out, HE.out, HK.out, HEE.out, hF, hU, if_neg (by simp), if_pos rfl, if_pos hF0]
          subst hXe
          clear hD hF hU hRt
          go_wp2_with fail
          go_quiet (first | (go_at_call 63; exact Calls.quiet_of_same (HES.out _)))
          have HBp := Lib.hid (HB.out.new ((Keeps.refl [] wB).drewN nq))
          generalize wB.drewN nq = wD at *
          clear hn8 hb3 HB
          have hb3 := HBp.out.box
          go_upto_region 7 with (first
            | (go_at_call 105; go_must (refine (HG5.out _ (Lib.hid HBp.out.rd)).mono ?_); rintro e wE ⟨rfl, hr1, hk1⟩; have HBe := Lib.hid (HBp.out.read hr1 hk1); clear hr1 hk1))
          have HBq := Lib.hid (HBe.out.box2 D)
          generalize wE.alloc (.cells #[.int .i64 D] 3) = wF at *
          clear hb3
          go_wp2_with fail
          go_ret2
          exact ⟨_, rfl, Row.nil _ _ _, by rw [← Nat.add_assoc]; exact HBq.out.rd, HBq.out.keep, fun b hb => by cases hb⟩
      · have hKEb : (K == EE) = false := beq_eq_false_iff_ne.2 hKE
        have hXe : X = ((listS (oneS false K 0) count (R.drop (4 + m))).1, (listS (oneS false K 0) count (R.drop (4 + m))).2.1, 4 + m + (listS (oneS false K 0) count (R.drop (4 + m))).2.2) := by
          rw [← HX.out]
          unfold readS
          rw [HM4.out, HE.out, HK.out, HEE.out, if_neg (by simp), if_neg hKE]
        have HRS0 := Lib.hid (RestS.start (oneS false K 0) count (R.drop (4 + m)))
        obtain ⟨Y, hY⟩ : ∃ Y, listS (oneS false K 0) count (R.drop (4 + m)) = Y := ⟨_, rfl⟩
        rw [hY] at hXe HRS0
        subst hXe
        clear hY
        go_wp2_with fail
        go_quiet (first | (go_at_call 63; exact Calls.quiet_of_same (HES.out _)))
        have HBq := Lib.hid (HB.out.new ((Keeps.refl [] wB).drewN nq))
        generalize wB.drewN nq = wD at *
        clear hn8 hb3 HB
        go_wp2_with fail
        go_loopg [13, 41] (count + 1) (fun u v13 v41 wr => ∃ (i : Nat) (acc : List Int) (tt : Nat), v41 = .int .i64 i ∧ i ≤ count ∧ Hid (acc.length = i) ∧ Hid (i + u = count + 1) ∧ Hid (RB6 w wr q sv bs (t + (4 + m) + tt) g3 g8 K v13 acc) ∧ Hid (RestS (oneS false K 0) acc (count - i) (R.drop (4 + m + tt)) tt Y))
        case atStart => exact ⟨0, [], 0, by go_num, by omega, (show _ = _ from rfl), (show _ = _ from by omega), HBq.out, HRS0.out⟩
        case round =>
          obtain ⟨i, acc, tt, rfl, hi, HAL, HQ, HBi, HRS⟩ := hrel
          obtain ⟨q1, rfl⟩ : ∃ g : Nat, g = gk := ⟨_, rfl⟩
          obtain ⟨wi, rfl⟩ : ∃ x : World, x = wr := ⟨_, rfl⟩
          by_cases hlt : i < count
          · obtain ⟨n, hn⟩ : ∃ n, count - i = n + 1 := ⟨count - i - 1, by omega⟩
            have hrs := HRS.out
            rw [hn] at hrs
            have hRt : restB bs (t + (4 + m) + tt) = R.drop (4 + m + tt) := by rw [Nat.add_assoc, restB_add, HRE.out]
            have hcall := readPlain_calls q sv bs (t + (4 + m) + tt) g3 g8 K wi HBi.out.rc hK0 hK31 hs
            rw [hRt] at hcall
            have hdd : (R.drop (4 + m + tt)).drop ((oneS false K 0) (R.drop (4 + m + tt))).2.2 = R.drop (4 + m + (tt + ((oneS false K 0) (R.drop (4 + m + tt))).2.2)) := by rw [List.drop_drop, Nat.add_assoc]
            have herr := fun h => RestS.err hrs h
            have hok := fun h => RestS.ok hrs h
            rw [hdd] at hok
            clear hdd hrs hRt
            obtain ⟨o1, o2, o3, ho⟩ : ∃ o1 o2 o3, (oneS false K 0) (R.drop (4 + m + tt)) = (o1, o2, o3) := ⟨_, _, _, rfl⟩
            rw [ho] at herr hok hcall
            have HC := Lib.hid hcall
            have hnn : n = count - (i + 1) := by omega
            subst hnn
            clear hcall ho hn
            by_cases ho2 : o2 = 0
            · subst ho2
              have HOK := Lib.hid (hok rfl)
              have HLA : Hid ((acc.length + 1) * 8 ≤ 140737488355328) := (show _ ≤ _ from by rw [HAL.out]; omega)
              clear herr hok
              go_wp2_with (first
                | (go_at_call 121; go_must (refine HC.out.mono ?_); rintro e wj ⟨rfl, hr1, hk1⟩; have HBj := Lib.hid (HBi.out.read hr1 hk1); clear hr1 hk1)
                | (at_builtin; go_must (refine wp_app1 (W := wj) rfl (.tmp 51) (.tmp 53) 22 3 .i64 8 rfl Tryd.underlying22 info_i64r (by decide) _ acc o1 rfl rfl HBj.out.row HLA.out ?_); intro v1 w1 hr1 hk1 hf1; have HB1 := Lib.hid (HBj.out.app hr1 hk1 hf1); clear hr1 hk1 hf1))
              go_roundg (count - i)
              case measure => have := HQ.out; omega
              case rel => exact ⟨i + 1, acc ++ [o1], tt + o3, by go_num, by omega, (show _ = _ from by rw [List.length_append, HAL.out]; rfl), (show _ = _ from by have := HQ.out; omega), by rw [← Nat.add_assoc]; exact HB1.out, HOK.out⟩
            · have hY := herr ho2
              subst hY
              clear herr hok
              go_wp2_with (first
                | (go_at_call 121; go_must (refine HC.out.mono ?_); rintro e wj ⟨rfl, hr1, hk1⟩; have HBj := Lib.hid (HBi.out.read hr1 hk1); clear hr1 hk1))
              go_ret2
              refine ⟨_, rfl, Row.nil _ _ _, ?_, HBj.out.keep, fun b hb => by cases hb⟩
              have h9 := HBj.out.rd
              rw [show t + (4 + m) + tt + o3 = t + (4 + m + (tt + o3)) by omega] at h9
              exact h9
          · obtain rfl : i = count := by omega
            have hY := RestS.fin (by have := HRS.out; rwa [Nat.sub_self] at this)
            subst hY
            go_wp2_with fail
            go_ret2
            refine ⟨_, rfl, HBi.out.row, ?_, HBi.out.keep, fun b hb => (HBi.out.newv b hb).1⟩
            have h9 := HBi.out.rd
            rw [show t + (4 + m) + tt = t + (4 + m + tt) by omega] at h9
            exact h9
    · have hX : X = ([], E, T) := by rw [← HX.out]; unfold readS; rw [HM4.out, HE.out, HT.out, if_pos hE0]
      subst hX
      go_wp2_with fail
      go_ret2
      exact ⟨_, rfl, Row.nil _ _ _, HB.out.rd, HB.out.keep, fun b hb => by cases hb⟩
end Go.Proofs.YtofkiimaoahfjaaDoor
