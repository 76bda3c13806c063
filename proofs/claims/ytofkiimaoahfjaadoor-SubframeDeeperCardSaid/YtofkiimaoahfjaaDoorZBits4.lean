/-
  Package bits (layer 3): a Reader.
  Package bits (layer 3): what a Reader reads.
  Package bits (layer 3): a Reader: unary numbers, whole bytes.
  Layer 3 (bits): a Writer and a Reader that a run has made itself; known.
-/
import Derived.Test.YtofkiimaoahfjaaDoorZBits0
set_option maxRecDepth 100000
set_option linter.unusedVariables false
set_option linter.unusedSimpArgs false
namespace Go.Proofs.YtofkiimaoahfjaaDoor
open Go.RowKit Go.Proofs.YtofkiimaoahfjaaDoor.Pure

/-- A Reader at q: its bytes, and how many bits were read. -/
structure IsR (w : World) (q : Nat) (sv : Value) (bs : List Int) (at_ : Nat) : Prop where
  duo : Duo w q 79 sv (.int .i64 at_)
  row : Row w .u8 5 sv bs
  far : ∀ b, b ∈ fp sv → b ≠ q
  rng : ∀ x ∈ bs, 0 ≤ x ∧ x ≤ 255
  small : bs.length ≤ 1000000000000
  at_le : at_ ≤ 8 * bs.length

theorem IsR.keeps {w w' : World} {q : Nat} {sv : Value} {bs : List Int} {t : Nat} {F : List Nat} (h : IsR w q sv bs t) (hk : Keeps F w w') (hp : q ∉ F) (hs : ∀ b, b ∈ fp sv → b ∉ F) : IsR w' q sv bs t :=
  ⟨h.duo.keeps hk hp, h.row.keeps hk hs, h.far, h.rng, h.small, h.at_le⟩
theorem IsR.new {w w' : World} {q : Nat} {sv : Value} {bs : List Int} {t : Nat} (h : IsR w q sv bs t) (hk : Keeps [] w w') : IsR w' q sv bs t := h.keeps hk (by simp) (fun _ _ => by simp)
theorem IsR.move {w : World} {q : Nat} {sv : Value} {bs : List Int} {t : Nat} (h : IsR w q sv bs t) (u : Nat) (hu : u ≤ 8 * bs.length) : IsR (w.setCell ⟨q, 1, none⟩ (.int .i64 u)) q sv bs u :=
  ⟨h.duo.set1 _, h.row.keeps ((Keeps.refl [q] w).setCell (a := ⟨q, 1, none⟩) (.inl (by simp)) _) (fun b hb hm => h.far b hb (by simpa using hm)), h.far, h.rng, h.small, hu⟩

/-- The bits of bytes, one by one. -/
theorem unpack_get (bs : List Int) (hr : ∀ x ∈ bs, 0 ≤ x ∧ x ≤ 255) : ∀ (i : Nat) (h : i < 8 * bs.length), (unpack bs)[i]'(by rw [unpack_length]; exact h) = ((bs[i / 8]'(by omega)).toNat / 2 ^ (7 - i % 8) % 2 == 1) := by
  induction bs with
  | nil => intro i h; simp at h
  | cons x bs ih =>
    intro i h
    have hx := hr x (by simp)
    by_cases h8 : i < 8
    · have h0 : i / 8 = 0 := by omega
      simp only [unpack_cons, h0, List.getElem_cons_zero]
      rw [List.getElem_append_left (by rw [bitsN_length]; exact h8)]
      have hm : i % 8 = i := by omega
      rw [hm]
      have hg : ∀ (i : Nat) (h : i < 8), (bitsN 8 x.toNat)[i]'(by rw [bitsN_length]; exact h) = (x.toNat / 2 ^ (7 - i) % 2 == 1) := by
        intro i h
        have h' : i = 0 ∨ i = 1 ∨ i = 2 ∨ i = 3 ∨ i = 4 ∨ i = 5 ∨ i = 6 ∨ i = 7 := by omega
        rcases h' with rfl | rfl | rfl | rfl | rfl | rfl | rfl | rfl <;> simp [bitsN, Nat.div_div_eq_div_mul]
      exact hg i h8
    · have hl : i - 8 < 8 * bs.length := by simp at h; omega
      simp only [unpack_cons]
      rw [List.getElem_append_right (by rw [bitsN_length]; omega)]
      have e := ih (fun y hy => hr y (List.mem_cons_of_mem _ hy)) (i - 8) hl
      simp only [bitsN_length]
      rw [e]
      have h1 : (i - 8) / 8 + 1 = i / 8 := by omega
      have h2 : (i - 8) % 8 = i % 8 := by omega
      rw [h2]
      congr 4
      have : ∀ (j k : Nat) (hj : j + 1 = k) (h1 : j < bs.length) (h2 : k < (x :: bs).length), bs[j] = (x :: bs)[k] := by
        intro j k hj h1 h2
        subst hj
        rfl
      exact this _ _ h1 _ _

/-- A bit as a number. -/
def b2i (b : Bool) : Int := if b then 1 else 0

set_option maxHeartbeats 2000000 in
theorem rbit_calls (q : Nat) (sv : Value) (bs : List Int) (t i : Nat) (w : World) (hR : Hid (IsR w q sv bs t)) (hi : i < 8 * bs.length) :
    Calls Tryd.prog 106 #[.pointer (some ⟨q, 0, none⟩), .int .i64 i] w fun e w' => e = .returned (.int .i64 (b2i ((unpack bs)[i]'(by rw [unpack_length]; exact hi)))) ∧ w = w' := by
  have hc0 := hR.out.duo.c0
  have hsm := hR.out.small
  obtain ⟨gr, cr, rfl⟩ := hR.out.row.form (by omega)
  have hcell := hR.out.row.cell (i / 8) (by omega)
  have HU := Lib.hid (unpack_get bs hR.out.rng i hi)
  obtain ⟨x, hx⟩ : ∃ x, bs[i / 8]'(by omega) = x := ⟨_, rfl⟩
  have hxr := hR.out.rng x (hx ▸ List.getElem_mem _)
  rw [hx] at hcell HU
  rw [HU.out]
  obtain ⟨X, rfl⟩ : ∃ X : Nat, x = X := ⟨x.toNat, by omega⟩
  simp only [Int.toNat_natCast] at *
  have hX : X ≤ 255 := by omega
  have hq0 : (0 : Int) ≤ (i : Int) / 8 := by omega
  have hq1 : (i : Int) / 8 < (bs.length : Int) := by omega
  have hqn : ((i : Int) / 8).toNat = i / 8 := by omega
  clear HU hx hxr
  have HV : Hid (bits BinOp.and IntKind.i64 (wrap64 ((X : Int) / 2 ^ (7 - i % 8))) 1 = b2i (X / 2 ^ (7 - i % 8) % 2 == 1)) := by
    show _ = _
    rw [and1]
    have h1 : ((X : Int) / 2 ^ (7 - i % 8)) = ((X / 2 ^ (7 - i % 8) : Nat) : Int) := by rw [Int.natCast_ediv, Int.natCast_pow]; rfl
    have h2 : X / 2 ^ (7 - i % 8) ≤ X := Nat.div_le_self _ _
    rw [h1]
    generalize X / 2 ^ (7 - i % 8) = M at *
    unfold wrap64 b2i
    rcases Nat.mod_two_eq_zero_or_one M with h | h
    · simp [h]; omega
    · simp [h]; omega
  go_enter Tryd.func106, Tryd.ntmps106
  go_wp2
  go_ret
  refine ⟨?_, rfl⟩
  rw [← HV.out]
  rfl

/-- What is left to be read. -/
def restB (bs : List Int) (t : Nat) : List Bool := (unpack bs).drop t
theorem restB_length (bs : List Int) (t : Nat) : (restB bs t).length = 8 * bs.length - t := by unfold restB; rw [List.length_drop, unpack_length]

theorem restB_get (bs : List Int) (t i : Nat) (h : i < (restB bs t).length) (h' : t + i < (unpack bs).length) : (restB bs t)[i] = (unpack bs)[t + i] := by
  simp only [restB, List.getElem_drop]

theorem rbit_at (q : Nat) (sv : Value) (bs : List Int) (t i : Nat) (z : Int) (hz : z = i) (w : World) (hR : Hid (IsR w q sv bs t)) (hi : i < 8 * bs.length) :
    Calls Tryd.prog 106 #[.pointer (some ⟨q, 0, none⟩), .int .i64 z] w fun e w' => e = .returned (.int .i64 (b2i ((unpack bs)[i]'(by rw [unpack_length]; exact hi)))) ∧ w = w' := by
  subst hz
  exact rbit_calls q sv bs t i w hR hi

theorem rLeft_calls (q : Nat) (sv : Value) (bs : List Int) (t : Nat) (w : World) (hR : Hid (IsR w q sv bs t)) :
    Calls Tryd.prog 118 #[.pointer (some ⟨q, 0, none⟩)] w fun e w' => e = .returned (.int .i64 ((8 * bs.length - t : Nat) : Int)) ∧ Keeps [] w w' := by
  have hc0 := hR.out.duo.c0
  have hc1 := hR.out.duo.c1
  have hsm := hR.out.small
  have hat := hR.out.at_le
  obtain ⟨a0, c0, rfl, -⟩ := hR.out.row.rd
  have hm : IntKind.i64.wrap (8 * (bs.length : Int)) = 8 * (bs.length : Int) := IntWalk.i64_in _ (by omega)
  have hs : IntKind.i64.wrap (8 * (bs.length : Int) - (t : Int)) = ((8 * bs.length - t : Nat) : Int) := by rw [IntWalk.i64_in _ (by omega)]; omega
  go_enter Tryd.func118, Tryd.ntmps118
  go_wp2
  go_quiet (fail)
  go_wp2
  go_ret
  exact ⟨rfl, (Keeps.refl _ _).drewN _⟩

theorem rAt_calls (q : Nat) (sv : Value) (bs : List Int) (t : Nat) (w : World) (hR : Hid (IsR w q sv bs t)) :
    Calls Tryd.prog 25 #[.pointer (some ⟨q, 0, none⟩)] w fun e w' => e = .returned (.int .i64 t) ∧ w = w' := by
  have hc1 := hR.out.duo.c1
  go_enter Tryd.func25, Tryd.ntmps25
  go_wp2
  go_ret
  exact ⟨rfl, rfl⟩

theorem nilLeft_calls (w : World) :
    Calls Tryd.prog 118 #[.pointer none] w fun e w' => e = .returned (.int .i64 0) ∧ w = w' := by
  go_enter Tryd.func118, Tryd.ntmps118
  go_wp2
  go_ret
  exact ⟨rfl, rfl⟩
theorem nilGet_calls (k : Int) (w : World) :
    Calls Tryd.prog 105 #[.pointer none, .int .i64 k] w fun e w' => e = .returned (.tuple #[.int .i64 0, .int .i64 1]) ∧ w = w' := by
  go_enter Tryd.func105, Tryd.ntmps105
  go_wp2
  go_ret2
  exact ⟨rfl, rfl⟩
set_option maxHeartbeats 1000000 in
theorem newReader_calls (bs : List Int) (n : Nat) (hn : n = bs.length) (a : Option Addr) (c : Nat) (w : World) (hnc : a = none → c = 0) (hl : bs.length ≤ 1000000000000) (hr : ∀ x ∈ bs, 0 ≤ x ∧ x ≤ 255) (hx : Hid (Rd w .u8 a bs)) :
    Calls Tryd.prog 20 #[.slice a n c] w fun e w' => ∃ q sv, e = .returned (.pointer (some ⟨q, 0, none⟩)) ∧ IsR w' q sv bs 0 ∧ (∀ b, b ∈ fp sv → w.heap.size ≤ b) ∧ w.heap.size ≤ q ∧ Keeps [] w w' := by
  subst hn
  go_enter Tryd.func20, Tryd.ntmps20
  go_wp2_with (first
    | (go_at_call 40; go_must (with_reducible refine (bclone_calls bs _ rfl a c _ hnc (by omega) hx).mono ?_); rintro e w1 ⟨v1, rfl, hr1, hf1, hk1⟩; obtain ⟨a1, c1, hv1, -⟩ := hr1.rd; subst hv1))
  go_ret
  refine ⟨_, _, rfl, ⟨⟨heap_alloc_new _ _⟩, hr1.keeps ((Keeps.refl [] _).alloc _) (fun _ _ => by simp), ?_, hr, hl, by omega⟩, hf1, hk1.size, hk1.alloc _⟩
  intro b hb
  have := hr1.lt b hb
  omega
end Go.Proofs.YtofkiimaoahfjaaDoor

set_option maxRecDepth 100000
set_option linter.unusedVariables false
set_option linter.unusedSimpArgs false
namespace Go.Proofs.YtofkiimaoahfjaaDoor
open Go.RowKit Go.Proofs.YtofkiimaoahfjaaDoor.Pure

/-- Get's error, number, and how many bits are read. -/
def gtE (k : Int) (R : List Bool) : Int := if k < 0 ∨ 32 < k then 1 else if (R.length : Int) < k then 10 else 0
def gtN (k : Int) (R : List Bool) : Int := if gtE k R = 0 then ((val (R.take k.toNat) : Nat) : Int) else 0
def gtT (k : Int) (R : List Bool) : Nat := if gtE k R = 0 then k.toNat else 0
theorem gt_one {k : Int} (R : List Bool) (h : k < 0 ∨ 32 < k) : gtE k R = 1 ∧ gtN k R = 0 ∧ gtT k R = 0 := by
  have e : gtE k R = 1 := by unfold gtE; rw [if_pos h]
  exact ⟨e, by unfold gtN; rw [e]; rfl, by unfold gtT; rw [e]; rfl⟩
theorem gt_tail {k : Nat} {R : List Bool} (h : k ≤ 32) (h1 : R.length < k) : gtE k R = 10 ∧ gtN k R = 0 ∧ gtT k R = 0 := by
  have e : gtE k R = 10 := by unfold gtE; rw [if_neg (by omega), if_pos (by omega)]
  exact ⟨e, by unfold gtN; rw [e]; rfl, by unfold gtT; rw [e]; rfl⟩
theorem gt_ok {k : Nat} {R : List Bool} (h : k ≤ 32) (h1 : k ≤ R.length) : gtE k R = 0 ∧ gtN k R = (val (R.take k) : Nat) ∧ gtT k R = k := by
  have e : gtE k R = 0 := by unfold gtE; rw [if_neg (by omega), if_neg (by omega)]
  exact ⟨e, by unfold gtN; rw [if_pos e]; rfl, by unfold gtT; rw [if_pos e]; rfl⟩

theorem get_step (R : List Bool) (i : Nat) (h : i < R.length) : val (R.take (i + 1)) = 2 * val (R.take i) + (if R[i] then 1 else 0) := by
  rw [List.take_succ_eq_append_getElem h, val_snoc]

set_option maxHeartbeats 4000000 in
theorem rGet_calls (q : Nat) (sv : Value) (bs : List Int) (t : Nat) (k : Int) (w : World) (hR : Hid (IsR w q sv bs t)) :
    Calls Tryd.prog 105 #[.pointer (some ⟨q, 0, none⟩), .int .i64 k] w fun e w' => e = .returned (.tuple #[.int .i64 (gtN k (restB bs t)), .int .i64 (gtE k (restB bs t))]) ∧ IsR w' q sv bs (t + gtT k (restB bs t)) ∧ Keeps [q] w w' := by
  have hrl := restB_length bs t
  by_cases hk : k < 0 ∨ 32 < k
  · obtain ⟨e1, e2, e3⟩ := gt_one (restB bs t) hk
    rw [e1, e2, e3]
    clear e1 e2 e3
    go_enter Tryd.func105, Tryd.ntmps105
    go_wp2_with (first
      | (go_at_call 26; go_must (refine (bwide_no _ _ ?h0).mono ?_); (case h0 => omega); rintro e w1 ⟨rfl, rfl⟩))
    go_ret2
    exact ⟨rfl, hR.out, Keeps.refl _ _⟩
  · obtain ⟨kn, rfl⟩ : ∃ kn : Nat, k = kn := ⟨k.toNat, by omega⟩
    have hk32 : kn ≤ 32 := by omega
    clear hk
    by_cases hlt : (restB bs t).length < kn
    · obtain ⟨e1, e2, e3⟩ := gt_tail hk32 hlt
      rw [e1, e2, e3]
      rw [hrl] at hlt
      clear e1 e2 e3 hrl
      have hcmp : ((8 * bs.length - t : Nat) : Int) < (kn : Int) := by omega
      go_enter Tryd.func105, Tryd.ntmps105
      go_wp2_with (first
        | (go_at_call 26; go_must (refine (bwide_ok _ _ ?h0 ?h1).mono ?_); (case h0 => omega); (case h1 => omega); rintro e w1 ⟨rfl, rfl⟩)
        | (go_at_call 118; go_must (with_reducible refine (rLeft_calls q sv bs t _ hR).mono ?_); rintro e w1 ⟨rfl, hk1⟩))
      go_ret2
      exact ⟨rfl, hR.out.new hk1, (Keeps.refl _ _).new hk1⟩
    · have hle : kn ≤ (restB bs t).length := by omega
      obtain ⟨e1, e2, e3⟩ := gt_ok hk32 hle
      rw [e1, e2, e3]
      rw [hrl] at hlt
      have hkle : t + kn ≤ 8 * bs.length := by have := hR.out.at_le; omega
      clear e1 e2 e3
      have HRL := Lib.hid hrl
      clear hrl
      have HLE := Lib.hid hle
      clear hle
      have hsm := hR.out.small
      go_enter Tryd.func105, Tryd.ntmps105
      go_wp2_with (first
        | (go_at_call 26; go_must (refine (bwide_ok _ _ ?h0 ?h1).mono ?_); (case h0 => omega); (case h1 => omega); rintro e w1 ⟨rfl, rfl⟩)
        | (go_at_call 118; go_must (with_reducible refine (rLeft_calls q sv bs t _ hR).mono ?_); rintro e w1 ⟨rfl, hk1⟩))
      have HR1 := Lib.hid (hR.out.new hk1)
      have HK1 := Lib.hid hk1
      clear hk1
      go_loopg [6, 20] (kn + 1) (fun q' v6 v20 w2 => ∃ (i : Nat) (n : Nat), v20 = .int .i64 i ∧ i ≤ kn ∧ v6 = .int .i64 n ∧ n < 4294967296 ∧ Hid (n = val ((restB bs t).take i)) ∧ Hid (IsR w2 q sv bs (t + i)) ∧ Hid (i + q' = kn + 1) ∧ Hid (Keeps [q] w w2))
      case atStart => exact ⟨0, 0, rfl, by omega, rfl, by omega, (show _ = _ from by simp [val]), HR1.out, (show _ = _ from by omega), (Keeps.refl _ _).new HK1.out⟩
      case round =>
        obtain ⟨i, n, rfl, hi, rfl, hn, HN, HRI, HQ, HKI⟩ := hrel
        by_cases hli : i < kn
        · have hil : i < (restB bs t).length := by have := HLE.out; omega
          obtain ⟨b, hb⟩ : ∃ b, (restB bs t)[i] = b := ⟨_, rfl⟩
          have hst := get_step (restB bs t) i hil
          rw [hb, ← HN.out] at hst
          have hub : (unpack bs)[t + i]'(by rw [unpack_length]; omega) = b := by
            rw [← hb, restB_get _ _ _ _ (by rw [unpack_length]; omega)]
          have hv := val_lt ((restB bs t).take (i + 1))
          have hv2 : 2 ^ ((restB bs t).take (i + 1)).length ≤ 2 ^ 32 := Nat.pow_le_pow_right (by omega) (by rw [List.length_take]; omega)
          rw [hst] at hv
          have HST := Lib.hid hst
          have HUB := Lib.hid hub
          have hn2 : 2 * n + (if b then 1 else 0) < 4294967296 := by omega
          have hor : bits BinOp.or IntKind.i64 ((n : Int) * 2) (b2i b) = ((2 * n + (if b then 1 else 0) : Nat) : Int) := by
            rw [Int.mul_comm, or1 _ _ (by omega) (by omega) (by unfold b2i; split <;> omega) (by unfold b2i; split <;> omega)]
            unfold b2i
            split <;> simp
          have HOR := Lib.hid hor
          have HNX := Lib.hid hn2
          have hc1 := HRI.out.duo.c1
          have hf1 := HRI.out.duo.frozen 1
          have hcast : ((t + i : Nat) : Int) = (t : Int) + (i : Int) := by omega
          clear hst hub hv hv2 hn2 hor hb hil
          go_wp2_with (first
            | (go_at_call 106; go_must (with_reducible refine (rbit_at q sv bs (t + i) (t + i) _ hcast.symm _ HRI (by omega)).mono ?_); rw [HUB.out]; rintro e w3 ⟨rfl, rfl⟩))
          go_roundg (gk - 1)
          case measure => have := HQ.out; omega
          case rel =>
            refine ⟨i + 1, 2 * n + (if b then 1 else 0), by go_num, by omega, ?_, HNX.out, HST.out.symm, ?_, (show _ = _ from by have := HQ.out; omega), HKI.out.setCell (a := ⟨q, 1, none⟩) (.inl (by simp)) _⟩
            · first | rw [HOR.out] | (rw [← HOR.out])
            · have := HRI.out.move (t + i + 1) (by omega)
              show IsR _ _ _ _ _
              have e : ((t + i + 1 : Nat) : Int) = (t : Int) + (i : Int) + 1 := by omega
              rw [e] at this
              exact this
        · obtain rfl : i = kn := by omega
          go_wp2_with fail
          go_ret2
          refine ⟨by rw [← HN.out]; rfl, HRI.out, HKI.out⟩

/-- GetSigned's number. -/
def gsN (k : Int) (R : List Bool) : Int := if gtE k R = 0 ∧ 0 < k ∧ 2 ^ (k.toNat - 1) ≤ gtN k R then gtN k R - 2 ^ k.toNat else gtN k R

theorem val_take_lt (R : List Bool) (k : Nat) : val (R.take k) < 2 ^ k :=
  Nat.lt_of_lt_of_le (val_lt _) (Nat.pow_le_pow_right (by omega) (by simp; omega))

set_option maxHeartbeats 2000000 in
theorem rGetSigned_calls (q : Nat) (sv : Value) (bs : List Int) (t : Nat) (k : Int) (w : World) (hR : Hid (IsR w q sv bs t)) :
    Calls Tryd.prog 108 #[.pointer (some ⟨q, 0, none⟩), .int .i64 k] w fun e w' => e = .returned (.tuple #[.int .i64 (gsN k (restB bs t)), .int .i64 (gtE k (restB bs t))]) ∧ IsR w' q sv bs (t + gtT k (restB bs t)) ∧ Keeps [q] w w' := by
  generalize hRe : restB bs t = R at *
  have HG := rGet_calls q sv bs t k w hR
  rw [hRe] at HG
  have HGH := Lib.hid HG
  clear HG hRe
  by_cases h0 : gtE k R = 0
  · by_cases hk0 : 0 < k
    · have hk : 0 ≤ k ∧ k ≤ 32 := by
        unfold gtE at h0
        split at h0
        · omega
        · omega
      obtain ⟨j, rfl⟩ : ∃ j : Nat, k = (j : Int) + 1 := ⟨k.toNat - 1, by omega⟩
      have hjj : ((j : Int) + 1).toNat = j + 1 := by omega
      have hgn : gtN ((j : Int) + 1) R = ((val (R.take (j + 1)) : Nat) : Int) := by unfold gtN; rw [if_pos h0, hjj]
      have hv := val_take_lt R (j + 1)
      have hgs : gsN ((j : Int) + 1) R = if 2 ^ j ≤ val (R.take (j + 1)) then ((val (R.take (j + 1)) : Nat) : Int) - 2 ^ (j + 1) else ((val (R.take (j + 1)) : Nat) : Int) := by
        unfold gsN
        rw [hgn, hjj]
        have e1 : ((2 : Int) ^ (j + 1 - 1) ≤ ((val (R.take (j + 1)) : Nat) : Int)) ↔ (2 ^ j ≤ val (R.take (j + 1))) := by
          rw [Nat.add_sub_cancel]
          exact_mod_cast Iff.rfl
        by_cases h : 2 ^ j ≤ val (R.take (j + 1))
        · rw [if_pos h, if_pos ⟨h0, hk0, e1.2 h⟩]
        · rw [if_neg h, if_neg (fun hh => h (e1.1 hh.2.2))]
      rw [hgn, h0] at HGH
      rw [hgs, h0]
      generalize val (R.take (j + 1)) = V at *
      have hpow : (2 : Nat) ^ (j + 1) ≤ 2 ^ 32 := Nat.pow_le_pow_right (by omega) (by omega)
      have hj64 : j ≤ 64 := by omega
      have hdv : (V : Int) / 2 ^ j = ((V / 2 ^ j : Nat) : Int) := by rw [Int.natCast_ediv, Int.natCast_pow]; rfl
      have hp2 : 2 ^ (j + 1) = 2 * 2 ^ j := by rw [Nat.pow_succ, Nat.mul_comm]
      have hpj : 0 < 2 ^ j := Nat.pow_pos (by omega)
      have hw : wrap64 (2 ^ (j + 1)) = 2 ^ (j + 1) := by
        have e : ((2 : Int) ^ (j + 1)) = ((2 ^ (j + 1) : Nat) : Int) := by rw [Int.natCast_pow]; rfl
        rw [e]
        unfold wrap64
        omega
      have hpi : ((2 : Int) ^ (j + 1)) = ((2 ^ (j + 1) : Nat) : Int) := by rw [Int.natCast_pow]; rfl
      by_cases hb : 2 ^ j ≤ V
      · rw [if_pos hb]
        have h1 : V / 2 ^ j = 1 := by
          apply Nat.div_eq_of_lt_le
          · omega
          · omega
        have hone : ((V : Int) / 2 ^ j == 1) = true := by rw [hdv, h1]; rfl
        have hsub : IntKind.i64.wrap ((V : Int) - 2 ^ (j + 1)) = (V : Int) - 2 ^ (j + 1) := by rw [hpi]; exact IntWalk.i64_in _ (by omega)
        have hpl : (2 : Int) ^ (j + 1) ≤ 4294967296 := by rw [hpi]; omega
        have hpg : (0 : Int) < 2 ^ (j + 1) := by rw [hpi]; omega
        have hv2 : (V : Int) < 2 ^ (j + 1) := by rw [hpi]; omega
        clear hgn hgs hv hpow hdv hp2 hpj hpi hb h1 hjj
        go_enter Tryd.func108, Tryd.ntmps108
        go_wp2_with (first
          | (go_at_call 105; go_must (with_reducible refine (HGH.out).mono ?_); rintro e w1 ⟨rfl, hr1, hk1⟩))
        go_ret2
        exact ⟨rfl, hr1, hk1⟩
      · rw [if_neg hb]
        have h1 : V / 2 ^ j = 0 := Nat.div_eq_of_lt (by omega)
        have hone : ((V : Int) / 2 ^ j == 1) = false := by rw [hdv, h1]; rfl
        clear hgn hgs hv hpow hdv hp2 hpj hpi hb h1 hjj hw
        go_enter Tryd.func108, Tryd.ntmps108
        go_wp2_with (first
          | (go_at_call 105; go_must (with_reducible refine (HGH.out).mono ?_); rintro e w1 ⟨rfl, hr1, hk1⟩))
        go_ret2
        exact ⟨rfl, hr1, hk1⟩
    · have hgs : gsN k R = gtN k R := by unfold gsN; rw [if_neg (fun h => hk0 h.2.1)]
      rw [hgs, h0]
      rw [h0] at HGH
      clear hgs
      generalize gtN k R = V at *
      go_enter Tryd.func108, Tryd.ntmps108
      go_wp2_with (first
        | (go_at_call 105; go_must (with_reducible refine (HGH.out).mono ?_); rintro e w1 ⟨rfl, hr1, hk1⟩))
      go_ret2
      exact ⟨rfl, hr1, hk1⟩
  · have hgs : gsN k R = gtN k R := by unfold gsN; rw [if_neg (fun h => h0 h.1)]
    rw [hgs]
    have hne : (gtE k R == 0) = false := beq_eq_false_iff_ne.2 h0
    clear hgs h0
    generalize gtN k R = V at *
    generalize gtE k R = E at *
    go_enter Tryd.func108, Tryd.ntmps108
    go_wp2_with (first
      | (go_at_call 105; go_must (with_reducible refine (HGH.out).mono ?_); rintro e w1 ⟨rfl, hr1, hk1⟩))
    go_ret2
    exact ⟨rfl, hr1, hk1⟩
end Go.Proofs.YtofkiimaoahfjaaDoor

set_option maxRecDepth 100000
set_option linter.unusedVariables false
set_option linter.unusedSimpArgs false
namespace Go.Proofs.YtofkiimaoahfjaaDoor
open Go.RowKit Go.Proofs.YtofkiimaoahfjaaDoor.Pure

/-- How many noughts there are ahead of the first one. -/
def cnt : List Bool → Option Nat
  | [] => none
  | true :: _ => some 0
  | false :: r => (cnt r).map (· + 1)
def unRE (R : List Bool) : Int := match cnt R with | none => 10 | some _ => 0
def unRN (R : List Bool) : Int := match cnt R with | none => 0 | some n => n
def unRT (R : List Bool) : Nat := match cnt R with | none => 0 | some n => n + 1
theorem unR_none {R : List Bool} (h : cnt R = none) : unRE R = 10 ∧ unRN R = 0 ∧ unRT R = 0 := by unfold unRE unRN unRT; rw [h]; exact ⟨rfl, rfl, rfl⟩
theorem unR_some {R : List Bool} {n : Nat} (h : cnt R = some n) : unRE R = 0 ∧ unRN R = n ∧ unRT R = n + 1 := by unfold unRE unRN unRT; rw [h]; exact ⟨rfl, rfl, rfl⟩
theorem cnt_step (R : List Bool) (i : Nat) (h : i < R.length) (b : Bool) (hb : R[i] = b) (hT : cnt R = (cnt (R.drop i)).map (· + i)) :
    (b = true → cnt R = some i) ∧ (b = false → cnt R = (cnt (R.drop (i + 1))).map (· + (i + 1))) := by
  rw [List.drop_eq_getElem_cons h, hb] at hT
  refine ⟨fun h => ?_, fun h => ?_⟩
  · rw [hT, h]; simp [cnt]
  · rw [hT, h]
    simp only [cnt, Option.map_map]
    congr 1
    funext n
    simp only [Function.comp]
    omega
theorem cnt_end (R : List Bool) (hT : cnt R = (cnt (R.drop R.length)).map (· + R.length)) : cnt R = none := by
  rw [hT, List.drop_length]; rfl

set_option maxHeartbeats 4000000 in
theorem rUnary_calls (q : Nat) (sv : Value) (bs : List Int) (t : Nat) (w : World) (hR : Hid (IsR w q sv bs t)) :
    Calls Tryd.prog 75 #[.pointer (some ⟨q, 0, none⟩)] w fun e w' => e = .returned (.tuple #[.int .i64 (unRN (restB bs t)), .int .i64 (unRE (restB bs t))]) ∧ IsR w' q sv bs (t + unRT (restB bs t)) ∧ Keeps [q] w w' := by
  have hc0 := hR.out.duo.c0
  have hc1 := hR.out.duo.c1
  have hf1 := hR.out.duo.frozen 1
  have hsm := hR.out.small
  have hat := hR.out.at_le
  obtain ⟨a0, c0, rfl, -⟩ := hR.out.row.rd
  have HRL := Lib.hid (restB_length bs t)
  go_enter Tryd.func75, Tryd.ntmps75
  go_wp2_with fail
  go_loopg [4, 5] (8 * bs.length - t + 1) (fun q' v4 v5 w2 => w2 = w ∧ ∃ (i : Nat), v4 = .int .i64 ((t : Int) + (i : Int)) ∧ t + i ≤ 8 * bs.length ∧ Hid (cnt (restB bs t) = (cnt ((restB bs t).drop i)).map (· + i)) ∧ Hid (i + q' = 8 * bs.length - t + 1))
  case atStart => exact ⟨rfl, 0, by simp, by omega, (show _ = _ from by simp), (show _ = _ from by omega)⟩
  case round =>
    obtain ⟨rfl, i, rfl, hi, HT, HQ⟩ := hrel
    by_cases hlt : t + i < 8 * bs.length
    · have hil : i < (restB bs t).length := by rw [HRL.out]; omega
      obtain ⟨b, hb⟩ : ∃ b, (restB bs t)[i] = b := ⟨_, rfl⟩
      have hub : (unpack bs)[t + i]'(by rw [unpack_length]; omega) = b := by rw [← hb, restB_get _ _ _ _ (by rw [unpack_length]; omega)]
      have hst := cnt_step (restB bs t) i hil b hb HT.out
      have HUB := Lib.hid hub
      have hcast : (t : Int) + (i : Int) = ((t + i : Nat) : Int) := by omega
      have HCAST := Lib.hid hcast
      have hcmp : (t : Int) + (i : Int) < 8 * (bs.length : Int) := by omega
      cases b
      · have HNX := Lib.hid (hst.2 rfl)
        clear hst hub hb hil hcast
        go_wp2_with (first
          | (go_at_call 106; go_must (with_reducible refine (rbit_at q _ bs t (t + i) _ HCAST.out _ hR (by omega)).mono ?_); rw [HUB.out]; rintro e w3 ⟨rfl, rfl⟩))
        go_roundg (gk - 1)
        case measure => have := HQ.out; omega
        case rel => exact ⟨rfl, i + 1, by rw [show ((i + 1 : Nat) : Int) = (i : Int) + 1 by omega, ← Int.add_assoc], by omega, HNX.out, (show _ = _ from by have := HQ.out; omega)⟩
      · have HNX := Lib.hid (hst.1 rfl)
        clear hst hub hb hil hcast
        have hsub : (t : Int) + (i : Int) - (t : Int) = (i : Int) := by omega
        obtain ⟨e1, e2, e3⟩ := unR_some HNX.out
        have HES : Hid (unRE (restB bs t) = 0 ∧ unRN (restB bs t) = i ∧ unRT (restB bs t) = i + 1) := ⟨e1, e2, e3⟩
        clear e1 e2 e3
        go_wp2_with (first
          | (go_at_call 106; go_must (with_reducible refine (rbit_at q _ bs t (t + i) _ HCAST.out _ hR (by omega)).mono ?_); rw [HUB.out]; rintro e w3 ⟨rfl, rfl⟩))
        go_ret2
        rw [HES.out.1, HES.out.2.1, HES.out.2.2]
        refine ⟨by first | rfl | (congr 4; omega), ?_, (Keeps.refl _ _).setCell (a := ⟨q, 1, none⟩) (.inl (by simp)) _⟩
        have := hR.out.move (t + (i + 1)) (by omega)
        have e : ((t + (i + 1) : Nat) : Int) = (t : Int) + (i : Int) + 1 := by omega
        rw [e] at this
        exact this
    · have hil : i = (restB bs t).length := by rw [HRL.out]; omega
      have hn := cnt_end (restB bs t) (by rw [← hil]; exact HT.out)
      obtain ⟨e1, e2, e3⟩ := unR_none hn
      have HES : Hid (unRE (restB bs t) = 10 ∧ unRN (restB bs t) = 0 ∧ unRT (restB bs t) = 0) := ⟨e1, e2, e3⟩
      clear e1 e2 e3
      have hcmp : ¬ ((t : Int) + (i : Int) < 8 * (bs.length : Int)) := by omega
      clear hn hil
      go_wp2_with fail
      go_ret2
      rw [HES.out.1, HES.out.2.1, HES.out.2.2]
      exact ⟨rfl, hR.out, Keeps.refl _ _⟩

theorem and_clear (X : Nat) (h : X < 2 ^ 64) : X &&& (2 ^ 64 - 8) = 8 * (X / 8) := by
  apply Nat.eq_of_testBit_eq
  intro i
  have e1 : (2 ^ 64 - 8 : Nat) = (2 ^ 61 - 1) <<< 3 := by decide
  have e2 : 8 * (X / 8) = (X >>> 3) <<< 3 := by rw [Nat.shiftRight_eq_div_pow, Nat.shiftLeft_eq]; omega
  rw [e1, e2, Nat.testBit_and, Nat.testBit_shiftLeft, Nat.testBit_shiftLeft, Nat.testBit_two_pow_sub_one, Nat.testBit_shiftRight]
  by_cases h3 : i < 3
  · have : ¬ (i ≥ 3) := by omega
    simp [this]
  · have h4 : i ≥ 3 := by omega
    have h5 : 3 + (i - 3) = i := by omega
    simp only [h4, decide_true, Bool.true_and, h5]
    by_cases h6 : i - 3 < 61
    · simp [h6]
    · have : X.testBit i = false := Nat.testBit_lt_two_pow (Nat.lt_of_lt_of_le h (Nat.pow_le_pow_right (by omega) (by omega)))
      simp [this]

theorem andNot7 (x : Int) (h0 : 0 ≤ x) (h1 : x < 4611686018427387904) : bits .andNot .i64 x 7 = x / 8 * 8 := by
  show IntKind.i64.wrap ((BitVec.ofInt 64 x &&& ~~~ BitVec.ofInt 64 7).toNat : Int) = _
  have e : (~~~ BitVec.ofInt 64 7).toNat = 2 ^ 64 - 8 := by decide
  rw [BitVec.toNat_and, toNat_ofInt64, e, and_clear _ (by omega)]
  rw [IntWalk.i64_in _ (by omega)]
  omega

/-- Align's error of a Reader, and how many bits are read. -/
def alE (t : Nat) (R : List Bool) : Int := if (R.take (padN t)).all (fun b => !b) then 0 else 2
def alT (t : Nat) (R : List Bool) : Nat := if (R.take (padN t)).all (fun b => !b) then padN t else 0

end Go.Proofs.YtofkiimaoahfjaaDoor

set_option maxRecDepth 100000
set_option linter.unusedVariables false
set_option linter.unusedSimpArgs false
namespace Go.Proofs.YtofkiimaoahfjaaDoor
open Go.RowKit Go.Proofs.YtofkiimaoahfjaaDoor.Pure

/-- Since w0 old memory stands as it did; the Writer at p, made since, holds l. -/
def WS (w0 w : World) (p : Nat) (l : List Bool) : Prop := Keeps [] w0 w ∧ ∃ sv, IsW w p sv l ∧ w0.heap.size ≤ p ∧ (∀ b, b ∈ fp sv → w0.heap.size ≤ b)
theorem WS.keeps {w0 w : World} {p : Nat} {l : List Bool} (h : WS w0 w p l) : Keeps [] w0 w := h.1
theorem WS.wrote {w0 w w' : World} {p : Nat} {l' : List Bool} {sv : Value} (hk : Keeps [] w0 w) (hp : w0.heap.size ≤ p) (hs : ∀ b, b ∈ fp sv → w0.heap.size ≤ b) (h : Wrote w w' p sv l') : WS w0 w' p l' := by
  obtain ⟨sv', h1, h2, h3⟩ := h
  refine ⟨hk.then_ h2 (fun b hb hlt => ?_), sv', h1, hp, fun b hb => ?_⟩
  · rcases List.mem_cons.1 hb with rfl | hb
    · omega
    · have := hs b hb; omega
  · rcases h3 b hb with h | h
    · exact hs b h
    · exact Nat.le_trans hk.size h
theorem WS.new {w0 w w' : World} {p : Nat} {l : List Bool} (h : WS w0 w p l) (hk : Keeps [] w w') : WS w0 w' p l := by
  obtain ⟨h1, sv, h2, h3, h4⟩ := h
  exact ⟨h1.new hk, sv, h2.new hk, h3, h4⟩
/-- A Reader's step, or another's, that turns blocks which were made since w1 alone. -/
theorem WS.later {w0 w w' : World} {p : Nat} {l : List Bool} (h : WS w0 w p l) {q : Nat} (hk : Keeps [q] w w') (hq : w.heap.size ≤ q ∨ (w0.heap.size ≤ q ∧ q ≠ p ∧ ∀ sv, IsW w p sv l → ∀ b, b ∈ fp sv → b ≠ q)) : WS w0 w' p l := by
  obtain ⟨h1, sv, h2, h3, h4⟩ := h
  have hpl := h2.duo.lt
  have hsl := h2.row.lt
  refine ⟨h1.then_ hk (fun b hb hlt => ?_), sv, h2.keeps hk ?_ ?_, h3, h4⟩
  · rw [List.mem_singleton] at hb
    have := h1.size
    rcases hq with h | h <;> omega
  · rw [List.mem_singleton]
    rcases hq with h | h <;> omega
  · intro b hb hm
    rw [List.mem_singleton] at hm
    rcases hq with h | ⟨h, h', h''⟩
    · have := hsl b hb; omega
    · exact h'' sv h2 b hb hm

section
variable {w0 w : World} {p : Nat} {l : List Bool}
theorem wsPut (n k : Int) (hW : Hid (WS w0 w p l)) (hn : Hid (-9223372036854775808 ≤ n ∧ n ≤ 9223372036854775807)) (hs : l.length ≤ 800000000000) :
    Calls Tryd.prog 12 #[.pointer (some ⟨p, 0, none⟩), .int .i64 n, .int .i64 k] w fun e w' => e = .returned (.int .i64 (putE n k)) ∧ WS w0 w' p (l ++ putB n k) := by
  obtain ⟨h1, sv, h2, h3, h4⟩ := hW.out
  exact (wPut_calls p sv l n k w h2 hn hs).mono fun e w' ⟨he, hw⟩ => ⟨he, WS.wrote h1 h3 h4 hw⟩
theorem wsPutSigned (n k : Int) (hW : Hid (WS w0 w p l)) (hn : Hid (-9223372036854775808 ≤ n ∧ n ≤ 9223372036854775807)) (hs : l.length ≤ 800000000000) :
    Calls Tryd.prog 58 #[.pointer (some ⟨p, 0, none⟩), .int .i64 n, .int .i64 k] w fun e w' => e = .returned (.int .i64 (psE n k)) ∧ WS w0 w' p (l ++ psB n k) := by
  obtain ⟨h1, sv, h2, h3, h4⟩ := hW.out
  exact (wPutSigned_calls p sv l n k w h2 hn hs).mono fun e w' ⟨he, hw⟩ => ⟨he, WS.wrote h1 h3 h4 hw⟩
theorem wsUnary (n : Int) (hW : Hid (WS w0 w p l)) (hs : l.length ≤ 800000000000) :
    Calls Tryd.prog 30 #[.pointer (some ⟨p, 0, none⟩), .int .i64 n] w fun e w' => e = .returned (.int .i64 (unE n)) ∧ WS w0 w' p (l ++ unB n) := by
  obtain ⟨h1, sv, h2, h3, h4⟩ := hW.out
  exact (wUnary_calls p sv l n w h2 hs).mono fun e w' ⟨he, hw⟩ => ⟨he, WS.wrote h1 h3 h4 hw⟩
theorem wsLen (hW : Hid (WS w0 w p l)) :
    Calls Tryd.prog 16 #[.pointer (some ⟨p, 0, none⟩)] w fun e w' => e = .returned (.int .i64 l.length) ∧ w = w' := by
  obtain ⟨h1, sv, h2, h3, h4⟩ := hW.out
  exact wLen_calls p sv l w h2
theorem wsBytes (hW : Hid (WS w0 w p l)) :
    Calls Tryd.prog 18 #[.pointer (some ⟨p, 0, none⟩)] w fun e w' => ∃ v, e = .returned v ∧ Row w' .u8 5 v (pack l) ∧ (∀ b, b ∈ fp v → w.heap.size ≤ b) ∧ Keeps [] w w' := by
  obtain ⟨h1, sv, h2, h3, h4⟩ := hW.out
  exact wBytes_calls p sv l w h2
theorem wsNew (w0 w : World) (hk : Hid (Keeps [] w0 w)) :
    Calls Tryd.prog 11 #[] w fun e w' => ∃ p, e = .returned (.pointer (some ⟨p, 0, none⟩)) ∧ WS w0 w' p [] ∧ Keeps [] w w' ∧ w.heap.size ≤ p := by
  refine (newWriter_calls w).mono ?_
  rintro e w' ⟨rfl, h1, h2⟩
  exact ⟨_, rfl, ⟨hk.out.new h2, _, h1, hk.out.size, fun b hb => by cases hb⟩, h2, Nat.le_refl _⟩
end

/-- Since w0 old memory stands as it did; the Reader at q, made since, is at bit t of bytes. -/
def RS (w0 w : World) (q : Nat) (bs : List Int) (t : Nat) : Prop := Keeps [] w0 w ∧ ∃ sv, IsR w q sv bs t ∧ w0.heap.size ≤ q
theorem RS.new {w0 w w' : World} {q : Nat} {bs : List Int} {t : Nat} (h : RS w0 w q bs t) (hk : Keeps [] w w') : RS w0 w' q bs t := by
  obtain ⟨h1, sv, h2, h3⟩ := h
  exact ⟨h1.new hk, sv, h2.new hk, h3⟩
theorem RS.read {w0 w w' : World} {q : Nat} {bs : List Int} {t' : Nat} {sv : Value} (hk : Keeps [] w0 w) (hq : w0.heap.size ≤ q) (h : IsR w' q sv bs t') (hk' : Keeps [q] w w') : RS w0 w' q bs t' :=
  ⟨hk.then_ hk' (fun b hb hlt => by rw [List.mem_singleton] at hb; omega), sv, h, hq⟩
section
variable {w0 w : World} {q : Nat} {bs : List Int} {t : Nat}
theorem RS.keeps (h : RS w0 w q bs t) : Keeps [] w0 w := h.1
theorem RS.bounds (h : RS w0 w q bs t) : t ≤ 8 * bs.length ∧ bs.length ≤ 1000000000000 := by
  obtain ⟨h1, sv, h2, h3⟩ := h
  exact ⟨h2.at_le, h2.small⟩
theorem rsGet (k : Int) (hR : Hid (RS w0 w q bs t)) :
    Calls Tryd.prog 105 #[.pointer (some ⟨q, 0, none⟩), .int .i64 k] w fun e w' => e = .returned (.tuple #[.int .i64 (gtN k (restB bs t)), .int .i64 (gtE k (restB bs t))]) ∧ RS w0 w' q bs (t + gtT k (restB bs t)) ∧ Keeps [q] w w' := by
  obtain ⟨h1, sv, h2, h3⟩ := hR.out
  exact (rGet_calls q sv bs t k w h2).mono fun e w' ⟨he, hr, hk⟩ => ⟨he, RS.read h1 h3 hr hk, hk⟩
theorem rsGetSigned (k : Int) (hR : Hid (RS w0 w q bs t)) :
    Calls Tryd.prog 108 #[.pointer (some ⟨q, 0, none⟩), .int .i64 k] w fun e w' => e = .returned (.tuple #[.int .i64 (gsN k (restB bs t)), .int .i64 (gtE k (restB bs t))]) ∧ RS w0 w' q bs (t + gtT k (restB bs t)) ∧ Keeps [q] w w' := by
  obtain ⟨h1, sv, h2, h3⟩ := hR.out
  exact (rGetSigned_calls q sv bs t k w h2).mono fun e w' ⟨he, hr, hk⟩ => ⟨he, RS.read h1 h3 hr hk, hk⟩
theorem rsUnary (hR : Hid (RS w0 w q bs t)) :
    Calls Tryd.prog 75 #[.pointer (some ⟨q, 0, none⟩)] w fun e w' => e = .returned (.tuple #[.int .i64 (unRN (restB bs t)), .int .i64 (unRE (restB bs t))]) ∧ RS w0 w' q bs (t + unRT (restB bs t)) ∧ Keeps [q] w w' := by
  obtain ⟨h1, sv, h2, h3⟩ := hR.out
  exact (rUnary_calls q sv bs t w h2).mono fun e w' ⟨he, hr, hk⟩ => ⟨he, RS.read h1 h3 hr hk, hk⟩
theorem rsLeft (hR : Hid (RS w0 w q bs t)) :
    Calls Tryd.prog 118 #[.pointer (some ⟨q, 0, none⟩)] w fun e w' => e = .returned (.int .i64 ((8 * bs.length - t : Nat) : Int)) ∧ RS w0 w' q bs t ∧ Keeps [] w w' := by
  obtain ⟨h1, sv, h2, h3⟩ := hR.out
  exact (rLeft_calls q sv bs t w h2).mono fun e w' ⟨he, hk⟩ => ⟨he, hR.out.new hk, hk⟩
theorem rsAt (hR : Hid (RS w0 w q bs t)) :
    Calls Tryd.prog 25 #[.pointer (some ⟨q, 0, none⟩)] w fun e w' => e = .returned (.int .i64 t) ∧ w = w' := by
  obtain ⟨h1, sv, h2, h3⟩ := hR.out
  exact rAt_calls q sv bs t w h2
theorem rsNew (w0 w : World) (bs : List Int) (n : Nat) (hn : n = bs.length) (a : Option Addr) (c : Nat) (hk : Hid (Keeps [] w0 w)) (hnc : a = none → c = 0) (hl : bs.length ≤ 1000000000000) (hr : ∀ x ∈ bs, 0 ≤ x ∧ x ≤ 255) (hx : Hid (Rd w .u8 a bs)) :
    Calls Tryd.prog 20 #[.slice a n c] w fun e w' => ∃ q, e = .returned (.pointer (some ⟨q, 0, none⟩)) ∧ RS w0 w' q bs 0 ∧ Keeps [] w w' ∧ w.heap.size ≤ q := by
  refine (newReader_calls bs n hn a c w hnc hl hr hx).mono ?_
  rintro e w' ⟨q, sv, rfl, h1, h2, h3, h4⟩
  exact ⟨q, rfl, ⟨hk.out.new h4, sv, h1, Nat.le_trans hk.out.size h3⟩, h4, h3⟩
end

theorem hid5 : Hid (-9223372036854775808 ≤ (5 : Int) ∧ (5 : Int) ≤ 9223372036854775807) := (show _ ∧ _ from by omega)
theorem hidm1 : Hid (-9223372036854775808 ≤ (-1 : Int) ∧ (-1 : Int) ≤ 9223372036854775807) := (show _ ∧ _ from by omega)
/-- The bits that known's Writer holds. -/
def knW : List Bool := [true, false, true, true, true, false, false, true]
theorem knPut : putE 5 3 = 0 ∧ putB 5 3 = [true, false, true] := by decide
theorem knPs : psE (-1) 2 = 0 ∧ psB (-1) 2 = [true, true] := by decide +kernel
theorem knUn : unE 2 = 0 ∧ unB 2 = [false, false, true] := by decide
theorem knPack : pack knW = [185] := by rw [pack8 (by rfl)]; rfl
theorem knR1 : gtE 3 (restB [185] 0) = 0 ∧ gtN 3 (restB [185] 0) = 5 ∧ gtT 3 (restB [185] 0) = 3 := by decide
theorem knR2 : gtE 2 (restB [185] 3) = 0 ∧ gsN 2 (restB [185] 3) = -1 ∧ gtT 2 (restB [185] 3) = 2 := by decide
theorem knR3 : unRE (restB [185] 5) = 0 ∧ unRN (restB [185] 5) = 2 ∧ unRT (restB [185] 5) = 3 := by decide

theorem pow_le33 (k : Nat) (hk : k ≤ 33) : (2 : Int) ^ k ≤ 8589934592 ∧ (0 : Int) < 2 ^ k := by
  have h : (2 : Nat) ^ k ≤ 2 ^ 33 := Nat.pow_le_pow_right (by omega) hk
  have h2 : ((2 ^ k : Nat) : Int) ≤ ((2 ^ 33 : Nat) : Int) := by exact_mod_cast h
  rw [Int.natCast_pow] at h2
  exact ⟨by simpa using h2, Int.pow_pos (by omega)⟩

set_option maxHeartbeats 1000000 in
theorem refSigned_calls (n : Int) (k : Nat) (w : World) (hk : k ≤ 33) :
    Calls Tryd.prog 33 #[.int .i64 n, .int .i64 k] w fun e w' => e = .returned (.bool (sgnB n k)) ∧ w = w' := by
  cases k with
  | zero =>
    have e : sgnB n ((0 : Nat) : Int) = (n == 0) := by unfold sgnB; rw [if_pos (by simp)]; rfl
    rw [e]
    clear e
    go_enter Tryd.func33, Tryd.ntmps33
    go_wp2
    go_ret
    exact ⟨rfl, rfl⟩
  | succ j =>
    have e : sgnB n ((j + 1 : Nat) : Int) = (decide (-(2 ^ j) ≤ n) && decide (n < 2 ^ j)) := by
      unfold sgnB
      rw [if_neg (by omega)]
      simp
    rw [e]
    clear e
    obtain ⟨p0, p1⟩ := pow_le33 j (by omega)
    have hw : wrap64 (2 ^ j) = 2 ^ j := by unfold wrap64; omega
    have hne : ((j : Int) + 1 == 0) = false := beq_eq_false_iff_ne.2 (by omega)
    have hnw : wrap64 (-2 ^ j) = -2 ^ j := by unfold wrap64; omega
    by_cases h1 : -2 ^ j ≤ n
    · by_cases h2 : n < 2 ^ j
      · rw [decide_eq_true h1, decide_eq_true h2]
        go_enter Tryd.func33, Tryd.ntmps33
        go_wp2
        go_ret
        exact ⟨rfl, rfl⟩
      · rw [decide_eq_true h1, decide_eq_false h2]
        go_enter Tryd.func33, Tryd.ntmps33
        go_wp2
        go_ret
        exact ⟨rfl, rfl⟩
    · rw [decide_eq_false h1]
      go_enter Tryd.func33, Tryd.ntmps33
      go_wp2
      go_ret
      exact ⟨rfl, rfl⟩
end Go.Proofs.YtofkiimaoahfjaaDoor
