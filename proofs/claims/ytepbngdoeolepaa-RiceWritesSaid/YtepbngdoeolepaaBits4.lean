/-
  Package bits (layer 3): a Reader.
-/
import Derived.Test.YtepbngdoeolepaaBits3
set_option linter.unusedVariables false
set_option linter.unusedSimpArgs false
namespace Go.Proofs.Ytepbngdoeolepaa
open Go.RowKit Go.Proofs.Ytepbngdoeolepaa.Pure

/-- A Reader at q: its bytes, and how many bits were read. -/
structure IsR (w : World) (q : Nat) (sv : Value) (bs : List Int) (at_ : Nat) : Prop where
  duo : Duo w q 80 sv (.int .i64 at_)
  row : Row w .u8 5 sv bs
  far : ∀ b, b ∈ fp sv → b ≠ q
  rng : ∀ x ∈ bs, 0 ≤ x ∧ x ≤ 255
  small : bs.length ≤ 1000000000000
  at_le : at_ ≤ 8 * bs.length

theorem IsR.keeps {w w' : World} {q : Nat} {sv : Value} {bs : List Int} {t : Nat} {F : List Nat} (h : IsR w q sv bs t) (hk : Keeps F w w') (hp : q ∉ F) (hs : ∀ b, b ∈ fp sv → b ∉ F) : IsR w' q sv bs t :=
  ⟨h.duo.keeps hk hp, h.row.keeps hk hs, h.far, h.rng, h.small, h.at_le⟩
theorem IsR.new {w w' : World} {q : Nat} {sv : Value} {bs : List Int} {t : Nat} (h : IsR w q sv bs t) (hk : Keeps [] w w') : IsR w' q sv bs t := h.keeps hk (by simp) (fun _ _ => by simp)
theorem IsR.move {w : World} {q : Nat} {sv : Value} {bs : List Int} {t : Nat} (h : IsR w q sv bs t) (u : Nat) (hu : u ≤ 8 * bs.length) : IsR (w.setCell ⟨q, 1, none⟩ (.int .i64 u)) q sv bs u :=
  ⟨h.duo.set1 _, h.row.keeps ((Keeps.refl [q] w).setCell (a := ⟨q, 1, none⟩) (.inl (by simp)) _) (fun b hb hm => h.far b hb (by simpa using hm)), h.far, h.rng, h.small, hu⟩

/-- The bits of bytes, one by one. -/
theorem unpack_get (bs : List Int) (hr : ∀ x ∈ bs, 0 ≤ x ∧ x ≤ 255) : ∀ (i : Nat) (h : i < 8 * bs.length), (unpack bs)[i]'(by rw [unpack_length]; exact h) = ((bs[i / 8]'(by omega)).toNat / 2 ^ (7 - i % 8) % 2 == 1) := by
  induction bs with
  | nil => intro i h; simp at h
  | cons x bs ih =>
    intro i h
    have hx := hr x (by simp)
    by_cases h8 : i < 8
    · have h0 : i / 8 = 0 := by omega
      simp only [unpack_cons, h0, List.getElem_cons_zero]
      rw [List.getElem_append_left (by rw [bitsN_length]; exact h8)]
      have hm : i % 8 = i := by omega
      rw [hm]
      have hg : ∀ (i : Nat) (h : i < 8), (bitsN 8 x.toNat)[i]'(by rw [bitsN_length]; exact h) = (x.toNat / 2 ^ (7 - i) % 2 == 1) := by
        intro i h
        have h' : i = 0 ∨ i = 1 ∨ i = 2 ∨ i = 3 ∨ i = 4 ∨ i = 5 ∨ i = 6 ∨ i = 7 := by omega
        rcases h' with rfl | rfl | rfl | rfl | rfl | rfl | rfl | rfl <;> simp [bitsN, Nat.div_div_eq_div_mul]
      exact hg i h8
    · have hl : i - 8 < 8 * bs.length := by simp at h; omega
      simp only [unpack_cons]
      rw [List.getElem_append_right (by rw [bitsN_length]; omega)]
      have e := ih (fun y hy => hr y (List.mem_cons_of_mem _ hy)) (i - 8) hl
      simp only [bitsN_length]
      rw [e]
      have h1 : (i - 8) / 8 + 1 = i / 8 := by omega
      have h2 : (i - 8) % 8 = i % 8 := by omega
      rw [h2]
      congr 4
      have : ∀ (j k : Nat) (hj : j + 1 = k) (h1 : j < bs.length) (h2 : k < (x :: bs).length), bs[j] = (x :: bs)[k] := by
        intro j k hj h1 h2
        subst hj
        rfl
      exact this _ _ h1 _ _

/-- A bit as a number. -/
def b2i (b : Bool) : Int := if b then 1 else 0

set_option maxHeartbeats 2000000 in
theorem rbit_calls (q : Nat) (sv : Value) (bs : List Int) (t i : Nat) (w : World) (hR : Hid (IsR w q sv bs t)) (hi : i < 8 * bs.length) :
    Calls Try.prog 54 #[.pointer (some ⟨q, 0, none⟩), .int .i64 i] w fun e w' => e = .returned (.int .i64 (b2i ((unpack bs)[i]'(by rw [unpack_length]; exact hi)))) ∧ w = w' := by
  have hc0 := hR.out.duo.c0
  have hsm := hR.out.small
  obtain ⟨gr, cr, rfl⟩ := hR.out.row.form (by omega)
  have hcell := hR.out.row.cell (i / 8) (by omega)
  have HU := Lib.hid (unpack_get bs hR.out.rng i hi)
  obtain ⟨x, hx⟩ : ∃ x, bs[i / 8]'(by omega) = x := ⟨_, rfl⟩
  have hxr := hR.out.rng x (hx ▸ List.getElem_mem _)
  rw [hx] at hcell HU
  rw [HU.out]
  obtain ⟨X, rfl⟩ : ∃ X : Nat, x = X := ⟨x.toNat, by omega⟩
  simp only [Int.toNat_natCast] at *
  have hX : X ≤ 255 := by omega
  have hq0 : (0 : Int) ≤ (i : Int) / 8 := by omega
  have hq1 : (i : Int) / 8 < (bs.length : Int) := by omega
  have hqn : ((i : Int) / 8).toNat = i / 8 := by omega
  clear HU hx hxr
  have HV : Hid (bits BinOp.and IntKind.i64 (wrap64 ((X : Int) / 2 ^ (7 - i % 8))) 1 = b2i (X / 2 ^ (7 - i % 8) % 2 == 1)) := by
    show _ = _
    rw [and1]
    have h1 : ((X : Int) / 2 ^ (7 - i % 8)) = ((X / 2 ^ (7 - i % 8) : Nat) : Int) := by rw [Int.natCast_ediv, Int.natCast_pow]; rfl
    have h2 : X / 2 ^ (7 - i % 8) ≤ X := Nat.div_le_self _ _
    rw [h1]
    generalize X / 2 ^ (7 - i % 8) = M at *
    unfold wrap64 b2i
    rcases Nat.mod_two_eq_zero_or_one M with h | h
    · simp [h]; omega
    · simp [h]; omega
  go_enter Try.func54, Try.ntmps54
  go_wp2
  go_ret
  refine ⟨?_, rfl⟩
  rw [← HV.out]
  rfl

/-- What is left to be read. -/
def restB (bs : List Int) (t : Nat) : List Bool := (unpack bs).drop t
theorem restB_length (bs : List Int) (t : Nat) : (restB bs t).length = 8 * bs.length - t := by unfold restB; rw [List.length_drop, unpack_length]

theorem restB_get (bs : List Int) (t i : Nat) (h : i < (restB bs t).length) (h' : t + i < (unpack bs).length) : (restB bs t)[i] = (unpack bs)[t + i] := by
  simp only [restB, List.getElem_drop]

theorem rbit_at (q : Nat) (sv : Value) (bs : List Int) (t i : Nat) (z : Int) (hz : z = i) (w : World) (hR : Hid (IsR w q sv bs t)) (hi : i < 8 * bs.length) :
    Calls Try.prog 54 #[.pointer (some ⟨q, 0, none⟩), .int .i64 z] w fun e w' => e = .returned (.int .i64 (b2i ((unpack bs)[i]'(by rw [unpack_length]; exact hi)))) ∧ w = w' := by
  subst hz
  exact rbit_calls q sv bs t i w hR hi

theorem rLeft_calls (q : Nat) (sv : Value) (bs : List Int) (t : Nat) (w : World) (hR : Hid (IsR w q sv bs t)) :
    Calls Try.prog 53 #[.pointer (some ⟨q, 0, none⟩)] w fun e w' => e = .returned (.int .i64 ((8 * bs.length - t : Nat) : Int)) ∧ Keeps [] w w' := by
  have hc0 := hR.out.duo.c0
  have hc1 := hR.out.duo.c1
  have hsm := hR.out.small
  have hat := hR.out.at_le
  obtain ⟨a0, c0, rfl, -⟩ := hR.out.row.rd
  have hm : IntKind.i64.wrap (8 * (bs.length : Int)) = 8 * (bs.length : Int) := IntWalk.i64_in _ (by omega)
  have hs : IntKind.i64.wrap (8 * (bs.length : Int) - (t : Int)) = ((8 * bs.length - t : Nat) : Int) := by rw [IntWalk.i64_in _ (by omega)]; omega
  go_enter Try.func53, Try.ntmps53
  go_wp2
  go_quiet (fail)
  go_wp2
  go_ret
  exact ⟨rfl, (Keeps.refl _ _).drewN _⟩

theorem rAt_calls (q : Nat) (sv : Value) (bs : List Int) (t : Nat) (w : World) (hR : Hid (IsR w q sv bs t)) :
    Calls Try.prog 26 #[.pointer (some ⟨q, 0, none⟩)] w fun e w' => e = .returned (.int .i64 t) ∧ w = w' := by
  have hc1 := hR.out.duo.c1
  go_enter Try.func26, Try.ntmps26
  go_wp2
  go_ret
  exact ⟨rfl, rfl⟩

theorem nilLeft_calls (w : World) :
    Calls Try.prog 53 #[.pointer none] w fun e w' => e = .returned (.int .i64 0) ∧ w = w' := by
  go_enter Try.func53, Try.ntmps53
  go_wp2
  go_ret
  exact ⟨rfl, rfl⟩
theorem nilGet_calls (k : Int) (w : World) :
    Calls Try.prog 27 #[.pointer none, .int .i64 k] w fun e w' => e = .returned (.tuple #[.int .i64 0, .int .i64 1]) ∧ w = w' := by
  go_enter Try.func27, Try.ntmps27
  go_wp2
  go_ret2
  exact ⟨rfl, rfl⟩
set_option maxHeartbeats 1000000 in
theorem newReader_calls (bs : List Int) (n : Nat) (hn : n = bs.length) (a : Option Addr) (c : Nat) (w : World) (hnc : a = none → c = 0) (hl : bs.length ≤ 1000000000000) (hr : ∀ x ∈ bs, 0 ≤ x ∧ x ≤ 255) (hx : Hid (Rd w .u8 a bs)) :
    Calls Try.prog 22 #[.slice a n c] w fun e w' => ∃ q sv, e = .returned (.pointer (some ⟨q, 0, none⟩)) ∧ IsR w' q sv bs 0 ∧ (∀ b, b ∈ fp sv → w.heap.size ≤ b) ∧ w.heap.size ≤ q ∧ Keeps [] w w' := by
  subst hn
  go_enter Try.func22, Try.ntmps22
  go_wp2_with (first
    | (go_at_call 49; go_must (with_reducible refine (bclone_calls bs _ rfl a c _ hnc (by omega) hx).mono ?_); rintro e w1 ⟨v1, rfl, hr1, hf1, hk1⟩; obtain ⟨a1, c1, hv1, -⟩ := hr1.rd; subst hv1))
  go_ret
  refine ⟨_, _, rfl, ⟨⟨heap_alloc_new _ _⟩, hr1.keeps ((Keeps.refl [] _).alloc _) (fun _ _ => by simp), ?_, hr, hl, by omega⟩, hf1, hk1.size, hk1.alloc _⟩
  intro b hb
  have := hr1.lt b hb
  omega
end Go.Proofs.Ytepbngdoeolepaa
