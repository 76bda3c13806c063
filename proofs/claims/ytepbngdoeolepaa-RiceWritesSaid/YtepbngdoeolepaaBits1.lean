/-
  Package bits (layer 3): a Writer: a bit more.
-/
import Derived.Test.YtepbngdoeolepaaBits0
import Derived.Test.YtepbngdoeolepaaApp
import Derived.Test.YtepbngdoeolepaaBitOps
import Derived.Test.YtepbngdoeolepaaProg
import Derived.WalkSpells
import Derived.WalkLawsBesides
import Derived.Laws.Rows
set_option linter.unusedVariables false
set_option linter.unusedSimpArgs false
namespace Go.Proofs.Ytepbngdoeolepaa
open Go.RowKit Go.Proofs.Ytepbngdoeolepaa.Pure

theorem b_info_u8 : (Try.prog.info? 5).map (fun i => (i.zero, i.size, i.bytes)) = some (some (.int .u8 0), 1, 1) := by kernel_rfl

theorem b_blk_set {w : World} {g : Nat} {t : TypeId} {cs : Array Value} (h : w.heap[g]? = some (.cells cs t (0, 0))) (i : Nat) (u : Value) : (w.setCell ⟨g, i, none⟩ u).heap[g]? = some (.cells (cs.setIfInBounds i u) t (0, 0)) := by
  simp [World.setCell, Array.getElem?_modify, h]

/-- A block of two cells. -/
structure Duo (w : World) (g : Nat) (T : TypeId) (u v : Value) : Prop where
  hp : w.heap[g]? = some (.cells #[u, v] T (0, 0))
namespace Duo
variable {w w' : World} {g : Nat} {T : TypeId} {u v : Value}
theorem set0 (h : Duo w g T u v) (u' : Value) : Duo (w.setCell ⟨g, 0, none⟩ u') g T u' v := ⟨b_blk_set h.hp 0 u'⟩
theorem set1 (h : Duo w g T u v) (v' : Value) : Duo (w.setCell ⟨g, 1, none⟩ v') g T u v' := ⟨b_blk_set h.hp 1 v'⟩
theorem keeps {F : List Nat} (h : Duo w g T u v) (hk : Keeps F w w') (hg : g ∉ F) : Duo w' g T u v := ⟨(hk.block g (Array.getElem?_eq_some_iff.1 h.hp).1 hg).trans h.hp⟩
theorem c0 (h : Duo w g T u v) : w.cell? ⟨g, 0, none⟩ = some u := by unfold World.cell?; rw [h.hp]; rfl
theorem c1 (h : Duo w g T u v) : w.cell? ⟨g, 1, none⟩ = some v := by unfold World.cell?; rw [h.hp]; rfl
theorem frozen (h : Duo w g T u v) (j : Nat) : w.frozen? ⟨g, j, none⟩ = false := frozen_of_row w g j #[u, v] T h.hp
theorem lt (h : Duo w g T u v) : g < w.heap.size := (Array.getElem?_eq_some_iff.1 h.hp).1
end Duo

/-- A Writer at p that holds these bits: its bytes are the row sv. -/
structure IsW (w : World) (p : Nat) (sv : Value) (l : List Bool) : Prop where
  duo : Duo w p 62 sv (.int .i64 l.length)
  row : Row w .u8 5 sv (pack l)
  far : ∀ b, b ∈ fp sv → b ≠ p
  small : l.length ≤ 1000000000000

theorem IsW.keeps {w w' : World} {p : Nat} {sv : Value} {l : List Bool} {F : List Nat} (h : IsW w p sv l) (hk : Keeps F w w') (hp : p ∉ F) (hs : ∀ b, b ∈ fp sv → b ∉ F) : IsW w' p sv l :=
  ⟨h.duo.keeps hk hp, h.row.keeps hk hs, h.far, h.small⟩
theorem IsW.new {w w' : World} {p : Nat} {sv : Value} {l : List Bool} (h : IsW w p sv l) (hk : Keeps [] w w') : IsW w' p sv l := h.keeps hk (by simp) (fun _ _ => by simp)

/-- What a call on a Writer leaves: the bits l, of the old memory only the Writer's own has turned. -/
def Wrote (w w' : World) (p : Nat) (sv : Value) (l : List Bool) : Prop := ∃ sv', IsW w' p sv' l ∧ Keeps (p :: fp sv) w w' ∧ (∀ b, b ∈ fp sv' → b ∈ fp sv ∨ w.heap.size ≤ b)
theorem Wrote.refl {w : World} {p : Nat} {sv : Value} {l : List Bool} (h : IsW w p sv l) : Wrote w w p sv l := ⟨sv, h, Keeps.refl _ _, fun b hb => .inl hb⟩
theorem Wrote.of_new {w w' : World} {p : Nat} {sv : Value} {l : List Bool} (h : IsW w p sv l) (hk : Keeps [] w w') : Wrote w w' p sv l := ⟨sv, h.new hk, (Keeps.refl _ _).new hk, fun b hb => .inl hb⟩
theorem Wrote.then_ {w w1 w2 : World} {p : Nat} {sv sv1 : Value} {l : List Bool} (hk : Keeps (p :: fp sv) w w1) (hf : ∀ b, b ∈ fp sv1 → b ∈ fp sv ∨ w.heap.size ≤ b) (h : Wrote w1 w2 p sv1 l) : Wrote w w2 p sv l := by
  obtain ⟨sv', h1, h2, h3⟩ := h
  refine ⟨sv', h1, hk.then_ h2 (fun b hb hlt => ?_), fun b hb => ?_⟩
  · rcases List.mem_cons.1 hb with rfl | hb
    · exact List.mem_cons_self
    · rcases hf b hb with h | h
      · exact List.mem_cons_of_mem _ h
      · omega
  · rcases h3 b hb with h | h
    · exact hf b h
    · exact .inr (Nat.le_trans hk.size h)

/-- What the bit's step computes. -/
theorem bit_or (l : List Bool) (x : Bool) : bits .or .u8 (lastY l) (((if x then 1 else 0) * 2 ^ (7 - l.length % 8) : Nat) : Int) = lastY l + (((if x then 1 else 0) * 2 ^ (7 - l.length % 8) : Nat) : Int) := by
  obtain ⟨h0, h1, h2⟩ := lastY_range l
  have h3 : 2 ^ (7 - l.length % 8) < 2 ^ (8 - l.length % 8) := Nat.pow_lt_pow_right (by omega) (by omega)
  refine u8_or_join (8 - l.length % 8) _ _ h0 h2 (by omega) (by omega) ?_ (by omega)
  have h4 : ((if x then 1 else 0) * 2 ^ (7 - l.length % 8) : Nat) < 2 ^ (8 - l.length % 8) := by
    cases x
    · simp; exact Nat.pow_pos (by omega)
    · simpa using h3
  exact_mod_cast h4

set_option maxHeartbeats 4000000 in
theorem bit_calls (p : Nat) (sv : Value) (l : List Bool) (x : Int) (xb : Bool) (hxb : x = if xb then 1 else 0) (w : World) (hW : Hid (IsW w p sv l)) (hs : l.length ≤ 900000000000) :
    Calls Try.prog 58 #[.pointer (some ⟨p, 0, none⟩), .int .i64 x] w fun e w' => e = .returned (.tuple #[]) ∧ Wrote w w' p sv (l ++ [xb]) := by
  have HXB := Lib.hid hxb
  clear hxb
  have hc0 := hW.out.duo.c0
  have hc1 := hW.out.duo.c1
  have hf0 := hW.out.duo.frozen 0
  have hf1 := hW.out.duo.frozen 1
  by_cases h8 : l.length % 8 = 0
  all_goals
    first
    | (
     have hz : ((l.length : Int) % 8 == 0) = true := by simp; omega
     obtain ⟨a0, c0, rfl, -⟩ := hW.out.row.rd
     have HLB : Hid (((pack l).length + 1) * 1 ≤ 140737488355328) := by show _ ≤ _; rw [pack_length]; omega
     have HPR : Hid (packR l = pack l ++ [0]) := by show _ = _; unfold packR; rw [if_pos h8]
     go_enter Try.func58, Try.ntmps58
     go_upto_region 2 with (first
       | (at_builtin; go_must (refine wp_app1 (W := w) rfl (.tmp 14) (.tmp 15) 40 5 .u8 1 rfl Try.underlying40 b_info_u8 (by decide) (.slice a0 (pack l).length c0) (pack l) 0 rfl rfl hW.out.row HLB.out ?_); intro v1 w1 hr1 hk1 hf1'; obtain ⟨a1, c1, rfl, -⟩ := hr1.rd; have HD1 := Lib.hid (hW.out.duo.keeps hk1 (fun h => hW.out.far _ h rfl)); have hd0 := HD1.out.c0; have hd1 := HD1.out.c1; have hdf0 := HD1.out.frozen 0; have hdf1 := HD1.out.frozen 1))
     have hN : (pack l).length + 1 = (packR l).length := by rw [HPR.out]; simp
     have HK1 : Hid (Keeps (p :: fp (.slice a0 (pack l).length c0)) w w1) := Keeps.mono hk1 (fun k h _ => List.mem_cons_of_mem _ h)
     have HF1 : Hid (∀ b, b ∈ fp (.slice a1 (pack l ++ [0]).length c1) → (b ∈ fp (.slice a0 (pack l).length c0) ∨ w.heap.size ≤ b) ∧ b ≠ p) := fun b hb => by
       refine ⟨hf1' b hb, ?_⟩
       rcases hf1' b hb with h | h
       · exact hW.out.far b h
       · have := hW.out.duo.lt; omega
     have hs : Keeps [p] w1 (w1.setCell ⟨p, 0, none⟩ (.slice a1 ((pack l).length + 1) c1)) := (Keeps.refl _ _).setCell (.inl (by simp)) _
     have HDW : Hid (Duo (w1.setCell ⟨p, 0, none⟩ (.slice a1 ((pack l).length + 1) c1)) p 62 (.slice a1 ((pack l).length + 1) c1) (.int .i64 l.length)) := HD1.out.set0 _
     have HRW : Hid (Row (w1.setCell ⟨p, 0, none⟩ (.slice a1 ((pack l).length + 1) c1)) .u8 5 (.slice a1 ((pack l).length + 1) c1) (packR l)) := by
       show Row _ _ _ _ _
       have := hr1.keeps hs (fun b hb h => (HF1.out b hb).2 (by simpa using h))
       rw [HPR.out]
       simpa using this
     have HKW : Hid (Keeps (p :: fp (.slice a0 (pack l).length c0)) w (w1.setCell ⟨p, 0, none⟩ (.slice a1 ((pack l).length + 1) c1))) := HK1.out.trans (hs.mono (fun k h _ => by rw [List.mem_singleton] at h; subst h; exact List.mem_cons_self)) 
     have HFW : Hid (∀ b, b ∈ fp (.slice a1 ((pack l).length + 1) c1) → (b ∈ fp (.slice a0 (pack l).length c0) ∨ w.heap.size ≤ b) ∧ b ≠ p) := by
       intro b hb
       exact HF1.out b (by simpa using hb)
     rw [hN] at HDW HRW HKW HFW ⊢
     generalize w1.setCell ⟨p, 0, none⟩ (.slice a1 (packR l).length c1) = W at *
     clear h8 hs HF1 HK1 HD1 hd0 hd1 hdf0 hdf1 hr1 hk1 hf1' hN HLB HPR hz hc0 hc1 hf0 hf1)
    | (
     have hz : ((l.length : Int) % 8 == 0) = false := by simp; omega
     have HPR : Hid (packR l = pack l) := by show _ = _; unfold packR; rw [if_neg h8]
     obtain ⟨a1, c1, rfl, -⟩ := hW.out.row.rd
     go_enter Try.func58, Try.ntmps58
     go_upto_region 2 with fail
     obtain ⟨W, hWw⟩ : ∃ W, W = w := ⟨_, rfl⟩
     have HDW : Hid (Duo W p 62 (.slice a1 (packR l).length c1) (.int .i64 l.length)) := by show Duo _ _ _ _ _; rw [hWw, HPR.out]; exact hW.out.duo
     have HRW : Hid (Row W .u8 5 (.slice a1 (packR l).length c1) (packR l)) := by show Row _ _ _ _ _; rw [hWw, HPR.out]; exact hW.out.row
     have HKW : Hid (Keeps (p :: fp (.slice a1 (pack l).length c1)) w W) := by show Keeps _ _ _; rw [hWw]; exact Keeps.refl _ _
     have HFW : Hid (∀ b, b ∈ fp (.slice a1 (packR l).length c1) → (b ∈ fp (.slice a1 (pack l).length c1) ∨ w.heap.size ≤ b) ∧ b ≠ p) := by
       intro b hb
       rw [HPR.out] at hb
       exact ⟨.inl hb, hW.out.far b hb⟩
     rw [← hWw]
     clear h8 HPR hz hc0 hc1 hf0 hf1 hWw)
  all_goals
    have hrf := HRW.out.form (by rw [packR_len]; omega)
    obtain ⟨gr, cr, hav⟩ := hrf
    cases hav
    have HPL := Lib.hid (packR_len l)
    have hcell := HRW.out.cell (l.length / 8) (by rw [HPL.out]; omega)
    rw [packR_get] at hcell
    have hfro := HRW.out.frozen (l.length / 8)
    have hb0 := HDW.out.c0
    have hb1 := HDW.out.c1
    have hwd0 : W.drew.cell? ⟨p, 0, none⟩ = some (.slice (some ⟨gr, 0, none⟩) (packR l).length c1) := hb0
    have hwd1 : W.drew.cell? ⟨p, 1, none⟩ = some (.int .i64 l.length) := hb1
    have hwd2 : W.drew.cell? ⟨gr, l.length / 8, none⟩ = some (.int .u8 (lastY l)) := hcell
    have hwd3 : W.drew.frozen? ⟨gr, l.length / 8, none⟩ = false := hfro
    have hq0 : (0 : Int) ≤ (l.length : Int) / 8 := by omega
    have hq1 : (l.length : Int) / 8 < ((packR l).length : Int) := by rw [HPL.out]; omega
    have hqw : IntKind.i64.wrap ((l.length : Int) / 8) = (l.length : Int) / 8 := IntWalk.i64_in _ (by omega)
    have hqn : ((l.length : Int) / 8).toNat = l.length / 8 := by omega
    have hr7 : IntKind.i64.wrap (7 - (l.length : Int).tmod 8) = ((7 - l.length % 8 : Nat) : Int) := by
      rw [Int.tmod_eq_emod_of_nonneg (by omega)]
      rw [IntWalk.i64_in _ (by omega)]
      omega
    go_still_tail 22, (by kernel_rfl)
    change wpList _ _ _ _ _ W.drew
    have HVAL : Hid (bits .or .u8 (lastY l) (IntKind.u8.wrap (IntKind.i64.wrap (x * 2 ^ (7 - l.length % 8)))) = lastY l + (((if xb then 1 else 0) * 2 ^ (7 - l.length % 8) : Nat) : Int)) := by
      show _ = _
      have h1 : 2 ^ (7 - l.length % 8) ≤ 2 ^ 7 := Nat.pow_le_pow_right (by omega) (by omega)
      have h2 : x * 2 ^ (7 - l.length % 8) = (((if xb then 1 else 0) * 2 ^ (7 - l.length % 8) : Nat) : Int) := by
        rw [HXB.out]
        cases xb <;> simp
      have h3 : (((if xb then 1 else 0) * 2 ^ (7 - l.length % 8) : Nat)) ≤ 128 := by cases xb <;> simp <;> omega
      rw [h2, IntWalk.i64_in _ (by omega), IntWalk.u8_in _ (by omega)]
      exact bit_or l xb
    rw [HVAL.out]
    obtain ⟨Y, hY⟩ : ∃ Y, lastY l + (((if xb then 1 else 0) * 2 ^ (7 - l.length % 8) : Nat) : Int) = Y := ⟨_, rfl⟩
    have HSNOC : Hid ((packR l).set (l.length / 8) Y = pack (l ++ [xb])) := by show _ = _; rw [← hY]; exact pack_snoc l xb
    rw [hY]
    clear hY HVAL
    have HDW7 : Hid (Duo W.drew p 62 (.slice (some ⟨gr, 0, none⟩) (packR l).length c1) (.int .i64 l.length)) := HDW.out.keeps ((Keeps.refl [] _).drew) (by simp)
    have HRW7 : Hid (Row W.drew .u8 5 (.slice (some ⟨gr, 0, none⟩) (packR l).length c1) (packR l)) := HRW.out.keeps ((Keeps.refl [] _).drew) (fun _ _ => by simp)
    have HKW7 := Lib.hid HKW.out.drew
    generalize W.drew = W7 at *
    clear HDW HRW HKW hcell hfro hb0 hb1 hwd0 hwd1 hq0 hq1 hqw hqn hr7
    have hgp := (HFW.out gr (by rw [fp_some]; simp)).2
    have HRN : Hid (Row (W7.setCell ⟨gr, l.length / 8, none⟩ (.int .u8 Y)) .u8 5 (.slice (some ⟨gr, 0, none⟩) (packR l).length c1) (pack (l ++ [xb]))) := by
      show Row _ _ _ _ _
      rw [← HSNOC.out]
      exact HRW7.out.set (l.length / 8) Y
    have HDN := Lib.hid (HDW7.out.keeps ((Keeps.refl [gr] W7).setCell (a := ⟨gr, l.length / 8, none⟩) (.inl (by simp)) (.int .u8 Y)) (by simp; omega))
    have hdn1 := HDN.out.c1
    have hdf1 := HDN.out.frozen 1
    go_wp2_with fail
    go_end0
    refine ⟨rfl, .slice (some ⟨gr, 0, none⟩) (packR l).length c1, ⟨?_, ?_, ?_, ?_⟩, ?_, ?_⟩
    · have := HDN.out.set1 (.int .i64 ((l.length : Int) + 1))
      rw [List.length_append]
      exact this
    · exact HRN.out.keeps ((Keeps.refl [p] _).setCell (.inl (by simp)) _) (fun b hb h => (HFW.out b hb).2 (by simpa using h))
    · exact fun b hb => (HFW.out b hb).2
    · simp; omega
    · rcases (HFW.out gr (by rw [fp_some]; simp)).1 with h | h
      · exact (HKW7.out.setCell (a := ⟨gr, l.length / 8, none⟩) (.inl (List.mem_cons_of_mem _ h)) (.int .u8 Y)).setCell (a := ⟨p, 1, none⟩) (.inl List.mem_cons_self) _
      · exact (HKW7.out.setCell (a := ⟨gr, l.length / 8, none⟩) (.inr h) (.int .u8 Y)).setCell (a := ⟨p, 1, none⟩) (.inl List.mem_cons_self) _
    · exact fun b hb => (HFW.out b hb).1
end Go.Proofs.Ytepbngdoeolepaa
