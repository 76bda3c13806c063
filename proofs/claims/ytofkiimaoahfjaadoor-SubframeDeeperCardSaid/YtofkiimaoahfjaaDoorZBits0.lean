/-
  Streams of bits, plain Lean: a bit more in bytes.
  Package bits (layer 3): a Writer: a bit more.
  Package bits (layer 3): a Writer: numbers.
  Package bits (layer 3): a Writer: unary numbers, whole bytes.
-/
import Derived.Test.YtofkiimaoahfjaaDoorZPure
import Derived.Test.YtofkiimaoahfjaaDoorZApp
import Derived.Test.YtofkiimaoahfjaaDoorZBitOps
import Derived.Test.YtofkiimaoahfjaaDoorProg
import Derived.WalkSpells
import Derived.WalkLawsBesides
import Derived.Laws.Rows
set_option maxRecDepth 100000
set_option linter.unusedVariables false
set_option linter.unusedSimpArgs false
namespace Go.Proofs.YtofkiimaoahfjaaDoor.Pure

/-- The bytes, with room for one bit more. -/
def packR (l : List Bool) : List Int := if l.length % 8 = 0 then pack l ++ [0] else pack l
/-- The last byte. -/
def lastY (l : List Bool) : Int := ((val (l.drop (8 * (l.length / 8))) * 2 ^ (8 - l.length % 8) : Nat) : Int)

theorem pack_split (l : List Bool) : pack l = pack (l.take (8 * (l.length / 8))) ++ pack (l.drop (8 * (l.length / 8))) := by
  conv => lhs; rw [← List.take_append_drop (8 * (l.length / 8)) l]
  exact pack_append8 (by simp; omega) _

theorem pack_few (l : List Bool) (h : l.length ≤ 8) (h0 : 0 < l.length) : pack l = [((val l * 2 ^ (8 - l.length) : Nat) : Int)] := by
  rw [pack_ne (List.length_pos_iff.1 h0), List.take_of_length_le h, List.drop_of_length_le h, pack_nil]

theorem packR_eq (l : List Bool) : packR l = pack (l.take (8 * (l.length / 8))) ++ [lastY l] := by
  unfold packR lastY
  have hl : (l.drop (8 * (l.length / 8))).length = l.length % 8 := by simp; omega
  split
  · rename_i h
    rw [pack_split l]
    have : l.drop (8 * (l.length / 8)) = [] := List.eq_nil_of_length_eq_zero (by omega)
    rw [this, pack_nil, List.append_nil]
    simp [val]
  · rename_i h
    rw [pack_split l, pack_few (l.drop (8 * (l.length / 8))) (by omega) (by omega), hl]

theorem packHead_len (l : List Bool) : (pack (l.take (8 * (l.length / 8)))).length = l.length / 8 := by
  rw [pack_length]; simp; omega
theorem packR_len (l : List Bool) : (packR l).length = l.length / 8 + 1 := by
  rw [packR_eq, List.length_append, packHead_len]; rfl
theorem packR_get (l : List Bool) (h : l.length / 8 < (packR l).length) : (packR l)[l.length / 8] = lastY l := by
  have e := packHead_len l
  simp only [packR_eq]
  rw [List.getElem_append_right (by omega)]
  simp [e]
theorem lastY_range (l : List Bool) : 0 ≤ lastY l ∧ lastY l ≤ 255 ∧ lastY l % 2 ^ (8 - l.length % 8) = 0 := by
  unfold lastY
  have hl : (l.drop (8 * (l.length / 8))).length = l.length % 8 := by simp; omega
  have h1 := val_lt (l.drop (8 * (l.length / 8)))
  rw [hl] at h1
  have h2 : val (l.drop (8 * (l.length / 8))) * 2 ^ (8 - l.length % 8) < 2 ^ (l.length % 8) * 2 ^ (8 - l.length % 8) := Nat.mul_lt_mul_of_pos_right h1 (Nat.pow_pos (by omega))
  rw [← Nat.pow_add, show l.length % 8 + (8 - l.length % 8) = 8 by omega] at h2
  refine ⟨by omega, by omega, ?_⟩
  have : ((val (l.drop (8 * (l.length / 8))) * 2 ^ (8 - l.length % 8) : Nat) : Int) % ((2 ^ (8 - l.length % 8) : Nat) : Int) = 0 := by
    rw [← Int.natCast_emod, Nat.mul_mod_left]; rfl
  simp

theorem pack_snoc (l : List Bool) (x : Bool) : (packR l).set (l.length / 8) (lastY l + ((if x then 1 else 0) * 2 ^ (7 - l.length % 8) : Nat)) = pack (l ++ [x]) := by
  have e := packHead_len l
  have hl : (l.drop (8 * (l.length / 8))).length = l.length % 8 := by simp; omega
  rw [packR_eq, List.set_append_right _ _ (by omega), e]
  have : l ++ [x] = l.take (8 * (l.length / 8)) ++ (l.drop (8 * (l.length / 8)) ++ [x]) := by rw [← List.append_assoc, List.take_append_drop]
  rw [this, pack_append8 (by simp; omega), pack_few (l.drop (8 * (l.length / 8)) ++ [x]) (by rw [List.length_append, hl]; simp; omega) (by simp)]
  congr 1
  simp only [Nat.sub_self, List.set_cons_zero]
  congr 1
  rw [List.length_append, hl, val_snoc]
  unfold lastY
  have h7 : 8 - (l.length % 8 + [x].length) = 7 - l.length % 8 := by simp
  rw [h7, show 8 - l.length % 8 = (7 - l.length % 8) + 1 by omega, Nat.pow_succ]
  generalize 2 ^ (7 - l.length % 8) = P
  generalize val (l.drop (8 * (l.length / 8))) = V
  rw [Nat.add_mul, Nat.mul_comm P 2, ← Nat.mul_assoc, Nat.mul_comm V 2]
  exact (Int.natCast_add _ _).symm
end Go.Proofs.YtofkiimaoahfjaaDoor.Pure

set_option maxRecDepth 100000
set_option linter.unusedVariables false
set_option linter.unusedSimpArgs false
namespace Go.Proofs.YtofkiimaoahfjaaDoor
open Go.RowKit Go.Proofs.YtofkiimaoahfjaaDoor.Pure

theorem b_info_u8 : (Tryd.prog.info? 5).map (fun i => (i.zero, i.size, i.bytes)) = some (some (.int .u8 0), 1, 1) := by kernel_rfl

theorem b_blk_set {w : World} {g : Nat} {t : TypeId} {cs : Array Value} (h : w.heap[g]? = some (.cells cs t (0, 0))) (i : Nat) (u : Value) : (w.setCell ⟨g, i, none⟩ u).heap[g]? = some (.cells (cs.setIfInBounds i u) t (0, 0)) := by
  simp [World.setCell, Array.getElem?_modify, h]

/-- A block of two cells. -/
structure Duo (w : World) (g : Nat) (T : TypeId) (u v : Value) : Prop where
  hp : w.heap[g]? = some (.cells #[u, v] T (0, 0))
namespace Duo
variable {w w' : World} {g : Nat} {T : TypeId} {u v : Value}
theorem set0 (h : Duo w g T u v) (u' : Value) : Duo (w.setCell ⟨g, 0, none⟩ u') g T u' v := ⟨b_blk_set h.hp 0 u'⟩
theorem set1 (h : Duo w g T u v) (v' : Value) : Duo (w.setCell ⟨g, 1, none⟩ v') g T u v' := ⟨b_blk_set h.hp 1 v'⟩
theorem keeps {F : List Nat} (h : Duo w g T u v) (hk : Keeps F w w') (hg : g ∉ F) : Duo w' g T u v := ⟨(hk.block g (Array.getElem?_eq_some_iff.1 h.hp).1 hg).trans h.hp⟩
theorem c0 (h : Duo w g T u v) : w.cell? ⟨g, 0, none⟩ = some u := by unfold World.cell?; rw [h.hp]; rfl
theorem c1 (h : Duo w g T u v) : w.cell? ⟨g, 1, none⟩ = some v := by unfold World.cell?; rw [h.hp]; rfl
theorem frozen (h : Duo w g T u v) (j : Nat) : w.frozen? ⟨g, j, none⟩ = false := frozen_of_row w g j #[u, v] T h.hp
theorem lt (h : Duo w g T u v) : g < w.heap.size := (Array.getElem?_eq_some_iff.1 h.hp).1
end Duo

/-- A Writer at p that holds these bits: its bytes are the row sv. -/
structure IsW (w : World) (p : Nat) (sv : Value) (l : List Bool) : Prop where
  duo : Duo w p 55 sv (.int .i64 l.length)
  row : Row w .u8 5 sv (pack l)
  far : ∀ b, b ∈ fp sv → b ≠ p
  small : l.length ≤ 1000000000000

theorem IsW.keeps {w w' : World} {p : Nat} {sv : Value} {l : List Bool} {F : List Nat} (h : IsW w p sv l) (hk : Keeps F w w') (hp : p ∉ F) (hs : ∀ b, b ∈ fp sv → b ∉ F) : IsW w' p sv l :=
  ⟨h.duo.keeps hk hp, h.row.keeps hk hs, h.far, h.small⟩
theorem IsW.new {w w' : World} {p : Nat} {sv : Value} {l : List Bool} (h : IsW w p sv l) (hk : Keeps [] w w') : IsW w' p sv l := h.keeps hk (by simp) (fun _ _ => by simp)

/-- What a call on a Writer leaves: the bits l, of the old memory only the Writer's own has turned. -/
def Wrote (w w' : World) (p : Nat) (sv : Value) (l : List Bool) : Prop := ∃ sv', IsW w' p sv' l ∧ Keeps (p :: fp sv) w w' ∧ (∀ b, b ∈ fp sv' → b ∈ fp sv ∨ w.heap.size ≤ b)
theorem Wrote.refl {w : World} {p : Nat} {sv : Value} {l : List Bool} (h : IsW w p sv l) : Wrote w w p sv l := ⟨sv, h, Keeps.refl _ _, fun b hb => .inl hb⟩
theorem Wrote.of_new {w w' : World} {p : Nat} {sv : Value} {l : List Bool} (h : IsW w p sv l) (hk : Keeps [] w w') : Wrote w w' p sv l := ⟨sv, h.new hk, (Keeps.refl _ _).new hk, fun b hb => .inl hb⟩
theorem Wrote.then_ {w w1 w2 : World} {p : Nat} {sv sv1 : Value} {l : List Bool} (hk : Keeps (p :: fp sv) w w1) (hf : ∀ b, b ∈ fp sv1 → b ∈ fp sv ∨ w.heap.size ≤ b) (h : Wrote w1 w2 p sv1 l) : Wrote w w2 p sv l := by
  obtain ⟨sv', h1, h2, h3⟩ := h
  refine ⟨sv', h1, hk.then_ h2 (fun b hb hlt => ?_), fun b hb => ?_⟩
  · rcases List.mem_cons.1 hb with rfl | hb
    · exact List.mem_cons_self
    · rcases hf b hb with h | h
      · exact List.mem_cons_of_mem _ h
      · omega
  · rcases h3 b hb with h | h
    · exact hf b h
    · exact .inr (Nat.le_trans hk.size h)

/-- What the bit's step computes. -/
theorem bit_or (l : List Bool) (x : Bool) : bits .or .u8 (lastY l) (((if x then 1 else 0) * 2 ^ (7 - l.length % 8) : Nat) : Int) = lastY l + (((if x then 1 else 0) * 2 ^ (7 - l.length % 8) : Nat) : Int) := by
  obtain ⟨h0, h1, h2⟩ := lastY_range l
  have h3 : 2 ^ (7 - l.length % 8) < 2 ^ (8 - l.length % 8) := Nat.pow_lt_pow_right (by omega) (by omega)
  refine u8_or_join (8 - l.length % 8) _ _ h0 h2 (by omega) (by omega) ?_ (by omega)
  have h4 : ((if x then 1 else 0) * 2 ^ (7 - l.length % 8) : Nat) < 2 ^ (8 - l.length % 8) := by
    cases x
    · simp; exact Nat.pow_pos (by omega)
    · simpa using h3
  exact_mod_cast h4

set_option maxHeartbeats 4000000 in
theorem bit_calls (p : Nat) (sv : Value) (l : List Bool) (x : Int) (xb : Bool) (hxb : x = if xb then 1 else 0) (w : World) (hW : Hid (IsW w p sv l)) (hs : l.length ≤ 900000000000) :
    Calls Tryd.prog 49 #[.pointer (some ⟨p, 0, none⟩), .int .i64 x] w fun e w' => e = .returned (.tuple #[]) ∧ Wrote w w' p sv (l ++ [xb]) := by
  have HXB := Lib.hid hxb
  clear hxb
  have hc0 := hW.out.duo.c0
  have hc1 := hW.out.duo.c1
  have hf0 := hW.out.duo.frozen 0
  have hf1 := hW.out.duo.frozen 1
  by_cases h8 : l.length % 8 = 0
  all_goals
    first
    | (
     have hz : ((l.length : Int) % 8 == 0) = true := by simp; omega
     obtain ⟨a0, c0, rfl, -⟩ := hW.out.row.rd
     have HLB : Hid (((pack l).length + 1) * 1 ≤ 140737488355328) := by show _ ≤ _; rw [pack_length]; omega
     have HPR : Hid (packR l = pack l ++ [0]) := by show _ = _; unfold packR; rw [if_pos h8]
     go_enter Tryd.func49, Tryd.ntmps49
     go_upto_region 2 with (first
       | (at_builtin; go_must (refine wp_app1 (W := w) rfl (.tmp 14) (.tmp 15) 36 5 .u8 1 rfl Tryd.underlying36 b_info_u8 (by decide) (.slice a0 (pack l).length c0) (pack l) 0 rfl rfl hW.out.row HLB.out ?_); intro v1 w1 hr1 hk1 hf1'; obtain ⟨a1, c1, rfl, -⟩ := hr1.rd; have HD1 := Lib.hid (hW.out.duo.keeps hk1 (fun h => hW.out.far _ h rfl)); have hd0 := HD1.out.c0; have hd1 := HD1.out.c1; have hdf0 := HD1.out.frozen 0; have hdf1 := HD1.out.frozen 1))
     have hN : (pack l).length + 1 = (packR l).length := by rw [HPR.out]; simp
     have HK1 : Hid (Keeps (p :: fp (.slice a0 (pack l).length c0)) w w1) := Keeps.mono hk1 (fun k h _ => List.mem_cons_of_mem _ h)
     have HF1 : Hid (∀ b, b ∈ fp (.slice a1 (pack l ++ [0]).length c1) → (b ∈ fp (.slice a0 (pack l).length c0) ∨ w.heap.size ≤ b) ∧ b ≠ p) := fun b hb => by
       refine ⟨hf1' b hb, ?_⟩
       rcases hf1' b hb with h | h
       · exact hW.out.far b h
       · have := hW.out.duo.lt; omega
     have hs : Keeps [p] w1 (w1.setCell ⟨p, 0, none⟩ (.slice a1 ((pack l).length + 1) c1)) := (Keeps.refl _ _).setCell (.inl (by simp)) _
     have HDW : Hid (Duo (w1.setCell ⟨p, 0, none⟩ (.slice a1 ((pack l).length + 1) c1)) p 55 (.slice a1 ((pack l).length + 1) c1) (.int .i64 l.length)) := HD1.out.set0 _
     have HRW : Hid (Row (w1.setCell ⟨p, 0, none⟩ (.slice a1 ((pack l).length + 1) c1)) .u8 5 (.slice a1 ((pack l).length + 1) c1) (packR l)) := by
       show Row _ _ _ _ _
       have := hr1.keeps hs (fun b hb h => (HF1.out b hb).2 (by simpa using h))
       rw [HPR.out]
       simpa using this
     have HKW : Hid (Keeps (p :: fp (.slice a0 (pack l).length c0)) w (w1.setCell ⟨p, 0, none⟩ (.slice a1 ((pack l).length + 1) c1))) := HK1.out.trans (hs.mono (fun k h _ => by rw [List.mem_singleton] at h; subst h; exact List.mem_cons_self)) 
     have HFW : Hid (∀ b, b ∈ fp (.slice a1 ((pack l).length + 1) c1) → (b ∈ fp (.slice a0 (pack l).length c0) ∨ w.heap.size ≤ b) ∧ b ≠ p) := by
       intro b hb
       exact HF1.out b (by simpa using hb)
     rw [hN] at HDW HRW HKW HFW ⊢
     generalize w1.setCell ⟨p, 0, none⟩ (.slice a1 (packR l).length c1) = W at *
     clear h8 hs HF1 HK1 HD1 hd0 hd1 hdf0 hdf1 hr1 hk1 hf1' hN HLB HPR hz hc0 hc1 hf0 hf1)
    | (
     have hz : ((l.length : Int) % 8 == 0) = false := by simp; omega
     have HPR : Hid (packR l = pack l) := by show _ = _; unfold packR; rw [if_neg h8]
     obtain ⟨a1, c1, rfl, -⟩ := hW.out.row.rd
     go_enter Tryd.func49, Tryd.ntmps49
     go_upto_region 2 with fail
     obtain ⟨W, hWw⟩ : ∃ W, W = w := ⟨_, rfl⟩
     have HDW : Hid (Duo W p 55 (.slice a1 (packR l).length c1) (.int .i64 l.length)) := by show Duo _ _ _ _ _; rw [hWw, HPR.out]; exact hW.out.duo
     have HRW : Hid (Row W .u8 5 (.slice a1 (packR l).length c1) (packR l)) := by show Row _ _ _ _ _; rw [hWw, HPR.out]; exact hW.out.row
     have HKW : Hid (Keeps (p :: fp (.slice a1 (pack l).length c1)) w W) := by show Keeps _ _ _; rw [hWw]; exact Keeps.refl _ _
     have HFW : Hid (∀ b, b ∈ fp (.slice a1 (packR l).length c1) → (b ∈ fp (.slice a1 (pack l).length c1) ∨ w.heap.size ≤ b) ∧ b ≠ p) := by
       intro b hb
       rw [HPR.out] at hb
       exact ⟨.inl hb, hW.out.far b hb⟩
     rw [← hWw]
     clear h8 HPR hz hc0 hc1 hf0 hf1 hWw)
  all_goals
    have hrf := HRW.out.form (by rw [packR_len]; omega)
    obtain ⟨gr, cr, hav⟩ := hrf
    cases hav
    have HPL := Lib.hid (packR_len l)
    have hcell := HRW.out.cell (l.length / 8) (by rw [HPL.out]; omega)
    rw [packR_get] at hcell
    have hfro := HRW.out.frozen (l.length / 8)
    have hb0 := HDW.out.c0
    have hb1 := HDW.out.c1
    have hwd0 : W.drew.cell? ⟨p, 0, none⟩ = some (.slice (some ⟨gr, 0, none⟩) (packR l).length c1) := hb0
    have hwd1 : W.drew.cell? ⟨p, 1, none⟩ = some (.int .i64 l.length) := hb1
    have hwd2 : W.drew.cell? ⟨gr, l.length / 8, none⟩ = some (.int .u8 (lastY l)) := hcell
    have hwd3 : W.drew.frozen? ⟨gr, l.length / 8, none⟩ = false := hfro
    have hq0 : (0 : Int) ≤ (l.length : Int) / 8 := by omega
    have hq1 : (l.length : Int) / 8 < ((packR l).length : Int) := by rw [HPL.out]; omega
    have hqw : IntKind.i64.wrap ((l.length : Int) / 8) = (l.length : Int) / 8 := IntWalk.i64_in _ (by omega)
    have hqn : ((l.length : Int) / 8).toNat = l.length / 8 := by omega
    have hr7 : IntKind.i64.wrap (7 - (l.length : Int).tmod 8) = ((7 - l.length % 8 : Nat) : Int) := by
      rw [Int.tmod_eq_emod_of_nonneg (by omega)]
      rw [IntWalk.i64_in _ (by omega)]
      omega
    go_still_tail 22, (by kernel_rfl)
    change wpList _ _ _ _ _ W.drew
    have HVAL : Hid (bits .or .u8 (lastY l) (IntKind.u8.wrap (IntKind.i64.wrap (x * 2 ^ (7 - l.length % 8)))) = lastY l + (((if xb then 1 else 0) * 2 ^ (7 - l.length % 8) : Nat) : Int)) := by
      show _ = _
      have h1 : 2 ^ (7 - l.length % 8) ≤ 2 ^ 7 := Nat.pow_le_pow_right (by omega) (by omega)
      have h2 : x * 2 ^ (7 - l.length % 8) = (((if xb then 1 else 0) * 2 ^ (7 - l.length % 8) : Nat) : Int) := by
        rw [HXB.out]
        cases xb <;> simp
      have h3 : (((if xb then 1 else 0) * 2 ^ (7 - l.length % 8) : Nat)) ≤ 128 := by cases xb <;> simp <;> omega
      rw [h2, IntWalk.i64_in _ (by omega), IntWalk.u8_in _ (by omega)]
      exact bit_or l xb
    rw [HVAL.out]
    obtain ⟨Y, hY⟩ : ∃ Y, lastY l + (((if xb then 1 else 0) * 2 ^ (7 - l.length % 8) : Nat) : Int) = Y := ⟨_, rfl⟩
    have HSNOC : Hid ((packR l).set (l.length / 8) Y = pack (l ++ [xb])) := by show _ = _; rw [← hY]; exact pack_snoc l xb
    rw [hY]
    clear hY HVAL
    have HDW7 : Hid (Duo W.drew p 55 (.slice (some ⟨gr, 0, none⟩) (packR l).length c1) (.int .i64 l.length)) := HDW.out.keeps ((Keeps.refl [] _).drew) (by simp)
    have HRW7 : Hid (Row W.drew .u8 5 (.slice (some ⟨gr, 0, none⟩) (packR l).length c1) (packR l)) := HRW.out.keeps ((Keeps.refl [] _).drew) (fun _ _ => by simp)
    have HKW7 := Lib.hid HKW.out.drew
    generalize W.drew = W7 at *
    clear HDW HRW HKW hcell hfro hb0 hb1 hwd0 hwd1 hq0 hq1 hqw hqn hr7
    have hgp := (HFW.out gr (by rw [fp_some]; simp)).2
    have HRN : Hid (Row (W7.setCell ⟨gr, l.length / 8, none⟩ (.int .u8 Y)) .u8 5 (.slice (some ⟨gr, 0, none⟩) (packR l).length c1) (pack (l ++ [xb]))) := by
      show Row _ _ _ _ _
      rw [← HSNOC.out]
      exact HRW7.out.set (l.length / 8) Y
    have HDN := Lib.hid (HDW7.out.keeps ((Keeps.refl [gr] W7).setCell (a := ⟨gr, l.length / 8, none⟩) (.inl (by simp)) (.int .u8 Y)) (by simp; omega))
    have hdn1 := HDN.out.c1
    have hdf1 := HDN.out.frozen 1
    go_wp2_with fail
    go_end0
    refine ⟨rfl, .slice (some ⟨gr, 0, none⟩) (packR l).length c1, ⟨?_, ?_, ?_, ?_⟩, ?_, ?_⟩
    · have := HDN.out.set1 (.int .i64 ((l.length : Int) + 1))
      rw [List.length_append]
      exact this
    · exact HRN.out.keeps ((Keeps.refl [p] _).setCell (.inl (by simp)) _) (fun b hb h => (HFW.out b hb).2 (by simpa using h))
    · exact fun b hb => (HFW.out b hb).2
    · simp; omega
    · rcases (HFW.out gr (by rw [fp_some]; simp)).1 with h | h
      · exact (HKW7.out.setCell (a := ⟨gr, l.length / 8, none⟩) (.inl (List.mem_cons_of_mem _ h)) (.int .u8 Y)).setCell (a := ⟨p, 1, none⟩) (.inl List.mem_cons_self) _
      · exact (HKW7.out.setCell (a := ⟨gr, l.length / 8, none⟩) (.inr h) (.int .u8 Y)).setCell (a := ⟨p, 1, none⟩) (.inl List.mem_cons_self) _
    · exact fun b hb => (HFW.out b hb).1
end Go.Proofs.YtofkiimaoahfjaaDoor

set_option maxRecDepth 100000
set_option linter.unusedVariables false
set_option linter.unusedSimpArgs false
namespace Go.Proofs.YtofkiimaoahfjaaDoor
open Go.RowKit Go.Proofs.YtofkiimaoahfjaaDoor.Pure

theorem u64_and1 (x : Int) : bits .and .u64 x 1 = x % 2 := by
  show IntKind.u64.wrap ((BitVec.ofInt 64 x &&& BitVec.ofInt 64 1).toNat : Int) = _
  rw [BitVec.toNat_and, toNat_ofInt64, toNat_ofInt64]
  have e : ((1 : Int) % 18446744073709551616).toNat = 2 ^ 1 - 1 := by decide
  rw [e, Nat.and_two_pow_sub_one_eq_mod]
  have h2 : (((x % 18446744073709551616).toNat % 2 ^ 1 : Nat) : Int) = x % 2 := by omega
  rw [h2]
  exact IntWalk.u64_in _ (by omega)

set_option maxHeartbeats 4000000 in
theorem put_calls (p : Nat) (sv : Value) (l : List Bool) (N k : Nat) (w : World) (hW : Hid (IsW w p sv l)) (hN : N < 18446744073709551616) (hk : k ≤ 64) (hs : l.length ≤ 800000000000) :
    Calls Tryd.prog 27 #[.pointer (some ⟨p, 0, none⟩), .int .u64 N, .int .i64 k] w fun e w' => e = .returned (.tuple #[]) ∧ Wrote w w' p sv (l ++ bitsN k N) := by
  go_enter Tryd.func27, Tryd.ntmps27
  go_wp2_with fail
  go_loopg [6] (k + 1) (fun q v6 w2 => ∃ (j d : Nat), v6 = .int .i64 ((d : Int) - 1) ∧ j + d = k ∧ Hid (Wrote w w2 p sv (l ++ bitsN j (N / 2 ^ d))) ∧ Hid (q = d + 1))
  case atStart => exact ⟨0, k, rfl, by omega, (by show Wrote _ _ _ _ _; simp only [bitsN, List.append_nil]; exact Wrote.refl hW.out), (show _ = _ from rfl)⟩
  case round =>
    obtain ⟨j, d, rfl, hjd, HWR, HQ⟩ := hrel
    cases d with
    | zero =>
      have hz : j = k := by omega
      subst hz
      go_wp2_with fail
      go_end0
      have := HWR.out
      simp only [Nat.pow_zero, Nat.div_one] at this
      exact ⟨rfl, this⟩
    | succ e =>
      obtain ⟨sv1, h1, h2, h3⟩ := HWR.out
      have HW1 := Lib.hid h1
      have HK1 := Lib.hid h2
      have HF1 := Lib.hid h3
      clear h1 h2 h3 HWR
      have hl : Hid ((l ++ bitsN j (N / 2 ^ (e + 1))).length ≤ 900000000000) := by show _ ≤ _; rw [List.length_append, bitsN_length]; omega
      have HNX : Hid (l ++ bitsN (j + 1) (N / 2 ^ e) = (l ++ bitsN j (N / 2 ^ (e + 1))) ++ [N / 2 ^ e % 2 == 1]) := by
        show _ = _
        rw [bitsN, Nat.div_div_eq_div_mul, ← Nat.pow_succ, List.append_assoc]
      have HX : Hid (wrap64 (bits BinOp.and IntKind.u64 ((N : Int) / 2 ^ e) 1) = if (N / 2 ^ e % 2 == 1) then 1 else 0) := by
        show _ = _
        rw [u64_and1]
        have h1 : ((N : Int) / 2 ^ e) = ((N / 2 ^ e : Nat) : Int) := by rw [Int.natCast_ediv, Int.natCast_pow]; rfl
        rw [h1]
        generalize N / 2 ^ e = M
        unfold wrap64
        rcases Nat.mod_two_eq_zero_or_one M with h | h
        · simp [h]; omega
        · simp [h]; omega
      go_wp2_with (first
        | (go_at_call 49; go_must (with_reducible refine (bit_calls p sv1 _ _ _ HX.out _ HW1 hl.out).mono ?_); rintro e' w3 ⟨rfl, hw3⟩))
      go_roundg (gk - 1)
      case measure => have := HQ.out; omega
      case rel =>
        refine ⟨j + 1, e, by go_num, by omega, ?_, (show _ = _ from by have := HQ.out; omega)⟩
        show Wrote _ _ _ _ _
        rw [HNX.out]
        exact Wrote.then_ HK1.out HF1.out hw3

theorem put_at (p : Nat) (sv : Value) (l : List Bool) (N k : Nat) (N' k' : Int) (h1 : N' = N) (h2 : k' = k) (w : World) (hW : Hid (IsW w p sv l)) (hN : N < 18446744073709551616) (hk : k ≤ 64) (hs : l.length ≤ 800000000000) :
    Calls Tryd.prog 27 #[.pointer (some ⟨p, 0, none⟩), .int .u64 N', .int .i64 k'] w fun e w' => e = .returned (.tuple #[]) ∧ Wrote w w' p sv (l ++ bitsN k N) := by
  subst h1 h2
  exact put_calls p sv l N k w hW hN hk hs

theorem bwide_calls (k : Int) (w : World) :
    Calls Tryd.prog 26 #[.int .i64 k] w fun e w' => e = .returned (.bool (!decide (0 ≤ k ∧ k ≤ 32))) ∧ w = w' := by
  by_cases h1 : k < 0
  · go_enter Tryd.func26, Tryd.ntmps26
    go_wp2
    go_ret
    have : ¬ (0 ≤ k) := by omega
    simp [this]
  · by_cases h2 : 32 < k
    · go_enter Tryd.func26, Tryd.ntmps26
      go_wp2
      go_ret
      have : ¬ (k ≤ 32) := by omega
      simp [this]
    · go_enter Tryd.func26, Tryd.ntmps26
      go_wp2
      go_ret
      have e1 : 0 ≤ k := by omega
      have e2 : k ≤ 32 := by omega
      simp [e1, e2]

theorem bwide_ok (k : Int) (w : World) (h0 : 0 ≤ k) (h1 : k ≤ 32) : Calls Tryd.prog 26 #[.int .i64 k] w fun e w' => e = .returned (.bool false) ∧ w = w' := by
  have := bwide_calls k w
  rw [decide_eq_true (show 0 ≤ k ∧ k ≤ 32 from ⟨h0, h1⟩)] at this
  exact this
theorem bwide_no (k : Int) (w : World) (h : k < 0 ∨ 32 < k) : Calls Tryd.prog 26 #[.int .i64 k] w fun e w' => e = .returned (.bool true) ∧ w = w' := by
  have := bwide_calls k w
  rw [decide_eq_false (show ¬ (0 ≤ k ∧ k ≤ 32) by omega)] at this
  exact this

/-- Put's error, and what it puts. -/
def putE (n k : Int) : Int := if k < 0 ∨ 32 < k then 1 else if n < 0 ∨ n / 2 ^ k.toNat ≠ 0 then 12 else 0
def putB (n k : Int) : List Bool := if putE n k = 0 then bitsN k.toNat n.toNat else []

set_option maxHeartbeats 4000000 in
theorem wPut_calls (p : Nat) (sv : Value) (l : List Bool) (n k : Int) (w : World) (hW : Hid (IsW w p sv l)) (hn : Hid (-9223372036854775808 ≤ n ∧ n ≤ 9223372036854775807)) (hs : l.length ≤ 800000000000) :
    Calls Tryd.prog 12 #[.pointer (some ⟨p, 0, none⟩), .int .i64 n, .int .i64 k] w fun e w' => e = .returned (.int .i64 (putE n k)) ∧ Wrote w w' p sv (l ++ putB n k) := by
  obtain ⟨n0, n1⟩ := hn.out
  by_cases hk : k < 0 ∨ 32 < k
  · have e1 : putE n k = 1 := by unfold putE; rw [if_pos hk]
    have e2 : putB n k = [] := by unfold putB; rw [e1]; rfl
    rw [e1, e2, List.append_nil]
    have hkd : (decide (0 ≤ k ∧ k ≤ 32)) = false := decide_eq_false (by omega)
    have HKD := Lib.hid hkd
    clear hkd e1 e2
    go_enter Tryd.func12, Tryd.ntmps12
    go_wp2_with (first
      | (go_at_call 26; go_must (refine (bwide_calls _ _).mono ?_); rw [HKD.out]; rintro e w1 ⟨rfl, rfl⟩))
    go_ret
    exact ⟨rfl, Wrote.refl hW.out⟩
  · have hkd : (decide (0 ≤ k ∧ k ≤ 32)) = true := decide_eq_true (by omega)
    have HKD := Lib.hid hkd
    obtain ⟨kn, rfl⟩ : ∃ kn : Nat, k = kn := ⟨k.toNat, by omega⟩
    by_cases hneg : n < 0
    · have e1 : putE n kn = 12 := by unfold putE; rw [if_neg hk, if_pos (.inl hneg)]
      have e2 : putB n kn = [] := by unfold putB; rw [e1]; rfl
      rw [e1, e2, List.append_nil]
      clear hkd e1 e2 hk
      go_enter Tryd.func12, Tryd.ntmps12
      go_wp2_with (first
        | (go_at_call 26; go_must (refine (bwide_calls _ _).mono ?_); rw [HKD.out]; rintro e w1 ⟨rfl, rfl⟩))
      go_ret
      exact ⟨rfl, Wrote.refl hW.out⟩
    · obtain ⟨N, rfl⟩ : ∃ N : Nat, n = N := ⟨n.toNat, by omega⟩
      have hdv : (N : Int) / 2 ^ kn = ((N / 2 ^ kn : Nat) : Int) := by rw [Int.natCast_ediv, Int.natCast_pow]; rfl
      by_cases hw : N / 2 ^ kn = 0
      · have e1 : putE N kn = 0 := by unfold putE; rw [if_neg hk, if_neg (by rw [Int.toNat_natCast, hdv, hw]; omega)]
        have e2 : putB N kn = bitsN kn N := by unfold putB; rw [if_pos e1]; rfl
        rw [e1, e2]
        have hz : ((N : Int) / 2 ^ kn != 0) = false := by rw [hdv, hw]; rfl
        have hN64 : N < 18446744073709551616 := by omega
        have hk64 : kn ≤ 64 := by omega
        have huw : IntKind.u64.wrap (N : Int) = N := IntWalk.u64_in _ (by omega)
        clear hkd e1 e2 hk hdv hw
        go_enter Tryd.func12, Tryd.ntmps12
        go_wp2_with (first
          | (go_at_call 26; go_must (refine (bwide_calls _ _).mono ?_); rw [HKD.out]; rintro e w1 ⟨rfl, rfl⟩)
          | (go_at_call 27; go_must (with_reducible refine (put_calls p sv l N kn _ hW hN64 hk64 hs).mono ?_); rintro e w1 ⟨rfl, hw1⟩))
        go_ret
        exact ⟨rfl, hw1⟩
      · have e1 : putE N kn = 12 := by unfold putE; rw [if_neg hk, if_pos (.inr (by rw [Int.toNat_natCast, hdv]; omega))]
        have e2 : putB N kn = [] := by unfold putB; rw [e1]; rfl
        rw [e1, e2, List.append_nil]
        have hz : ((N : Int) / 2 ^ kn != 0) = true := by rw [hdv]; simp; omega
        have hk64 : kn ≤ 64 := by omega
        clear hkd e1 e2 hk hdv hw
        go_enter Tryd.func12, Tryd.ntmps12
        go_wp2_with (first
          | (go_at_call 26; go_must (refine (bwide_calls _ _).mono ?_); rw [HKD.out]; rintro e w1 ⟨rfl, rfl⟩))
        go_ret
        exact ⟨rfl, Wrote.refl hW.out⟩

/-- Is n a signed number of k bits? -/
def sgnB (n k : Int) : Bool := if k = 0 then decide (n = 0) else decide (-(2 ^ (k.toNat - 1)) ≤ n ∧ n < 2 ^ (k.toNat - 1))
/-- PutSigned's error, and what it puts. -/
def psE (n k : Int) : Int := if k < 0 ∨ 32 < k then 1 else if sgnB n k = false then 12 else 0
def psB (n k : Int) : List Bool := if psE n k = 0 then bitsN k.toNat (n % 18446744073709551616).toNat else []

theorem sgn_shift (n : Int) (j : Nat) : (-(2 ^ j) ≤ n ∧ n < 2 ^ j) ↔ (n / 2 ^ j = 0 ∨ n / 2 ^ j = -1) := by
  have hp : (0 : Int) < 2 ^ j := Int.pow_pos (by omega)
  have h1 := Int.mul_ediv_add_emod n (2 ^ j)
  have h2 := Int.emod_nonneg n (show (2 : Int) ^ j ≠ 0 by omega)
  have h3 := Int.emod_lt_of_pos n hp
  generalize (2 : Int) ^ j = P at *
  constructor
  · rintro ⟨a, b⟩
    have h4 : -1 ≤ n / P := by
      rcases Int.lt_or_le (n / P) (-1) with h | h
      · have : P * (n / P) ≤ P * (-2) := Int.mul_le_mul_of_nonneg_left (by omega) (by omega)
        omega
      · exact h
    have h5 : n / P ≤ 0 := by
      rcases Int.lt_or_le 0 (n / P) with h | h
      · have : P * 1 ≤ P * (n / P) := Int.mul_le_mul_of_nonneg_left (by omega) (by omega)
        omega
      · exact h
    omega
  · rintro (h | h)
    · rw [h] at h1; omega
    · rw [h] at h1; omega

set_option maxHeartbeats 4000000 in
theorem wPutSigned_calls (p : Nat) (sv : Value) (l : List Bool) (n k : Int) (w : World) (hW : Hid (IsW w p sv l)) (hn : Hid (-9223372036854775808 ≤ n ∧ n ≤ 9223372036854775807)) (hs : l.length ≤ 800000000000) :
    Calls Tryd.prog 58 #[.pointer (some ⟨p, 0, none⟩), .int .i64 n, .int .i64 k] w fun e w' => e = .returned (.int .i64 (psE n k)) ∧ Wrote w w' p sv (l ++ psB n k) := by
  obtain ⟨n0, n1⟩ := hn.out
  by_cases hk : k < 0 ∨ 32 < k
  · have e1 : psE n k = 1 := by unfold psE; rw [if_pos hk]
    have e2 : psB n k = [] := by unfold psB; rw [e1]; rfl
    rw [e1, e2, List.append_nil]
    have hkd : (decide (0 ≤ k ∧ k ≤ 32)) = false := decide_eq_false (by omega)
    have HKD := Lib.hid hkd
    clear hkd e1 e2
    go_enter Tryd.func58, Tryd.ntmps58
    go_wp2_with (first
      | (go_at_call 26; go_must (refine (bwide_no _ _ ?h0).mono ?_); (case h0 => omega); rintro e w1 ⟨rfl, rfl⟩))
    go_ret
    exact ⟨rfl, Wrote.refl hW.out⟩
  · have hkd : (decide (0 ≤ k ∧ k ≤ 32)) = true := decide_eq_true (by omega)
    have HKD := Lib.hid hkd
    obtain ⟨kn, rfl⟩ : ∃ kn : Nat, k = kn := ⟨k.toNat, by omega⟩
    have huw : IntKind.u64.wrap n = ((n % 18446744073709551616).toNat : Int) := by rw [IntKind.wrap_u64]; omega
    have hN64 : (n % 18446744073709551616).toNat < 18446744073709551616 := by omega
    have hk64 : kn ≤ 64 := by omega
    have hk32 : (kn : Int) ≤ 32 := by omega
    cases hsg : sgnB n kn
    · have e1 : psE n kn = 12 := by unfold psE; rw [if_neg hk, if_pos hsg]
      have e2 : psB n kn = [] := by unfold psB; rw [e1]; rfl
      rw [e1, e2, List.append_nil]
      clear hkd e1 e2 hk huw hN64
      cases kn with
      | zero =>
        have hn0 : (n != 0) = true := by unfold sgnB at hsg; simpa using hsg
        clear hsg
        go_enter Tryd.func58, Tryd.ntmps58
        go_wp2_with (first
          | (go_at_call 26; go_must (refine (bwide_ok _ _ ?h0 ?h1).mono ?_); (case h0 => omega); (case h1 => omega); rintro e w1 ⟨rfl, rfl⟩))
        go_ret
        exact ⟨rfl, Wrote.refl hW.out⟩
      | succ j =>
        have hd : ¬ (n / 2 ^ j = 0 ∨ n / 2 ^ j = -1) := by
          rw [← sgn_shift]
          unfold sgnB at hsg
          rw [if_neg (by omega)] at hsg
          simpa using hsg
        have hd1 : (n / 2 ^ j != 0) = true := by simp; omega
        have hd2 : (n / 2 ^ j != -1) = true := by simp; omega
        have hk0 : (((j + 1 : Nat) : Int) == 0) = false := by simp; omega
        have hj64 : j ≤ 64 := by omega
        clear hsg hd
        go_enter Tryd.func58, Tryd.ntmps58
        go_wp2_with (first
          | (go_at_call 26; go_must (refine (bwide_ok _ _ ?h0 ?h1).mono ?_); (case h0 => omega); (case h1 => omega); rintro e w1 ⟨rfl, rfl⟩))
        go_ret
        exact ⟨rfl, Wrote.refl hW.out⟩
    · have e1 : psE n kn = 0 := by unfold psE; rw [if_neg hk, if_neg (by rw [hsg]; simp)]
      have e2 : psB n kn = bitsN kn (n % 18446744073709551616).toNat := by unfold psB; rw [if_pos e1]; rfl
      rw [e1, e2]
      clear hkd e1 e2 hk
      generalize (n % 18446744073709551616).toNat = N at *
      cases kn with
      | zero =>
        obtain rfl : n = 0 := by unfold sgnB at hsg; simpa using hsg
        clear hsg
        go_enter Tryd.func58, Tryd.ntmps58
        go_wp2_with (first
          | (go_at_call 26; go_must (refine (bwide_ok _ _ ?h0 ?h1).mono ?_); (case h0 => omega); (case h1 => omega); rintro e w1 ⟨rfl, rfl⟩)
          | (go_at_call 27; go_must (with_reducible refine (put_at p sv l N 0 _ 0 rfl rfl _ hW hN64 (by omega) hs).mono ?_); rintro e w1 ⟨rfl, hw1⟩))
        go_ret
        exact ⟨rfl, hw1⟩
      | succ j =>
        have hd : (n / 2 ^ j = 0 ∨ n / 2 ^ j = -1) := by
          rw [← sgn_shift]
          unfold sgnB at hsg
          rw [if_neg (by omega)] at hsg
          simpa using hsg
        have hk0 : (((j + 1 : Nat) : Int) == 0) = false := by simp; omega
        have hj64 : j ≤ 64 := by omega
        clear hsg
        rcases hd with hd | hd
        all_goals
          first
            | (have hd1 : (n / 2 ^ j != 0) = false := by simp; omega)
            | (have hd1 : (n / 2 ^ j != 0) = true := by simp; omega)
          first
            | (have hd2 : (n / 2 ^ j != -1) = false := by simp; omega)
            | (have hd2 : (n / 2 ^ j != -1) = true := by simp; omega)
          clear hd
          go_enter Tryd.func58, Tryd.ntmps58
          go_wp2_with (first
            | (go_at_call 26; go_must (refine (bwide_ok _ _ ?h0 ?h1).mono ?_); (case h0 => omega); (case h1 => omega); rintro e w1 ⟨rfl, rfl⟩)
            | (go_at_call 27; go_must (with_reducible refine (put_at p sv l N (j + 1) _ _ rfl (Int.natCast_succ j).symm _ hW hN64 hk64 hs).mono ?_); rintro e w1 ⟨rfl, hw1⟩))
          go_ret
          exact ⟨rfl, hw1⟩
end Go.Proofs.YtofkiimaoahfjaaDoor

set_option maxRecDepth 100000
set_option linter.unusedVariables false
set_option linter.unusedSimpArgs false
namespace Go.Proofs.YtofkiimaoahfjaaDoor
open Go.RowKit Go.Proofs.YtofkiimaoahfjaaDoor.Pure

/-- Unary's error, and what it puts. -/
def unE (n : Int) : Int := if n < 0 ∨ 65536 < n then 1 else 0
def unB (n : Int) : List Bool := if unE n = 0 then List.replicate n.toNat false ++ [true] else []

set_option maxHeartbeats 2000000 in
theorem wUnary_calls (p : Nat) (sv : Value) (l : List Bool) (n : Int) (w : World) (hW : Hid (IsW w p sv l)) (hs : l.length ≤ 800000000000) :
    Calls Tryd.prog 30 #[.pointer (some ⟨p, 0, none⟩), .int .i64 n] w fun e w' => e = .returned (.int .i64 (unE n)) ∧ Wrote w w' p sv (l ++ unB n) := by
  by_cases hn : n < 0 ∨ 65536 < n
  · have e1 : unE n = 1 := by unfold unE; rw [if_pos hn]
    have e2 : unB n = [] := by unfold unB; rw [e1]; rfl
    rw [e1, e2, List.append_nil]
    have hn' : n < 0 ∨ (0 ≤ n ∧ 65536 < n) := by omega
    clear hn e1 e2
    rcases hn' with h | ⟨h0, h⟩
    all_goals
      go_enter Tryd.func30, Tryd.ntmps30
      go_wp2
      go_ret
      exact ⟨rfl, Wrote.refl hW.out⟩
  · obtain ⟨k, rfl⟩ : ∃ k : Nat, n = k := ⟨n.toNat, by omega⟩
    have e1 : unE k = 0 := by unfold unE; rw [if_neg hn]
    have e2 : unB k = List.replicate k false ++ [true] := by unfold unB; rw [if_pos e1]; rfl
    rw [e1, e2]
    have hk : k ≤ 65536 := by omega
    clear hn e1 e2
    go_enter Tryd.func30, Tryd.ntmps30
    go_wp2_with fail
    go_loopg [16] (k + 1) (fun q v16 w2 => ∃ (i : Nat), v16 = .int .i64 i ∧ i ≤ k ∧ Hid (Wrote w w2 p sv (l ++ List.replicate i false)) ∧ Hid (i + q = k + 1))
    case atStart => exact ⟨0, rfl, by omega, (by show Wrote _ _ _ _ _; simp only [List.replicate_zero, List.append_nil]; exact Wrote.refl hW.out), (show _ = _ from by omega)⟩
    case round =>
      obtain ⟨i, rfl, hi, HWR, HQ⟩ := hrel
      obtain ⟨sv1, h1, h2, h3⟩ := HWR.out
      have HW1 := Lib.hid h1
      have HK1 := Lib.hid h2
      have HF1 := Lib.hid h3
      clear h1 h2 h3 HWR
      have hl : Hid ((l ++ List.replicate i false).length ≤ 900000000000) := by show _ ≤ _; rw [List.length_append, List.length_replicate]; omega
      by_cases hlt : i < k
      · go_wp2_with (first
          | (go_at_call 49; go_must (with_reducible refine (bit_calls p sv1 _ 0 false rfl _ HW1 hl.out).mono ?_); rintro e' w3 ⟨rfl, hw3⟩))
        go_roundg (gk - 1)
        case measure => have := HQ.out; omega
        case rel =>
          refine ⟨i + 1, by go_num, by omega, ?_, (show _ = _ from by have := HQ.out; omega)⟩
          show Wrote _ _ _ _ _
          rw [List.replicate_succ', ← List.append_assoc]
          exact Wrote.then_ HK1.out HF1.out hw3
      · obtain rfl : i = k := by omega
        go_wp2_with (first
          | (go_at_call 49; go_must (with_reducible refine (bit_calls p sv1 _ 1 true rfl _ HW1 hl.out).mono ?_); rintro e' w3 ⟨rfl, hw3⟩))
        go_ret
        refine ⟨rfl, ?_⟩
        rw [← List.append_assoc]
        exact Wrote.then_ HK1.out HF1.out hw3

/-- How many noughts are lacking to a whole byte. -/
def padN (n : Nat) : Nat := (8 - n % 8) % 8

theorem wLen_calls (p : Nat) (sv : Value) (l : List Bool) (w : World) (hW : Hid (IsW w p sv l)) :
    Calls Tryd.prog 16 #[.pointer (some ⟨p, 0, none⟩)] w fun e w' => e = .returned (.int .i64 l.length) ∧ w = w' := by
  have hc1 := hW.out.duo.c1
  go_enter Tryd.func16, Tryd.ntmps16
  go_wp2
  go_ret
  exact ⟨rfl, rfl⟩

set_option maxHeartbeats 1000000 in
theorem bclone_calls (xs : List Int) (m : Nat) (hm : m = xs.length) (a : Option Addr) (c : Nat) (w : World) (hn : a = none → c = 0) (hl : xs.length ≤ 140737488351232) (hx : Hid (Rd w .u8 a xs)) :
    Calls Tryd.prog 40 #[.slice a m c] w fun e w' => ∃ v, e = .returned v ∧ Row w' .u8 5 v xs ∧ (∀ b, b ∈ fp v → w.heap.size ≤ b) ∧ Keeps [] w w' := by
  subst hm
  cases a with
  | none =>
    have h0 : xs = [] := by
      rcases Nat.eq_zero_or_pos xs.length with h0 | h0
      · exact List.eq_nil_of_length_eq_zero h0
      · obtain ⟨b, o', e', _⟩ := hx.out.form h0
        cases e'
    have hc := hn rfl
    subst h0 hc
    show Calls Tryd.prog 40 #[.slice none 0 0] w _
    have he : ∀ w : World, (binOp .eql 36 (.slice none 0 0) (.slice none 0 0)).run Tryd.prog w = .ok (.bool true) w := fun _ => rfl
    go_enter Tryd.func40, Tryd.ntmps40
    go_wp2
    go_ret
    exact ⟨_, rfl, Row.nil _ _ _, (fun b hb => by cases hb), Keeps.refl _ _⟩
  | some ad =>
    have HNN : (some ad = none → c = 0) := hn
    have HSP := Lib.hid hx.out.spot
    have he : ∀ w : World, (binOp .eql 36 (.slice (some ad) xs.length c) (.slice none 0 0)).run Tryd.prog w = .ok (.bool false) w := fun _ => rfl
    go_enter Tryd.func40, Tryd.ntmps40
    go_wp2_with (first
      | (at_builtin; refine wp_appR (W := w.alloc (.cells #[] 5)) ?hg (.tmp 5) (.tmp 6) 36 5 .u8 1 ?ho Tryd.underlying36 b_info_u8 (by decide) (.slice (some ⟨w.heap.size, 0, none⟩) 0 0) [] xs ?hs (some ad) c ?hx (Row.litNil w .u8 5) (hx.out.new ((Keeps.refl _ _).alloc _)) HNN HSP.out (by simp; omega) ?_; (case ho => rfl); (case hg => rfl); (case hs => rfl); (case hx => rfl); intro v3 w3 hr3 hk3 hf3))
    rw [List.nil_append] at hr3
    go_ret
    refine ⟨_, rfl, hr3, ?_, ((Keeps.refl _ _).alloc _).then_ hk3 (fun b hb hlt => by rw [fp_some, List.mem_singleton] at hb; omega)⟩
    intro b hb
    rcases hf3 b hb with h | h
    · rw [fp_some, List.mem_singleton] at h; omega
    · rw [World.size_alloc] at h; omega

theorem Row.noneCapB {w : World} {k : IntKind} {e : TypeId} {a : Option Addr} {n c : Nat} {xs : List Int} (h : Row w k e (.slice a n c) xs) : a = none → c = 0 := by
  intro h0
  subst h0
  rcases h.2 with ⟨h1, _⟩ | ⟨_, _, _, h1, _⟩ <;> cases h1
  rfl

theorem wBytes_calls (p : Nat) (sv : Value) (l : List Bool) (w : World) (hW : Hid (IsW w p sv l)) :
    Calls Tryd.prog 18 #[.pointer (some ⟨p, 0, none⟩)] w fun e w' => ∃ v, e = .returned v ∧ Row w' .u8 5 v (pack l) ∧ (∀ b, b ∈ fp v → w.heap.size ≤ b) ∧ Keeps [] w w' := by
  have hc0 := hW.out.duo.c0
  have hsm := hW.out.small
  obtain ⟨a, c, rfl, hrd⟩ := hW.out.row.rd
  have HRD := Lib.hid hrd
  have HNC := Lib.hid hW.out.row.noneCapB
  have HPL : Hid ((pack l).length ≤ 140737488351232) := by show _ ≤ _; rw [pack_length]; omega
  clear hrd hsm
  go_enter Tryd.func18, Tryd.ntmps18
  go_wp2_with (first
    | (go_at_call 40; go_must (with_reducible refine (bclone_calls (pack l) _ rfl a c _ HNC.out HPL.out HRD).mono ?_); rintro e w1 ⟨v1, rfl, hr1, hf1, hk1⟩))
  go_ret
  exact ⟨_, rfl, hr1, hf1, hk1⟩

theorem newWriter_calls (w : World) :
    Calls Tryd.prog 11 #[] w fun e w' => e = .returned (.pointer (some ⟨w.heap.size, 0, none⟩)) ∧ IsW w' w.heap.size (.slice none 0 0) [] ∧ Keeps [] w w' := by
  go_enter Tryd.func11, Tryd.ntmps11
  go_wp2
  go_ret
  refine ⟨rfl, ⟨⟨?_⟩, ?_, (fun b hb => by cases hb), by simp⟩, (Keeps.refl _ _).alloc _⟩
  · exact heap_alloc_new _ _
  · show Row _ _ _ _ _
    rw [pack_nil]
    exact Row.nil _ _ _

theorem nilPut_calls (n k : Int) (w : World) :
    Calls Tryd.prog 12 #[.pointer none, .int .i64 n, .int .i64 k] w fun e w' => e = .returned (.int .i64 1) ∧ w = w' := by
  go_enter Tryd.func12, Tryd.ntmps12
  go_wp2
  go_ret
  exact ⟨rfl, rfl⟩
theorem nilLen_calls (w : World) :
    Calls Tryd.prog 16 #[.pointer none] w fun e w' => e = .returned (.int .i64 0) ∧ w = w' := by
  go_enter Tryd.func16, Tryd.ntmps16
  go_wp2
  go_ret
  exact ⟨rfl, rfl⟩
theorem nilBytes_calls (w : World) :
    Calls Tryd.prog 18 #[.pointer none] w fun e w' => e = .returned (.slice none 0 0) ∧ w = w' := by
  go_enter Tryd.func18, Tryd.ntmps18
  go_wp2
  go_ret
  exact ⟨rfl, rfl⟩
end Go.Proofs.YtofkiimaoahfjaaDoor
