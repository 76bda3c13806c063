/-
  The document's Reader (shellacref03): Align, Text.
-/
import Derived.Test.YtepbngdoeolepaaRef3c
set_option linter.unusedVariables false
set_option linter.unusedSimpArgs false
namespace Go.Proofs.Ytepbngdoeolepaa
open Go.RowKit Go.Proofs.Ytepbngdoeolepaa.Pure

theorem Row.based {w : World} {k : IntKind} {e : TypeId} {v : Value} {xs : List Int} (h : Row w k e v xs) (base : Nat) (hb : ∀ b, b ∈ fp v → base ≤ b) : w.ownsRow base e 1 v xs.length (nums k xs) := by
  refine ⟨h.1, ?_⟩
  rcases h.2 with hn | ⟨g, cap, cur, rfl, _, rest⟩
  · exact .inl hn
  · exact .inr ⟨g, cap, cur, rfl, hb g (by simp [fp, Value.ownBlock]), rest⟩
theorem Row.ofBased {w : World} {k : IntKind} {e : TypeId} {v : Value} {xs : List Int} {base n : Nat} (h : w.ownsRow base e 1 v n (nums k xs)) (hn : n = xs.length) : Row w k e v xs ∧ ∀ b, b ∈ fp v → base ≤ b := by
  subst hn
  refine ⟨⟨h.1, ?_⟩, ?_⟩
  · rcases h.2 with hn | ⟨g, cap, cur, rfl, _, rest⟩
    · exact .inl hn
    · exact .inr ⟨g, cap, cur, rfl, Nat.zero_le _, rest⟩
  · intro b hb
    rcases h.2 with ⟨rfl, _⟩ | ⟨g, cap, cur, rfl, hg, rest⟩
    · cases hb
    · rw [fp_some, List.mem_singleton] at hb
      subst hb
      exact hg

/-- append(v, s...), s a string. -/
theorem wp_appS {P : Program} {ops : Array Oper} {rest : List Oper} {o : Oper} {a : Act} {Q : Exit → Act → World → Prop} {W : World} (hgd : o.guard = none) (s x : Operand) (t u e : TypeId)
    (ho : o.op = .call { callee := .builtin .append, args := #[s, x], argTypes := #[t, u] })
    (ht : P.underlying t = some (.slice e)) (hu : P.underlying u = some .string) (hinfo : (P.info? e).map (fun i => (i.zero, i.size, i.bytes)) = some (some (.int .u8 0), 1, 1))
    (v : Value) (xs ys : List Int) (hs : a.eval s = v) (str : ByteArray) (hstr : Lib.strCells str = nums .u8 ys) (hx : a.eval x = .string str) (HR : Row W .u8 e v xs)
    (base : Nat) (hb : base ≤ W.heap.size) (HF : ∀ b, b ∈ fp v → base ≤ b) (hl : xs.length + ys.length ≤ 140737488355328)
    (h : ∀ v1 w1, Row w1 .u8 e v1 (xs ++ ys) → Keeps (fp v) W w1 → (∀ b, b ∈ fp v1 → base ≤ b) → wpList P ops Q rest (a.put o.dst v1) w1) :
    wpList P ops Q (o :: rest) a W := by
  obtain ⟨i0, hi, hzz⟩ := Option.map_eq_some_iff.1 hinfo
  simp only [Prod.mk.injEq] at hzz
  obtain ⟨hz0, hz1, hz2⟩ := hzz
  have hlen : str.size = ys.length := by rw [← Lib.strCells_length, hstr, nums_length]
  refine Lib.wpList_append_own_string W hgd s x t u ho base e i0 ht hu hi hz0 hz1 hz2 v xs.length (nums .u8 xs) hs (HR.based base HF) str hx (by rw [hlen]; simp only [maxLen]; omega) (by rw [hlen]; exact hl) hb ?_
  intro v1 w1 hown hg _
  rw [hstr, ← nums_append, hlen] at hown
  obtain ⟨h1, h2⟩ := Row.ofBased hown (by rw [List.length_append])
  exact h v1 w1 h1 ((Keeps.refl _ _).grown hg (fun k hk => .inl (mem_fp.2 hk))) h2
theorem strCells_dstr (l : List Bool) : Lib.strCells (dstr l) = nums .u8 (l.map dg) := by
  unfold Lib.strCells nums
  rw [dstr_data, List.map_map, List.map_map]
  congr 1
  funext b; cases b <;> rfl

set_option maxHeartbeats 2000000 in
theorem dText_calls (bs : List Int) (n : Nat) (hn : n = bs.length) (a : Option Addr) (c : Nat) (w : World) (hl : bs.length ≤ 100000) (hr : Hid (∀ x ∈ bs, 0 ≤ x ∧ x ≤ 255)) (hx : Hid (Rd w .u8 a bs)) :
    Calls Try.prog 23 #[.slice a n c] w fun e w' => e = .returned (.string (dstr (unpack bs))) ∧ Keeps [] w w' := by
  subst hn
  have hmk : ∀ W : World, Sem.run Try.prog (Instr.makeSlice 40 (.int .i64 0) (.int .i64 (8 * (bs.length : Int)))) W = .ok (.slice (some ⟨W.heap.size, 0, none⟩) 0 (8 * bs.length)) (W.alloc (.cells (madeCells #[.int .u8 0] (8 * bs.length)) 5)) :=
    fun W => run_mk Try.prog 40 5 .u8 1 Try.underlying40 info_u8 .i64 .i64 0 (8 * bs.length) 0 (8 * (bs.length : Int)) rfl (by omega) (by omega) (by omega) (by omega) W
  go_enter Try.func23, Try.ntmps23
  go_wp2
  clear hmk
  go_loopg [3, 4] (bs.length + 1) (fun q v3 v4 wr => ∃ i : Nat, v4 = .int .i64 i ∧ i ≤ bs.length ∧ Hid (i + q = bs.length + 1) ∧ Hid (Row wr .u8 5 v3 ((unpack (bs.take i)).map dg)) ∧ Hid (∀ b, b ∈ fp v3 → w.heap.size ≤ b) ∧ Hid (Keeps [] w wr))
  case atStart => exact ⟨0, rfl, by omega, (show _ = _ from by omega), Row.madeRoom w .u8 5 _ (by omega), (fun b hb => by rw [fp_some, List.mem_singleton] at hb; omega), (Keeps.refl _ _).alloc _⟩
  case round =>
    obtain ⟨i, rfl, hi, HQ, HR, HF, HK⟩ := hrel
    by_cases hlt : i < bs.length
    · obtain ⟨x, hxe⟩ : ∃ x, bs[i] = x := ⟨_, rfl⟩
      obtain ⟨b0, o0, rfl, hcells⟩ := hx.out.form (by omega)
      have hc := (HK.out.cell (hcells i hlt) (by simp))
      rw [hxe] at hc
      obtain ⟨x0, x1⟩ := hr.out x (by rw [← hxe]; exact List.getElem_mem _)
      have HSTEP : Hid (unpack (bs.take (i + 1)) = unpack (bs.take i) ++ bitsN 8 x.toNat) := by
        show _ = _
        rw [List.take_succ_eq_append_getElem hlt, unpack_append, hxe, unpack_cons, unpack_nil, List.append_nil]
      have HD : Hid (∀ W : World, Calls Try.prog 34 #[.int .i64 x, .int .i64 8] W fun e w' => e = .returned (.string (dstr (bitsN 8 x.toNat))) ∧ Keeps [] W w') := by
        intro W
        exact digits_callsI x 8 W (by omega) (by omega) (by omega) (by omega)
      have HLB : Hid (((unpack (bs.take i)).map dg).length + ((bitsN 8 x.toNat).map dg).length ≤ 140737488355328) := by show _ ≤ _; simp [unpack_length, bitsN_length]; omega
      clear hcells hxe
      go_wp2_with (first
        | (go_at_call 34; go_must (with_reducible refine (HD.out _).mono ?_); rintro e w1 ⟨rfl, hk1⟩; have HR1 := Lib.hid (HR.out.keeps hk1 (fun _ _ => by simp)); have HK1 := Lib.hid (HK.out.new hk1))
        | (at_builtin; go_must (refine wp_appS (W := w1) rfl (.tmp 15) (.tmp 21) 40 9 5 rfl Try.underlying40 Try.underlying9 info_u8 _ _ _ rfl _ (strCells_dstr _) rfl HR1.out w.heap.size HK1.out.size HF.out HLB.out ?_); intro v1 w2 hr2 hk2 hf2))
      go_roundg (bs.length - i)
      case measure => have := HQ.out; omega
      case rel =>
        refine ⟨i + 1, by go_num, by omega, (show _ = _ from by have := HQ.out; omega), ?_, hf2, HK1.out.then_ hk2 (fun b hb hlt => ?_)⟩
        · show Row _ _ _ _ _
          rw [HSTEP.out, List.map_append]
          exact hr2
        · have := HF.out b hb
          omega
    · obtain rfl : i = bs.length := by omega
      have hrr := HR.out
      rw [List.take_of_length_le (Nat.le_refl _)] at hrr
      have hcv := hrr.textv (P := Try.prog) 40 5 9 Try.underlying40 Try.underlying5 Try.underlying9
      rw [str_dg] at hcv
      clear hrr HR HF
      go_wp2_with fail
      go_ret
      exact ⟨rfl, HK.out⟩
end Go.Proofs.Ytepbngdoeolepaa
