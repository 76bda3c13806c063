/-
  Layer 6 (rice): rows of slices; cut.
  Layer 6 (rice): cut, the walk.
  Layer 6 (rice): what choose computes; rows of structs of three numbers; a plan's block.
-/
import Derived.Test.YtofkiimaoahfjaaDoorZRice1
set_option maxRecDepth 100000
set_option linter.unusedVariables false
set_option linter.unusedSimpArgs false
namespace Go.Proofs.YtofkiimaoahfjaaDoor
open Go.RowKit

theorem info_sl : (Tryd.prog.info? 22).map (fun i => (i.zero, i.size, i.bytes)) = some (some (.slice none 0 0), 1, 24) := by kernel_rfl

/-- v is nil or a row of its own, which holds these values, one cell each. -/
def RowV (w : World) (e : TypeId) (v : Value) (xs : List Value) : Prop := w.ownsRow 0 e 1 v xs.length xs
namespace RowV
variable {w w' : World} {e : TypeId} {v : Value} {xs : List Value}
theorem keeps (h : RowV w e v xs) {F : List Nat} (hk : Keeps F w w') (hd : ∀ b, b ∈ fp v → b ∉ F) : RowV w' e v xs := by
  refine ⟨h.1, ?_⟩
  rcases h.2 with hn | ⟨g, cap, cur, rfl, hb, hg, rest⟩
  · exact .inl hn
  · refine .inr ⟨g, cap, cur, rfl, hb, ?_, rest⟩
    rw [hk.block g (Array.getElem?_eq_some_iff.1 hg).1 (hd g (by simp [fp, Value.ownBlock]))]
    exact hg
theorem new (h : RowV w e v xs) (hk : Keeps [] w w') : RowV w' e v xs := h.keeps hk (fun _ _ => by simp)
theorem lt (h : RowV w e v xs) : ∀ b, b ∈ fp v → b < w.heap.size := fun b hb => (World.ownsRow.lt h b (mem_fp.1 hb)).2
theorem slice (h : RowV w e v xs) : ∃ a cap, v = .slice a xs.length cap := by
  rcases h.2 with ⟨rfl, h0⟩ | ⟨g, cap, cur, rfl, _⟩
  · exact ⟨none, 0, by rw [h0]⟩
  · exact ⟨_, cap, rfl⟩
theorem form (h : RowV w e v xs) (hn : 0 < xs.length) : ∃ g cap, v = .slice (some ⟨g, 0, none⟩) xs.length cap := by
  rcases h.2 with ⟨_, h0⟩ | ⟨g, cap, cur, rfl, _⟩
  · omega
  · exact ⟨g, cap, rfl⟩
theorem cell {g n cap : Nat} (h : RowV w e (.slice (some ⟨g, 0, none⟩) n cap) xs) (j : Nat) (hj : j < xs.length) : w.cell? ⟨g, j, none⟩ = some xs[j] := by
  obtain ⟨a', c', e⟩ := h.slice
  simp only [Value.slice.injEq] at e
  obtain ⟨-, rfl, -⟩ := e
  rw [World.ownsRow.cellAt h j (by omega)]
  simp [hj]
theorem lit1 (w : World) (e : TypeId) (x : Value) : RowV (w.alloc (.cells #[x] e)) e (.slice (some ⟨w.heap.size, 0, none⟩) 1 1) [x] :=
  World.ownsRow_lit (base := 0) (e := e) (size := 1) w #[x] 1 (Nat.zero_le _) (by simp [maxLen]) rfl
theorem len_le (h : RowV w e v xs) : xs.length ≤ 9223372036854775807 := by
  rcases h.2 with ⟨_, h0⟩ | ⟨g, cap, cur, rfl, _, _, h1, h2, _⟩
  · omega
  · simp only [maxLen] at h2; omega
end RowV

/-- append(v, x), x a value of one cell. -/
theorem wp_appV {P : Program} {ops : Array Oper} {rest : List Oper} {o : Oper} {a : Act} {Q : Exit → Act → World → Prop} {W : World} (hgd : o.guard = none) (s x : Operand) (t e : TypeId) (z : Value) (bytes : Nat)
    (ho : o.op = .call { callee := .builtin .append, args := #[s, x], argTypes := #[t, t] })
    (ht : P.underlying t = some (.slice e)) (hinfo : (P.info? e).map (fun i => (i.zero, i.size, i.bytes)) = some (some z, 1, bytes)) (hz : z.cells.size = 1)
    (v : Value) (xs : List Value) (y : Value) (hy : y.oneCell' = true) (hs : a.eval s = v) (hx : a.eval x = .slice (some ⟨W.heap.size, 0, none⟩) 1 1) (HR : RowV W e v xs) (hl : (xs.length + 1) * bytes ≤ 140737488355328) (hl2 : xs.length ≤ 1000000000)
    (h : ∀ v1 w1, RowV w1 e v1 (xs ++ [y]) → Keeps (fp v) W w1 → (∀ b, b ∈ fp v1 → b ∈ fp v ∨ W.heap.size ≤ b) → wpList P ops Q rest (a.put o.dst v1) w1) :
    wpList P ops Q (o :: rest) a (W.alloc (.cells #[y] e)) := by
  obtain ⟨i0, hi, hzz⟩ := Option.map_eq_some_iff.1 hinfo
  simp only [Prod.mk.injEq] at hzz
  obtain ⟨hz0, hz1, hz2⟩ := hzz
  have hk : Keeps [] W (W.alloc (.cells #[y] e)) := (Keeps.refl _ _).alloc _
  have HY := RowV.lit1 W e y
  refine wpList_append_own_at _ hgd s x t ho 0 e i0 z 1 bytes ht hi hz0 hz1 hz2 hz (by omega) v xs.length xs hs (HR.keeps hk (fun _ _ => by simp)) ⟨W.heap.size, 0, none⟩ 1 1 [y] hx rfl
    (fun j u hj => ?_) (fun u hu => ?_) (by simp only [maxLen]; omega) hl (Nat.zero_le _) ?_
  · match j, hj with
    | 0, hj => cases hj; exact HY.cell 0 (by simp)
  · rw [List.mem_singleton] at hu; subst hu; exact hy
  · intro v1 w1 hown hg _ hat
    refine h v1 w1 ?_ (((Keeps.refl _ _).alloc _).grown hg (fun k hk => .inl (mem_fp.2 hk))) (fun b hb => ?_)
    · unfold RowV
      rw [List.length_append]
      simpa using hown
    · rcases fp_grown hat b hb with h4 | h4
      · exact .inl h4
      · rw [World.size_alloc] at h4; exact .inr (by omega)

/-- The slice reads as the list. -/
def PartOK (w : World) (v : Value) (ps : List Int) : Prop := ∃ a c, v = .slice a ps.length c ∧ Rd w .i64 a ps ∧ ps.length ≤ c
/-- Slices that read as lists. -/
def PartsOK (w : World) : List Value → List (List Int) → Prop
  | [], [] => True
  | v :: vs, p :: ps => PartOK w v p ∧ PartsOK w vs ps
  | _, _ => False
theorem PartOK.new {w w' : World} {v : Value} {p : List Int} (h : PartOK w v p) (hk : Keeps [] w w') : PartOK w' v p := by
  obtain ⟨a, c, h1, h2, h3⟩ := h
  exact ⟨a, c, h1, h2.new hk, h3⟩
theorem PartsOK.new {w w' : World} (hk : Keeps [] w w') : ∀ {vs : List Value} {ps : List (List Int)}, PartsOK w vs ps → PartsOK w' vs ps
  | [], [], h => h
  | v :: vs, p :: ps, h => ⟨h.1.new hk, PartsOK.new hk h.2⟩
  | [], _ :: _, h => h
  | _ :: _, [], h => h
theorem PartsOK.snoc {w : World} {v : Value} {p : List Int} (hp : PartOK w v p) : ∀ {vs : List Value} {ps : List (List Int)}, PartsOK w vs ps → PartsOK w (vs ++ [v]) (ps ++ [p])
  | [], [], _ => ⟨hp, trivial⟩
  | _ :: vs, _ :: ps, h => ⟨h.1, PartsOK.snoc hp h.2⟩
  | [], _ :: _, h => h.elim
  | _ :: _, [], h => h.elim
theorem PartsOK.length {w : World} : ∀ {vs : List Value} {ps : List (List Int)}, PartsOK w vs ps → vs.length = ps.length
  | [], [], _ => rfl
  | _ :: vs, _ :: ps, h => by rw [List.length_cons, List.length_cons, PartsOK.length h.2]
  | [], _ :: _, h => h.elim
  | _ :: _, [], h => h.elim
theorem PartsOK.at_ {w : World} : ∀ {vs : List Value} {ps : List (List Int)}, PartsOK w vs ps → ∀ i (h1 : i < vs.length) (h2 : i < ps.length), PartOK w vs[i] ps[i]
  | v :: vs, p :: ps, h, 0, _, _ => h.1
  | v :: vs, p :: ps, h, i + 1, h1, h2 => PartsOK.at_ h.2 i (by simpa using h1) (by simpa using h2)

/-! ### What cut computes -/
def chunks (size : Nat) : Nat → List Int → List (List Int)
  | 0, _ => []
  | n + 1, R => R.take size :: chunks size n (R.drop size)
def partsS (L : List Int) (order p : Nat) : List (List Int) :=
  L.take ((L.length + order) / 2 ^ p - order) :: chunks ((L.length + order) / 2 ^ p) (2 ^ p - 1) (L.drop ((L.length + order) / 2 ^ p - order))
theorem chunks_length (size : Nat) : ∀ n R, (chunks size n R).length = n := by
  intro n
  induction n with
  | zero => intro R; rfl
  | succ n ih => intro R; simp [chunks, ih]
theorem partsS_length (L : List Int) (order p : Nat) : (partsS L order p).length = 2 ^ p := by
  have : 0 < 2 ^ p := Nat.pow_pos (by omega)
  simp [partsS, chunks_length]
  omega
theorem fits_facts (n order p : Nat) (h : fitsB n order p = true) : ∃ size, n / 2 ^ p = size ∧ 2 ^ p * size = n ∧ order ≤ size := by
  have h := of_decide_eq_true h
  refine ⟨_, rfl, ?_, h.2⟩
  have := Nat.div_add_mod n (2 ^ p)
  omega
end Go.Proofs.YtofkiimaoahfjaaDoor

set_option maxRecDepth 100000
set_option linter.unusedVariables false
set_option linter.unusedSimpArgs false
namespace Go.Proofs.YtofkiimaoahfjaaDoor
open Go.RowKit

theorem Rd.tailAdd {w : World} {k : IntKind} {ad : Addr} {xs : List Int} (h : Rd w k (some ad) xs) (j : Nat) : Rd w k (some (ad.add j)) (xs.drop j) := by
  rcases Nat.eq_zero_or_pos (xs.drop j).length with h0 | h0
  · rw [List.eq_nil_of_length_eq_zero h0]
    exact Rd.nil _ _ _
  · obtain ⟨b, o, e, _⟩ := h.form (by rw [List.length_drop] at h0; omega)
    cases e
    have := h.tail rfl j
    have e2 : (⟨b, o, none⟩ : Addr).add j = ⟨b, o + j, none⟩ := by
      unfold Addr.add
      split
      · rename_i h1; subst h1; rfl
      · rfl
    rw [e2]
    exact this
theorem Rd.none_nil {w : World} {k : IntKind} {xs : List Int} (h : Rd w k none xs) : xs = [] := by
  rcases Nat.eq_zero_or_pos xs.length with h0 | h0
  · exact List.eq_nil_of_length_eq_zero h0
  · obtain ⟨b, o, e, _⟩ := h.form h0
    cases e

set_option maxHeartbeats 8000000 in
set_option maxRecDepth 100000 in
theorem rcut_calls (L : List Int) (order p n : Nat) (hn : n = L.length) (a : Option Addr) (c : Nat) (w : World) (hnc : a = none → c = 0) (hp : p ≤ 4) (hl : L.length ≤ 600) (hc : L.length ≤ c) (ho : order ≤ 8) (hf : fitsB (L.length + order) order p = true) (hx : Hid (Rd w .i64 a L)) :
    Calls Tryd.prog 61 #[.slice a n c, .int .i64 order, .int .i64 p] w fun e w' => ∃ v vs, e = .returned v ∧ RowV w' 22 v vs ∧ (∀ b, b ∈ fp v → w.heap.size ≤ b) ∧ (∀ w0, Rd w0 .i64 a L → PartsOK w0 vs (partsS L order p)) ∧ Keeps [] w w' := by
  subst hn
  obtain ⟨size, hs1, hs2, hs3⟩ := fits_facts _ _ _ hf
  obtain ⟨P, hP⟩ : ∃ P : Nat, 2 ^ p = P := ⟨_, rfl⟩
  have hPi : (2 : Int) ^ p = (P : Int) := by rw [← hP]; simp
  have hP16 : P ≤ 16 := by rw [← hP]; exact Nat.pow_le_pow_right (show 0 < 2 by omega) hp
  have hP0 : 0 < P := by rw [← hP]; exact Nat.pow_pos (by omega)
  have HPS : Hid (partsS L order p = L.take (size - order) :: chunks size (P - 1) (L.drop (size - order))) := by show _ = _; unfold partsS; rw [hs1, hP]
  rw [hP] at hs1 hs2
  have hdiv : ((L.length : Int) + (order : Int)) / (P : Int) = (size : Int) := by rw [← hs1]; simp
  have hsl : size ≤ L.length + order := by rw [← hs2]; exact Nat.le_mul_of_pos_left _ hP0
  obtain ⟨T, hT⟩ : ∃ T, (P - 1) * size = T := ⟨_, rfl⟩
  have hT2 : T + size = L.length + order := by
    rw [← hT, ← hs2]
    obtain ⟨P', rfl⟩ : ∃ P', P = P' + 1 := ⟨P - 1, by omega⟩
    rw [Nat.add_sub_cancel, Nat.add_mul, Nat.one_mul]
  have hpi : (0 : Int) ≤ (p : Int) := by omega
  have hfi : size - order ≤ L.length := by omega
  obtain ⟨f, hfe⟩ : ∃ f, size - order = f := ⟨_, rfl⟩
  have hsub : (size : Int) - (order : Int) = (f : Int) := by omega
  rw [hfe] at HPS hfi
  have hfc : f ≤ c := by omega
  have hTf : T + f = L.length := by omega
  have HT := Lib.hid hT
  clear hs1 hs2 hf hP hT hfe hT2
  go_enter Tryd.func61, Tryd.ntmps61
  go_upto_region 3 with fail
  have HRV : Hid (RowV (w.alloc (.cells #[.slice a f c] 22)) 22 (.slice (some ⟨w.heap.size, 0, none⟩) 1 1) [.slice a f c]) := RowV.lit1 w 22 _
  have HK : Hid (Keeps [] w (w.alloc (.cells #[.slice a f c] 22))) := (Keeps.refl _ _).alloc _
  have hfl : (L.take f).length = f := by rw [List.length_take]; omega
  have HPO : Hid (∀ w0, Rd w0 .i64 a L → PartsOK w0 [.slice a f c] [L.take f]) := fun w0 hr => ⟨⟨a, c, by rw [hfl], hr.take f, by rw [hfl]; omega⟩, trivial⟩
  clear hfl
  generalize w.alloc (.cells #[.slice a f c] 22) = wA at *
  obtain ⟨g8, hg8⟩ : ∃ g, w.heap.size = g := ⟨_, rfl⟩
  have HG : Hid (w.heap.size ≤ g8) := (show _ ≤ _ from by omega)
  rw [hg8] at HRV
  rw [hg8]
  clear hg8
  have hTl : (L.length : Int) - (f : Int) = (T : Int) := by omega
  go_cut [9] (fun v9 wx => wx = wA ∧ ∃ X C, v9 = .slice X T C ∧ Hid (∀ w0, Rd w0 .i64 a L → Rd w0 .i64 X (L.drop f)) ∧ Hid (X = none → C = 0) ∧ T ≤ C)
  case first =>
    cases a with
    | none =>
      have hc0 := hnc rfl
      have hL := Rd.none_nil hx.out
      subst hc0 hL
      obtain rfl : f = 0 := by simpa using hfi
      obtain rfl : T = 0 := by simpa using hTf
      go_wp2_with fail
      go_meet
      exact ⟨rfl, none, 0, rfl, (fun w0 hr => hr), (fun _ => rfl), by omega⟩
    | some ad =>
      have HD : Hid (∀ w0, Rd w0 .i64 (some ad) L → Rd w0 .i64 (some (ad.add f)) (L.drop f)) := fun w0 hr => Rd.tailAdd hr f
      have hTe : L.length - f = T := by omega
      go_wp2_with fail
      · obtain rfl : c = f := by assumption
        go_meet
        have hT0 : T = 0 := by omega
        refine ⟨rfl, some ad, 0, rfl, ?_, (fun _ => rfl), by omega⟩
        intro w0 hr
        rw [List.drop_of_length_le (by omega)]
        exact Rd.nil _ _ _
      · go_meet
        exact ⟨rfl, some (ad.add f), c - f, rfl, HD.out, (fun h => by cases h), by omega⟩
  case rest =>
    obtain ⟨rfl, X, C, rfl, HXR, HXC, hTC⟩ := hcut
    have hTl' : (L.drop f).length = T := by rw [List.length_drop]; omega
    go_wp2_with fail
    go_loopg [8, 9] P (fun q v8 v9 wr => ∃ (t R d : Nat) (dn : List (List Int)) (vs : List Value) (rest : List Int) (X : Option Addr) (C : Nat), v9 = .slice X R C ∧ R ≤ C ∧ R ≤ 600 ∧ d ≤ P ∧ Hid (R = t * size) ∧ Hid (rest.length = R) ∧ Hid (vs.length = d) ∧ Hid (d + t = P) ∧ Hid (t + 1 = q) ∧
      Hid (dn ++ chunks size t rest = partsS L order p) ∧ Hid (RowV wr 22 v8 vs) ∧ Hid (∀ b, b ∈ fp v8 → w.heap.size ≤ b) ∧ Hid (∀ w0, Rd w0 .i64 a L → PartsOK w0 vs dn) ∧ Hid (∀ w0, Rd w0 .i64 a L → Rd w0 .i64 X rest) ∧ Hid (X = none → C = 0) ∧ Hid (Keeps [] w wr))
    case atStart => exact ⟨P - 1, T, 1, [L.take f], [.slice a f c], L.drop f, X, C, rfl, hTC, by omega, by omega, HT.out.symm, hTl', (show _ = _ from rfl), (show _ = _ from by omega), (show _ = _ from by omega), HPS.out.symm, HRV.out, (fun b hb => by rw [fp_some, List.mem_singleton] at hb; rw [hb]; exact HG.out), HPO.out, HXR.out, HXC.out, HK.out⟩
    case round =>
      obtain ⟨t, R, d, dn, vs, rest, X, C, rfl, hRC, hR6, hdP, HRt, HRL, HVL, HDT, HTQ, HCH, HRow, HFp, HPs, HXd, HXn, HKr⟩ := hrel
      obtain ⟨q1, rfl⟩ : ∃ g : Nat, g = gk := ⟨_, rfl⟩
      obtain ⟨wb, rfl⟩ : ∃ x : World, x = wr := ⟨_, rfl⟩
      obtain ⟨a8, c8, he8⟩ := HRow.out.slice
      subst he8
      have hvl := HVL.out
      rw [hvl] at HRow HFp ⊢
      clear hvl
      by_cases hd : d < P
      · obtain ⟨t', rfl⟩ : ∃ t', t = t' + 1 := ⟨t - 1, by have := HDT.out; omega⟩
        have hR2 : R = t' * size + size := by rw [HRt.out, Nat.add_mul, Nat.one_mul]
        obtain ⟨R', hR'⟩ : ∃ R', t' * size = R' := ⟨_, rfl⟩
        have HR' := Lib.hid hR'
        rw [hR'] at hR2
        have hsR : size ≤ R := by omega
        have hsC : size ≤ C := by omega
        have hRs : R - size = R' := by omega
        have hRi : (R : Int) - (size : Int) = (R' : Int) := by omega
        have htl : (rest.take size).length = size := by rw [List.length_take, HRL.out]; omega
        have HPN : Hid (∀ w0, Rd w0 .i64 a L → PartsOK w0 (vs ++ [.slice X size C]) (dn ++ [rest.take size])) := fun w0 hr => PartsOK.snoc ⟨X, C, by rw [htl], (HXd.out w0 hr).take size, by rw [htl]; exact hsC⟩ (HPs.out w0 hr)
        have HCN : Hid ((dn ++ [rest.take size]) ++ chunks size t' (rest.drop size) = partsS L order p) := by
          show _ = _
          rw [← HCH.out, List.append_assoc]
          rfl
        have HDL : Hid ((rest.drop size).length = R') := (show _ = _ from by rw [List.length_drop, HRL.out]; omega)
        have HVB : Hid ((vs.length + 1) * 24 ≤ 140737488355328 ∧ vs.length ≤ 1000000000) := (show _ ∧ _ from by rw [HVL.out]; omega)
        clear hR' htl
        cases X with
        | none =>
          have hr0 := Rd.none_nil (HXd.out w hx.out)
          have hc0 := HXn.out rfl
          subst hr0 hc0
          obtain rfl : R = 0 := by have := HRL.out; simpa using this.symm
          obtain rfl : size = 0 := by omega
          obtain rfl : R' = 0 := by omega
          clear hR2 hRs hRi hdiv hsub hsR hsC
          go_wp2_with (first
            | (at_builtin; go_must (refine wp_appV (W := wb) rfl (.tmp 35) (.tmp 39) 104 22 (.slice none 0 0) 24 rfl Tryd.underlying104 info_sl rfl (.slice a8 d c8) vs (.slice none 0 0) rfl rfl rfl HRow.out HVB.out.1 HVB.out.2 ?_); intro v1 w1 hr1 hk1 hf1; have HR1 := Lib.hid hr1; have HK1 : Hid (Keeps [] w w1) := HKr.out.then_ hk1 (fun b hb hlt => by have := HFp.out b hb; omega); have HF1 : Hid (∀ b, b ∈ fp v1 → w.heap.size ≤ b) := (fun b hb => by rcases hf1 b hb with h | h; (exact HFp.out b h); (exact Nat.le_trans HKr.out.size h)); clear hr1 hk1 hf1))
          go_roundg (t' + 1)
          case measure => have := HTQ.out; omega
          case rel => exact ⟨t', 0, d + 1, _, _, _, none, 0, rfl, by omega, by omega, by omega, HR'.out.symm, HDL.out, (show _ = _ from by rw [List.length_append, HVL.out]; rfl), (show _ = _ from by have := HDT.out; omega), (show _ = _ from rfl), HCN.out, HR1.out, HF1.out, HPN.out, HXd.out, (fun _ => rfl), HK1.out⟩
        | some ad =>
          have HXT : Hid (∀ w0, Rd w0 .i64 a L → Rd w0 .i64 (some (ad.add size)) (rest.drop size)) := fun w0 hr => Rd.tailAdd (HXd.out w0 hr) size
          go_wp2_with (first
            | (at_builtin; go_must (refine wp_appV (W := wb) rfl (.tmp 35) (.tmp 39) 104 22 (.slice none 0 0) 24 rfl Tryd.underlying104 info_sl rfl (.slice a8 d c8) vs (.slice (some ad) size C) rfl rfl rfl HRow.out HVB.out.1 HVB.out.2 ?_); intro v1 w1 hr1 hk1 hf1; have HR1 := Lib.hid hr1; have HK1 : Hid (Keeps [] w w1) := HKr.out.then_ hk1 (fun b hb hlt => by have := HFp.out b hb; omega); have HF1 : Hid (∀ b, b ∈ fp v1 → w.heap.size ≤ b) := (fun b hb => by rcases hf1 b hb with h | h; (exact HFp.out b h); (exact Nat.le_trans HKr.out.size h)); clear hr1 hk1 hf1))
          · obtain rfl : C = size := by assumption
            have hR0 : R' = 0 := by omega
            have hnil : rest.drop C = [] := List.eq_nil_of_length_eq_zero (by rw [HDL.out]; exact hR0)
            have HNIL : Hid (∀ w0, Rd w0 .i64 a L → Rd w0 .i64 (some ad) (rest.drop C)) := by
              intro w0 hr
              rw [hnil]
              exact Rd.nil _ _ _
            clear hnil
            go_roundg (t' + 1)
            case measure => have := HTQ.out; omega
            case rel => exact ⟨t', R', d + 1, _, _, _, some ad, 0, (by first | rfl | (congr 1; omega)), by omega, by omega, by omega, HR'.out.symm, HDL.out, (show _ = _ from by rw [List.length_append, HVL.out]; rfl), (show _ = _ from by have := HDT.out; omega), (show _ = _ from rfl), HCN.out, HR1.out, HF1.out, HPN.out, HNIL.out, (fun _ => rfl), HK1.out⟩
          · go_roundg (t' + 1)
            case measure => have := HTQ.out; omega
            case rel => exact ⟨t', R', d + 1, _, _, _, some (ad.add size), C - size, (by first | rfl | (congr 1; omega)), by omega, by omega, by omega, HR'.out.symm, HDL.out, (show _ = _ from by rw [List.length_append, HVL.out]; rfl), (show _ = _ from by have := HDT.out; omega), (show _ = _ from rfl), HCN.out, HR1.out, HF1.out, HPN.out, HXT.out, (fun h => by cases h), HK1.out⟩
      · obtain rfl : d = P := by omega
        obtain rfl : t = 0 := by have := HDT.out; omega
        have hch := HCH.out
        have hdn : dn = partsS L order p := by rw [← hch]; simp [chunks]
        subst hdn
        clear hch
        go_wp2_with fail
        go_ret
        exact ⟨_, vs, rfl, HRow.out, HFp.out, HPs.out, HKr.out⟩
end Go.Proofs.YtofkiimaoahfjaaDoor

set_option maxRecDepth 100000
set_option linter.unusedVariables false
set_option linter.unusedSimpArgs false
namespace Go.Proofs.YtofkiimaoahfjaaDoor
open Go.RowKit

abbrev T3 := Int × Int × Int
/-! ### What choose computes -/
def candGo (m : Nat) : List (List Int) → List T3 → Int → List T3 × Int × Bool
  | [], acc, s => (acc, s, true)
  | c :: cs, acc, s => if (bestS c m).2 = true then candGo m cs (acc ++ [(bestS c m).1]) (s + ((4 + m : Nat) + (bestS c m).1.2.2)) else (acc, s, false)
abbrev PS := Int × Int × List T3 × Int
def stepM (L : List Int) (order p : Nat) (st : PS) (m : Nat) : PS :=
  if (candGo m (partsS L order p) [] 6).2.2 = true ∧ (st.2.2.2 < 0 ∨ (candGo m (partsS L order p) [] 6).2.1 < st.2.2.2) then ((m : Int), (p : Int), (candGo m (partsS L order p) [] 6).1, (candGo m (partsS L order p) [] 6).2.1) else st
def loopM (L : List Int) (order p : Nat) (st : PS) (n : Nat) : PS := (List.range n).foldl (stepM L order p) st
def stepP (L : List Int) (order : Nat) (st : PS) (p : Nat) : PS := if fitsB (L.length + order) order p = true then loopM L order p st 2 else st
def loopP (L : List Int) (order n : Nat) : PS := (List.range n).foldl (stepP L order) (0, 0, [], -1)
def chooseS (L : List Int) (order : Nat) : PS := loopP L order 5
theorem loopM_zero (L : List Int) (order p : Nat) (st : PS) : loopM L order p st 0 = st := rfl
theorem loopM_succ (L : List Int) (order p : Nat) (st : PS) (n : Nat) : loopM L order p st (n + 1) = stepM L order p (loopM L order p st n) n := by simp [loopM, List.range_succ, List.foldl_append]
theorem loopP_zero (L : List Int) (order : Nat) : loopP L order 0 = (0, 0, [], -1) := rfl
theorem loopP_succ (L : List Int) (order n : Nat) : loopP L order (n + 1) = stepP L order (loopP L order n) n := by simp [loopP, List.range_succ, List.foldl_append]

theorem chunks_mem (size : Nat) : ∀ n R, ∀ ps ∈ chunks size n R, ∀ x ∈ ps, x ∈ R := by
  intro n
  induction n with
  | zero => intro R ps h; cases h
  | succ n ih =>
    intro R ps h x hx
    rcases List.mem_cons.1 h with rfl | h
    · exact List.mem_of_mem_take hx
    · exact List.mem_of_mem_drop (ih _ ps h x hx)
theorem chunks_len (size : Nat) : ∀ n R, ∀ ps ∈ chunks size n R, ps.length ≤ R.length := by
  intro n
  induction n with
  | zero => intro R ps h; cases h
  | succ n ih =>
    intro R ps h
    rcases List.mem_cons.1 h with rfl | h
    · simp; omega
    · have := ih _ ps h
      simp at this
      omega
theorem partsS_mem (L : List Int) (order p : Nat) : ∀ ps ∈ partsS L order p, (∀ x ∈ ps, x ∈ L) ∧ ps.length ≤ L.length := by
  intro ps h
  unfold partsS at h
  rcases List.mem_cons.1 h with rfl | h
  · exact ⟨fun x hx => List.mem_of_mem_take hx, by simp; omega⟩
  · refine ⟨fun x hx => List.mem_of_mem_drop (chunks_mem _ _ _ ps h x hx), ?_⟩
    have := chunks_len _ _ _ ps h
    simp at this
    omega

theorem bestS_range (c : List Int) (m : Nat) (hm : m ≤ 1) (hl : c.length ≤ 600) (hin : ∀ n ∈ c, -2147483648 < n ∧ n < 2147483648) : 0 ≤ (bestS c m).1.2.2 ∧ (bestS c m).1.2.2 ≤ 10000000000000 := by
  have hE31 : escS m ≤ 31 := by rcases (show m = 0 ∨ m = 1 by omega) with rfl | rfl <;> decide
  have h1 := loopK_range (c.map foldS) (escS m) (by omega) (by rw [List.length_map]; omega) (folds_range c hin)
  have h2 := widthS_range c
  unfold bestS
  split
  · have a : 0 ≤ widthS c * (c.length : Int) := Int.mul_nonneg h2.1 (by omega)
    have b : widthS c * (c.length : Int) ≤ 65 * 600 := Int.mul_le_mul h2.2 (by omega) (by omega) (by omega)
    constructor
    · show 0 ≤ 5 + widthS c * (c.length : Int)
      omega
    · show 5 + widthS c * (c.length : Int) ≤ 10000000000000
      omega
  · exact h1

/-! ### Rows of structs of three numbers -/
def tri3 (o : T3) : List Value := [.int .i64 o.1, .int .i64 o.2.1, .int .i64 o.2.2]
def RowT (w : World) (e : TypeId) (v : Value) (zs : List T3) : Prop := w.ownsRow 0 e 3 v zs.length (zs.flatMap tri3)
theorem tri3_length (zs : List T3) : (zs.flatMap tri3).length = zs.length * 3 := by
  induction zs with
  | nil => rfl
  | cons z zs ih => rw [List.flatMap_cons, List.length_append, ih, List.length_cons]; simp [tri3]; omega
theorem tri3_get (zs : List T3) : ∀ i (h : i < zs.length), (zs.flatMap tri3)[i * 3]? = some (.int .i64 zs[i].1) ∧ (zs.flatMap tri3)[i * 3 + 1]? = some (.int .i64 zs[i].2.1) ∧ (zs.flatMap tri3)[i * 3 + 2]? = some (.int .i64 zs[i].2.2) := by
  induction zs with
  | nil => intro i h; simp at h
  | cons z zs ih =>
    intro i h
    cases i with
    | zero => exact ⟨rfl, rfl, rfl⟩
    | succ i =>
      obtain ⟨h0, h1, h2⟩ := ih i (by simpa using h)
      have e : (z :: zs).flatMap tri3 = [.int .i64 z.1, .int .i64 z.2.1, .int .i64 z.2.2] ++ zs.flatMap tri3 := rfl
      rw [e]
      refine ⟨?_, ?_, ?_⟩
      · rw [List.getElem?_append_right (by simp; omega), show (i + 1) * 3 - _ = i * 3 by simp; omega]; exact h0
      · rw [List.getElem?_append_right (by simp; omega), show (i + 1) * 3 + 1 - _ = i * 3 + 1 by simp; omega]; exact h1
      · rw [List.getElem?_append_right (by simp; omega), show (i + 1) * 3 + 2 - _ = i * 3 + 2 by simp; omega]; exact h2
namespace RowT
variable {w w' : World} {e : TypeId} {v : Value} {zs : List T3}
theorem nil (w : World) (e : TypeId) : RowT w e (.slice none 0 0) [] := World.ownsRow_nil w 0 e 3
theorem keeps (h : RowT w e v zs) {F : List Nat} (hk : Keeps F w w') (hd : ∀ b, b ∈ fp v → b ∉ F) : RowT w' e v zs := by
  refine ⟨h.1, ?_⟩
  rcases h.2 with hn | ⟨g, cap, cur, rfl, hb, hg, rest⟩
  · exact .inl hn
  · refine .inr ⟨g, cap, cur, rfl, hb, ?_, rest⟩
    rw [hk.block g (Array.getElem?_eq_some_iff.1 hg).1 (hd g (by simp [fp, Value.ownBlock]))]
    exact hg
theorem new (h : RowT w e v zs) (hk : Keeps [] w w') : RowT w' e v zs := h.keeps hk (fun _ _ => by simp)
theorem lt (h : RowT w e v zs) : ∀ b, b ∈ fp v → b < w.heap.size := fun b hb => (World.ownsRow.lt h b (mem_fp.1 hb)).2
theorem slice (h : RowT w e v zs) : ∃ a cap, v = .slice a zs.length cap := by
  rcases h.2 with ⟨rfl, h0⟩ | ⟨g, cap, cur, rfl, _⟩
  · exact ⟨none, 0, by rw [h0]⟩
  · exact ⟨_, cap, rfl⟩
theorem form (h : RowT w e v zs) (hn : 0 < zs.length) : ∃ g cap, v = .slice (some ⟨g, 0, none⟩) zs.length cap := by
  rcases h.2 with ⟨_, h0⟩ | ⟨g, cap, cur, rfl, _⟩
  · omega
  · exact ⟨g, cap, rfl⟩
theorem cells {g cap n : Nat} (h : RowT w e (.slice (some ⟨g, 0, none⟩) n cap) zs) (i : Nat) (hi : i < zs.length) :
    w.cell? ⟨g, i * 3, none⟩ = some (.int .i64 zs[i].1) ∧ w.cell? ⟨g, i * 3 + 1, none⟩ = some (.int .i64 zs[i].2.1) ∧ w.cell? ⟨g, i * 3 + 2, none⟩ = some (.int .i64 zs[i].2.2) := by
  obtain ⟨a', c', e⟩ := h.slice
  simp only [Value.slice.injEq] at e
  obtain ⟨-, rfl, -⟩ := e
  obtain ⟨h0, h1, h2⟩ := tri3_get zs i hi
  exact ⟨by rw [World.ownsRow.cellAt h _ (by omega)]; exact h0, by rw [World.ownsRow.cellAt h _ (by omega)]; exact h1, by rw [World.ownsRow.cellAt h _ (by omega)]; exact h2⟩
end RowT

/-- append(v, o), o a struct of three numbers. -/
theorem wp_appT {P : Program} {ops : Array Oper} {rest : List Oper} {o : Oper} {a : Act} {Q : Exit → Act → World → Prop} {W : World} (hgd : o.guard = none) (s x : Operand) (t e : TypeId)
    (ho : o.op = .call { callee := .builtin .append, args := #[s, x], argTypes := #[t, t] })
    (ht : P.underlying t = some (.slice e)) (hinfo : (P.info? e).map (fun i => (i.zero, i.size, i.bytes)) = some (some (.agg #[.int .i64 0, .int .i64 0, .int .i64 0]), 3, 24))
    (v : Value) (zs : List T3) (y : T3) (hs : a.eval s = v) (hx : a.eval x = .slice (some ⟨W.heap.size, 0, none⟩) 1 1) (HR : RowT W e v zs) (hl : zs.length ≤ 1000000)
    (h : ∀ v1 w1, RowT w1 e v1 (zs ++ [y]) → Keeps (fp v) W w1 → (∀ b, b ∈ fp v1 → b ∈ fp v ∨ W.heap.size ≤ b) → wpList P ops Q rest (a.put o.dst v1) w1) :
    wpList P ops Q (o :: rest) a (W.alloc (.cells #[.int .i64 y.1, .int .i64 y.2.1, .int .i64 y.2.2] e)) := by
  obtain ⟨i0, hi, hzz⟩ := Option.map_eq_some_iff.1 hinfo
  simp only [Prod.mk.injEq] at hzz
  obtain ⟨hz0, hz1, hz2⟩ := hzz
  have hk : Keeps [] W (W.alloc (.cells #[.int .i64 y.1, .int .i64 y.2.1, .int .i64 y.2.2] e)) := (Keeps.refl _ _).alloc _
  have hT : Tri3 (W.alloc (.cells #[.int .i64 y.1, .int .i64 y.2.1, .int .i64 y.2.2] e)) W.heap.size e y.1 y.2.1 y.2.2 := ⟨heap_alloc_new _ _⟩
  refine wpList_append_own_at _ hgd s x t ho 0 e i0 _ 3 24 ht hi hz0 hz1 hz2 rfl (by omega) v zs.length (zs.flatMap tri3) hs (HR.keeps hk (fun _ _ => by simp)) ⟨W.heap.size, 0, none⟩ 1 1 (tri3 y) hx rfl
    (fun j u hj => ?_) (fun u hu => ?_) (by simp only [maxLen]; omega) (by omega) (Nat.zero_le _) ?_
  · match j, hj with
    | 0, hj => cases hj; exact hT.c0
    | 1, hj => cases hj; exact hT.c1
    | 2, hj => cases hj; exact hT.c2
  · simp only [tri3, List.mem_cons, List.not_mem_nil, or_false] at hu
    rcases hu with rfl | rfl | rfl <;> rfl
  · intro v1 w1 hown hg _ hat
    refine h v1 w1 ?_ (((Keeps.refl _ _).alloc _).grown hg (fun k hk => .inl (mem_fp.2 hk))) (fun b hb => ?_)
    · unfold RowT
      rw [List.length_append, List.flatMap_append]
      simpa using hown
    · rcases fp_grown hat b hb with h4 | h4
      · exact .inl h4
      · rw [World.size_alloc] at h4; exact .inr (by omega)

/-- A block of four cells. -/
structure Quad (w : World) (g : Nat) (T : TypeId) (a b c d : Value) : Prop where
  hp : w.heap[g]? = some (.cells #[a, b, c, d] T (0, 0))
namespace Quad
variable {w w' : World} {g : Nat} {T : TypeId} {a b c d : Value}
theorem keeps {F : List Nat} (h : Quad w g T a b c d) (hk : Keeps F w w') (hg : g ∉ F) : Quad w' g T a b c d := ⟨(hk.block g (Array.getElem?_eq_some_iff.1 h.hp).1 hg).trans h.hp⟩
theorem c0 (h : Quad w g T a b c d) : w.cell? ⟨g, 0, none⟩ = some a := by unfold World.cell?; rw [h.hp]; rfl
theorem c1 (h : Quad w g T a b c d) : w.cell? ⟨g, 1, none⟩ = some b := by unfold World.cell?; rw [h.hp]; rfl
theorem c2 (h : Quad w g T a b c d) : w.cell? ⟨g, 2, none⟩ = some c := by unfold World.cell?; rw [h.hp]; rfl
theorem c3 (h : Quad w g T a b c d) : w.cell? ⟨g, 3, none⟩ = some d := by unfold World.cell?; rw [h.hp]; rfl
theorem frozen (h : Quad w g T a b c d) (j : Nat) : w.frozen? ⟨g, j, none⟩ = false := frozen_of_row w g j _ T h.hp
theorem lt (h : Quad w g T a b c d) : g < w.heap.size := (Array.getElem?_eq_some_iff.1 h.hp).1
theorem set2 (h : Quad w g T a b c d) (c' : Value) : Quad (w.setCell ⟨g, 2, none⟩ c') g T a b c' d := ⟨b_blk_set h.hp 2 _⟩
theorem set3 (h : Quad w g T a b c d) (d' : Value) : Quad (w.setCell ⟨g, 3, none⟩ d') g T a b c d' := ⟨b_blk_set h.hp 3 _⟩
theorem set (h : Quad w g T a b c d) (a' b' c' d' : Value) : Quad ((((w.setCell ⟨g, 0, none⟩ a').setCell ⟨g, 1, none⟩ b').setCell ⟨g, 2, none⟩ c').setCell ⟨g, 3, none⟩ d') g T a' b' c' d' :=
  ⟨b_blk_set (b_blk_set (b_blk_set (b_blk_set h.hp 0 _) 1 _) 2 _) 3 _⟩
end Quad
end Go.Proofs.YtofkiimaoahfjaaDoor
