/-
  Layer 3: what the laws with scripts of calls want besides: none, nobody, the cells of a script.
-/
import Derived.Test.YtofkiimaoahfjaaDoorZRef3a
import Derived.Test.YtofkiimaoahfjaaDoorZOps
import Derived.Laws.Concat
set_option maxRecDepth 100000
set_option linter.unusedVariables false
set_option linter.unusedSimpArgs false
namespace Go.Proofs.YtofkiimaoahfjaaDoor
open Go.RowKit Go.Proofs.YtofkiimaoahfjaaDoor.Pure

/-- Digits behind digits. -/
theorem run_dstr_add (P : Program) (a b : List Bool) (h : a.length + b.length ≤ 9223372036854775807) (W : World) : (Op.stringOp .add (dstr a) (dstr b)).run P W = .ok (.string (dstr (a ++ b))) W := by
  rw [run_string_add_sum W _ _ (by rw [dstr_size, dstr_size]; exact h), dstr_append]

/-- The script's i-th call, as the world has it. -/
structure OpAt (w : World) (b o i : Nat) (kd n k : Int) : Prop where
  c0 : w.cell? ⟨b, o + i * 3, none⟩ = some (.int .i64 kd)
  c1 : w.cell? ⟨b, o + i * 3 + 1, none⟩ = some (.int .i64 n)
  c2 : w.cell? ⟨b, o + i * 3 + 2, none⟩ = some (.int .i64 k)
  rd : -9223372036854775808 ≤ kd ∧ kd ≤ 9223372036854775807
  rn : -9223372036854775808 ≤ n ∧ n ≤ 9223372036854775807
  rk : -9223372036854775808 ≤ k ∧ k ≤ 9223372036854775807
theorem OpAt.new {w w' : World} {b o i : Nat} {kd n k : Int} (h : OpAt w b o i kd n k) (hk : Keeps [] w w') : OpAt w' b o i kd n k :=
  ⟨hk.cell h.c0 (by simp), hk.cell h.c1 (by simp), hk.cell h.c2 (by simp), h.rd, h.rn, h.rk⟩
theorem InOps.at {w : World} {a : Option Addr} {len cap : Nat} {z : List (Int × Int × Int)} (h : InOps w a len cap z) :
    len ≤ cap ∧ ∀ i, i < len → ∃ b o kd n k, a = some ⟨b, o, none⟩ ∧ OpAt w b o i kd n k := by
  rcases h with ⟨rfl, rfl, rfl, rfl⟩ | ⟨x, rfl, hlc, hmx, hzl, hat⟩
  · exact ⟨Nat.le_refl _, fun i hi => by omega⟩
  · refine ⟨hlc, fun i hi => ?_⟩
    have hz : i < z.length := by omega
    obtain ⟨h0, h1, h2, r0, r1, r2⟩ := hat i z[i] (List.getElem?_eq_getElem hz)
    have hs : x.spot = none := by
      obtain ⟨g0, _⟩ := hat 0 (z[0]'(by omega)) (List.getElem?_eq_getElem _)
      rw [show x.add (0 * 3) = x from by simp [Addr.add]] at g0
      unfold World.cell? at g0
      split at g0
      · split at g0
        · cases g0
        · rename_i h1; simpa using h1
      · cases g0
    obtain ⟨b, o, s⟩ := x
    obtain rfl : s = none := hs
    have e : ∀ m : Nat, (⟨b, o, none⟩ : Addr).add m = ⟨b, o + m, none⟩ := by
      intro m
      unfold Addr.add
      split
      · rename_i h0; subst h0; rfl
      · rfl
    rw [e] at h0 h1 h2
    rw [← Nat.add_assoc] at h1 h2
    exact ⟨b, o, _, _, _, rfl, h0, h1, h2, wf_i64 r0, wf_i64 r1, wf_i64 r2⟩
end Go.Proofs.YtofkiimaoahfjaaDoor
