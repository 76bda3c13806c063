/-
  Layer 6 (rice), the small functions: bits, escape, right, fits, check.
  Layer 6 (rice): best, what it computes.
  Layer 6 (rice): best, the walk.
-/
import Derived.Test.YtofkiimaoahfjaaDoorZBoth
import Derived.Test.YtofkiimaoahfjaaDoorZFold
import Derived.Test.YtofkiimaoahfjaaDoorZApp
import Derived.Test.YtofkiimaoahfjaaDoorZBits4
set_option maxRecDepth 100000
set_option linter.unusedVariables false
set_option linter.unusedSimpArgs false
namespace Go.Proofs.YtofkiimaoahfjaaDoor
open Go.RowKit

theorem rwide_calls (x : Int) (w : World) :
    Calls Tryd.prog 93 #[.int .i64 x] w fun e w' => e = .returned (.bool (!inB x)) ∧ w = w' := by
  by_cases h1 : x ≤ -2147483648
  · go_enter Tryd.func93, Tryd.ntmps93
    go_wp2
    go_ret
    have : ¬ (-2147483648 < x) := by omega
    simp [inB, this]
  · by_cases h2 : 2147483648 ≤ x
    · go_enter Tryd.func93, Tryd.ntmps93
      go_wp2
      go_ret
      have : ¬ (x < 2147483648) := by omega
      simp [inB, this]
    · go_enter Tryd.func93, Tryd.ntmps93
      go_wp2
      go_ret
      have e1 : -2147483648 < x := by omega
      have e2 : x < 2147483648 := by omega
      simp [inB, e1, e2]

set_option maxHeartbeats 1000000 in
theorem rindex_wide (xs : List Int) (m : Nat) (hm : m = xs.length) (a : Option Addr) (c : Nat) (w : World) (hx : Hid (Rd w .i64 a xs)) :
    Calls Tryd.prog 84 #[.slice a m c, .func (.func 93) #[] #[]] w fun e w' => e = .returned (.int .i64 (idxOf inB xs)) ∧ w = w' := by
  subst hm
  have hxl := hx.out.small
  go_enter Tryd.func84, Tryd.ntmps84
  go_wp2_with fail
  go_loopg [5, 8] (xs.length + 1) (fun q v5 v8 w2 => w2 = w ∧ ∃ (i : Nat), v8 = .int .i64 i ∧ i ≤ xs.length ∧ Hid ((xs.drop i).all inB = xs.all inB) ∧ Hid (∀ j (h : j < xs.length), j < i → inB xs[j] = true) ∧ Hid (i + q = xs.length + 1))
  case atStart => exact ⟨rfl, 0, rfl, by omega, (show _ = _ from by simp), (fun j h h0 => by omega), (show _ = _ from by omega)⟩
  case round =>
    obtain ⟨rfl, i, rfl, hi, HT, HF, HQ⟩ := hrel
    by_cases hlt : i < xs.length
    · obtain ⟨b1, o1, rfl, hc1⟩ := hx.out.cellAt i hlt
      obtain ⟨x, hx1⟩ : ∃ x, xs[i] = x := ⟨_, rfl⟩
      rw [hx1] at hc1
      have HS := Lib.hid (all_step inB xs i hlt x hx1 HT.out)
      have HN := Lib.hid (all_no inB xs i hlt x hx1 HT.out)
      have HX := Lib.hid hx1
      clear hx1
      cases hb : inB x
      · have HB := Lib.hid hb
        clear hb
        go_wp2_with (first
          | (go_at_call 93; go_must (refine (rwide_calls _ _).mono ?_); rw [HB.out]; rintro e w1 ⟨rfl, rfl⟩))
        go_ret
        refine ⟨?_, rfl⟩
        rw [idx_at inB xs i hlt (by rw [HX.out, HB.out]) HF.out]
        rfl
      · have HB := Lib.hid hb
        clear hb
        go_wp2_with (first
          | (go_at_call 93; go_must (refine (rwide_calls _ _).mono ?_); rw [HB.out]; rintro e w1 ⟨rfl, rfl⟩))
        go_roundg (xs.length - i)
        case measure => have := HQ.out; omega
        case rel =>
          refine ⟨rfl, i + 1, by go_num, by omega, HS.out HB.out, (fun j h hj => ?_), (show _ = _ from by omega)⟩
          rcases Nat.lt_or_ge j i with h1 | h1
          · exact HF.out j h h1
          · obtain rfl : j = i := by omega
            rw [HX.out, HB.out]
    · obtain rfl : i = xs.length := by omega
      go_wp2
      go_ret
      refine ⟨?_, rfl⟩
      rw [idx_all inB xs (all_end inB xs HT.out)]
      rfl

theorem rcontains_wide (xs : List Int) (m : Nat) (hm : m = xs.length) (a : Option Addr) (c : Nat) (w : World) (hx : Hid (Rd w .i64 a xs)) :
    Calls Tryd.prog 50 #[.slice a m c, .func (.func 93) #[] #[]] w fun e w' => e = .returned (.bool (!xs.all inB)) ∧ w = w' := by
  subst hm
  go_enter Tryd.func50, Tryd.ntmps50
  cases hb : xs.all inB
  · have HB := Lib.hid hb
    clear hb
    have h0 := idx_no inB xs HB.out
    generalize hr : idxOf inB xs = r at h0
    have HR := Lib.hid hr
    clear hr
    go_wp2_with (first
      | (go_at_call 84; go_must (with_reducible refine (rindex_wide xs _ rfl a c _ hx).mono ?_); rw [HR.out]; rintro e w1 ⟨rfl, rfl⟩))
    go_ret
    exact ⟨rfl, rfl⟩
  · have HB := Lib.hid hb
    clear hb
    go_wp2_with (first
      | (go_at_call 84; go_must (with_reducible refine (rindex_wide xs _ rfl a c _ hx).mono ?_); rw [idx_all inB xs HB.out]; rintro e w1 ⟨rfl, rfl⟩))
    go_ret
    exact ⟨rfl, rfl⟩


theorem mbits_calls (m : Nat) (w : World) (hm : m ≤ 1) :
    Calls Tryd.prog 62 #[.int .i64 m] w fun e w' => e = .returned (.int .i64 ((4 + m : Nat) : Int)) ∧ w = w' := by
  rcases (show m = 0 ∨ m = 1 by omega) with rfl | rfl
  all_goals
    go_enter Tryd.func62, Tryd.ntmps62
    go_wp2
    go_ret
    exact ⟨rfl, rfl⟩
/-- The parameter that is none. -/
def escS (m : Nat) : Nat := 2 ^ (4 + m) - 1
theorem escape_calls (m : Nat) (w : World) (hm : m ≤ 1) :
    Calls Tryd.prog 63 #[.int .i64 m] w fun e w' => e = .returned (.int .i64 (escS m : Int)) ∧ w = w' := by
  rcases (show m = 0 ∨ m = 1 by omega) with rfl | rfl
  all_goals
    go_enter Tryd.func63, Tryd.ntmps63
    go_wp2_with (first
      | (go_at_call 62; go_must (first | (refine (mbits_calls 0 _ (by omega)).mono ?_; rintro e w1 ⟨rfl, rfl⟩) | (refine (mbits_calls 1 _ (by omega)).mono ?_; rintro e w1 ⟨rfl, rfl⟩))))
    go_ret
    exact ⟨rfl, rfl⟩

/-- Is there such a block? -/
def rblockB (n order : Int) : Bool := decide (1 ≤ n ∧ n ≤ 512 ∧ 0 ≤ order ∧ order ≤ 8 ∧ order ≤ n)
theorem rright_calls (n order : Int) (w : World) (h0 : -9223372036854775808 ≤ n ∧ n ≤ 9223372036854775807) (h1 : -9223372036854775808 ≤ order ∧ order ≤ 9223372036854775807) :
    Calls Tryd.prog 92 #[.int .i64 n, .int .i64 order] w fun e w' => e = .returned (.bool (rblockB n order)) ∧ w = w' := by
  by_cases a1 : 1 ≤ n
  · by_cases a2 : n ≤ 512
    · by_cases a3 : 0 ≤ order
      · by_cases a4 : order ≤ 8 ∧ order ≤ n
        · have hmin : order ≤ (if n < 8 then n else 8) := by split <;> omega
          have e : rblockB n order = true := decide_eq_true ⟨a1, a2, a3, a4.1, a4.2⟩
          rw [e]
          go_enter Tryd.func92, Tryd.ntmps92
          go_wp2
          all_goals
            go_ret
            first | exact ⟨rfl, rfl⟩ | exact ⟨by simp; omega, rfl⟩
        · have e : rblockB n order = false := decide_eq_false (by omega)
          rw [e]
          go_enter Tryd.func92, Tryd.ntmps92
          go_wp2
          all_goals
            go_ret
            first | exact ⟨rfl, rfl⟩ | exact ⟨by simp; omega, rfl⟩
      · have e : rblockB n order = false := decide_eq_false (by omega)
        rw [e]
        go_enter Tryd.func92, Tryd.ntmps92
        go_wp2
        go_ret
        exact ⟨rfl, rfl⟩
    · have e : rblockB n order = false := decide_eq_false (by omega)
      rw [e]
      go_enter Tryd.func92, Tryd.ntmps92
      go_wp2
      go_ret
      exact ⟨rfl, rfl⟩
  · have e : rblockB n order = false := decide_eq_false (by omega)
    rw [e]
    go_enter Tryd.func92, Tryd.ntmps92
    go_wp2
    go_ret
    exact ⟨rfl, rfl⟩

/-- check's error. -/
def rchkE (L : List Int) (order : Int) : Int := if rblockB (L.length + order) order then (if L.all inB then 0 else 12) else 1
theorem rcheck_calls (L : List Int) (order : Int) (n : Nat) (hn : n = L.length) (a : Option Addr) (c : Nat) (w : World) (h1 : -9223372036854775808 ≤ order ∧ order ≤ 9223372036854775807) (hl : L.length ≤ 1000000) (hx : Hid (Rd w .i64 a L)) :
    Calls Tryd.prog 59 #[.slice a n c, .int .i64 order] w fun e w' => e = .returned (.int .i64 (rchkE L order)) ∧ w = w' := by
  subst hn
  have hsm := hx.out.small
  by_cases a1 : order < 0 ∨ 8 < order
  · have e : rchkE L order = 1 := by
      unfold rchkE
      rw [if_neg]
      unfold rblockB
      rw [decide_eq_false (by omega)]
      simp
    rw [e]
    have a1' : order < 0 ∨ (0 ≤ order ∧ 8 < order) := by omega
    clear a1 e
    rcases a1' with h | ⟨h0, h⟩
    all_goals
      go_enter Tryd.func59, Tryd.ntmps59
      go_wp2
      go_ret
      exact ⟨rfl, rfl⟩
  · cases hb : rblockB (L.length + order) order
    · have e : rchkE L order = 1 := by unfold rchkE; rw [hb]; rfl
      rw [e]
      have HB := Lib.hid hb
      clear e hb
      go_enter Tryd.func59, Tryd.ntmps59
      go_wp2_with (first
        | (go_at_call 92; go_must (refine (rright_calls _ _ _ (by omega) (by omega)).mono ?_; rw [HB.out]; rintro e w1 ⟨rfl, rfl⟩)))
      go_ret
      exact ⟨rfl, rfl⟩
    · have HB := Lib.hid hb
      cases hi : L.all inB
      · have e : rchkE L order = 12 := by unfold rchkE; rw [hb, hi]; rfl
        rw [e]
        have HI := Lib.hid hi
        clear e hb hi
        go_enter Tryd.func59, Tryd.ntmps59
        go_wp2_with (first
          | (go_at_call 92; go_must (refine (rright_calls _ _ _ (by omega) (by omega)).mono ?_; rw [HB.out]; rintro e w1 ⟨rfl, rfl⟩))
          | (go_at_call 50; go_must (with_reducible refine (rcontains_wide L _ rfl a c _ hx).mono ?_; rw [HI.out]; rintro e w1 ⟨rfl, rfl⟩)))
        go_ret
        exact ⟨rfl, rfl⟩
      · have e : rchkE L order = 0 := by unfold rchkE; rw [hb, hi]; rfl
        rw [e]
        have HI := Lib.hid hi
        clear e hb hi
        go_enter Tryd.func59, Tryd.ntmps59
        go_wp2_with (first
          | (go_at_call 92; go_must (refine (rright_calls _ _ _ (by omega) (by omega)).mono ?_; rw [HB.out]; rintro e w1 ⟨rfl, rfl⟩))
          | (go_at_call 50; go_must (with_reducible refine (rcontains_wide L _ rfl a c _ hx).mono ?_; rw [HI.out]; rintro e w1 ⟨rfl, rfl⟩)))
        go_ret
        exact ⟨rfl, rfl⟩
/-- Has a block so many parts? -/
def fitsB (n order p : Nat) : Bool := decide (n % 2 ^ p = 0 ∧ order ≤ n / 2 ^ p)
theorem fits_calls (n order p : Nat) (w : World) (hp : p ≤ 15) (hn : n ≤ 1000000) (ho : order ≤ 1000000) :
    Calls Tryd.prog 94 #[.int .i64 n, .int .i64 order, .int .i64 p] w fun e w' => e = .returned (.bool (fitsB n order p)) ∧ w = w' := by
  have hP : 2 ^ p ≤ 2 ^ 15 := Nat.pow_le_pow_right (by omega) hp
  have hP0 : 0 < 2 ^ p := Nat.pow_pos (by omega)
  have hand := and_mask p (by omega) (n : Int)
  obtain ⟨P, hPe⟩ : ∃ P : Nat, 2 ^ p = P := ⟨_, rfl⟩
  have hPi : (2 : Int) ^ p = (P : Int) := by rw [← hPe]; simp
  rw [hPi] at hand
  rw [hPe] at hP hP0
  obtain ⟨R, hR⟩ : ∃ R : Nat, n % P = R := ⟨_, rfl⟩
  obtain ⟨Q, hQ⟩ : ∃ Q : Nat, n / P = Q := ⟨_, rfl⟩
  have hand2 : bits .and .i64 (n : Int) ((P : Int) - 1) = (R : Int) := by rw [hand, ← hR]; omega
  have hdiv : (n : Int) / (P : Int) = (Q : Int) := by rw [← hQ]; simp
  have hpi : (0 : Int) ≤ (p : Int) := by omega
  have hfe : fitsB n order p = decide (R = 0 ∧ order ≤ Q) := by unfold fitsB; rw [hPe, hR, hQ]
  have hQn : Q ≤ 1000000 := by rw [← hQ]; exact Nat.le_trans (Nat.div_le_self _ _) hn
  have hPs : P ≤ 32768 := hP
  have HPI := Lib.hid hPi
  rw [hfe]
  clear hfe hPe hand hP hR hQ hP0
  by_cases h1 : R = 0
  · by_cases h2 : order ≤ Q
    · rw [decide_eq_true ⟨h1, h2⟩]
      subst h1
      have h2i : (order : Int) ≤ (Q : Int) := by omega
      go_enter Tryd.func94, Tryd.ntmps94
      go_wp2
      go_ret
      exact ⟨rfl, rfl⟩
    · rw [decide_eq_false (fun h => h2 h.2)]
      subst h1
      have h2i : ¬ ((order : Int) ≤ (Q : Int)) := by omega
      go_enter Tryd.func94, Tryd.ntmps94
      go_wp2
      go_ret
      exact ⟨rfl, rfl⟩
  · rw [decide_eq_false (fun h => h1 h.1)]
    have h1b : ((R : Int) == 0) = false := beq_eq_false_iff_ne.2 (by omega)
    go_enter Tryd.func94, Tryd.ntmps94
    go_wp2
    go_ret
    exact ⟨rfl, rfl⟩
end Go.Proofs.YtofkiimaoahfjaaDoor

set_option maxRecDepth 100000
set_option linter.unusedVariables false
set_option linter.unusedSimpArgs false
namespace Go.Proofs.YtofkiimaoahfjaaDoor
open Go.RowKit

/-! ### What best computes -/
def sumK (k : Nat) (F : List Int) : Int := (F.map (fun f => f / 2 ^ k)).sum
def farB (k : Nat) (F : List Int) : Bool := F.any (fun f => decide (65536 < f / 2 ^ k))
def szK (k : Nat) (F : List Int) : Int := ((k : Int) + 1) * F.length + sumK k F
abbrev BS := (Int × Int × Int) × Bool
def stepK (F : List Int) (st : BS) (k : Nat) : BS := if farB k F = false ∧ (st.2 = false ∨ szK k F < st.1.2.2) then (((k : Int), 0, szK k F), true) else st
def loopK (F : List Int) (n : Nat) : BS := (List.range n).foldl (stepK F) ((0, 0, 0), false)
theorem loopK_zero (F : List Int) : loopK F 0 = ((0, 0, 0), false) := rfl
theorem loopK_succ (F : List Int) (n : Nat) : loopK F (n + 1) = stepK F (loopK F n) n := by simp [loopK, List.range_succ, List.foldl_append]
def wdS (w n : Int) : Int := if n = 0 then w else max w (bitsS n)
def widthS (L : List Int) : Int := L.foldl wdS 0
theorem widthS_snoc (L : List Int) (n : Int) : widthS (L ++ [n]) = wdS (widthS L) n := by simp [widthS, List.foldl_append]
def bestS (L : List Int) (m : Nat) : BS :=
  if widthS L ≤ 31 ∧ ((loopK (L.map foldS) (escS m)).2 = false ∨ 5 + widthS L * L.length < (loopK (L.map foldS) (escS m)).1.2.2) then (((escS m : Int), widthS L, 5 + widthS L * L.length), true) else loopK (L.map foldS) (escS m)

theorem sumK_snoc (k : Nat) (F : List Int) (x : Int) : sumK k (F ++ [x]) = sumK k F + x / 2 ^ k := by simp [sumK]
theorem farB_snoc (k : Nat) (F : List Int) (x : Int) : farB k (F ++ [x]) = (farB k F || decide (65536 < x / 2 ^ k)) := by simp [farB]
theorem div_pow_range (f : Int) (k : Nat) (h0 : 0 ≤ f) (h1 : f ≤ 4294967296) : 0 ≤ f / 2 ^ k ∧ f / 2 ^ k ≤ 4294967296 := by
  have hp : (0 : Int) < 2 ^ k := Int.pow_pos (by omega)
  refine ⟨Int.ediv_nonneg h0 (by omega), ?_⟩
  have : f / 2 ^ k ≤ f := Int.ediv_le_self _ h0
  omega
theorem sumK_range (k : Nat) (F : List Int) (h : ∀ f ∈ F, 0 ≤ f ∧ f ≤ 4294967296) : 0 ≤ sumK k F ∧ sumK k F ≤ 4294967296 * F.length := by
  induction F with
  | nil => simp [sumK]
  | cons x F ih =>
    obtain ⟨a, b⟩ := ih (fun f hf => h f (List.mem_cons_of_mem _ hf))
    obtain ⟨c, d⟩ := h x (List.mem_cons_self)
    obtain ⟨e, g⟩ := div_pow_range x k c d
    have hs : sumK k (x :: F) = x / 2 ^ k + sumK k F := by simp [sumK]
    rw [hs, List.length_cons]
    omega
theorem szK_range (k : Nat) (F : List Int) (hk : k ≤ 40) (hl : F.length ≤ 1000) (h : ∀ f ∈ F, 0 ≤ f ∧ f ≤ 4294967296) : 0 ≤ szK k F ∧ szK k F ≤ 10000000000000 := by
  obtain ⟨a, b⟩ := sumK_range k F h
  have h1 : ((k : Int) + 1) * F.length = ((k + 1) * F.length : Nat) := by simp
  have h2 : (k + 1) * F.length ≤ 41 * 1000 := Nat.mul_le_mul (by omega) hl
  unfold szK
  omega
theorem foldS_range (n : Int) (h : -2147483648 < n ∧ n < 2147483648) : 0 ≤ foldS n ∧ foldS n ≤ 4294967296 := by unfold foldS; split <;> omega
theorem folds_range (L : List Int) (h : ∀ n ∈ L, -2147483648 < n ∧ n < 2147483648) : ∀ f ∈ L.map foldS, 0 ≤ f ∧ f ≤ 4294967296 := by
  intro f hf
  obtain ⟨n, hn, rfl⟩ := List.mem_map.1 hf
  exact foldS_range n (h n hn)
theorem bitsS_range (n : Int) : 1 ≤ bitsS n ∧ bitsS n ≤ 65 := by
  have := bitLen_le (magS n).toNat
  unfold bitsS
  omega
theorem wdS_range (w n : Int) (h : 0 ≤ w ∧ w ≤ 65) : 0 ≤ wdS w n ∧ wdS w n ≤ 65 := by
  have := bitsS_range n
  unfold wdS
  split <;> omega
theorem widthS_range (L : List Int) : 0 ≤ widthS L ∧ widthS L ≤ 65 := by
  have : ∀ (L : List Int) (w : Int), 0 ≤ w ∧ w ≤ 65 → 0 ≤ L.foldl wdS w ∧ L.foldl wdS w ≤ 65 := by
    intro L
    induction L with
    | nil => intro w h; exact h
    | cons x L ih => intro w h; exact ih _ (wdS_range w x h)
  exact this L 0 (by omega)
theorem loopK_range (F : List Int) (n : Nat) (hn : n ≤ 40) (hl : F.length ≤ 1000) (h : ∀ f ∈ F, 0 ≤ f ∧ f ≤ 4294967296) : 0 ≤ (loopK F n).1.2.2 ∧ (loopK F n).1.2.2 ≤ 10000000000000 := by
  induction n with
  | zero => simp [loopK]
  | succ n ih =>
    rw [loopK_succ]
    unfold stepK
    split
    · exact szK_range n F (by omega) hl h
    · exact ih (by omega)

/-- A block of three numbers. -/
structure Tri3 (w : World) (g : Nat) (T : TypeId) (a b c : Int) : Prop where
  hp : w.heap[g]? = some (.cells #[.int .i64 a, .int .i64 b, .int .i64 c] T (0, 0))
namespace Tri3
variable {w w' : World} {g : Nat} {T : TypeId} {a b c : Int}
theorem keeps {F : List Nat} (h : Tri3 w g T a b c) (hk : Keeps F w w') (hg : g ∉ F) : Tri3 w' g T a b c := ⟨(hk.block g (Array.getElem?_eq_some_iff.1 h.hp).1 hg).trans h.hp⟩
theorem c0 (h : Tri3 w g T a b c) : w.cell? ⟨g, 0, none⟩ = some (.int .i64 a) := by unfold World.cell?; rw [h.hp]; rfl
theorem c1 (h : Tri3 w g T a b c) : w.cell? ⟨g, 1, none⟩ = some (.int .i64 b) := by unfold World.cell?; rw [h.hp]; rfl
theorem c2 (h : Tri3 w g T a b c) : w.cell? ⟨g, 2, none⟩ = some (.int .i64 c) := by unfold World.cell?; rw [h.hp]; rfl
theorem frozen (h : Tri3 w g T a b c) (j : Nat) : w.frozen? ⟨g, j, none⟩ = false := frozen_of_row w g j _ T h.hp
theorem lt (h : Tri3 w g T a b c) : g < w.heap.size := (Array.getElem?_eq_some_iff.1 h.hp).1
theorem set (h : Tri3 w g T a b c) (a' b' c' : Int) : Tri3 (((w.setCell ⟨g, 0, none⟩ (.int .i64 a')).setCell ⟨g, 1, none⟩ (.int .i64 b')).setCell ⟨g, 2, none⟩ (.int .i64 c')) g T a' b' c' :=
  ⟨b_blk_set (b_blk_set (b_blk_set h.hp 0 _) 1 _) 2 _⟩
end Tri3
end Go.Proofs.YtofkiimaoahfjaaDoor

set_option maxRecDepth 100000
set_option linter.unusedVariables false
set_option linter.unusedSimpArgs false
namespace Go.Proofs.YtofkiimaoahfjaaDoor
open Go.RowKit

theorem fold_set (L : List Int) (i n : Nat) (x y : Int) (hi : i < L.length) (hx : L[i] = x) (hn : n = L.length) :
    ((L.take i).map foldS ++ List.replicate (n - i) 0).set i (foldS x) = (L.take (i + 1)).map foldS ++ List.replicate (n - (i + 1)) 0 := by
  subst hn
  rw [List.set_append_right _ _ (by simp; omega)]
  rw [show L.length - i = (L.length - (i + 1)) + 1 by omega, List.replicate_succ]
  rw [show i - ((L.take i).map foldS).length = 0 by simp; omega, List.set_cons_zero, List.take_succ_eq_append_getElem hi, List.map_append, List.append_assoc, hx]
  rfl

set_option maxHeartbeats 8000000 in
set_option maxRecDepth 100000 in
theorem best_calls (L : List Int) (m n : Nat) (hn : n = L.length) (a : Option Addr) (c : Nat) (w : World) (hm : m ≤ 1) (hl : L.length ≤ 600) (hin : Hid (∀ n ∈ L, -2147483648 < n ∧ n < 2147483648)) (hx : Hid (Rd w .i64 a L)) :
    Calls Tryd.prog 95 #[.slice a n c, .int .i64 m] w fun e w' => e = .returned (.tuple #[.agg #[.int .i64 (bestS L m).1.1, .int .i64 (bestS L m).1.2.1, .int .i64 (bestS L m).1.2.2], .bool (bestS L m).2]) ∧ Keeps [] w w' := by
  subst hn
  have hmk : ∀ W : World, Sem.run Tryd.prog (Instr.makeSlice 22 (.int .i64 (L.length : Int)) (.int .i64 (L.length : Int))) W = .ok (.slice (some ⟨W.heap.size, 0, none⟩) L.length L.length) (W.alloc (.cells (madeCells #[.int .i64 0] L.length) 3)) :=
    fun W => run_mk Tryd.prog 22 3 .i64 8 Tryd.underlying22 info_i64 .i64 .i64 L.length L.length (L.length : Int) (L.length : Int) rfl rfl (by omega) (by omega) (by omega) W
  go_enter Tryd.func95, Tryd.ntmps95
  go_wp2_with fail
  have HK : Hid (Keeps [] w (((w.alloc (.cells #[.int .i64 0, .int .i64 0, .int .i64 0] 107)).alloc (.cells #[.int .i64 0, .int .i64 0, .int .i64 0] 107)).alloc (.cells (madeCells #[.int .i64 0] L.length) 3))) := (((Keeps.refl _ _).alloc _).alloc _).alloc _
  have HT4 : Hid (Tri3 (((w.alloc (.cells #[.int .i64 0, .int .i64 0, .int .i64 0] 107)).alloc (.cells #[.int .i64 0, .int .i64 0, .int .i64 0] 107)).alloc (.cells (madeCells #[.int .i64 0] L.length) 3)) w.heap.size 107 0 0 0) := ((⟨heap_alloc_new w _⟩ : Tri3 (w.alloc (.cells #[.int .i64 0, .int .i64 0, .int .i64 0] 107)) w.heap.size 107 0 0 0).keeps ((Keeps.refl [] _).alloc _) (by simp)).keeps ((Keeps.refl [] _).alloc _) (by simp)
  have HT6 : Hid (Tri3 (((w.alloc (.cells #[.int .i64 0, .int .i64 0, .int .i64 0] 107)).alloc (.cells #[.int .i64 0, .int .i64 0, .int .i64 0] 107)).alloc (.cells (madeCells #[.int .i64 0] L.length) 3)) (w.heap.size + 1) 107 0 0 0) := by
    have h1 : Tri3 ((w.alloc (.cells #[.int .i64 0, .int .i64 0, .int .i64 0] 107)).alloc (.cells #[.int .i64 0, .int .i64 0, .int .i64 0] 107)) (w.alloc (.cells #[.int .i64 0, .int .i64 0, .int .i64 0] 107)).heap.size 107 0 0 0 := ⟨heap_alloc_new _ _⟩
    rw [World.size_alloc] at h1
    exact h1.keeps ((Keeps.refl [] _).alloc _) (by simp)
  have HR : Hid (Row (((w.alloc (.cells #[.int .i64 0, .int .i64 0, .int .i64 0] 107)).alloc (.cells #[.int .i64 0, .int .i64 0, .int .i64 0] 107)).alloc (.cells (madeCells #[.int .i64 0] L.length) 3)) .i64 3 (.slice (some ⟨w.heap.size + 1 + 1, 0, none⟩) L.length L.length) (List.replicate L.length 0)) := by
    have := Row.made ((w.alloc (.cells #[.int .i64 0, .int .i64 0, .int .i64 0] 107)).alloc (.cells #[.int .i64 0, .int .i64 0, .int .i64 0] 107)) .i64 3 L.length (by omega)
    rw [World.size_alloc, World.size_alloc] at this
    exact this
  clear hmk
  generalize (((w.alloc (.cells #[.int .i64 0, .int .i64 0, .int .i64 0] 107)).alloc (.cells #[.int .i64 0, .int .i64 0, .int .i64 0] 107)).alloc (.cells (madeCells #[.int .i64 0] L.length) 3)) = w1 at *
  have HG : Hid (w.heap.size ≤ w.heap.size ∧ w.heap.size < w.heap.size + 1 ∧ w.heap.size + 1 < w.heap.size + 1 + 1) := (show _ ∧ _ from by omega)
  obtain ⟨g4, hg4⟩ : ∃ g, w.heap.size = g := ⟨_, rfl⟩
  obtain ⟨g6, hg6⟩ : ∃ g, w.heap.size + 1 = g := ⟨_, rfl⟩
  obtain ⟨g8, hg8⟩ : ∃ g, w.heap.size + 1 + 1 = g := ⟨_, rfl⟩
  have HGG : Hid (w.heap.size ≤ g4 ∧ g4 < g6 ∧ g6 < g8) := (show _ ∧ _ from by omega)
  rw [hg8] at HR
  rw [hg6] at HT6
  rw [hg4] at HT4
  rw [hg8, hg6, hg4]
  clear hg4 hg6 hg8 HG
  go_loopg [9, 24] (L.length + 1) (fun q v9 v24 wr => ∃ (i : Nat) (wd : Int), v24 = .int .i64 i ∧ v9 = .int .i64 wd ∧ i ≤ L.length ∧ Hid (wd = widthS (L.take i)) ∧ 0 ≤ wd ∧ wd ≤ 65 ∧ Hid (i + q = L.length + 1) ∧
    Hid (Row wr .i64 3 (.slice (some ⟨g8, 0, none⟩) L.length L.length) ((L.take i).map foldS ++ List.replicate (L.length - i) 0)) ∧ Hid (Keeps [g8] w1 wr))
  case atStart => exact ⟨0, 0, rfl, rfl, by omega, (show _ = _ from rfl), by omega, by omega, (show _ = _ from by omega), (show Row _ _ _ _ _ from by simpa using HR.out), Keeps.refl _ _⟩
  case round =>
    obtain ⟨i, wd, rfl, rfl, hi, HW, hw0, hw1, HQ, HRi, HKi⟩ := hrel
    obtain ⟨q1, rfl⟩ : ∃ g : Nat, g = gk := ⟨_, rfl⟩
    obtain ⟨wa, rfl⟩ : ∃ x : World, x = wr := ⟨_, rfl⟩
    by_cases hlt : i < L.length
    · obtain ⟨b0, o0, rfl, hcells⟩ := hx.out.form (by omega)
      obtain ⟨x, hxe⟩ : ∃ x, L[i] = x := ⟨_, rfl⟩
      have hxr := hin.out x (by rw [← hxe]; exact List.getElem_mem _)
      have hxlt := World.block_lt_of_cell? w _ (hcells i hlt)
      have hc := HKi.out.cell (HK.out.cell (hcells i hlt) (by simp)) (by rw [List.mem_singleton]; have := HGG.out; have : b0 < w.heap.size := hxlt; show b0 ≠ g8; omega)
      rw [hxe] at hc
      have HS := Lib.hid (HRi.out.set i (foldS x))
      rw [fold_set L i L.length x 0 hlt hxe rfl] at HS
      have hlen : ((L.take i).map foldS ++ List.replicate (L.length - i) (0 : Int)).length = L.length := by simp; omega
      obtain ⟨vx, hcx⟩ : ∃ v, wa.cell? ⟨g8, i, none⟩ = some v := ⟨_, HRi.out.cell i (by rw [hlen]; exact hlt)⟩
      have hfx := HRi.out.frozen i
      have HKS : Hid (Keeps [g8] w1 (wa.setCell ⟨g8, i, none⟩ (.int .i64 (foldS x)))) := HKi.out.setCell (.inl (by simp)) _
      have HWN : Hid (widthS (L.take (i + 1)) = wdS wd x) := by show _ = _; rw [List.take_succ_eq_append_getElem hlt, widthS_snoc, hxe, HW.out]
      have HWR := Lib.hid (wdS_range wd x ⟨hw0, hw1⟩)
      have HBR := Lib.hid (bitsS_range x)
      clear hcells hxe hlen hxlt
      by_cases hx0 : x = 0
      · have hxb : (x != 0) = false := by simp [hx0]
        have HWE : Hid (wdS wd x = wd) := by show _ = _; unfold wdS; rw [if_pos hx0]
        clear hx0
        go_wp2_with (first
          | (go_at_call 64; go_must (refine (fold_calls x _ (by omega) (by omega)).mono ?_); rintro e w3 ⟨rfl, rfl⟩))
        go_roundg (L.length - i)
        case measure => have := HQ.out; omega
        case rel => exact ⟨i + 1, wd, by go_num, rfl, by omega, (HWN.out.trans HWE.out).symm, hw0, hw1, (show _ = _ from by omega), HS.out, HKS.out⟩
      · have hxb : (x != 0) = true := by simp [hx0]
        have HWE : Hid (wdS wd x = max wd (bitsS x)) := by show _ = _; unfold wdS; rw [if_neg hx0]
        clear hx0
        go_wp2_with (first
          | (go_at_call 64; go_must (refine (fold_calls x _ (by omega) (by omega)).mono ?_); rintro e w3 ⟨rfl, rfl⟩)
          | (go_at_call 114; go_must (refine (bits_calls x _ (Lib.hid (by omega))).mono ?_); rintro e w3 ⟨rfl, rfl⟩))
        go_roundg (L.length - i)
        case measure => have := HQ.out; omega
        case rel =>
          have hwr := HWR.out
          rw [HWE.out] at hwr
          exact ⟨i + 1, max wd (bitsS x), by go_num, rfl, by omega, (HWN.out.trans HWE.out).symm, hwr.1, hwr.2, (show _ = _ from by omega), HS.out, HKS.out⟩
    · obtain rfl : i = L.length := by omega
      obtain ⟨F, hF⟩ : ∃ F, L.map foldS = F := ⟨_, rfl⟩
      have hFl : F.length = L.length := by rw [← hF, List.length_map]
      have hrow := HRi.out
      rw [List.take_of_length_le (Nat.le_refl _), Nat.sub_self, List.replicate_zero, List.append_nil, hF] at hrow
      have HROW := Lib.hid hrow
      have hwl := HW.out
      rw [List.take_of_length_le (Nat.le_refl _)] at hwl
      have HWL := Lib.hid hwl
      have HFR : Hid (∀ f ∈ F, 0 ≤ f ∧ f ≤ 4294967296) := by
        intro f hf
        rw [← hF] at hf
        exact folds_range L hin.out f hf
      have HF := Lib.hid hF
      have HT4a := Lib.hid (HT4.out.keeps HKi.out (by rw [List.mem_singleton]; have := HGG.out; omega))
      have HT6a := Lib.hid (HT6.out.keeps HKi.out (by rw [List.mem_singleton]; have := HGG.out; omega))
      have HKA : Hid (Keeps [] w wa) := HK.out.then_ HKi.out (fun b hb hlt => by rw [List.mem_singleton] at hb; have := HGG.out; omega)
      obtain ⟨E, hE⟩ : ∃ E, escS m = E := ⟨_, rfl⟩
      have hE31 : E ≤ 31 := by rw [← hE]; rcases (show m = 0 ∨ m = 1 by omega) with rfl | rfl <;> decide
      have HE := Lib.hid hE
      have HES := Lib.hid (fun W => escape_calls m W hm)
      rw [hE] at HES
      have HFL := Lib.hid hFl
      clear hrow hwl hF hE hFl HRi HKi HT4 HT6 HR HK HW hi hlt HQ
      obtain ⟨N, hN⟩ : ∃ N, L.length = N := ⟨_, rfl⟩
      have HN := Lib.hid hN
      rw [hN] at HROW hl HFL ⊢
      clear hN
      go_wp2_with (first
        | (go_at_call 63; go_must (refine (HES.out _).mono ?_; rintro e w3 ⟨rfl, rfl⟩)))
      go_loopg [7, 46] (E + 1) (fun q v7 v46 wr => ∃ (k : Nat) (b0 b1 b2 : Int) (ok : Bool), v46 = .int .i64 k ∧ v7 = .bool ok ∧ k ≤ E ∧ Hid (k + q = E + 1) ∧ Hid (loopK F k = ((b0, b1, b2), ok)) ∧ Hid (Tri3 wr g6 107 b0 b1 b2) ∧ Hid (Keeps [g6] wa wr))
      case atStart => exact ⟨0, 0, 0, 0, false, rfl, rfl, by omega, (show _ = _ from by omega), (show _ = _ from loopK_zero F), HT6a.out, Keeps.refl _ _⟩
      case round =>
        obtain ⟨k, b0, b1, b2, ok, rfl, rfl, hk, HQ, HLK, HT6k, HKk⟩ := hrel
        obtain ⟨q2, rfl⟩ : ∃ g : Nat, g = gk := ⟨_, rfl⟩
        obtain ⟨wb, rfl⟩ : ∃ x : World, x = wr := ⟨_, rfl⟩
        have HROWk := Lib.hid (HROW.out.keeps HKk.out (fun b hb h => by rw [fp_some, List.mem_singleton] at hb; rw [List.mem_singleton] at h; have := HGG.out; omega))
        by_cases hkE : k < E
        · obtain ⟨M, hM⟩ : ∃ M : Nat, (k + 1) * N = M := ⟨_, rfl⟩
          have hMl : M ≤ 41 * 600 := by rw [← hM]; exact Nat.mul_le_mul (by omega) hl
          have hMi : ((k : Int) + 1) * (N : Int) = (M : Int) := by rw [← hM]; simp
          have HMI := Lib.hid hMi
          clear hM
          go_wp2_with fail
          clear hMi
          go_loopg [13, 14, 56] (N + 1) (fun q v13 v14 v56 w3 => w3 = wb ∧ ∃ (j : Nat) (S : Int) (fr : Bool), v56 = .int .i64 j ∧ v13 = .int .i64 S ∧ v14 = .bool fr ∧ j ≤ N ∧ 0 ≤ S ∧ S ≤ (M : Int) + 4294967296 * (j : Int) ∧ Hid (S = (M : Int) + sumK k (F.take j)) ∧ Hid (fr = farB k (F.take j)) ∧ Hid (j + q = N + 1))
          case atStart => exact ⟨rfl, 0, M, false, rfl, rfl, rfl, by omega, by omega, by omega, (show _ = _ from by simp [sumK]), (show _ = _ from by simp [farB]), (show _ = _ from by omega)⟩
          case round =>
            obtain ⟨rfl, j, S, fr, rfl, rfl, rfl, hj, hS0, hS1, HS, HFR2, HQ3⟩ := hrel
            obtain ⟨wb, rfl⟩ : ∃ x : World, x = wr := ⟨_, rfl⟩
            obtain ⟨q3, rfl⟩ : ∃ g : Nat, g = gk := ⟨_, rfl⟩
            by_cases hlt : j < N
            · obtain ⟨f, hfe⟩ : ∃ f, F[j]'(by rw [HFL.out]; exact hlt) = f := ⟨_, rfl⟩
              have hc := HROWk.out.cell j (by rw [HFL.out]; exact hlt)
              rw [hfe] at hc
              obtain ⟨f0, f1⟩ := HFR.out f (by rw [← hfe]; exact List.getElem_mem _)
              obtain ⟨D, hD⟩ : ∃ D, f / 2 ^ k = D := ⟨_, rfl⟩
              obtain ⟨d0, d1⟩ := div_pow_range f k f0 f1
              rw [hD] at d0 d1
              have HTK : Hid (F.take (j + 1) = F.take j ++ [f]) := by show _ = _; rw [List.take_succ_eq_append_getElem (by rw [HFL.out]; exact hlt), hfe]
              have HSN : Hid (sumK k (F.take (j + 1)) = sumK k (F.take j) + D) := by show _ = _; rw [HTK.out, sumK_snoc, hD]
              have HFN : Hid (farB k (F.take (j + 1)) = (fr || decide (65536 < D))) := by show _ = _; rw [HTK.out, farB_snoc, hD, HFR2.out]
              have hki : (0 : Int) ≤ (k : Int) := by omega
              clear hfe HTK
              cases fr
              · go_wp2_with fail
                go_roundg (N - j)
                case measure => have := HQ3.out; omega
                case rel => exact ⟨rfl, j + 1, S + D, decide (65536 < D), by go_num, rfl, rfl, by omega, by omega, by omega, (show _ = _ from by rw [HSN.out, HS.out]; omega), (show _ = _ from by rw [HFN.out]; simp), (show _ = _ from by omega)⟩
              · go_wp2_with fail
                go_roundg (N - j)
                case measure => have := HQ3.out; omega
                case rel => exact ⟨rfl, j + 1, S + D, true, by go_num, rfl, rfl, by omega, by omega, by omega, (show _ = _ from by rw [HSN.out, HS.out]; omega), (show _ = _ from by rw [HFN.out]; simp), (show _ = _ from by omega)⟩
            · obtain rfl : j = N := by omega
              have hsz : szK k F = S := by
                have h1 := HS.out
                rw [List.take_of_length_le (by rw [HFL.out]; exact Nat.le_refl _)] at h1
                unfold szK
                rw [HFL.out, HMI.out, h1]
              have hfb : farB k F = fr := by
                have h1 := HFR2.out
                rw [List.take_of_length_le (by rw [HFL.out]; exact Nat.le_refl _)] at h1
                exact h1.symm
              have HSZ := Lib.hid hsz
              have HFB := Lib.hid hfb
              clear hsz hfb HS HFR2 HQ3 hj
              cases fr
              · cases ok
                · have HLN : Hid (loopK F (k + 1) = (((k : Int), 0, S), true)) := by
                    show _ = _
                    rw [loopK_succ, HLK.out]
                    unfold stepK
                    rw [if_pos ⟨HFB.out, .inl rfl⟩, HSZ.out]
                  have hd0 := HT6k.out.c0
                  have hd1 := HT6k.out.c1
                  have hd2 := HT6k.out.c2
                  have hz0 := HT6k.out.frozen 0
                  have hz1 := HT6k.out.frozen 1
                  have hz2 := HT6k.out.frozen 2
                  have HTN := Lib.hid (HT6k.out.set k 0 S)
                  have HKN : Hid (Keeps [g6] wa (((wb.setCell ⟨g6, 0, none⟩ (.int .i64 k)).setCell ⟨g6, 1, none⟩ (.int .i64 0)).setCell ⟨g6, 2, none⟩ (.int .i64 S))) := ((HKk.out.setCell (a := ⟨g6, 0, none⟩) (.inl (by simp)) _).setCell (a := ⟨g6, 1, none⟩) (.inl (by simp)) _).setCell (a := ⟨g6, 2, none⟩) (.inl (by simp)) _
                  go_wp2_with fail
                  go_roundg (E - k)
                  case measure => have := HQ.out; omega
                  case rel => exact ⟨k + 1, k, 0, S, true, by go_num, rfl, by omega, (show _ = _ from by have := HQ.out; omega), HLN.out, HTN.out, HKN.out⟩
                · by_cases hSb : S < b2
                  · have HLN : Hid (loopK F (k + 1) = (((k : Int), 0, S), true)) := by
                      show _ = _
                      rw [loopK_succ, HLK.out]
                      unfold stepK
                      rw [if_pos ⟨HFB.out, .inr (by rw [HSZ.out]; exact hSb)⟩, HSZ.out]
                    have hd0 := HT6k.out.c0
                    have hd1 := HT6k.out.c1
                    have hd2 := HT6k.out.c2
                    have hz0 := HT6k.out.frozen 0
                    have hz1 := HT6k.out.frozen 1
                    have hz2 := HT6k.out.frozen 2
                    have HTN := Lib.hid (HT6k.out.set k 0 S)
                    have HKN : Hid (Keeps [g6] wa (((wb.setCell ⟨g6, 0, none⟩ (.int .i64 k)).setCell ⟨g6, 1, none⟩ (.int .i64 0)).setCell ⟨g6, 2, none⟩ (.int .i64 S))) := ((HKk.out.setCell (a := ⟨g6, 0, none⟩) (.inl (by simp)) _).setCell (a := ⟨g6, 1, none⟩) (.inl (by simp)) _).setCell (a := ⟨g6, 2, none⟩) (.inl (by simp)) _
                    go_wp2_with fail
                    go_roundg (E - k)
                    case measure => have := HQ.out; omega
                    case rel => exact ⟨k + 1, k, 0, S, true, by go_num, rfl, by omega, (show _ = _ from by have := HQ.out; omega), HLN.out, HTN.out, HKN.out⟩
                  · have HLN : Hid (loopK F (k + 1) = ((b0, b1, b2), true)) := by
                      show _ = _
                      rw [loopK_succ, HLK.out]
                      unfold stepK
                      rw [if_neg]
                      rintro ⟨_, h | h⟩
                      · cases h
                      · rw [HSZ.out] at h; exact hSb h
                    have hd2 := HT6k.out.c2
                    go_wp2_with fail
                    go_roundg (E - k)
                    case measure => have := HQ.out; omega
                    case rel => exact ⟨k + 1, b0, b1, b2, true, by go_num, rfl, by omega, (show _ = _ from by have := HQ.out; omega), HLN.out, HT6k.out, HKk.out⟩
              · have HLN : Hid (loopK F (k + 1) = ((b0, b1, b2), ok)) := by
                  show _ = _
                  rw [loopK_succ, HLK.out]
                  unfold stepK
                  rw [if_neg]
                  rintro ⟨h, _⟩
                  rw [HFB.out] at h
                  cases h
                go_wp2_with fail
                go_roundg (E - k)
                case measure => have := HQ.out; omega
                case rel => exact ⟨k + 1, b0, b1, b2, ok, by go_num, rfl, by omega, (show _ = _ from by have := HQ.out; omega), HLN.out, HT6k.out, HKk.out⟩
        · obtain rfl : k = E := by omega
          obtain ⟨X, hX⟩ : ∃ X, wd * (N : Int) = X := ⟨_, rfl⟩
          have hX0 : 0 ≤ X := by rw [← hX]; exact Int.mul_nonneg hw0 (by omega)
          have hX1 : X ≤ 65 * 600 := by
            rw [← hX]
            exact Int.mul_le_mul hw1 (by omega) (by omega) (by omega)
          have HB0 : Hid (bestS L m = if wd ≤ 31 ∧ (ok = false ∨ 5 + X < b2) then (((k : Int), wd, 5 + X), true) else ((b0, b1, b2), ok)) := by
            show _ = _
            unfold bestS
            rw [HE.out, HF.out, HLK.out, ← HWL.out, HN.out, hX]
          have HT4k := Lib.hid (HT4a.out.keeps HKk.out (by rw [List.mem_singleton]; have := HGG.out; omega))
          have HKB : Hid (Keeps [] w wb) := HKA.out.then_ HKk.out (fun b hb hlt => by rw [List.mem_singleton] at hb; have := HGG.out; omega)
          have HG4 : Hid (w.heap.size ≤ g4) := HGG.out.1
          have hd2 := HT6k.out.c2
          have hd0 := HT6k.out.c0
          have hd1 := HT6k.out.c1
          have hf0 := HT4k.out.c0
          have hf1 := HT4k.out.c1
          have hf2 := HT4k.out.c2
          have hz0 := HT4k.out.frozen 0
          have hz1 := HT4k.out.frozen 1
          have hz2 := HT4k.out.frozen 2
          clear HROW HROWk HKk HT4a HT6a HQ hin hx HLK HWL HFR HF HE HGG HFL HN HKA
          by_cases hw31 : wd ≤ 31
          · cases ok
            · go_wp2_with (first
                | (go_at_call 63; go_must (refine (HES.out _).mono ?_; rintro e w3 ⟨rfl, rfl⟩)))
              refine bodyPost_ret (results_cell2 rfl _ _ g4 107 #[.int .i64 k, .int .i64 wd, .int .i64 (5 + X)] (0, 0) _ rfl (HT4k.out.set k wd (5 + X)).hp Tryd.underlying107 rfl (by kernel_rfl)) rfl ?_
              refine ⟨?_, ((HKB.out.setCell (a := ⟨g4, 0, none⟩) (.inr HG4.out) _).setCell (a := ⟨g4, 1, none⟩) (.inr HG4.out) _).setCell (a := ⟨g4, 2, none⟩) (.inr HG4.out) _⟩
              have hb := HB0.out
              rw [if_pos ⟨hw31, by first | exact .inl rfl | exact .inl trivial⟩] at hb
              rw [hb]
              rfl
            · by_cases hX2 : 5 + X < b2
              · go_wp2_with (first
                  | (go_at_call 63; go_must (refine (HES.out _).mono ?_; rintro e w3 ⟨rfl, rfl⟩)))
                refine bodyPost_ret (results_cell2 rfl _ _ g4 107 #[.int .i64 k, .int .i64 wd, .int .i64 (5 + X)] (0, 0) _ rfl (HT4k.out.set k wd (5 + X)).hp Tryd.underlying107 rfl (by kernel_rfl)) rfl ?_
                refine ⟨?_, ((HKB.out.setCell (a := ⟨g4, 0, none⟩) (.inr HG4.out) _).setCell (a := ⟨g4, 1, none⟩) (.inr HG4.out) _).setCell (a := ⟨g4, 2, none⟩) (.inr HG4.out) _⟩
                have hb := HB0.out
                rw [if_pos ⟨hw31, .inr hX2⟩] at hb
                rw [hb]
                rfl
              · go_wp2_with fail
                refine bodyPost_ret (results_cell2 rfl _ _ g4 107 #[.int .i64 b0, .int .i64 b1, .int .i64 b2] (0, 0) _ rfl (HT4k.out.set b0 b1 b2).hp Tryd.underlying107 rfl (by kernel_rfl)) rfl ?_
                refine ⟨?_, ((HKB.out.setCell (a := ⟨g4, 0, none⟩) (.inr HG4.out) _).setCell (a := ⟨g4, 1, none⟩) (.inr HG4.out) _).setCell (a := ⟨g4, 2, none⟩) (.inr HG4.out) _⟩
                have hb := HB0.out
                rw [if_neg (by rintro ⟨_, h | h⟩ <;> first | (cases h; done) | omega)] at hb
                rw [hb]
                rfl
          · go_wp2_with fail
            refine bodyPost_ret (results_cell2 rfl _ _ g4 107 #[.int .i64 b0, .int .i64 b1, .int .i64 b2] (0, 0) _ rfl (HT4k.out.set b0 b1 b2).hp Tryd.underlying107 rfl (by kernel_rfl)) rfl ?_
            refine ⟨?_, ((HKB.out.setCell (a := ⟨g4, 0, none⟩) (.inr HG4.out) _).setCell (a := ⟨g4, 1, none⟩) (.inr HG4.out) _).setCell (a := ⟨g4, 2, none⟩) (.inr HG4.out) _⟩
            have hb := HB0.out
            rw [if_neg (fun h => by have := h.1; omega)] at hb
            rw [hb]
            rfl
end Go.Proofs.YtofkiimaoahfjaaDoor
