/-
  The statement StereoMakes of layer 8: the walk.
-/
import Derived.Test.YtildkehbogmceaaSte13
import Derived.Test.YtildkehbogmceaaSte9
import Derived.Test.YtildkehbogmceaaIn
set_option linter.unusedVariables false
set_option linter.unusedSimpArgs false
namespace Go.Proofs.Ytildkehbogmceaa
open Go.RowKit

theorem modeB_cases {m : Int} (h : modeB m = true) : m = 0 ∨ m = 8 ∨ m = 9 ∨ m = 10 := by
  have := of_decide_eq_true h
  omega
theorem together_calls (mode : Int) (hm : modeB mode = true) (A B : List Int) (n : Nat) (h1 : A.length = n) (h2 : B.length = n) (hn : n ≤ 8192) (a b : Option Addr) (c d : Nat) (w : World) (hx : Hid (Rd w .i64 a A)) (hy : Hid (Rd w .i64 b B)) :
    Calls Try.prog 11 #[.slice a n c, .slice b n d, .int .i64 mode] w fun e w' => ∃ v, e = .returned (.tuple #[v, .int .i64 (togE A B mode)]) ∧ RowV w' 37 v (if togE A B mode = 0 then cxs (togV A B mode) else []) ∧ Keeps [] w w' := by
  rcases modeB_cases hm with rfl | rfl | rfl | rfl
  · exact together_0 A B n h1 h2 hn a b c d w hx hy
  · exact together_8 A B n h1 h2 hn a b c d w hx hy
  · exact together_9 A B n h1 h2 hn a b c d w hx hy
  · exact together_10 A B n h1 h2 hn a b c d w hx hy
theorem dtogether_calls (mode : Int) (hm : modeB mode = true) (A B : List Int) (n : Nat) (h1 : A.length = n) (h2 : B.length = n) (hn : n ≤ 8192) (a b : Option Addr) (c d : Nat) (w : World) (hx : Hid (Rd w .i64 a A)) (hy : Hid (Rd w .i64 b B)) :
    Calls Try.prog 10 #[.slice a n c, .slice b n d, .int .i64 mode] w fun e w' => ∃ v, e = .returned (.tuple #[v, .int .i64 (togE A B mode)]) ∧ RowV w' 37 v (if togE A B mode = 0 then cxs (togV A B mode) else []) ∧ Keeps [] w w' := by
  rcases modeB_cases hm with rfl | rfl | rfl | rfl
  · exact dtogether_0 A B n h1 h2 hn a b c d w hx hy
  · exact dtogether_8 A B n h1 h2 hn a b c d w hx hy
  · exact dtogether_9 A B n h1 h2 hn a b c d w hx hy
  · exact dtogether_10 A B n h1 h2 hn a b c d w hx hy
/-- The error that is told ahead of the numbers. -/
def togP (n1 n2 : Nat) (mode : Int) : Int := if modeB mode = false ∨ n1 ≠ n2 then 1 else 14
theorem together_err (mode : Int) (n1 n2 : Nat) (h : modeB mode = false ∨ n1 ≠ n2 ∨ 8192 < n1) (a b : Option Addr) (c d : Nat) (w : World) (l1 : n1 ≤ 17592186043904) (l2 : n2 ≤ 17592186043904) :
    Calls Try.prog 11 #[.slice a n1 c, .slice b n2 d, .int .i64 mode] w fun e w' => e = .returned (.tuple #[.slice none 0 0, .int .i64 (togP n1 n2 mode)]) ∧ w' = w := by
  have HMO := Lib.hid (isMode_calls mode w)
  cases hm : modeB mode with
  | false =>
    have e : togP n1 n2 mode = 1 := by unfold togP; rw [if_pos (.inl hm)]
    rw [e]
    rw [hm] at HMO
    clear hm h e
    go_enter Try.func11, Try.ntmps11
    go_wp2_with (first
      | (go_at_call 14; go_must (with_reducible refine HMO.out.mono ?_); rintro e w1 ⟨rfl, rfl⟩))
    go_ret2
    exact ⟨rfl, rfl⟩
  | true =>
    rw [hm] at HMO
    by_cases hn : n1 = n2
    · subst hn
      have hb : 8192 < n1 := by
        rcases h with h | h | h
        · rw [hm] at h; cases h
        · exact absurd rfl h
        · exact h
      have e : togP n1 n1 mode = 14 := by unfold togP; rw [if_neg (by rw [hm]; simp)]
      rw [e]
      clear hm h e
      go_enter Try.func11, Try.ntmps11
      go_wp2_with (first
        | (go_at_call 14; go_must (with_reducible refine HMO.out.mono ?_); rintro e w1 ⟨rfl, rfl⟩))
      go_ret2
      exact ⟨rfl, rfl⟩
    · have e : togP n1 n2 mode = 1 := by unfold togP; rw [if_pos (.inr hn)]
      rw [e]
      have hne : ((n1 : Int) != (n2 : Int)) = true := by simp; omega
      clear hm h e hn
      go_enter Try.func11, Try.ntmps11
      go_wp2_with (first
        | (go_at_call 14; go_must (with_reducible refine HMO.out.mono ?_); rintro e w1 ⟨rfl, rfl⟩))
      go_ret2
      exact ⟨rfl, rfl⟩
theorem dtogether_err (mode : Int) (n1 n2 : Nat) (h : modeB mode = false ∨ n1 ≠ n2 ∨ 8192 < n1) (a b : Option Addr) (c d : Nat) (w : World) (l1 : n1 ≤ 17592186043904) (l2 : n2 ≤ 17592186043904) :
    Calls Try.prog 10 #[.slice a n1 c, .slice b n2 d, .int .i64 mode] w fun e w' => e = .returned (.tuple #[.slice none 0 0, .int .i64 (togP n1 n2 mode)]) ∧ w' = w := by
  have HMO := Lib.hid (dmode_calls mode w)
  cases hm : modeB mode with
  | false =>
    have e : togP n1 n2 mode = 1 := by unfold togP; rw [if_pos (.inl hm)]
    rw [e]
    rw [hm] at HMO
    clear hm h e
    go_enter Try.func10, Try.ntmps10
    go_wp2_with (first
      | (go_at_call 19; go_must (with_reducible refine HMO.out.mono ?_); rintro e w1 ⟨rfl, rfl⟩))
    go_ret2
    exact ⟨rfl, rfl⟩
  | true =>
    rw [hm] at HMO
    by_cases hn : n1 = n2
    · subst hn
      have hb : 8192 < n1 := by
        rcases h with h | h | h
        · rw [hm] at h; cases h
        · exact absurd rfl h
        · exact h
      have e : togP n1 n1 mode = 14 := by unfold togP; rw [if_neg (by rw [hm]; simp)]
      rw [e]
      clear hm h e
      go_enter Try.func10, Try.ntmps10
      go_wp2_with (first
        | (go_at_call 19; go_must (with_reducible refine HMO.out.mono ?_); rintro e w1 ⟨rfl, rfl⟩))
      go_ret2
      exact ⟨rfl, rfl⟩
    · have e : togP n1 n2 mode = 1 := by unfold togP; rw [if_pos (.inr hn)]
      rw [e]
      have hne : ((n1 : Int) != (n2 : Int)) = true := by simp; omega
      clear hm h e hn
      go_enter Try.func10, Try.ntmps10
      go_wp2_with (first
        | (go_at_call 19; go_must (with_reducible refine HMO.out.mono ?_); rintro e w1 ⟨rfl, rfl⟩))
      go_ret2
      exact ⟨rfl, rfl⟩
theorem tog_ap (mode : Int) (hm : modeB mode = true) (z : Int × Int) : apA mode (tgL mode z, tgR mode z) = z.1 ∧ apB mode (tgL mode z, tgR mode z) = z.2 := by
  rcases modeB_cases hm with rfl | rfl | rfl | rfl
  · exact ⟨rfl, rfl⟩
  · constructor
    · rfl
    · show z.1 - (z.1 - z.2) = z.2; omega
  · constructor
    · show z.1 + z.2 - z.2 = z.1; omega
    · rfl
  · constructor
    · show ((2 * z.1 + z.2 % 2 + z.2) / 2 + (2 * z.1 + z.2 % 2 - z.2) / 2) / 2 = z.1; omega
    · show (2 * z.1 + z.2 % 2 + z.2) / 2 - (2 * z.1 + z.2 % 2 - z.2) / 2 = z.2; omega
theorem togV_map (A B : List Int) (mode : Int) : togV A B mode = (A.zip B).map (fun z => (tgL mode z, tgR mode z)) := by
  unfold togV
  generalize A.zip B = zs
  induction zs with
  | nil => rfl
  | cons z zs ih => simp [ih]
theorem togV_back (A B : List Int) (mode : Int) (hm : modeB mode = true) (hl : A.length = B.length) : (togV A B mode).map (apA mode) = A ∧ (togV A B mode).map (apB mode) = B := by
  rw [togV_map, List.map_map, List.map_map]
  have h1 : (apA mode ∘ fun z => (tgL mode z, tgR mode z)) = Prod.fst := by funext z; exact (tog_ap mode hm z).1
  have h2 : (apB mode ∘ fun z => (tgL mode z, tgR mode z)) = Prod.snd := by funext z; exact (tog_ap mode hm z).2
  rw [h1, h2]
  exact ⟨List.map_fst_zip (by omega), List.map_snd_zip (by omega)⟩
theorem togE_in (A B : List Int) (mode : Int) (h : togE A B mode = 0) : ∀ z ∈ togV A B mode, InC z := by
  unfold togE at h
  split at h
  · unfold joinE at h
    split at h
    · cases h
    · split at h
      · cases h
      · split at h
        · rename_i h3
          intro z hz
          exact (inC_iff z).1 (List.all_eq_true.1 h3 z hz)
        · cases h
  · cases h

set_option maxHeartbeats 8000000 in
set_option maxRecDepth 100000 in
theorem stereoMakes_walk (a0 : Option Addr) (len0 cap0 : Nat) (z0 : List Int) (a1 : Option Addr) (len1 cap1 : Nat) (z1 : List Int) (a2 : Int) (w : World) (w0 : InRow .i64 w a0 len0 cap0 z0) (s0 : cap0 * 8 ≤ 140737488351232) (w1 : InRow .i64 w a1 len1 cap1 z1) (s1 : cap1 * 8 ≤ 140737488351232) (w2 : (Lit.int .i64 a2).wf = true) :
    Calls Try.prog 4 #[.slice a0 len0 cap0, .slice a1 len1 cap1, .int .i64 a2] w fun e w' => e = .returned (.bool true) ∧ Below w.heap.size w w' := by
  obtain ⟨hr0, hl0, hw0, hcap0⟩ := w0.rd
  obtain ⟨hr1, hl1, hw1, hcap1⟩ := w1.rd
  generalize z0.take len0 = A at *
  generalize z1.take len1 = B at *
  subst hl0 hl1
  have HA := Lib.hid hr0
  have HB := Lib.hid hr1
  have HK0 : Hid (Keeps [] w w) := Keeps.refl _ _
  have l1 : A.length ≤ 17592186043904 := by omega
  have l2 : B.length ≤ 17592186043904 := by omega
  clear w0 s0 w1 s1 w2 hw0 hw1 hr0 hr1 hcap0 hcap1
  by_cases hbad : modeB a2 = false ∨ A.length ≠ B.length ∨ 8192 < A.length
  · have HT := Lib.hid (fun W => together_err a2 A.length B.length hbad a0 a1 cap0 cap1 W l1 l2)
    have HD := Lib.hid (fun W => dtogether_err a2 A.length B.length hbad a0 a1 cap0 cap1 W l1 l2)
    obtain ⟨E, hE⟩ : ∃ E, togP A.length B.length a2 = E := ⟨_, rfl⟩
    have hE0 : E ≠ 0 := by rw [← hE]; unfold togP; split <;> decide
    rw [hE] at HT HD
    have HS := Lib.hid (fun W => csame_calls [] 0 0 rfl rfl none none 0 0 W (fun z hz => by cases hz) (Lib.hid (RdV.nil W none)) (Lib.hid (RdV.nil W none)))
    have hEb : (E != E) = false := by simp
    have hEn : (E != 0) = true := by simp [hE0]
    clear hE hbad
    go_enter Try.func4, Try.ntmps4
    go_wp2_with (first
      | (go_at_call 5; go_must (refine (sknown_calls _).mono ?_); rintro e wk ⟨rfl, hk1⟩; have HK := Lib.hid (HK0.out.new hk1); clear hk1)
      | (go_at_call 10; go_must (with_reducible refine (HD.out _).mono ?_); rintro e w3 ⟨rfl, rfl⟩)
      | (go_at_call 11; go_must (with_reducible refine (HT.out _).mono ?_); rintro e w4 ⟨rfl, rfl⟩)
      | (go_at_call 12; go_must (with_reducible refine (HS.out _).mono ?_); rintro e w5 ⟨rfl, k5, hk5⟩; have hq5 : Keeps [] w w5 := (by rw [hk5]; exact HK.out.drewN k5); have HK5 := Lib.hid hq5; clear hk5 hq5))
    go_ret
    exact ⟨rfl, HK5.out.below⟩
  · have hm : modeB a2 = true := by cases h : modeB a2 with | true => rfl | false => exact absurd (.inl h) hbad
    have hlen : A.length = B.length := by
      rcases Nat.decEq A.length B.length with h | h
      · exact absurd (.inr (.inl h)) hbad
      · exact h
    have h8 : A.length ≤ 8192 := by
      rcases Nat.lt_or_ge 8192 A.length with h | h
      · exact absurd (.inr (.inr h)) hbad
      · exact h
    obtain ⟨n, hn⟩ : ∃ n, A.length = n := ⟨_, rfl⟩
    have hn2 : B.length = n := by omega
    have HD := Lib.hid (fun W (hk : Keeps [] w W) => dtogether_calls a2 hm A B n hn hn2 (by omega) a0 a1 cap0 cap1 W (Lib.hid (HA.out.new hk)) (Lib.hid (HB.out.new hk)))
    have HT := Lib.hid (fun W (hk : Keeps [] w W) => together_calls a2 hm A B n hn hn2 (by omega) a0 a1 cap0 cap1 W (Lib.hid (HA.out.new hk)) (Lib.hid (HB.out.new hk)))
    obtain ⟨E, hE⟩ : ∃ E, togE A B a2 = E := ⟨_, rfl⟩
    obtain ⟨ba, bb⟩ := togV_back A B a2 hm hlen
    have hin := togE_in A B a2
    obtain ⟨zs, hzs⟩ : ∃ zs, togV A B a2 = zs := ⟨_, rfl⟩
    rw [hE, hzs] at hin
    rw [hE, hzs] at HD HT
    rw [hzs] at ba bb
    have hzl : zs.length = n := by
      have := congrArg List.length ba
      rw [List.length_map] at this
      omega
    have hmc := modeB_cases hm
    rw [hn, hn2]
    by_cases hE0 : E = 0
    · subst hE0
      rw [if_pos rfl] at HD HT
      have hin := hin rfl
      have HS := Lib.hid (fun W a b c d (h1 : Hid (RdV W a (cxs zs))) (h2 : Hid (RdV W b (cxs zs))) => csame_calls zs n n hzl.symm hzl.symm a b c d W hin h1 h2)
      have HAP : Hid (∀ W a c, Hid (RdV W a (cxs zs)) → Calls Try.prog 7 #[.slice a n c, .int .i64 a2] W fun e w' => ∃ ax cx bx dx, e = .returned (.tuple #[.slice ax n cx, .slice bx n dx, .int .i64 0]) ∧ Rd w' .i64 ax A ∧ Rd w' .i64 bx B ∧ Keeps [] W w') := by
        intro W a c h
        refine (apart_calls a2 hmc zs n hzl.symm a c W (by omega) hin h).mono ?_
        rintro e w' ⟨va, vb, rfl, q1⟩
        obtain ⟨ax, cx', e1, q2⟩ := q1.ra.rd
        obtain ⟨bx, dx, e2, q3⟩ := q1.rb.rd
        rw [ba] at e1 q2
        rw [bb] at e2 q3
        rw [hn] at e1
        rw [hn2] at e2
        subst e1 e2
        exact ⟨ax, cx', bx, dx, rfl, q2, q3, q1.keep⟩
      have HI1 : Hid (∀ W a b c d, Hid (Rd W .i64 a A) → Hid (Rd W .i64 b A) → Calls Try.prog 8 #[.slice a n c, .slice b n d] W fun e w' => e = .returned (.bool true) ∧ Keeps [] W w') := by
        intro W a b c d q1 q2
        have := ints_calls A A n n hn.symm hn.symm a b c d W q1 q2
        rwa [decide_eq_true rfl] at this
      have HI2 : Hid (∀ W a b c d, Hid (Rd W .i64 a B) → Hid (Rd W .i64 b B) → Calls Try.prog 8 #[.slice a n c, .slice b n d] W fun e w' => e = .returned (.bool true) ∧ Keeps [] W w') := by
        intro W a b c d q1 q2
        have := ints_calls B B n n hn2.symm hn2.symm a b c d W q1 q2
        rwa [decide_eq_true rfl] at this
      have HZL := Lib.hid hzl
      have hnn : ((n : Int) != (n : Int)) = false := by simp
      clear hn hn2 hlen h8 hE hzs ba bb hin hzl hmc hm hbad l1 l2
      go_enter Try.func4, Try.ntmps4
      go_wp2_with (first
        | (go_at_call 5; go_must (refine (sknown_calls _).mono ?_); rintro e wk ⟨rfl, hk1⟩; have HK := Lib.hid (HK0.out.new hk1); clear hk1)
        | (go_at_call 10; go_must (with_reducible refine (HD.out _ HK.out).mono ?_); rintro e w3 ⟨v3, rfl, hr3, hk3⟩; obtain ⟨ap, cp, hv3, hrv3⟩ := hr3.rdV; rw [cxs_length, HZL.out] at hv3; subst hv3; have HP := Lib.hid hrv3; have HK3 := Lib.hid (HK.out.new hk3); clear hr3 hk3 hrv3)
        | (go_at_call 11; go_must (with_reducible refine (HT.out _ HK3.out).mono ?_); rintro e w4 ⟨v4, rfl, hr4, hk4⟩; obtain ⟨aq, cq, hv4, hrv4⟩ := hr4.rdV; rw [cxs_length, HZL.out] at hv4; subst hv4; have HQ := Lib.hid hrv4; have HP4 := Lib.hid (HP.out.new hk4); have HK4 := Lib.hid (HK3.out.new hk4); clear hr4 hk4 hrv4)
        | (go_at_call 12; go_must (with_reducible refine (HS.out _ _ _ _ _ HQ HP4).mono ?_); rintro e w5 ⟨rfl, k5, hk5⟩; have hq5 : Keeps [] w4 w5 := (by rw [hk5]; exact (Keeps.refl _ _).drewN k5); have HK5 := Lib.hid (HK4.out.new hq5); have HQ5 := Lib.hid (HQ.out.new hq5); clear hk5 hq5)
        | (go_at_call 7; go_must (with_reducible refine (HAP.out _ _ _ HQ5).mono ?_); rintro e w6 ⟨ax, cx6, bx, dx, rfl, hra, hrb, hk6⟩; have HRA := Lib.hid hra; have HRB := Lib.hid hrb; have HK6 := Lib.hid (HK5.out.new hk6); clear hra hrb hk6)
        | (go_at_call 8; go_must (first
            | (with_reducible refine (HI1.out _ _ _ _ _ HRA (Lib.hid (HA.out.new HK6.out))).mono ?_; rintro e w7 ⟨rfl, hk7⟩; have HK7 := Lib.hid (HK6.out.new hk7); have HRB7 := Lib.hid (HRB.out.new hk7); clear hk7)
            | (with_reducible refine (HI2.out _ _ _ _ _ HRB7 (Lib.hid (HB.out.new HK7.out))).mono ?_; rintro e w8 ⟨rfl, hk8⟩; have HK8 := Lib.hid (HK7.out.new hk8); clear hk8))))
      go_ret
      exact ⟨rfl, HK8.out.below⟩
    · rw [if_neg hE0] at HD HT
      have HS := Lib.hid (fun W a b c d (h1 : Hid (RdV W a (cxs []))) (h2 : Hid (RdV W b (cxs []))) => csame_calls [] 0 0 rfl rfl a b c d W (fun z hz => by cases hz) h1 h2)
      have hEb : (E != E) = false := by simp
      have hEn : (E != 0) = true := by simp [hE0]
      clear hn hn2 hlen h8 hE hzs ba bb hin hzl hmc hm hbad l1 l2
      go_enter Try.func4, Try.ntmps4
      go_wp2_with (first
        | (go_at_call 5; go_must (refine (sknown_calls _).mono ?_); rintro e wk ⟨rfl, hk1⟩; have HK := Lib.hid (HK0.out.new hk1); clear hk1)
        | (go_at_call 10; go_must (with_reducible refine (HD.out _ HK.out).mono ?_); rintro e w3 ⟨v3, rfl, hr3, hk3⟩; obtain ⟨ap, cp, hv3, hrv3⟩ := hr3.rdV; have hv3 : v3 = .slice ap 0 cp := hv3; subst hv3; have HP := Lib.hid hrv3; have HK3 := Lib.hid (HK.out.new hk3); clear hr3 hk3 hrv3)
        | (go_at_call 11; go_must (with_reducible refine (HT.out _ HK3.out).mono ?_); rintro e w4 ⟨v4, rfl, hr4, hk4⟩; obtain ⟨aq, cq, hv4, hrv4⟩ := hr4.rdV; have hv4 : v4 = .slice aq 0 cq := hv4; subst hv4; have HQ := Lib.hid hrv4; have HP4 := Lib.hid (HP.out.new hk4); have HK4 := Lib.hid (HK3.out.new hk4); clear hr4 hk4 hrv4)
        | (go_at_call 12; go_must (refine (HS.out _ _ _ _ _ HQ HP4).mono ?_); rintro e w5 ⟨rfl, k5, hk5⟩; have hq5 : Keeps [] w4 w5 := (by rw [hk5]; exact (Keeps.refl _ _).drewN k5); have HK5 := Lib.hid (HK4.out.new hq5); clear hk5 hq5))
      go_ret
      exact ⟨rfl, HK5.out.below⟩
end Go.Proofs.Ytildkehbogmceaa
