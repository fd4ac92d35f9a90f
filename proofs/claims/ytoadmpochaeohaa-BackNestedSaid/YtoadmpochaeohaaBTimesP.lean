/-
  Layer 20 in plain Lean: a counter around a letter.
-/
import Derived.Test.YtoadmpochaeohaaBSimA
import Derived.Test.YtoadmpochaeohaaBPick
set_option linter.unusedVariables false
set_option linter.unusedSimpArgs false
set_option maxRecDepth 100000
namespace Go.Proofs.Ytoadmpochaeohaa
open Go.RowKit

/-- Without groups nothing matters: mark stops at once. -/
theorem stop0 (ins : List Ins) : ∀ (n : Nat) (live : List (List Lv)) (slot : List Int), sweepM ins slot 0 n live = live
  | 0, _, _ => rfl
  | n + 1, live, slot => by rw [sweepM]; exact stop0 ins n live slot
theorem nsN0 (ins : List Ins) : nsN ins 0 = 0 := by
  unfold nsN slotN
  have : ∀ (l : List Ins) (n : Int), (slotP l [] n).1 = [] := by
    intro l
    induction l with
    | nil => intro n; rfl
    | cons i l ih =>
      intro n
      unfold slotP
      split
      · simpa using ih _
      · exact ih _
  rw [show List.replicate 0 (-1 : Int) = [] from rfl, this]
  rfl
theorem full0 (ins : List Ins) (co : Nat) (fo pl : Bool) : Full (mOf ins 0 co fo pl 0) := by
  refine stop_full ?_
  rw [nsN0]
  exact stop0 _ _ _ _
theorem stopB0 (ins : List Ins) : stopB ins 0 0 = true := by
  unfold stopB
  rw [nsN0]
  exact decide_eq_true (stop0 _ _ _ _)
def timesL (lo mx : Int) : List Ins := [⟨9, 0, 0, 0, 0, 0, 0, 0, 0, 0⟩, ⟨10, 2, 4, 0, lo, mx, 0, 0, 0, 0⟩, IA, I0 3 1 0, I0 11 0 0]
theorem times_right (lo mx : Int) (h1 : 0 ≤ lo ∧ lo ≤ 255) (h2 : mx = -1 ∨ (lo ≤ mx ∧ mx ≤ 255)) : rightE (timesL lo mx) ((0 : Nat) : Int) ((1 : Nat) : Int) = 0 := by
  have hall : allFine ((0 : Nat) : Int) ((1 : Nat) : Int) (timesL lo mx) 5 = true := by
    have hr : List.range 5 = [0, 1, 2, 3, 4] := rfl
    unfold allFine
    rw [hr]
    simp [timesL, fineAt, fineB, ofV, withinB, boundsB, I0, IA]
    omega
  unfold rightE
  rw [if_neg (by simp [timesL]), if_neg (by omega), if_neg (by simp [timesL])]
  rw [show (timesL lo mx).length = 5 from rfl, hall]
  rfl
def aLine (k : Nat) : List UInt8 := List.replicate k 97 ++ [98]
/-- How many letters are taken. -/
def takes (mx : Int) (k : Nat) : Nat := if mx = -1 then k else min k mx.toNat
def tT (mo : Int) (j : Nat) : Tn := ⟨min (j : Int) mo, (j : Int) - 1⟩
/-- What can be come to. -/
inductive TG (lo mx mo : Int) (k : Nat) : Cf → Prop
  | a : TG lo mx mo k ⟨0, 0, [], [⟨0, -1⟩]⟩
  | t (j : Nat) (h : j ≤ takes mx k) : TG lo mx mo k ⟨1, j, [], [tT mo j]⟩
  | b (j : Nat) (h : j ≤ takes mx k) (hx : mx = -1 ∨ (j : Int) < mx) : TG lo mx mo k ⟨2, j, [], [tT mo (j + 1)]⟩
  | c (j : Nat) (h : j ≤ takes mx k) : TG lo mx mo k ⟨3, j, [], [tT mo j]⟩
  | d (j : Nat) (h : j ≤ takes mx k) (hl : lo ≤ j) : TG lo mx mo k ⟨4, j, [], [tT mo j]⟩
def moT (lo mx : Int) : Int := max (max 0 mx) (lo + 1)
theorem times_most (lo mx : Int) : mostN (timesL lo mx) 1 = [moT lo mx] := by simp [mostN, timesL, mostP, I0, IA, moT]
theorem times_slot (lo mx : Int) : slotN (timesL lo mx) 0 = [] := by simp [slotN, timesL, slotP, I0, IA]
theorem aLine_get (k j : Nat) (h : j ≤ k) : (aLine k)[j]? = some (if j < k then 97 else 98) := by
  unfold aLine
  by_cases hj : j < k
  · rw [List.getElem?_append_left (by simpa using hj), List.getElem?_replicate, if_pos hj, if_pos hj]
  · rw [List.getElem?_append_right (by simp; omega), List.length_replicate, show j - k = 0 by omega, if_neg hj]; rfl
theorem inB_a : inB IA 97 = true := by decide
theorem inB_b : inB IA 98 = false := by decide
theorem inB_a' : inB ⟨1, 0, 0, 0, 0, 0, 0, 8589934592, 0, 0⟩ 97 = true := by decide
theorem inB_b' : inB ⟨1, 0, 0, 0, 0, 0, 0, 8589934592, 0, 0⟩ 98 = false := by decide
theorem takes_le (mx : Int) (k : Nat) : takes mx k ≤ k := by unfold takes; split <;> omega
set_option maxHeartbeats 1000000 in
theorem tg_next {lo mx : Int} {k : Nat} {pl : Bool} (h1 : 0 ≤ lo) (h2 : mx = -1 ∨ lo ≤ mx) : ∀ c, TG lo mx (moT lo mx) k c → ∀ d, d ∈ onS (mOf (timesL lo mx) 0 1 false pl 0) (aLine k) c → TG lo mx (moT lo mx) k d := by
  intro c hc d hd
  have hmo : lo + 1 ≤ moT lo mx ∧ mx ≤ moT lo mx ∧ 0 ≤ moT lo mx := by unfold moT; omega
  have htk := takes_le mx k
  cases hc with
  | a =>
    simp [onS, mOf, timesL, countS] at hd
    subst hd
    have := TG.t (lo := lo) (mx := mx) (mo := moT lo mx) (k := k) 0 (Nat.zero_le _)
    simpa [tT, show min (0 : Int) (moT lo mx) = 0 by omega] using this
  | t j h =>
    simp only [onS, mOf, timesL, List.getElem?_cons_succ, List.getElem?_cons_zero, times_most lo mx] at hd
    simp [countS, tT] at hd
    obtain ⟨hno, hd⟩ := hd
    rcases hd with ⟨hl, rfl⟩ | ⟨hx, rfl⟩
    · exact .d j h (by omega)
    · have e : (⟨min (min (j : Int) (moT lo mx) + 1) (moT lo mx), (j : Int)⟩ : Tn) = tT (moT lo mx) (j + 1) := by
        unfold tT
        congr 1 <;> omega
      have hm := times_most lo mx
      unfold timesL at hm
      rw [hm]
      show TG lo mx (moT lo mx) k ⟨2, j, [], [⟨min (min (j : Int) (moT lo mx) + 1) (moT lo mx), (j : Int)⟩]⟩
      rw [e]
      exact .b j h (by omega)
  | b j h hx =>
    have hjk : j ≤ k := by omega
    have hg := aLine_get k j hjk
    simp only [onS, mOf, timesL, List.getElem?_cons_succ, List.getElem?_cons_zero, hg] at hd
    simp [IA] at hd
    by_cases hj : j < k
    · simp [hj, inB_a'] at hd
      subst hd
      exact .c (j + 1) (by unfold takes; split <;> omega)
    · simp [hj, inB_b'] at hd
  | c j h =>
    simp [onS, mOf, timesL, I0] at hd
    subst hd
    exact .t j h
  | d j h hl =>
    simp [onS, mOf, timesL, I0] at hd
theorem tg_hit {lo mx : Int} {k : Nat} {pl : Bool} : ∀ c, TG lo mx (moT lo mx) k c → isHit (mOf (timesL lo mx) 0 1 false pl 0) c = true → c.at_ ≤ takes mx k ∧ lo ≤ c.at_ := by
  intro c hc hh
  cases hc with
  | a => simp [isHit, mOf, timesL] at hh
  | t j h => simp [isHit, mOf, timesL] at hh
  | b j h hx => simp [isHit, mOf, timesL, IA] at hh
  | c j h => simp [isHit, mOf, timesL, I0] at hh
  | d j h hl => exact ⟨h, hl⟩
theorem times_start (lo mx : Int) (pl : Bool) : startS (mOf (timesL lo mx) 0 1 false pl 0) 0 = ⟨0, 0, [], [⟨0, -1⟩]⟩ := by
  unfold startS mOf
  simp only [times_most, times_slot]
  rfl
theorem times_reach {lo mx : Int} {k : Nat} {pl : Bool} (h1 : 0 ≤ lo) (h2 : mx = -1 ∨ lo ≤ mx) : ∀ j, j ≤ takes mx k → Reach (mOf (timesL lo mx) 0 1 false pl 0) (aLine k) ⟨0, 0, [], [⟨0, -1⟩]⟩ ⟨1, j, [], [tT (moT lo mx) j]⟩
  | 0, _ => by
    refine .step .refl ?_
    simp [onS, mOf, timesL, countS, tT]
    unfold moT; omega
  | j + 1, hj => by
    have hmo : lo + 1 ≤ moT lo mx ∧ mx ≤ moT lo mx ∧ 0 ≤ moT lo mx := by unfold moT; omega
    have htk := takes_le mx k
    have ih := times_reach (k := k) (pl := pl) h1 h2 j (by omega)
    have hx : mx = -1 ∨ (j : Int) < mx := by unfold takes at hj; split at hj <;> omega
    have e : (⟨min (min (j : Int) (moT lo mx) + 1) (moT lo mx), (j : Int)⟩ : Tn) = tT (moT lo mx) (j + 1) := by
      unfold tT
      congr 1 <;> omega
    have s1 : Reach (mOf (timesL lo mx) 0 1 false pl 0) (aLine k) ⟨0, 0, [], [⟨0, -1⟩]⟩ ⟨2, j, [], [tT (moT lo mx) (j + 1)]⟩ := by
      refine .step ih ?_
      have hm := times_most lo mx
      unfold timesL at hm
      simp only [onS, mOf, timesL, List.getElem?_cons_succ, List.getElem?_cons_zero, hm]
      simp [countS, tT]
      refine ⟨fun _ => by omega, by omega, by omega⟩
    have s2 : Reach (mOf (timesL lo mx) 0 1 false pl 0) (aLine k) ⟨0, 0, [], [⟨0, -1⟩]⟩ ⟨3, j + 1, [], [tT (moT lo mx) (j + 1)]⟩ := by
      refine .step s1 ?_
      have hg := aLine_get k j (by omega)
      rw [if_pos (by omega)] at hg
      simp only [onS, mOf, timesL, List.getElem?_cons_succ, List.getElem?_cons_zero, hg]
      simp [IA, show inB ⟨1, 0, 0, 0, 0, 0, 0, 8589934592, 0, 0⟩ 97 = true from inB_a]
    refine .step s2 ?_
    simp [onS, mOf, timesL, I0]
theorem times_best {lo mx : Int} {k f st kp : Nat} {pl : Bool} {r : Rn} (h1 : 0 ≤ lo ∧ lo ≤ 255) (h2 : mx = -1 ∨ (lo ≤ mx ∧ mx ≤ 255)) (hk : k ≤ 1000) (h : ranS (mOf (timesL lo mx) 0 1 false pl 0) (aLine k) f 0 st kp = some r) :
    r.best = if lo ≤ takes mx k then some (takes mx k) else none := by
  have hW : MW (mOf (timesL lo mx) 0 1 false pl 0) := by
    have := new_MW (fo := false) (pl := pl) (times_right lo mx h1 h2) (live0_shp _ _)
    exact this
  obtain ⟨a1, a2⟩ := ran_answer hW (full0 _ 1 false pl) (by simp [aLine]; omega) (by show 0 < (timesL lo mx).length; simp [timesL]) (by omega) h
  rw [times_start] at a1 a2
  have hG : ∀ c, Reach (mOf (timesL lo mx) 0 1 false pl 0) (aLine k) ⟨0, 0, [], [⟨0, -1⟩]⟩ c → TG lo mx (moT lo mx) k c := by
    intro c hc
    induction hc with
    | refl => exact .a
    | step _ hd ih => exact tg_next h1.1 (by omega) _ ih _ hd
  by_cases hle : lo ≤ takes mx k
  · rw [if_pos hle]
    have hmo : lo + 1 ≤ moT lo mx ∧ mx ≤ moT lo mx ∧ 0 ≤ moT lo mx := by unfold moT; omega
    have s1 := times_reach (k := k) (pl := pl) h1.1 (by omega) (takes mx k) (Nat.le_refl _)
    have s2 : Reach (mOf (timesL lo mx) 0 1 false pl 0) (aLine k) ⟨0, 0, [], [⟨0, -1⟩]⟩ ⟨4, takes mx k, [], [tT (moT lo mx) (takes mx k)]⟩ := by
      refine .step s1 ?_
      simp only [onS, mOf, timesL, List.getElem?_cons_succ, List.getElem?_cons_zero]
      simp [countS, tT]
      refine ⟨fun _ => by omega, by omega⟩
    obtain ⟨x, hx, hxl⟩ := a2 _ s2 (by simp [isHit, mOf, timesL, I0])
    obtain ⟨c, hc, hh, he⟩ := a1 x hx
    have := tg_hit c (hG c hc) hh
    rw [hx]
    congr 1
    simp only at hxl
    omega
  · rw [if_neg hle]
    cases hb : r.best with
    | none => rfl
    | some e =>
      obtain ⟨c, hc, hh, he⟩ := a1 e hb
      have := tg_hit c (hG c hc) hh
      omega
/-- How much is left to do, at most. -/
def muT (k : Nat) (c : Cf) : Nat := if c.pc = 0 then 18 + 8 * k else if c.pc = 1 then 16 + 8 * (k - c.at_) else if c.pc = 2 then 12 + 8 * (k - c.at_) else if c.pc = 3 then 18 + 8 * (k - c.at_) else 2
theorem times_ends {lo mx : Int} {k st kp : Nat} {pl : Bool} (h1 : 0 ≤ lo) (h2 : mx = -1 ∨ lo ≤ mx) : ∃ r, ranS (mOf (timesL lo mx) 0 1 false pl 0) (aLine k) (18 + 8 * k) 0 st kp = some r := by
  unfold ranS
  rw [times_start]
  refine run_ends (TG lo mx (moT lo mx) k) (tg_next h1 h2) (muT k) (fun c hc => ?_) _ _ _ (fun c hc => by rw [List.mem_singleton] at hc; injection hc with hc; subst hc; exact .a) (by simp [wt, muT])
  have htk := takes_le mx k
  have hm := times_most lo mx
  unfold timesL at hm
  cases hc with
  | a => simp [onS, mOf, timesL, countS, muT]; omega
  | t j h =>
    simp only [onS, mOf, timesL, List.getElem?_cons_succ, List.getElem?_cons_zero, hm]
    simp only [tT, List.getD_eq_getElem?_getD, Int.toNat_zero, List.getElem?_cons_zero, Option.getD_some]
    rw [if_neg (by omega), if_neg (by omega), if_neg (by omega), if_neg (by omega), if_neg (by omega), if_neg (by omega), if_neg (by omega), if_neg (by omega)]
    simp only [if_true]
    split
    · simp [muT]; omega
    · split <;> split <;> simp [muT, countS] <;> omega
  | b j h hx =>
    have hg := aLine_get k j (by omega)
    simp only [onS, mOf, timesL, List.getElem?_cons_succ, List.getElem?_cons_zero, hg]
    simp only [IA, if_true]
    by_cases hj : j < k
    · simp [hj, inB_a', muT]; omega
    · simp [hj, inB_b', muT]; omega
  | c j h => simp [onS, mOf, timesL, I0, muT]; omega
  | d j h hl => simp [onS, mOf, timesL, I0, muT]
end Go.Proofs.Ytoadmpochaeohaa
