/-
  Layer 20 in plain Lean: a group of any bytes, and what it had once more.
-/
import Derived.Test.YtoadmpochaeohaaBSimA
import Derived.Test.YtoadmpochaeohaaBKnown
set_option linter.unusedVariables false
set_option linter.unusedSimpArgs false
set_option maxRecDepth 100000
namespace Go.Proofs.Ytoadmpochaeohaa
open Go.RowKit

def IAll : Ins := ⟨1, 0, 0, 0, 0, 0, 18446744073709551615, 18446744073709551615, 18446744073709551615, 18446744073709551615⟩
def twoL : List Ins := [I0 6 0 0, I0 2 2 4, IAll, I0 3 1 0, I0 7 0 0, I0 8 0 0, I0 11 0 0]
theorem two_right : rightE twoL ((1 : Nat) : Int) ((0 : Nat) : Int) = 0 := by kernel_rfl
theorem two_stop : stopB twoL 1 3 = true := by kernel_rfl
theorem two_slot : slotN twoL 1 = [0] := by kernel_rfl
theorem two_most : mostN twoL 0 = [] := by kernel_rfl
theorem inB_all_ : ∀ n : Fin 256, inB IAll (UInt8.ofNat n.val) = true := of_decide_eq_true (by kernel_rfl)
theorem inB_all (x : UInt8) : inB IAll x = true := by
  have := inB_all_ ⟨x.toNat, x.toNat_lt⟩
  simpa using this
def m2 (fo pl : Bool) : Mc := mOf twoL 1 0 fo pl 3
theorem m2_ins (fo pl : Bool) : (m2 fo pl).ins = twoL := rfl
theorem m2_slot (fo pl : Bool) : (m2 fo pl).slot = [0] := two_slot
theorem m2_most (fo pl : Bool) : (m2 fo pl).most = [] := two_most
theorem m2_fold (fo pl : Bool) : (m2 fo pl).fold = fo := rfl
theorem full2 (fo pl : Bool) : Full (m2 fo pl) := stop_full (of_decide_eq_true two_stop)
theorem MW2 (fo pl : Bool) : MW (m2 fo pl) := new_MW two_right (iterM_post (live0_shp _ _) (live0_post _ _ _ _) _).1
theorem start2 (fo pl : Bool) (s : Nat) : startS (m2 fo pl) s = ⟨0, s, [⟨-1, -1, -1⟩], []⟩ := by
  unfold startS
  rw [m2_slot, m2_most]
  rfl
section
variable {fo pl : Bool} {L : List UInt8} {s j : Nat} {p : Pt}
theorem on2_0 : onS (m2 fo pl) L ⟨0, j, [p], []⟩ = [⟨1, j, [⟨j, p.frm, p.til⟩], []⟩] := by
  unfold onS bracketS
  simp [m2_ins, m2_slot, twoL, I0]
theorem on2_1 : onS (m2 fo pl) L ⟨1, j, [p], []⟩ = [⟨4, j, [p], []⟩, ⟨2, j, [p], []⟩] := by
  unfold onS
  simp [m2_ins, twoL, I0]
theorem on2_2 (h : j < L.length) : onS (m2 fo pl) L ⟨2, j, [p], []⟩ = [⟨3, j + 1, [p], []⟩] := by
  unfold onS
  have hg : L[j]? = some L[j] := List.getElem?_eq_getElem h
  have h1 : IAll.op = 1 := rfl
  simp only [m2_ins, twoL, List.getElem?_cons_succ, List.getElem?_cons_zero, h1, if_true, hg, inB_all]
theorem on2_2x (h : L.length ≤ j) : onS (m2 fo pl) L ⟨2, j, [p], []⟩ = [] := by
  unfold onS
  have hg : L[j]? = none := List.getElem?_eq_none h
  have h1 : IAll.op = 1 := rfl
  simp only [m2_ins, twoL, List.getElem?_cons_succ, List.getElem?_cons_zero, h1, if_true, hg]
theorem on2_3 : onS (m2 fo pl) L ⟨3, j, [p], []⟩ = [⟨1, j, [p], []⟩] := by
  unfold onS
  simp [m2_ins, twoL, I0]
theorem on2_4 : onS (m2 fo pl) L ⟨4, j, [⟨s, -1, -1⟩], []⟩ = [⟨5, j, [⟨s, s, j⟩], []⟩] := by
  unfold onS bracketS
  simp [m2_ins, m2_slot, twoL, I0]
  omega
theorem on2_5 (hs : s ≤ j) (hj : j ≤ L.length) : onS (m2 fo pl) L ⟨5, j, [⟨s, s, j⟩], []⟩ = if j + (j - s) ≤ L.length ∧ sameS fo L s j (j - s) = true then [⟨6, j + (j - s), [⟨s, s, j⟩], []⟩] else [] := by
  have h1 : (I0 8 0 0).op = 8 := rfl
  have ha : againS (m2 fo pl) L ⟨5, j, [⟨s, s, j⟩], []⟩ 0 = if j + (j - s) ≤ L.length ∧ sameS fo L s j (j - s) = true then some (j - s) else none := by
    unfold againS
    simp only [List.getElem?_cons_zero, m2_fold]
    rw [show ((j : Int) - (s : Int)).toNat = j - s by omega, show ((s : Int)).toNat = s by omega]
    by_cases hl : j + (j - s) ≤ L.length
    · rw [if_neg (by omega)]
      by_cases hq : sameS fo L s j (j - s) = true
      · simp [hq, hl]
      · simp [hq]
    · rw [if_pos (by omega), if_neg (fun h => hl h.1)]
  unfold onS
  have h0 : ((m2 fo pl).slot.getD (I0 8 0 0).n.toNat (-1)).toNat = 0 := by rw [m2_slot]; rfl
  have h2 : (m2 fo pl).ins[(⟨5, j, [⟨s, s, j⟩], []⟩ : Cf).pc]? = some (I0 8 0 0) := rfl
  rw [h2]
  simp only [h0, ha, h1]
  by_cases hc : j + (j - s) ≤ L.length ∧ sameS fo L s j (j - s) = true
  · simp [hc]
  · simp [hc]
theorem on2_6 : onS (m2 fo pl) L ⟨6, j, [p], []⟩ = [] := by
  unfold onS
  simp [m2_ins, twoL, I0]
end
/-- What can be come to. -/
inductive TW (fo : Bool) (L : List UInt8) (s : Nat) : Cf → Prop
  | a : TW fo L s ⟨0, s, [⟨-1, -1, -1⟩], []⟩
  | b (j : Nat) (h : s ≤ j) (hj : j ≤ L.length) : TW fo L s ⟨1, j, [⟨s, -1, -1⟩], []⟩
  | c (j : Nat) (h : s ≤ j) (hj : j ≤ L.length) : TW fo L s ⟨2, j, [⟨s, -1, -1⟩], []⟩
  | d (j : Nat) (h : s ≤ j) (hj : j ≤ L.length) : TW fo L s ⟨3, j, [⟨s, -1, -1⟩], []⟩
  | e (j : Nat) (h : s ≤ j) (hj : j ≤ L.length) : TW fo L s ⟨4, j, [⟨s, -1, -1⟩], []⟩
  | f (j : Nat) (h : s ≤ j) (hj : j ≤ L.length) : TW fo L s ⟨5, j, [⟨s, s, j⟩], []⟩
  | g (j : Nat) (h : s ≤ j) (hj : j + (j - s) ≤ L.length) (hq : sameS fo L s j (j - s) = true) : TW fo L s ⟨6, j + (j - s), [⟨s, s, j⟩], []⟩
theorem tw_next {fo pl : Bool} {L : List UInt8} {s : Nat} (hs : s ≤ L.length) : ∀ c, TW fo L s c → ∀ d, d ∈ onS (m2 fo pl) L c → TW fo L s d := by
  intro c hc d hd
  cases hc with
  | a => rw [on2_0, List.mem_singleton] at hd; subst hd; exact .b s (Nat.le_refl _) hs
  | b j h hj =>
    rw [on2_1] at hd
    simp only [List.mem_cons, List.not_mem_nil, or_false] at hd
    rcases hd with rfl | rfl
    · exact .e j h hj
    · exact .c j h hj
  | c j h hj =>
    by_cases hl : j < L.length
    · rw [on2_2 hl, List.mem_singleton] at hd; subst hd; exact .d (j + 1) (by omega) hl
    · rw [on2_2x (by omega)] at hd; cases hd
  | d j h hj => rw [on2_3, List.mem_singleton] at hd; subst hd; exact .b j h hj
  | e j h hj => rw [on2_4, List.mem_singleton] at hd; subst hd; exact .f j h hj
  | f j h hj =>
    rw [on2_5 h hj] at hd
    split at hd
    · rename_i hc
      rw [List.mem_singleton] at hd; subst hd
      exact .g j h hc.1 hc.2
    · cases hd
  | g j h hj hq => rw [on2_6] at hd; cases hd
/-- Is a part of a line some text twice? -/
def dbl (fo : Bool) (L : List UInt8) (s j : Nat) : Bool := (j - s) == 2 * ((j - s) / 2) && sameS fo L s (s + (j - s) / 2) ((j - s) / 2)
/-- The longest part, of those that have been looked at. -/
def wantS (fo : Bool) (L : List UInt8) (s : Nat) : Nat → Nat
  | 0 => s
  | k + 1 => if dbl fo L s (s + k) then s + k else wantS fo L s k
theorem dbl_s (fo : Bool) (L : List UInt8) (s : Nat) : dbl fo L s s = true := by unfold dbl; simp [sameS]
theorem wantS_dbl (fo : Bool) (L : List UInt8) (s : Nat) : ∀ k, dbl fo L s (wantS fo L s k) = true ∧ s ≤ wantS fo L s k ∧ (wantS fo L s k = s ∨ wantS fo L s k < s + k)
  | 0 => ⟨dbl_s fo L s, Nat.le_refl _, .inl rfl⟩
  | k + 1 => by
    rw [wantS]
    split
    · rename_i h; exact ⟨h, by omega, .inr (by omega)⟩
    · obtain ⟨h1, h2, h3⟩ := wantS_dbl fo L s k
      exact ⟨h1, h2, by omega⟩
theorem wantS_max (fo : Bool) (L : List UInt8) (s : Nat) : ∀ k j, s ≤ j → j < s + k → dbl fo L s j = true → j ≤ wantS fo L s k
  | 0, j, h1, h2, _ => by omega
  | k + 1, j, h1, h2, h3 => by
    rw [wantS]
    split
    · omega
    · rename_i h
      by_cases e : j = s + k
      · subst e; exact absurd h3 h
      · exact wantS_max fo L s k j h1 (by omega) h3
theorem two_best {fo pl : Bool} {L : List UInt8} {s f st kp : Nat} {r : Rn} (hs : s ≤ L.length) (hL : L.length ≤ 900000) (h : ranS (m2 fo pl) L f s st kp = some r) : r.best = some (wantS fo L s (L.length + 1 - s)) := by
  obtain ⟨a1, a2⟩ := ran_answer (MW2 fo pl) (full2 fo pl) hL (by rw [m2_ins]; decide) hs h
  rw [start2] at a1 a2
  have hG : ∀ c, Reach (m2 fo pl) L ⟨0, s, [⟨-1, -1, -1⟩], []⟩ c → TW fo L s c := by
    intro c hc
    induction hc with
    | refl => exact .a
    | step _ hd ih => exact tw_next hs _ ih _ hd
  have hB : ∀ k, s + k ≤ L.length → Reach (m2 fo pl) L ⟨0, s, [⟨-1, -1, -1⟩], []⟩ ⟨1, s + k, [⟨s, -1, -1⟩], []⟩ := by
    intro k
    induction k with
    | zero => intro _; exact .step .refl (by rw [on2_0]; exact List.mem_singleton.2 rfl)
    | succ k ih =>
      intro hk
      have s1 := ih (by omega)
      have s2 : Reach (m2 fo pl) L ⟨0, s, [⟨-1, -1, -1⟩], []⟩ ⟨2, s + k, [⟨s, -1, -1⟩], []⟩ := .step s1 (by rw [on2_1]; simp)
      have s3 : Reach (m2 fo pl) L ⟨0, s, [⟨-1, -1, -1⟩], []⟩ ⟨3, s + k + 1, [⟨s, -1, -1⟩], []⟩ := .step s2 (by rw [on2_2 (by omega)]; simp)
      exact .step s3 (by rw [on2_3]; simp [Nat.add_assoc])
  obtain ⟨w1, w2, w3⟩ := wantS_dbl fo L s (L.length + 1 - s)
  have w4 := wantS_max fo L s (L.length + 1 - s)
  generalize wantS fo L s (L.length + 1 - s) = w at *
  unfold dbl at w1
  simp only [Bool.and_eq_true, beq_iff_eq] at w1
  obtain ⟨n, hn⟩ : ∃ n, (w - s) / 2 = n := ⟨_, rfl⟩
  rw [hn] at w1
  have s1 := hB n (by omega)
  have s2 : Reach (m2 fo pl) L ⟨0, s, [⟨-1, -1, -1⟩], []⟩ ⟨4, s + n, [⟨s, -1, -1⟩], []⟩ := .step s1 (by rw [on2_1]; simp)
  have s3 : Reach (m2 fo pl) L ⟨0, s, [⟨-1, -1, -1⟩], []⟩ ⟨5, s + n, [⟨s, s, (s + n : Nat)⟩], []⟩ := .step s2 (by rw [on2_4]; simp)
  have s4 : Reach (m2 fo pl) L ⟨0, s, [⟨-1, -1, -1⟩], []⟩ ⟨6, s + n + (s + n - s), [⟨s, s, (s + n : Nat)⟩], []⟩ := .step s3 (by rw [on2_5 (by omega) (by omega), if_pos ⟨by omega, by rw [show s + n - s = n by omega]; exact w1.2⟩]; simp)
  obtain ⟨x, hx, hxl⟩ := a2 _ s4 (by simp [isHit, m2_ins, twoL, I0])
  obtain ⟨c, hc, hh, he⟩ := a1 x hx
  rw [hx]
  congr 1
  simp only at hxl
  have hw : w ≤ x := by omega
  cases hG c hc with
  | a => simp [isHit, m2_ins, twoL, I0] at hh
  | b j h hj => simp [isHit, m2_ins, twoL, I0] at hh
  | c j h hj => simp [isHit, m2_ins, twoL, IAll] at hh
  | d j h hj => simp [isHit, m2_ins, twoL, I0] at hh
  | e j h hj => simp [isHit, m2_ins, twoL, I0] at hh
  | f j h hj => simp [isHit, m2_ins, twoL, I0] at hh
  | g j h hj hq =>
    simp only at he
    have := w4 x (by omega) (by omega) (by
      unfold dbl
      have e1 : (x - s) / 2 = j - s := by omega
      rw [e1, show s + (j - s) = j by omega, hq]
      simp; omega)
    omega
def mu2 (N : Nat) (c : Cf) : Nat := if c.pc = 0 then 12 + 12 * (N - c.at_) else if c.pc = 1 then 10 + 12 * (N - c.at_) else if c.pc = 2 then 2 + 12 * (N - c.at_) else if c.pc = 3 then 12 + 12 * (N - c.at_) else if c.pc = 4 then 6 else if c.pc = 5 then 4 else 2
theorem two_ends {fo pl : Bool} {L : List UInt8} {s st kp : Nat} (hs : s ≤ L.length) : ∃ r, ranS (m2 fo pl) L (12 + 12 * L.length) s st kp = some r := by
  unfold ranS
  rw [start2]
  refine run_ends (TW fo L s) (tw_next hs) (mu2 L.length) (fun c hc => ?_) _ _ _ (fun c hc => by rw [List.mem_singleton] at hc; injection hc with hc; subst hc; exact .a) (by simp [wt, mu2]; omega)
  cases hc with
  | a => rw [on2_0]; simp [mu2]; omega
  | b j h hj => rw [on2_1]; simp [mu2]; omega
  | c j h hj =>
    by_cases hl : j < L.length
    · rw [on2_2 hl]; simp [mu2]; omega
    · rw [on2_2x (by omega)]; simp [mu2]
  | d j h hj => rw [on2_3]; simp [mu2]; omega
  | e j h hj => rw [on2_4]; simp [mu2]
  | f j h hj => rw [on2_5 h hj]; split <;> simp [mu2]
  | g j h hj hq => rw [on2_6]; simp [mu2]
end Go.Proofs.Ytoadmpochaeohaa
