/-
  Layer 20 in plain Lean: loops within loops.
-/
import Derived.Test.YtoadmpochaeohaaBTimesP
import Derived.Test.YtoadmpochaeohaaBSteps
set_option linter.unusedVariables false
set_option linter.unusedSimpArgs false
set_option maxRecDepth 100000
namespace Go.Proofs.Ytoadmpochaeohaa
open Go.RowKit

def zI (d : Nat) : Ins := ⟨9, 0, 0, d, 0, 0, 0, 0, 0, 0⟩
def tI (d y : Nat) : Ins := ⟨10, ((2 * d + 2 : Nat) : Int), y, d, 0, -1, 0, 0, 0, 0⟩
def jI (d : Nat) : Ins := I0 3 ((2 * d + 1 : Nat) : Int) 0
/-- The heads of the loops: the first e of them; those from u on know where they end. -/
def headL (D u : Nat) (e : Nat) : List Ins := (List.range e).flatMap fun d => [zI d, tI d (if u ≤ d then 3 * D + 1 - d else 0)]
/-- The ends of the loops, down to u. -/
def tailL (D : Nat) (u : Nat) : List Ins := (List.range (D - u)).map fun e => jI (D - 1 - e)
def nestU (D u : Nat) : List Ins := headL D u D ++ IA :: tailL D u
def nestL (D : Nat) : List Ins := nestU D 0 ++ [I0 11 0 0]
theorem nestL_len (D : Nat) : (nestL D).length = 3 * D + 2 := by
  unfold nestL nestU headL tailL
  simp
  have : ∀ n, ((List.range n).map fun _ : Nat => 2).sum = 2 * n := by
    intro n
    induction n with
    | zero => rfl
    | succ n ih => rw [List.range_succ, List.map_append, List.sum_append, ih]; simp; omega
  rw [this]
  omega
def pickC (k : Nat) (c : Cf) (l : List Cf) : Option Cf := if c.at_ < k then l.getLast? else l.head?
def goS (m : Mc) (L : List UInt8) (k : Nat) : Nat → Cf → Cf
  | 0, c => c
  | f + 1, c => match pickC k c (onS m L c) with | some d => goS m L k f d | none => c
theorem goS_reach {m : Mc} {L : List UInt8} {k : Nat} {c0 : Cf} : ∀ (f : Nat) (c : Cf), Reach m L c0 c → Reach m L c0 (goS m L k f c)
  | 0, c, h => h
  | f + 1, c, h => by
    rw [goS]
    split
    · rename_i d hd
      refine goS_reach f d (.step h ?_)
      unfold pickC at hd
      split at hd
      · exact List.mem_of_getLast? hd
      · exact List.mem_of_head? hd
    · exact h
def nestOk (D : Nat) : Bool :=
  rightE (nestL D) ((0 : Nat) : Int) (D : Int) == 0 && keysN (mOf (nestL D) 0 D false false 0) 0 == (3 * D + 2) * 4 ^ D && ((nestL D).all fun i => i.op != 8 && (i.op != 1 || inB i 98 == false)) &&
  (List.range 41).all fun k => (goS (mOf (nestL D) 0 D false false 0) (aLine k) k 200 (startS (mOf (nestL D) 0 D false false 0) 0)).at_ == k && isHit (mOf (nestL D) 0 D false false 0) (goS (mOf (nestL D) 0 D false false 0) (aLine k) k 200 (startS (mOf (nestL D) 0 D false false 0) 0))
theorem nestOk1 : nestOk 1 = true := by kernel_rfl
theorem nestOk2 : nestOk 2 = true := by kernel_rfl
theorem nestOk3 : nestOk 3 = true := by kernel_rfl
theorem nestOk4 : nestOk 4 = true := by kernel_rfl
theorem nestOkD (D : Nat) (h1 : 1 ≤ D) (h4 : D ≤ 4) : nestOk D = true := by
  obtain rfl | rfl | rfl | rfl : D = 1 ∨ D = 2 ∨ D = 3 ∨ D = 4 := by omega
  · exact nestOk1
  · exact nestOk2
  · exact nestOk3
  · exact nestOk4
theorem keysN0 {m : Mc} (h : nsS m = 0) (n : Nat) : keysN m n = m.ins.length * ((n + 1) * radP ((List.range m.most.length).map (rt m))) := by
  unfold keysN rads
  rw [h]
  rfl
structure NestT (D : Nat) : Prop where
  r : rightE (nestL D) ((0 : Nat) : Int) (D : Int) = 0
  n : ∀ n, keysN (mOf (nestL D) 0 D false false 0) n = (3 * D + 2) * ((n + 1) * 4 ^ D)
  op : ∀ i ∈ nestL D, i.op ≠ 8 ∧ (i.op = 1 → inB i 98 = false)
  go : ∀ k, k ≤ 40 → ∃ c, Reach (mOf (nestL D) 0 D false false 0) (aLine k) (startS (mOf (nestL D) 0 D false false 0) 0) c ∧ c.at_ = k ∧ isHit (mOf (nestL D) 0 D false false 0) c = true
theorem nestT (D : Nat) (h1 : 1 ≤ D) (h4 : D ≤ 4) : NestT D := by
  have h := nestOkD D h1 h4
  unfold nestOk at h
  simp only [Bool.and_eq_true, beq_iff_eq] at h
  obtain ⟨⟨⟨a1, a2⟩, a3⟩, a4⟩ := h
  rw [List.all_eq_true] at a3 a4
  refine ⟨a1, fun n => ?_, fun i hi => ?_, fun k hk => ?_⟩
  · have hns : nsS (mOf (nestL D) 0 D false false 0) = 0 := nsN0 (nestL D)
    rw [keysN0 hns] at a2 ⊢
    have hl : (mOf (nestL D) 0 D false false 0).ins.length = 3 * D + 2 := nestL_len D
    rw [hl] at a2 ⊢
    have := Nat.eq_of_mul_eq_mul_left (show 0 < 3 * D + 2 by omega) a2
    rw [Nat.zero_add, Nat.one_mul] at this
    rw [this]
  · have := a3 i hi
    simp at this
    exact ⟨this.1, fun h => by rcases this.2 with h2 | h2; exact absurd h h2; exact h2⟩
  · have := a4 k (List.mem_range.2 (by omega))
    simp only [Bool.and_eq_true, beq_iff_eq] at this
    exact ⟨_, goS_reach 200 _ .refl, this.1, this.2⟩
/-- Where a byte is read, or nothing is. -/
theorem on_at {m : Mc} {L : List UInt8} {c d : Cf} (hd : d ∈ onS m L c) : d.at_ = c.at_ ∨ (∃ i, m.ins[c.pc]? = some i ∧ i.op = 8) ∨ ∃ i x, m.ins[c.pc]? = some i ∧ i.op = 1 ∧ L[c.at_]? = some x ∧ inB i x = true ∧ d.at_ = c.at_ + 1 := by
  unfold onS at hd
  split at hd
  · cases hd
  · rename_i i hi
    simp only at hd
    by_cases h1 : i.op = 1
    · rw [if_pos h1] at hd
      split at hd
      · rename_i x hx
        split at hd
        · rename_i hin
          rw [List.mem_singleton] at hd; subst hd; exact .inr (.inr ⟨i, x, hi, h1, hx, hin, rfl⟩)
        · cases hd
      · cases hd
    rw [if_neg h1] at hd
    by_cases h2 : i.op = 2
    · rw [if_pos h2] at hd
      simp only [List.mem_cons, List.not_mem_nil, or_false] at hd
      rcases hd with rfl | rfl <;> exact .inl rfl
    rw [if_neg h2] at hd
    by_cases h3 : i.op = 3
    · rw [if_pos h3, List.mem_singleton] at hd; subst hd; exact .inl rfl
    rw [if_neg h3] at hd
    by_cases h4 : i.op = 4
    · rw [if_pos h4] at hd
      split at hd
      · rw [List.mem_singleton] at hd; subst hd; exact .inl rfl
      · cases hd
    rw [if_neg h4] at hd
    by_cases h5 : i.op = 5
    · rw [if_pos h5] at hd
      split at hd
      · rw [List.mem_singleton] at hd; subst hd; exact .inl rfl
      · cases hd
    rw [if_neg h5] at hd
    by_cases h6 : i.op = 6 ∨ i.op = 7
    · rw [if_pos h6, List.mem_singleton] at hd; subst hd
      refine .inl ?_
      show (bracketS m c i).at_ = c.at_
      unfold bracketS
      simp only
      split
      · rfl
      · split <;> rfl
    rw [if_neg h6] at hd
    by_cases h8 : i.op = 8
    · exact .inr (.inl ⟨i, hi, h8⟩)
    rw [if_neg h8] at hd
    by_cases h9 : i.op = 9
    · rw [if_pos h9, List.mem_singleton] at hd; subst hd
      exact .inl rfl
    rw [if_neg h9] at hd
    by_cases h10 : i.op = 10
    · rw [if_pos h10] at hd
      split at hd
      · cases hd
      · rcases List.mem_append.1 hd with hd | hd
        · split at hd
          · rw [List.mem_singleton] at hd; subst hd; exact .inl rfl
          · cases hd
        · split at hd
          · rw [List.mem_singleton] at hd; subst hd
            exact .inl rfl
          · cases hd
    rw [if_neg h10] at hd
    cases hd
theorem nest_MW (D : Nat) (h1 : 1 ≤ D) (h4 : D ≤ 4) : MW (mOf (nestL D) 0 D false false 0) := new_MW (nestT D h1 h4).r (live0_shp _ _)
theorem nest_ran (D k : Nat) (h1 : 1 ≤ D) (h4 : D ≤ 4) (hk : k ≤ 40) : ∃ r, ranS (mOf (nestL D) 0 D false false 0) (aLine k) 1000000 0 0 0 = some r ∧ r.best = some k ∧ r.steps ≤ 16 * (3 * D + 2) * (k + 2) * 4 ^ D ∧ 1 ≤ r.kept ∧ r.steps ≤ 1000000 := by
  have hT := nestT D h1 h4
  have hW := nest_MW D h1 h4
  have hl : (aLine k).length = k + 1 := by simp [aLine]
  have hin : 0 < (mOf (nestL D) 0 D false false 0).ins.length := by show 0 < (nestL D).length; rw [nestL_len]; omega
  have hN := hT.n (aLine k).length
  rw [hl, show k + 1 + 1 = k + 2 from rfl] at hN
  have hp : (3 * D + 2) * ((k + 2) * 4 ^ D) ≤ 200000 ∧ 1 ≤ (3 * D + 2) * ((k + 2) * 4 ^ D) := by
    obtain rfl | rfl | rfl | rfl : D = 1 ∨ D = 2 ∨ D = 3 ∨ D = 4 := by omega
    all_goals simp; omega
  obtain ⟨r, a1, a2, a3⟩ := ran_counts (f := 1000000) (st := 0) (kp := 0) hW rfl (L := aLine k) (by omega) hin (Nat.zero_le _) (by rw [hl, hN]; omega)
  rw [hl, hN] at a2
  have hassoc : 16 * (3 * D + 2) * (k + 2) * 4 ^ D = 16 * ((3 * D + 2) * ((k + 2) * 4 ^ D)) := by rw [Nat.mul_assoc, Nat.mul_assoc]
  obtain ⟨b1, b2⟩ := ran_answer hW (full0 _ D false false) (by rw [hl]; omega) hin (Nat.zero_le _) a1
  refine ⟨r, a1, ?_, by rw [hassoc]; omega, a3, by omega⟩
  obtain ⟨c, c1, c2, c3⟩ := hT.go k hk
  obtain ⟨x, hx, hxk⟩ := b2 c c1 c3
  have hle : ∀ c, Reach (mOf (nestL D) 0 D false false 0) (aLine k) (startS (mOf (nestL D) 0 D false false 0) 0) c → c.at_ ≤ k := by
    intro c hc
    induction hc with
    | refl => exact Nat.zero_le _
    | @step c d hc hd ih =>
      rcases on_at hd with h | ⟨i, hi, h8⟩ | ⟨i, x, hi, h1, hx, hin2, h⟩
      · omega
      · exact absurd h8 (hT.op i (List.mem_of_getElem? hi)).1
      · rw [aLine_get k _ ih] at hx
        injection hx with hx
        by_cases hlt : c.at_ < k
        · omega
        · rw [if_neg hlt] at hx
          subst hx
          rw [(hT.op i (List.mem_of_getElem? hi)).2 h1] at hin2
          cases hin2
  obtain ⟨c', d1, d2, d3⟩ := b1 x hx
  have := hle c' d1
  rw [hx]
  congr 1
  omega
end Go.Proofs.Ytoadmpochaeohaa
