/-
  NfaEmpty's law, in plain Lean.
-/
import Derived.Test.YtamiliccnbkipaaNPure
set_option linter.unusedVariables false
set_option linter.unusedSimpArgs false
namespace Go.Proofs.Ytamiliccnbkipaa
open Go.RowKit

section
variable {l : List Ins} {line : List UInt8} {at_ : Nat}
theorem stepS_nobyte (hb : ∀ (k : Nat) (i : Ins), l[k]? = some i → i.op ≠ 1) (p : Nat × Int) (b : Best) :
    stepS l line at_ p (b, []) = (b, []) ∨ (stepS l line at_ p (b, []) = (bestAt b p.2 at_, []) ∧ ∃ i, l[p.1]? = some i ∧ i.op = 11) := by
  unfold stepS
  split
  · exact .inl rfl
  · rename_i i hi
    split
    · rename_i h
      exact .inr ⟨rfl, i, hi, h⟩
    · rw [if_neg (hb _ _ hi)]
      exact .inl rfl
theorem bestAt_some (b : Best) (f : Int) (at_ : Nat) (hb : b = none ∨ ∃ g, b = some (g, (at_ : Int))) : ∃ g, bestAt b f at_ = some (g, (at_ : Int)) := by
  rcases hb with rfl | ⟨g, rfl⟩
  · exact ⟨_, rfl⟩
  · unfold bestAt
    simp only
    split
    · exact ⟨_, rfl⟩
    · exact ⟨_, rfl⟩
/-- Without bytes a turn leaves nothing behind; what it finds ends where it stands. -/
theorem turn_nobyte (hb : ∀ (k : Nat) (i : Ins), l[k]? = some i → i.op ≠ 1) : ∀ (now : List (Nat × Int)) (b : Best), (b = none ∨ ∃ g, b = some (g, (at_ : Int))) →
    (turnS l line at_ now (b, [])).2 = [] ∧ ((turnS l line at_ now (b, [])).1 = none ∨ ∃ g, (turnS l line at_ now (b, [])).1 = some (g, (at_ : Int))) ∧
      ((turnS l line at_ now (b, [])).1.isSome = true → b.isSome = true ∨ ∃ p ∈ now, ∃ i, l[p.1]? = some i ∧ i.op = 11)
  | [], b, h => ⟨rfl, h, fun h => .inl h⟩
  | p :: now, b, h => by
    rw [turnS]
    split
    · exact ⟨rfl, h, fun h => .inl h⟩
    · rcases stepS_nobyte (line := line) (at_ := at_) hb p b with e | ⟨e, i, hi, ho⟩
      · rw [e]
        obtain ⟨h1, h2, h3⟩ := turn_nobyte hb now b h
        refine ⟨h1, h2, fun hs => ?_⟩
        rcases h3 hs with h4 | ⟨q, hq, h5⟩
        · exact .inl h4
        · exact .inr ⟨q, List.mem_cons_of_mem _ hq, h5⟩
      · rw [e]
        obtain ⟨h1, h2, h3⟩ := turn_nobyte hb now (bestAt b p.2 at_) (.inr (bestAt_some b p.2 at_ h))
        exact ⟨h1, h2, fun _ => .inr ⟨p, List.mem_cons_self, i, hi, ho⟩⟩
theorem step_keeps (p : Nat × Int) (s : Best × List (Nat × Int)) (h : s.1.isSome = true) : (stepS l line at_ p s).1.isSome = true := by
  obtain ⟨b, nx⟩ := s
  obtain ⟨⟨f0, t⟩, rfl⟩ := Option.isSome_iff_exists.1 h
  unfold stepS
  split
  · rfl
  · split
    · unfold bestAt
      simp only
      split <;> rfl
    · split
      · split
        · split <;> rfl
        · rfl
      · rfl
theorem turn_keeps : ∀ (now : List (Nat × Int)) (s : Best × List (Nat × Int)), s.1.isSome = true → (turnS l line at_ now s).1.isSome = true
  | [], s, h => h
  | p :: now, s, h => by
    rw [turnS]
    split
    · exact h
    · exact turn_keeps now _ (step_keeps p s h)
theorem stepS_op (p : Nat × Int) (b : Best) (nx : List (Nat × Int)) : ((stepS l line at_ p (b, nx)).1 = b) ∨ (stepS l line at_ p (b, nx)).1.isSome = true := by
  unfold stepS
  split
  · exact .inl rfl
  · split
    · right
      cases b with
      | none => rfl
      | some b =>
        unfold bestAt
        simp only
        split <;> rfl
    · split
      · split
        · split <;> exact .inl rfl
        · exact .inl rfl
      · exact .inl rfl
/-- Where a match is among those that are now, something is found. -/
theorem turn_found : ∀ (now : List (Nat × Int)) (nx : List (Nat × Int)) (p : Nat × Int) (i : Ins), p ∈ now → l[p.1]? = some i → i.op = 11 → (turnS l line at_ now (none, nx)).1.isSome = true
  | [], nx, p, i, hp, _, _ => by cases hp
  | q :: now, nx, p, i, hp, hi, ho => by
    rw [turnS, if_neg (by simp [tooLate])]
    by_cases hs : (stepS l line at_ q (none, nx)).1.isSome = true
    · exact turn_keeps now _ hs
    · have hn : (stepS l line at_ q (none, nx)).1 = none := by
        rcases stepS_op (l := l) (line := line) (at_ := at_) q none nx with h | h
        · exact h
        · exact absurd h hs
      rcases List.mem_cons.1 hp with rfl | hp
      · exfalso
        unfold stepS at hs
        rw [hi] at hs
        simp only [ho, if_true] at hs
        exact hs rfl
      · generalize stepS l line at_ q (none, nx) = s at *
        obtain ⟨b, nx2⟩ := s
        simp only at hn
        subst hn
        exact turn_found now nx2 p i hp hi ho
end
/-- Without bytes a search finds the empty part or nothing, and where it finds one it does so in the empty line. -/
theorem empty_law (l : List Ins) (hfi : Fine l) (hb : ∀ (k : Nat) (i : Ins), l[k]? = some i → i.op ≠ 1) (line : List UInt8) (at_ : Nat) (hat : at_ ≤ line.length) :
    findS l line at_ false = none ∨ ((∃ g, findS l line at_ false = some (g, (at_ : Int))) ∧ (findS l [] 0 false).isSome = true) := by
  obtain ⟨h1, h2, h3⟩ := turn_nobyte (line := line) (at_ := at_) hb (comeL l (at_ == 0) (at_ == line.length) at_ 0 []) none (.inl rfl)
  have hf : findS l line at_ false = (turnS l line at_ (comeL l (at_ == 0) (at_ == line.length) at_ 0 []) (none, [])).1 := by
    unfold findS
    cases line.length - at_ with
    | zero => rfl
    | succ m => rw [playS, Bool.false_and, if_neg (by simp), if_pos h1]
  rcases h2 with h2 | ⟨g, h2⟩
  · exact .inl (hf.trans h2)
  · refine .inr ⟨⟨g, hf.trans h2⟩, ?_⟩
    rcases h3 (by rw [h2]; rfl) with h4 | ⟨p, hp, i, hi, ho⟩
    · simp at h4
    · have hm := come_empty l hfi (at_ == 0) (at_ == line.length) at_ 0 p.1 (List.mem_map_of_mem hp)
      obtain ⟨q, hq, e⟩ := List.mem_map.1 hm
      have := turn_found (l := l) (line := []) (at_ := 0) (comeL l true true 0 0 []) [] q i hq (by rw [e]; exact hi) ho
      exact this
end Go.Proofs.Ytamiliccnbkipaa
