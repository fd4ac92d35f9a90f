/-
  NfaBehind's law, in plain Lean: what is matched stays matched when more stands behind.
-/
import Derived.Test.YtamiliccnbkipaaNExact
set_option linter.unusedVariables false
set_option linter.unusedSimpArgs false
namespace Go.Proofs.Ytamiliccnbkipaa
open Go.RowKit

section
variable {l : List Ins}
theorem succs_noend (hb : ∀ (k : Nat) (i : Ins), l[k]? = some i → i.op ≠ 5) (b0 b1 c1 : Bool) (k : Nat) : succs l b0 b1 k = succs l b0 c1 k := by
  unfold succs
  split
  · rfl
  · rename_i i hi
    rw [if_neg (hb k i hi), if_neg (hb k i hi)]
theorem comeP_noend (hb : ∀ (k : Nat) (i : Ins), l[k]? = some i → i.op ≠ 5) (b0 b1 c1 : Bool) (fm : Int) : ∀ (f : Nat) (st : List Nat) (np : List (Nat × Int)), comeP l b0 b1 fm f st np = comeP l b0 c1 fm f st np
  | 0, _, np => rfl
  | _ + 1, [], np => rfl
  | f + 1, j :: st, np => by
    rw [comeP, comeP]
    split
    · exact comeP_noend hb b0 b1 c1 fm f st np
    · rw [succs_noend hb b0 b1 c1 j]
      exact comeP_noend hb b0 b1 c1 fm f _ _
theorem step_same (hb : ∀ (k : Nat) (i : Ins), l[k]? = some i → i.op ≠ 5) {line line2 : List UInt8} {at_ : Nat} (h : line[at_]? = line2[at_]?) (p : Nat × Int) (s : Best × List (Nat × Int)) : stepS l line at_ p s = stepS l line2 at_ p s := by
  unfold stepS
  rw [h]
  split
  · rfl
  · split
    · rfl
    · split
      · split
        · split
          · unfold comeL; rw [comeP_noend hb false _ (at_ + 1 == line2.length)]
          · rfl
        · rfl
      · rfl
theorem turn_same (hb : ∀ (k : Nat) (i : Ins), l[k]? = some i → i.op ≠ 5) {line line2 : List UInt8} {at_ : Nat} (h : line[at_]? = line2[at_]?) : ∀ (now : List (Nat × Int)) (s : Best × List (Nat × Int)), turnS l line at_ now s = turnS l line2 at_ now s
  | [], s => rfl
  | p :: now, s => by
    rw [turnS, turnS, step_same hb h p s]
    split
    · rfl
    · exact turn_same hb h now _
theorem step_best (line line2 : List UInt8) (at_ : Nat) (p : Nat × Int) (b : Best) (nx nx2 : List (Nat × Int)) : (stepS l line at_ p (b, nx)).1 = (stepS l line2 at_ p (b, nx2)).1 ∧ ((stepS l line at_ p (b, nx)).1 = b ∨ ∃ g, (stepS l line at_ p (b, nx)).1 = some (g, (at_ : Int))) := by
  unfold stepS
  split
  · exact ⟨rfl, .inl rfl⟩
  · split
    · refine ⟨rfl, ?_⟩
      cases b with
      | none => exact .inr ⟨_, rfl⟩
      | some q =>
        simp only [bestAt]
        split
        · exact .inr ⟨_, rfl⟩
        · exact .inl rfl
    · split
      · constructor
        · split <;> split <;> (try split) <;> (try split) <;> rfl
        · left
          split
          · split <;> rfl
          · rfl
      · exact ⟨rfl, .inl rfl⟩
theorem turn_best (line line2 : List UInt8) (at_ : Nat) : ∀ (now : List (Nat × Int)) (b : Best) (nx nx2 : List (Nat × Int)), (turnS l line at_ now (b, nx)).1 = (turnS l line2 at_ now (b, nx2)).1 ∧ ((turnS l line at_ now (b, nx)).1 = b ∨ ∃ g, (turnS l line at_ now (b, nx)).1 = some (g, (at_ : Int)))
  | [], b, nx, nx2 => ⟨rfl, .inl rfl⟩
  | p :: now, b, nx, nx2 => by
    rw [turnS, turnS]
    split
    · exact ⟨rfl, .inl rfl⟩
    · obtain ⟨h1, h2⟩ := step_best (l := l) line line2 at_ p b nx nx2
      generalize stepS l line at_ p (b, nx) = s at *
      generalize stepS l line2 at_ p (b, nx2) = s2 at *
      obtain ⟨sb, sn⟩ := s
      obtain ⟨sb2, sn2⟩ := s2
      simp only at h1 h2
      subst h1
      obtain ⟨h3, h4⟩ := turn_best line line2 at_ now sb sn sn2
      refine ⟨h3, ?_⟩
      rcases h4 with h4 | h4
      · rw [h4]; exact h2
      · exact .inr h4
/-- What is found later ends no earlier. -/
theorem play_mono (line : List UInt8) : ∀ (m at_ : Nat) (now : List (Nat × Int)) (b : Best), playS l line false m at_ now b = b ∨ ∃ g t, playS l line false m at_ now b = some (g, t) ∧ (at_ : Int) ≤ t
  | 0, at_, now, b => by
    rw [playS]
    rcases (turn_best (l := l) line line at_ now b [] []).2 with h | ⟨g, h⟩
    · exact .inl h
    · exact .inr ⟨g, _, h, Int.le_refl _⟩
  | m + 1, at_, now, b => by
    rw [playS, Bool.false_and, if_neg (by simp)]
    have hb := (turn_best (l := l) line line at_ now b [] []).2
    generalize turnS l line at_ now (b, []) = r at *
    split
    · rcases hb with h | ⟨g, h⟩
      · exact .inl h
      · exact .inr ⟨g, _, h, Int.le_refl _⟩
    · rcases play_mono line m (at_ + 1) r.2 r.1 with h | ⟨g, t, h, ht⟩
      · rw [h]
        rcases hb with h | ⟨g, h⟩
        · exact .inl h
        · exact .inr ⟨g, _, h, Int.le_refl _⟩
      · exact .inr ⟨g, t, h, by omega⟩
/-- With more behind it something is found that ends no earlier. -/
theorem play_more (hb : ∀ (k : Nat) (i : Ins), l[k]? = some i → i.op ≠ 5) (line more : List UInt8) : ∀ (m at_ : Nat) (now : List (Nat × Int)) (b : Best), at_ + m = line.length → (∀ g t, b = some (g, t) → t < (at_ : Int)) → ∀ g t, playS l line false m at_ now b = some (g, t) →
    ∃ g2 t2, playS l (line ++ more) false (m + more.length) at_ now b = some (g2, t2) ∧ t ≤ t2
  | 0, at_, now, b, hm, hinv, g, t, h => by
    rw [playS] at h
    have hr := (turn_best (l := l) line (line ++ more) at_ now b [] []).1
    rw [h] at hr
    have hle : t ≤ (at_ : Int) := by
      rcases (turn_best (l := l) line line at_ now b [] []).2 with h1 | ⟨q, h1⟩
      · rw [h] at h1; have := hinv g t h1.symm; omega
      · rw [h] at h1; cases h1; exact Int.le_refl _
    rw [Nat.zero_add]
    cases more.length with
    | zero => rw [playS]; exact ⟨g, t, hr.symm, Int.le_refl _⟩
    | succ k =>
      rw [playS, Bool.false_and, if_neg (by simp)]
      split
      · exact ⟨g, t, hr.symm, Int.le_refl _⟩
      · rw [← hr]
        rcases play_mono (l := l) (line ++ more) k (at_ + 1) (turnS l (line ++ more) at_ now (b, [])).2 (some (g, t)) with h2 | ⟨g2, t2, h2, h3⟩
        · exact ⟨g, t, h2, Int.le_refl _⟩
        · exact ⟨g2, t2, h2, by omega⟩
  | m + 1, at_, now, b, hm, hinv, g, t, h => by
    have hsame : line[at_]? = (line ++ more)[at_]? := by rw [List.getElem?_append_left (by omega)]
    rw [playS, Bool.false_and, if_neg (by simp)] at h
    rw [show m + 1 + more.length = (m + more.length) + 1 by omega, playS, Bool.false_and, if_neg (by simp), ← turn_same hb hsame]
    have hbest := (turn_best (l := l) line line at_ now b [] []).2
    generalize turnS l line at_ now (b, []) = r at *
    split at h
    · rename_i hr
      rw [if_pos hr]
      exact ⟨g, t, h, Int.le_refl _⟩
    · rename_i hr
      rw [if_neg hr]
      refine play_more hb line more m (at_ + 1) r.2 r.1 (by omega) (fun g' t' e => ?_) g t h
      rcases hbest with h1 | ⟨q, h1⟩
      · have := hinv g' t' (by rw [← h1]; exact e); omega
      · rw [h1] at e; cases e; omega
/-- In the line that ends where the part ends it is found. -/
theorem play_end (hb : ∀ (k : Nat) (i : Ins), l[k]? = some i → i.op ≠ 5) (line : List UInt8) (n : Nat) (hn : n ≤ line.length) : ∀ (d m at_ : Nat) (now : List (Nat × Int)) (b : Best), at_ + d = n → at_ + m = line.length → (∀ g t, b = some (g, t) → t < (at_ : Int)) → ∀ g, playS l line false m at_ now b = some (g, (n : Int)) →
    ∃ g2, playS l (line.take n) false d at_ now b = some (g2, (n : Int))
  | 0, m, at_, now, b, hd, hm, hinv, g, h => by
    rw [playS]
    have hr := turn_best (l := l) line (line.take n) at_ now b [] []
    cases m with
    | zero =>
      rw [playS] at h
      exact ⟨g, by rw [← hr.1]; exact h⟩
    | succ m =>
      rw [playS, Bool.false_and, if_neg (by simp)] at h
      split at h
      · exact ⟨g, by rw [← hr.1]; exact h⟩
      · rcases play_mono (l := l) line m (at_ + 1) (turnS l line at_ now (b, [])).2 (turnS l line at_ now (b, [])).1 with h2 | ⟨g2, t2, h2, h3⟩
        · rw [h] at h2
          exact ⟨g, by rw [← hr.1]; exact h2.symm⟩
        · rw [h] at h2; cases h2; omega
  | d + 1, m, at_, now, b, hd, hm, hinv, g, h => by
    have hsame : line[at_]? = (line.take n)[at_]? := by rw [List.getElem?_take_of_lt (by omega)]
    have hbest := (turn_best (l := l) line line at_ now b [] []).2
    have hle : ∀ g' t', (turnS l line at_ now (b, [])).1 = some (g', t') → t' < ((at_ + 1 : Nat) : Int) := fun g' t' e => by
      rcases hbest with h1 | ⟨q, h1⟩
      · have := hinv g' t' (by rw [← h1]; exact e); omega
      · rw [h1] at e; cases e; omega
    cases m with
    | zero => omega
    | succ m =>
      rw [playS, Bool.false_and, if_neg (by simp)] at h
      rw [playS, Bool.false_and, if_neg (by simp), ← turn_same hb hsame]
      generalize turnS l line at_ now (b, []) = r at *
      split at h
      · have := hle g n h; omega
      · rename_i hr
        rw [if_neg hr]
        exact play_end hb line n hn d m (at_ + 1) r.2 r.1 (by omega) (by omega) hle g h
end
theorem behind_law (l : List Ins) (hb : ∀ (k : Nat) (i : Ins), l[k]? = some i → i.op ≠ 5) (line more : List UInt8) (g : Int) (n : Nat) (hn : n ≤ line.length) (h : findS l line 0 false = some (g, (n : Int))) :
    (∃ g2 t2, findS l (line ++ more) 0 false = some (g2, t2) ∧ (n : Int) ≤ t2) ∧ ∃ g3, findS l (line.take n) 0 false = some (g3, (n : Int)) := by
  unfold findS at *
  have hc : ∀ c1, comeL l (0 == 0) c1 ((0 : Nat) : Int) 0 [] = comeL l (0 == 0) (0 == line.length) ((0 : Nat) : Int) 0 [] := fun c1 => comeP_noend hb _ _ _ _ _ _ _
  rw [hc (0 == (line ++ more).length), hc (0 == (line.take n).length)]
  constructor
  · have := play_more hb line more (line.length - 0) 0 _ none (by omega) (fun _ _ e => by cases e) g n h
    rw [show (line ++ more).length - 0 = (line.length - 0) + more.length by rw [List.length_append]; omega]
    exact this
  · have := play_end hb line n hn n (line.length - 0) 0 _ none (by omega) (by omega) (fun _ _ e => by cases e) g h
    rw [show (line.take n).length - 0 = n by rw [List.length_take]; omega]
    exact this
end Go.Proofs.Ytamiliccnbkipaa
