/-
  Where what a search finds lies.
-/
import Derived.Test.YtamiliccnbkipaaNPure
set_option linter.unusedVariables false
set_option linter.unusedSimpArgs false
namespace Go.Proofs.Ytamiliccnbkipaa

/-- A part that is found: it begins at or behind 'lo' and ends at most at 'hi'. -/
def BB (lo hi : Int) (b : Best) : Prop := ∀ f t, b = some (f, t) → lo ≤ f ∧ f ≤ t ∧ t ≤ hi
/-- Where those that are now began. -/
def NB (lo hi : Int) (np : List (Nat × Int)) : Prop := ∀ p ∈ np, lo ≤ p.2 ∧ p.2 ≤ hi
theorem BB.mono {lo hi hi2 : Int} {b : Best} (h : BB lo hi b) (hh : hi ≤ hi2) : BB lo hi2 b := fun f t e => by have := h f t e; omega
theorem NB.mono {lo hi hi2 : Int} {np : List (Nat × Int)} (h : NB lo hi np) (hh : hi ≤ hi2) : NB lo hi2 np := fun p hp => by have := h p hp; omega
variable {l : List Ins} {line : List UInt8}
theorem comeP_nb {b0 b1 : Bool} {fm lo hi : Int} (h1 : lo ≤ fm) (h2 : fm ≤ hi) : ∀ (f : Nat) (st : List Nat) (np : List (Nat × Int)), NB lo hi np → NB lo hi (comeP l b0 b1 fm f st np)
  | 0, st, np, h => h
  | f + 1, [], np, h => h
  | f + 1, k :: st, np, h => by
    rw [comeP]
    split
    · exact comeP_nb h1 h2 f st np h
    · refine comeP_nb h1 h2 f _ _ (fun p hp => ?_)
      rcases List.mem_append.1 hp with hp | hp
      · exact h p hp
      · rw [List.mem_singleton.1 hp]; exact ⟨h1, h2⟩
theorem step_nb {lo : Int} {at_ : Nat} (p : Nat × Int) (s : Best × List (Nat × Int)) (hp : lo ≤ p.2 ∧ p.2 ≤ (at_ : Int)) (hb : BB lo at_ s.1) (hn : NB lo at_ s.2) : BB lo at_ (stepS l line at_ p s).1 ∧ NB lo at_ (stepS l line at_ p s).2 := by
  unfold stepS
  split
  · exact ⟨hb, hn⟩
  · split
    · refine ⟨fun f t e => ?_, hn⟩
      obtain ⟨b, nx⟩ := s
      simp only at e hb
      unfold bestAt at e
      split at e
      · cases e; omega
      · rename_i f0 t0
        split at e
        · cases e; omega
        · exact hb f t e
    · split
      · split
        · split
          · exact ⟨hb, comeP_nb hp.1 hp.2 _ _ _ hn⟩
          · exact ⟨hb, hn⟩
        · exact ⟨hb, hn⟩
      · exact ⟨hb, hn⟩
theorem turn_nb {lo : Int} {at_ : Nat} : ∀ (now : List (Nat × Int)) (s : Best × List (Nat × Int)), NB lo at_ now → BB lo at_ s.1 → NB lo at_ s.2 → BB lo at_ (turnS l line at_ now s).1 ∧ NB lo at_ (turnS l line at_ now s).2
  | [], s, _, hb, hn => ⟨hb, hn⟩
  | p :: now, s, h, hb, hn => by
    rw [turnS]
    split
    · exact ⟨hb, hn⟩
    · obtain ⟨h1, h2⟩ := step_nb (l := l) (line := line) p s (h p List.mem_cons_self) hb hn
      exact turn_nb now _ (fun q hq => h q (List.mem_cons_of_mem _ hq)) h1 h2
theorem play_nb {lo : Int} (every : Bool) : ∀ (m at_ : Nat) (now : List (Nat × Int)) (b : Best), lo ≤ (at_ : Int) → NB lo at_ now → BB lo at_ b → BB lo ((at_ + m : Nat) : Int) (playS l line every m at_ now b)
  | 0, at_, now, b, hl, hn, hb => by
    rw [playS]
    exact (turn_nb now (b, []) hn hb (fun p hp => (by cases hp))).1
  | m + 1, at_, now, b, hl, hn, hb => by
    obtain ⟨h1, h2⟩ := turn_nb (l := l) (line := line) now (b, []) hn hb (fun p hp => (by cases hp))
    rw [playS]
    have e : ((at_ + (m + 1) : Nat) : Int) = ((at_ + 1 + m : Nat) : Int) := by omega
    rw [e]
    split
    · exact play_nb every m (at_ + 1) _ _ (by omega) (comeP_nb (by omega) (by omega) _ _ _ (h2.mono (by omega))) (h1.mono (by omega))
    · split
      · exact h1.mono (by omega)
      · exact play_nb every m (at_ + 1) _ _ (by omega) (h2.mono (by omega)) (h1.mono (by omega))
theorem find_bounds (at_ : Nat) (every : Bool) (hat : at_ ≤ line.length) (f t : Int) (h : findS l line at_ every = some (f, t)) : (at_ : Int) ≤ f ∧ f ≤ t ∧ t ≤ line.length := by
  have := play_nb (l := l) (line := line) (lo := (at_ : Int)) every (line.length - at_) at_ (comeL l (at_ == 0) (at_ == line.length) at_ 0 []) none (by omega) (comeP_nb (by omega) (by omega) _ _ _ (fun p hp => (by cases hp))) (fun f t e => (by cases e)) f t h
  omega
end Go.Proofs.Ytamiliccnbkipaa
