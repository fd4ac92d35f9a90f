/-
  NfaAhead's law, in plain Lean: what stands ahead tells nothing.
-/
import Derived.Test.YtamiliccnbkipaaNExact
set_option linter.unusedVariables false
set_option linter.unusedSimpArgs false
namespace Go.Proofs.Ytamiliccnbkipaa
open Go.RowKit

def shP (k : Int) (p : Nat × Int) : Nat × Int := (p.1, p.2 + k)
def shB (k : Int) (b : Best) : Best := b.map fun q => (q.1 + k, q.2 + k)
theorem shP_fst (k : Int) (np : List (Nat × Int)) : (np.map (shP k)).map Prod.fst = np.map Prod.fst := by
  rw [List.map_map]; rfl

section
variable {l : List Ins}
theorem succs_nobegin (hb : ∀ (k : Nat) (i : Ins), l[k]? = some i → i.op ≠ 4) (b0 c0 b1 : Bool) (k : Nat) : succs l b0 b1 k = succs l c0 b1 k := by
  unfold succs
  split
  · rfl
  · rename_i i hi
    rw [if_neg (hb k i hi), if_neg (hb k i hi)]
theorem comeP_shift (hb : ∀ (k : Nat) (i : Ins), l[k]? = some i → i.op ≠ 4) (b0 c0 b1 : Bool) (fm k : Int) : ∀ (f : Nat) (st : List Nat) (np : List (Nat × Int)), comeP l b0 b1 (fm + k) f st (np.map (shP k)) = (comeP l c0 b1 fm f st np).map (shP k)
  | 0, _, np => rfl
  | _ + 1, [], np => rfl
  | f + 1, j :: st, np => by
    rw [comeP, comeP, shP_fst]
    split
    · exact comeP_shift hb b0 c0 b1 fm k f st np
    · rw [succs_nobegin hb b0 c0 b1 j]
      have := comeP_shift hb b0 c0 b1 fm k f (succs l c0 b1 j ++ st) (np ++ [(j, fm)])
      rw [List.map_append] at this
      exact this
theorem comeL_shift (hb : ∀ (k : Nat) (i : Ins), l[k]? = some i → i.op ≠ 4) (b0 c0 b1 : Bool) (fm k : Int) (j : Nat) (np : List (Nat × Int)) : comeL l b0 b1 (fm + k) j (np.map (shP k)) = (comeL l c0 b1 fm j np).map (shP k) := comeP_shift hb b0 c0 b1 fm k _ _ _
variable {line ahead : List UInt8}
theorem late_shift (k : Int) (b : Best) (f : Int) : tooLate (shB k b) (f + k) = tooLate b f := by
  cases b with
  | none => rfl
  | some q => simp only [shB, Option.map_some, tooLate]; congr 1; exact propext ⟨fun h => by omega, fun h => by omega⟩
theorem best_shift (k : Nat) (b : Best) (f : Int) (at_ : Nat) : bestAt (shB k b) (f + k) (at_ + k) = shB k (bestAt b f at_) := by
  cases b with
  | none => simp [bestAt, shB]
  | some q =>
    obtain ⟨g, t⟩ := q
    simp only [bestAt, shB, Option.map_some]
    by_cases h : f < g ∨ t < (at_ : Int)
    · rw [if_pos (by omega), if_pos h]; simp
    · rw [if_neg (by omega), if_neg h]; simp
def shS (k : Int) (s : Best × List (Nat × Int)) : Best × List (Nat × Int) := (shB k s.1, s.2.map (shP k))
theorem step_shift (hb : ∀ (k : Nat) (i : Ins), l[k]? = some i → i.op ≠ 4) (at_ : Nat) (p : Nat × Int) (s : Best × List (Nat × Int)) :
    stepS l (ahead ++ line) (at_ + ahead.length) (shP ahead.length p) (shS ahead.length s) = shS ahead.length (stepS l line at_ p s) := by
  have hc : (ahead ++ line)[at_ + ahead.length]? = line[at_]? := by rw [List.getElem?_append_right (by omega)]; congr 1; omega
  have he : (at_ + ahead.length + 1 == (ahead ++ line).length) = (at_ + 1 == line.length) := by
    rw [List.length_append]
    by_cases h : at_ + 1 = line.length
    · rw [beq_iff_eq.2 h, beq_iff_eq.2 (by omega)]
    · rw [beq_eq_false_iff_ne.2 h, beq_eq_false_iff_ne.2 (by omega)]
  unfold stepS
  simp only [shP, hc, he]
  split
  · rfl
  · rename_i i hi
    split
    · simp only [shS, best_shift]
    · split
      · split
        · split
          · simp only [shS]
            rw [comeL_shift hb false false]
          · rfl
        · rfl
      · rfl
theorem turn_shift (hb : ∀ (k : Nat) (i : Ins), l[k]? = some i → i.op ≠ 4) (at_ : Nat) : ∀ (now : List (Nat × Int)) (s : Best × List (Nat × Int)),
    turnS l (ahead ++ line) (at_ + ahead.length) (now.map (shP ahead.length)) (shS ahead.length s) = shS ahead.length (turnS l line at_ now s)
  | [], s => rfl
  | p :: now, s => by
    rw [List.map_cons, turnS, turnS]
    have hl : tooLate (shS ahead.length s).1 (shP ahead.length p).2 = tooLate s.1 p.2 := late_shift _ _ _
    rw [hl]
    split
    · rfl
    · rw [step_shift hb at_ p s]
      exact turn_shift hb at_ now _
theorem play_shift (hb : ∀ (k : Nat) (i : Ins), l[k]? = some i → i.op ≠ 4) (every : Bool) : ∀ (m at_ : Nat) (now : List (Nat × Int)) (b : Best),
    playS l (ahead ++ line) every m (at_ + ahead.length) (now.map (shP ahead.length)) (shB ahead.length b) = shB ahead.length (playS l line every m at_ now b)
  | 0, at_, now, b => by
    rw [playS, playS]
    have := turn_shift (line := line) (ahead := ahead) hb at_ now (b, [])
    simp only [shS, List.map_nil] at this
    rw [this]
  | m + 1, at_, now, b => by
    rw [playS, playS]
    have ht := turn_shift (line := line) (ahead := ahead) hb at_ now (b, [])
    simp only [shS, List.map_nil] at ht
    rw [ht]
    generalize turnS l line at_ now (b, []) = r
    simp only
    have hn : (shB ahead.length r.1).isNone = r.1.isNone := by cases r.1 <;> rfl
    have he : (at_ + ahead.length + 1 == (ahead ++ line).length) = (at_ + 1 == line.length) := by
      rw [List.length_append]
      by_cases h : at_ + 1 = line.length
      · rw [beq_iff_eq.2 h, beq_iff_eq.2 (by omega)]
      · rw [beq_eq_false_iff_ne.2 h, beq_eq_false_iff_ne.2 (by omega)]
    rw [hn]
    split
    · have hcm : comeL l false (at_ + ahead.length + 1 == (ahead ++ line).length) (((at_ + ahead.length : Nat) : Int) + 1) 0 (r.2.map (shP ahead.length)) = (comeL l false (at_ + 1 == line.length) ((at_ : Int) + 1) 0 r.2).map (shP ahead.length) := by
        rw [he, show (((at_ + ahead.length : Nat) : Int) + 1) = ((at_ : Int) + 1) + (ahead.length : Int) by omega]
        exact comeL_shift hb false false _ _ _ _ _
      rw [hcm, show at_ + ahead.length + 1 = (at_ + 1) + ahead.length by omega]
      exact play_shift hb every m (at_ + 1) _ _
    · by_cases hr : r.2 = []
      · rw [if_pos (by rw [hr]; rfl), if_pos hr]
      · rw [if_neg (by simpa using hr), if_neg hr, show at_ + ahead.length + 1 = (at_ + 1) + ahead.length by omega]
        exact play_shift hb every m (at_ + 1) _ _
/-- Without OpBegin what stands ahead tells nothing. -/
theorem ahead_law (hb : ∀ (k : Nat) (i : Ins), l[k]? = some i → i.op ≠ 4) (every : Bool) (at_ : Nat) (hat : at_ ≤ line.length) : findS l (ahead ++ line) (at_ + ahead.length) every = shB ahead.length (findS l line at_ every) := by
  unfold findS
  rw [show (ahead ++ line).length - (at_ + ahead.length) = line.length - at_ by rw [List.length_append]; omega]
  have he : (at_ + ahead.length == (ahead ++ line).length) = (at_ == line.length) := by
    rw [List.length_append]
    by_cases h : at_ = line.length
    · rw [beq_iff_eq.2 h, beq_iff_eq.2 (by omega)]
    · rw [beq_eq_false_iff_ne.2 h, beq_eq_false_iff_ne.2 (by omega)]
  have hc : comeL l (at_ + ahead.length == 0) (at_ + ahead.length == (ahead ++ line).length) ((at_ + ahead.length : Nat) : Int) 0 [] = (comeL l (at_ == 0) (at_ == line.length) at_ 0 []).map (shP ahead.length) := by
    rw [he, show ((at_ + ahead.length : Nat) : Int) = (at_ : Int) + (ahead.length : Int) by omega]
    exact comeL_shift hb _ _ _ _ _ 0 []
  rw [hc]
  exact play_shift hb every _ at_ _ none
end
end Go.Proofs.Ytamiliccnbkipaa
