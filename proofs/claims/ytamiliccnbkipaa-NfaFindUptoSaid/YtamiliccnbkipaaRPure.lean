/-
  Reference 14's rows, in plain Lean: the greatest ends.
-/
import Derived.Test.YtamiliccnbkipaaNFound
set_option linter.unusedVariables false
set_option linter.unusedSimpArgs false
namespace Go.Proofs.Ytamiliccnbkipaa

/-- From instruction k and place p OpMatch can be come to at place q. -/
inductive Rc (l : List Ins) (line : List UInt8) : Nat → Nat → Nat → Prop
  | hit {p k : Nat} {i : Ins} : l[k]? = some i → i.op = 11 → Rc l line p k p
  | eps {p k j q : Nat} : j ∈ succs l (p == 0) (p == line.length) k → Rc l line p j q → Rc l line p k q
  | byte {p k q : Nat} {i : Ins} {c : UInt8} : l[k]? = some i → i.op = 1 → line[p]? = some c → inSet i c = true → Rc l line (p + 1) (k + 1) q → Rc l line p k q

section
variable {l : List Ins} {line : List UInt8}
theorem Rc.lt {p k q : Nat} (h : Rc l line p k q) (hp : p ≤ line.length) : q ≤ line.length := by
  induction h with
  | hit _ _ => exact hp
  | eps _ _ ih => exact ih hp
  | byte _ _ hc _ _ ih => exact ih (by have := (List.getElem?_eq_some_iff.1 hc).1; omega)
theorem Rc.mt {s p k q : Nat} (h : Rc l line p k q) (ha : Al l line s p k) : Mt l line s q := by
  induction h with
  | hit h1 h2 => exact ⟨_, _, ha, h1, h2⟩
  | eps h1 _ ih => exact ih (.eps ha h1)
  | byte h1 h2 h3 h4 _ ih => exact ih (.byte ha h1 h2 h3 h4)
theorem Al.rc {s p k : Nat} (h : Al l line s p k) : ∀ q, Rc l line p k q → Rc l line s 0 q := by
  induction h with
  | start => exact fun q h => h
  | eps _ h2 ih => exact fun q h => ih q (.eps h2 h)
  | byte _ h2 h3 h4 h5 ih => exact fun q h => ih q (.byte h2 h3 h4 h5 h)
theorem mt_iff {s q : Nat} : Mt l line s q ↔ Rc l line s 0 q :=
  ⟨fun ⟨k, i, ha, h1, h2⟩ => ha.rc q (.hit h1 h2), fun h => h.mt .start⟩

/-- An entry of a row. -/
def rg (r : List Int) (k : Nat) : Int := r.getD k (-1)
/-- The greatest of some; -1: none. -/
def lmax (r : List Int) : List Nat → Int
  | [] => -1
  | [j] => rg r j
  | j :: t => max (rg r j) (lmax r t)
theorem lmax_le {r : List Int} {js : List Nat} : ∀ j ∈ js, rg r j ≤ lmax r js := by
  induction js with
  | nil => intro j hj; cases hj
  | cons a t ih =>
    intro j hj
    cases t with
    | nil => rw [List.mem_singleton.1 hj]; exact Int.le_refl _
    | cons b t =>
      rw [lmax]
      · rcases List.mem_cons.1 hj with h | h
        · rw [h]; exact Int.le_max_left _ _
        · exact Int.le_trans (ih j h) (Int.le_max_right _ _)
      · simp
theorem lmax_mem (r : List Int) : ∀ js : List Nat, lmax r js = -1 ∨ ∃ j ∈ js, lmax r js = rg r j
  | [] => .inl rfl
  | [j] => .inr ⟨j, by simp, rfl⟩
  | j :: b :: t => by
    rw [lmax]
    · rcases lmax_mem r (b :: t) with h | ⟨j2, h1, h2⟩
      · rw [h]
        rcases Int.le_total (rg r j) (-1) with g | g
        · exact .inl (Int.max_eq_right g)
        · exact .inr ⟨j, by simp, Int.max_eq_left g⟩
      · rw [h2]
        rcases Int.le_total (rg r j) (rg r j2) with g | g
        · exact .inr ⟨j2, List.mem_cons_of_mem _ h1, Int.max_eq_right g⟩
        · exact .inr ⟨j, by simp, Int.max_eq_left g⟩
    · simp
/-- What an instruction leads to, as far as is known. -/
def stepR (l : List Ins) (line : List UInt8) (at_ : Nat) (r nxt : List Int) (k : Nat) : Int :=
  match l[k]? with
  | none => -1
  | some i => if i.op = 11 then (at_ : Int) else if i.op = 1 then (match line[at_]? with | some c => if inSet i c then rg nxt (k + 1) else -1 | none => -1) else lmax r (succs l (at_ == 0) (at_ == line.length) k)
def SoundR (l : List Ins) (line : List UInt8) (at_ : Nat) (r : List Int) : Prop := ∀ k, rg r k = -1 ∨ ∃ q : Nat, rg r k = q ∧ Rc l line at_ k q
def FullR (l : List Ins) (line : List UInt8) (at_ : Nat) (r : List Int) : Prop := ∀ k q, Rc l line at_ k q → (q : Int) ≤ rg r k
/-- A row that is right. -/
structure GoodR (l : List Ins) (line : List UInt8) (at_ : Nat) (r : List Int) : Prop where
  len : r.length = l.length
  sound : SoundR l line at_ r
  full : FullR l line at_ r
theorem SoundR.range {at_ : Nat} {r : List Int} (h : SoundR l line at_ r) (ha : at_ ≤ line.length) (k : Nat) : -1 ≤ rg r k ∧ rg r k ≤ line.length := by
  rcases h k with h | ⟨q, h1, h2⟩
  · omega
  · have := h2.lt ha; omega
theorem rg_set {r : List Int} {k j : Nat} {z : Int} (hk : k < r.length) : rg (r.set k z) j = if j = k then z else rg r j := by
  unfold rg
  rw [List.getD_eq_getElem?_getD, List.getD_eq_getElem?_getD]
  by_cases h : j = k
  · subst h
    rw [if_pos rfl, List.getElem?_set_self hk]; rfl
  · rw [if_neg h, List.getElem?_set_ne (fun e => h e.symm)]
/-- A step's number is sound. -/
theorem stepR_sound {at_ : Nat} {r nxt : List Int} (h : SoundR l line at_ r) (hn : at_ < line.length → SoundR l line (at_ + 1) nxt) (k : Nat) : stepR l line at_ r nxt k = -1 ∨ ∃ q : Nat, stepR l line at_ r nxt k = q ∧ Rc l line at_ k q := by
  unfold stepR
  cases hi : l[k]? with
  | none => exact .inl rfl
  | some i =>
    simp only
    split
    · rename_i h11
      exact .inr ⟨at_, rfl, .hit hi h11⟩
    · split
      · rename_i h1
        cases hc : line[at_]? with
        | none => exact .inl rfl
        | some c =>
          simp only
          split
          · rename_i hin
            rcases hn (List.getElem?_eq_some_iff.1 hc).1 (k + 1) with g | ⟨q, g1, g2⟩
            · exact .inl g
            · exact .inr ⟨q, g1, .byte hi h1 hc hin g2⟩
          · exact .inl rfl
      · rcases lmax_mem r (succs l (at_ == 0) (at_ == line.length) k) with g | ⟨j, g1, g2⟩
        · exact .inl g
        · rw [g2]
          rcases h j with g3 | ⟨q, g3, g4⟩
          · exact .inl g3
          · exact .inr ⟨q, g3, .eps g1 g4⟩
theorem sound_set {at_ : Nat} {r nxt : List Int} (h : SoundR l line at_ r) (hn : at_ < line.length → SoundR l line (at_ + 1) nxt) (k : Nat) (hk : k < r.length) : SoundR l line at_ (r.set k (stepR l line at_ r nxt k)) := by
  intro j
  rw [rg_set hk]
  split
  · rename_i e; subst e; exact stepR_sound h hn j
  · exact h j
/-- Where nothing grows, all is known. -/
theorem full_of_fix {at_ : Nat} {r nxt : List Int} (hl : r.length = l.length) (hf : ∀ k, k < l.length → stepR l line at_ r nxt k ≤ rg r k) (hn : at_ < line.length → FullR l line (at_ + 1) nxt) : FullR l line at_ r := by
  have key : ∀ p k q, Rc l line p k q → p = at_ → (q : Int) ≤ rg r k := by
    intro p k q h
    induction h with
    | @hit p k i h1 h2 =>
      intro e
      subst e
      have := hf k (List.getElem?_eq_some_iff.1 h1).1
      unfold stepR at this
      rw [h1] at this
      simp only [if_pos h2] at this
      exact this
    | @eps p k j q h1 h2 ih =>
      intro e
      have h3 := ih e
      subst e
      have hk : k < l.length := by
        unfold succs at h1
        split at h1
        · cases h1
        · rename_i i hi; exact (List.getElem?_eq_some_iff.1 hi).1
      have h4 := hf k hk
      have h5 := lmax_le (r := r) j h1
      have h6 : stepR l line p r nxt k = lmax r (succs l (p == 0) (p == line.length) k) := by
        unfold stepR
        cases hi : l[k]? with
        | none => unfold succs at h1; rw [hi] at h1; cases h1
        | some i =>
          simp only
          have h11 : i.op ≠ 11 := fun e => by
            unfold succs at h1; rw [hi] at h1; simp [e] at h1
          have h12 : i.op ≠ 1 := fun e => by
            unfold succs at h1; rw [hi] at h1; simp [e] at h1
          rw [if_neg h11, if_neg h12]
      omega
    | @byte p k q i c h1 h2 h3 h4 h5 ih =>
      intro e
      subst e
      have h6 := hf k (List.getElem?_eq_some_iff.1 h1).1
      have h7 := hn (List.getElem?_eq_some_iff.1 h3).1 (k + 1) q h5
      unfold stepR at h6
      rw [h1] at h6
      have h11 : i.op ≠ 11 := by omega
      simp only [if_neg h11, if_pos h2, h3, h4, if_true] at h6
      omega
  exact fun k q h => key at_ k q h rfl

/-- How much a row may still grow. -/
def phi (m : Nat) (r : List Int) : Nat := (r.map fun z => ((m : Int) - z).toNat).sum
theorem phi_set (m : Nat) : ∀ (r : List Int) (k : Nat) (z : Int), k < r.length → rg r k < z → z ≤ (m : Int) → phi m (r.set k z) < phi m r
  | [], k, z, hk, _, _ => by simp at hk
  | a :: r, 0, z, hk, h1, h2 => by
    simp only [rg, List.getD_cons_zero] at h1
    simp only [phi, List.set_cons_zero, List.map_cons, List.sum_cons]
    omega
  | a :: r, k + 1, z, hk, h1, h2 => by
    have := phi_set m r k z (by simpa using hk) (by simpa [rg] using h1) h2
    simp only [phi, List.set_cons_succ, List.map_cons, List.sum_cons] at *
    omega

/-- What the reference tells of a place, and what a search finds. -/
theorem top_single (hfi : Fine l) (at_ : Nat) (hat : at_ ≤ line.length) (r : List Int) (hr : GoodR l line at_ r) :
    (findS l line at_ false = none ∧ rg r 0 = -1) ∨ ∃ q : Nat, findS l line at_ false = some ((at_ : Int), (q : Int)) ∧ rg r 0 = q := by
  have S := find_spec (line := line) hfi at_ hat false
  cases hf : findS l line at_ false with
  | none =>
    left
    refine ⟨rfl, ?_⟩
    rcases hr.sound 0 with h | ⟨q, h1, h2⟩
    · exact h
    · obtain ⟨f, t, e, _⟩ := S.all at_ q (Nat.le_refl _) (fun _ => rfl) (h2.lt hat) (mt_iff.2 h2)
      rw [hf] at e
      cases e
  | some ft =>
    right
    obtain ⟨f, t⟩ := ft
    obtain ⟨s, q, h1, h2, h3, h4, h5, h6⟩ := S.snd f t hf
    obtain rfl : s = at_ := h4 rfl
    subst h1
    subst h2
    refine ⟨q, rfl, ?_⟩
    have h7 := hr.full 0 q (mt_iff.1 h6)
    rcases hr.sound 0 with h | ⟨q2, g1, g2⟩
    · omega
    · obtain ⟨f3, t3, e, _, g3⟩ := S.all s q2 (Nat.le_refl _) (fun _ => rfl) (g2.lt hat) (mt_iff.2 g2)
      rw [hf] at e
      cases e
      have := g3 rfl
      omega
end
end Go.Proofs.Ytamiliccnbkipaa
