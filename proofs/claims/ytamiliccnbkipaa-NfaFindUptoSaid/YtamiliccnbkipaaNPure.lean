/-
  What 'come' gathers: the closure.
-/
import Derived.Test.YtamiliccnbkipaaNExact
set_option linter.unusedVariables false
set_option linter.unusedSimpArgs false
namespace Go.Proofs.Ytamiliccnbkipaa
open Go.RowKit

section
variable {l : List Ins} {b0 b1 : Bool} {fm : Int}
theorem comeP_keeps : ∀ (f : Nat) (st : List Nat) (np : List (Nat × Int)) (p : Nat × Int), p ∈ np → p ∈ comeP l b0 b1 fm f st np
  | 0, _, np, p, h => h
  | _ + 1, [], np, p, h => h
  | f + 1, k :: st, np, p, h => by
    rw [comeP]
    split
    · exact comeP_keeps f st np p h
    · exact comeP_keeps f _ _ p (List.mem_append_left _ h)
theorem comeP_from : ∀ (f : Nat) (st : List Nat) (np : List (Nat × Int)) (p : Nat × Int), p ∈ comeP l b0 b1 fm f st np → p ∈ np ∨ p.2 = fm
  | 0, _, np, p, h => .inl h
  | _ + 1, [], np, p, h => .inl h
  | f + 1, k :: st, np, p, h => by
    rw [comeP] at h
    split at h
    · exact comeP_from f st np p h
    · rcases comeP_from f _ _ p h with h | h
      · rcases List.mem_append.1 h with h | h
        · exact .inl h
        · rw [List.mem_singleton.1 h]; exact .inr rfl
      · exact .inr h
/-- Nothing comes that is not led to. -/
theorem comeP_within {C : Nat → Prop} (hC : ∀ k, C k → ∀ j ∈ succs l b0 b1 k, C j) : ∀ (f : Nat) (st : List Nat) (np : List (Nat × Int)), (∀ j ∈ st, C j) → ∀ p ∈ comeP l b0 b1 fm f st np, p ∈ np ∨ C p.1
  | 0, _, np, _, p, h => .inl h
  | _ + 1, [], np, _, p, h => .inl h
  | f + 1, k :: st, np, hs, p, h => by
    rw [comeP] at h
    split at h
    · exact comeP_within hC f st np (fun j hj => hs j (List.mem_cons_of_mem _ hj)) p h
    · rcases comeP_within hC f _ _ (fun j hj => by
        rcases List.mem_append.1 hj with hj | hj
        · exact hC k (hs k List.mem_cons_self) j hj
        · exact hs j (List.mem_cons_of_mem _ hj)) p h with h | h
      · rcases List.mem_append.1 h with h | h
        · exact .inl h
        · rw [List.mem_singleton.1 h]; exact .inr (hs k List.mem_cons_self)
      · exact .inr h
/-- All comes that is led to. -/
theorem comeP_closed (hfi : Fine l) : ∀ (f : Nat) (st : List Nat) (np : List (Nat × Int)), (np.map Prod.fst).Nodup → (∀ p ∈ np, p.1 < l.length) → (∀ j ∈ st, j < l.length) → 3 * (l.length - np.length) + st.length ≤ f →
    (∀ j ∈ st, j ∈ (comeP l b0 b1 fm f st np).map Prod.fst) ∧ ∀ k ∈ (comeP l b0 b1 fm f st np).map Prod.fst, k ∉ np.map Prod.fst → ∀ j ∈ succs l b0 b1 k, j ∈ (comeP l b0 b1 fm f st np).map Prod.fst
  | 0, st, np, hd, hn, hs, hf => by
    have : st = [] := List.eq_nil_of_length_eq_zero (by omega)
    subst this
    exact ⟨fun j hj => (by cases hj), fun k h1 h2 => absurd h1 h2⟩
  | f + 1, [], np, hd, hn, hs, hf => ⟨fun j hj => (by cases hj), fun k h1 h2 => absurd h1 h2⟩
  | f + 1, k :: st, np, hd, hn, hs, hf => by
    rw [List.length_cons] at hf
    rw [comeP]
    split
    · rename_i hk
      obtain ⟨h1, h2⟩ := comeP_closed hfi f st np hd hn (fun j hj => hs j (List.mem_cons_of_mem _ hj)) (by omega)
      refine ⟨fun j hj => ?_, h2⟩
      rcases List.mem_cons.1 hj with rfl | hj
      · obtain ⟨p, hp, e⟩ := List.mem_map.1 hk
        exact List.mem_map.2 ⟨p, comeP_keeps f st np p hp, e⟩
      · exact h1 j hj
    · rename_i hk
      have hkl := hs k List.mem_cons_self
      have hd2 : ((np ++ [(k, fm)]).map Prod.fst).Nodup := by
        rw [List.map_append]
        exact List.nodup_append.2 ⟨hd, by simp, fun a ha b hb => by simp at hb; subst hb; exact fun e => hk (e ▸ ha)⟩
      have hlen := pigeon l.length _ hd2 (fun j hj => by
        obtain ⟨p, hp, rfl⟩ := List.mem_map.1 hj
        rcases List.mem_append.1 hp with hp | hp
        · exact hn p hp
        · rw [List.mem_singleton.1 hp]; exact hkl)
      rw [List.length_map, List.length_append, List.length_singleton] at hlen
      have hsl := succs_len l b0 b1 k
      obtain ⟨h1, h2⟩ := comeP_closed hfi f (succs l b0 b1 k ++ st) (np ++ [(k, fm)]) hd2 (fun p hp => by
        rcases List.mem_append.1 hp with hp | hp
        · exact hn p hp
        · rw [List.mem_singleton.1 hp]; exact hkl) (fun j hj => by
        rcases List.mem_append.1 hj with hj | hj
        · exact succs_lt hfi b0 b1 k j hj
        · exact hs j (List.mem_cons_of_mem _ hj)) (by rw [List.length_append, List.length_append, List.length_singleton]; omega)
      refine ⟨fun j hj => ?_, fun i hi hni j hj => ?_⟩
      · rcases List.mem_cons.1 hj with rfl | hj
        · exact List.mem_map.2 ⟨(j, fm), comeP_keeps f _ _ _ (List.mem_append_right _ (List.mem_singleton.2 rfl)), rfl⟩
        · exact h1 j (List.mem_append_right _ hj)
      · by_cases hik : i = k
        · subst hik
          exact h1 j (List.mem_append_left _ hj)
        · refine h2 i hi (fun h => ?_) j hj
          rw [List.map_append] at h
          rcases List.mem_append.1 h with h | h
          · exact hni h
          · simp at h; exact hik h
end
theorem succs_mono (l : List Ins) (b0 b1 : Bool) (k : Nat) : ∀ j ∈ succs l b0 b1 k, j ∈ succs l true true k := by
  intro j hj
  unfold succs at *
  split at hj
  · simp at hj
  · rename_i i hi
    split at hj <;> rename_i h2
    · simpa [h2] using hj
    · split at hj <;> rename_i h3
      · simpa [h2, h3] using hj
      · split at hj <;> rename_i h4
        · split at hj
          · simpa [h2, h3, h4] using hj
          · simp at hj
        · split at hj <;> rename_i h5
          · split at hj
            · simpa [h2, h3, h4, h5] using hj
            · simp at hj
          · split at hj <;> rename_i h6
            · simpa [h2, h3, h4, h5, h6] using hj
            · simp at hj
/-- What comes at a place comes in the empty line, too. -/
theorem come_empty (l : List Ins) (hfi : Fine l) (b0 b1 : Bool) (fm fm2 : Int) : ∀ k ∈ (comeL l b0 b1 fm 0 []).map Prod.fst, k ∈ (comeL l true true fm2 0 []).map Prod.fst := by
  intro k hk
  obtain ⟨p, hp, rfl⟩ := List.mem_map.1 hk
  obtain ⟨h1, h2⟩ := comeP_closed (b0 := true) (b1 := true) (fm := fm2) hfi (3 * l.length + 1) [0] [] (by simp) (by simp) (by simpa using hfi.pos) (by simp)
  rcases comeP_within (C := fun k => k ∈ (comeL l true true fm2 0 []).map Prod.fst) (fun i hi j hj => h2 i hi (by simp) j (succs_mono l b0 b1 i j hj)) _ [0] [] (by simpa [comeL] using h1) p hp with h | h
  · simp at h
  · exact h
end Go.Proofs.Ytamiliccnbkipaa
