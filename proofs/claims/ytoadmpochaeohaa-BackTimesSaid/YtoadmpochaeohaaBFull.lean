/-
  Layer 20 in plain Lean: where mark stops, all that matters is told; what a run of a made machine answers.
-/
import Derived.Test.YtoadmpochaeohaaBSim2
import Derived.Test.YtoadmpochaeohaaBNewP
import Derived.Test.YtoadmpochaeohaaBLong
set_option linter.unusedVariables false
set_option linter.unusedSimpArgs false
set_option maxRecDepth 100000
namespace Go.Proofs.Ytoadmpochaeohaa
open Go.RowKit

theorem cellM_trues {ins : List Ins} {slot : List Int} {ns k g : Nat} {live : List (List Lv)} (h : Shp ins.length ns live) (hP : Post ins slot ns live) (hg : g < ns) : trues live ≤ trues (cellM ins slot k g live) := by
  cases hi : ins[k]? with
  | none => unfold cellM; rw [hi]; exact Nat.le_refl _
  | some i =>
    obtain ⟨h1, h2⟩ := cellM_step h hP hi hg
    by_cases e : markOne slot live i k g = lv live k g
    · rw [h1 e]; exact Nat.le_refl _
    · exact Nat.le_of_lt (h2 e)
theorem rowM_case {ins : List Ins} {slot : List Int} {ns k : Nat} {i : Ins} {live : List (List Lv)} (h : Shp ins.length ns live) (hP : Post ins slot ns live) (hi : ins[k]? = some i) : ∀ g, g ≤ ns →
    (rowM ins slot k g live = live ∧ ∀ g', g' < g → markOne slot live i k g' = lv live k g') ∨ trues live < trues (rowM ins slot k g live)
  | 0, _ => .inl ⟨rfl, fun g' h => by omega⟩
  | g + 1, hg => by
    rw [rowM]
    rcases rowM_case h hP hi g (by omega) with ⟨e, ih⟩ | ih
    · rw [e]
      obtain ⟨h1, h2⟩ := cellM_step h hP hi (g := g) (by omega)
      by_cases hq : markOne slot live i k g = lv live k g
      · refine .inl ⟨h1 hq, fun g' hg' => ?_⟩
        by_cases hgg : g' = g
        · subst hgg; exact hq
        · exact ih g' (by omega)
      · exact .inr (h2 hq)
    · exact .inr (Nat.lt_of_lt_of_le ih (cellM_trues (rowM_shp h g) (rowM_post h hP g (by omega)) (by omega)))
theorem sweepM_post {ins : List Ins} {slot : List Int} {ns : Nat} : ∀ (k : Nat) {live : List (List Lv)}, Shp ins.length ns live → Post ins slot ns live → Post ins slot ns (sweepM ins slot ns k live)
  | 0, _, _, h => h
  | k + 1, _, hs, h => sweepM_post k (rowM_shp hs ns) (rowM_post hs h ns (Nat.le_refl _))
theorem sweepM_trues {ins : List Ins} {slot : List Int} {ns : Nat} : ∀ (k : Nat) {live : List (List Lv)}, Shp ins.length ns live → Post ins slot ns live → trues live ≤ trues (sweepM ins slot ns k live)
  | 0, _, _, _ => Nat.le_refl _
  | k + 1, live, hs, h => by
    rw [sweepM]
    refine Nat.le_trans ?_ (sweepM_trues k (rowM_shp hs ns) (rowM_post hs h ns (Nat.le_refl _)))
    have : ∀ g, g ≤ ns → trues live ≤ trues (rowM ins slot k g live) := by
      intro g
      induction g with
      | zero => intro _; exact Nat.le_refl _
      | succ g ih => intro hg; exact Nat.le_trans (ih (by omega)) (cellM_trues (rowM_shp hs g) (rowM_post hs h g (by omega)) (by omega))
    exact this ns (Nat.le_refl _)
theorem sweepM_case {ins : List Ins} {slot : List Int} {ns : Nat} : ∀ (k : Nat) {live : List (List Lv)}, k ≤ ins.length → Shp ins.length ns live → Post ins slot ns live →
    (∀ k', k' < k → ∀ i, ins[k']? = some i → ∀ g, g < ns → markOne slot live i k' g = lv live k' g) ∨ trues live < trues (sweepM ins slot ns k live)
  | 0, _, _, _, _ => .inl fun k' h => by omega
  | k + 1, live, hk, hs, h => by
    obtain ⟨i, hi⟩ : ∃ i, ins[k]? = some i := ⟨_, List.getElem?_eq_getElem (by omega)⟩
    rw [sweepM]
    rcases rowM_case hs h hi ns (Nat.le_refl _) with ⟨e, hr⟩ | hr
    · rw [e]
      rcases sweepM_case k (by omega) hs h with hc | hc
      · refine .inl fun k' hk' j hj g hg => ?_
        by_cases hkk : k' = k
        · subst hkk
          rw [hi] at hj; injection hj with hj; subst hj
          exact hr g hg
        · exact hc k' (by omega) j hj g hg
      · exact .inr hc
    · exact .inr (Nat.lt_of_lt_of_le hr (sweepM_trues k (rowM_shp hs ns) (rowM_post hs h ns (Nat.le_refl _))))
theorem iterM_post {ins : List Ins} {slot : List Int} {ns : Nat} {live : List (List Lv)} (hs : Shp ins.length ns live) (h : Post ins slot ns live) : ∀ t, Shp ins.length ns (iterM (sweepM ins slot ns ins.length) t live) ∧ Post ins slot ns (iterM (sweepM ins slot ns ins.length) t live)
  | 0 => ⟨hs, h⟩
  | t + 1 => by
    obtain ⟨h1, h2⟩ := iterM_post hs h t
    exact ⟨sweepM_shp _ h1, sweepM_post _ h1 h2⟩
/-- Where it stops, all that matters is told. -/
theorem stop_full {ins : List Ins} {gr co t : Nat} {fo pl : Bool} (h : sweepM ins (slotN ins gr) (nsN ins gr) ins.length (iterM (sweepM ins (slotN ins gr) (nsN ins gr) ins.length) t (live0 ins.length (nsN ins gr))) = iterM (sweepM ins (slotN ins gr) (nsN ins gr) ins.length) t (live0 ins.length (nsN ins gr))) :
    Full ⟨ins, fo, pl, slotN ins gr, mostN ins co, iterM (sweepM ins (slotN ins gr) (nsN ins gr) ins.length) t (live0 ins.length (nsN ins gr))⟩ := by
  obtain ⟨h1, h2⟩ := iterM_post (slot := slotN ins gr) (live0_shp ins.length (nsN ins gr)) (live0_post ins (slotN ins gr) ins.length (nsN ins gr)) t
  intro k i hi g hg
  have hk := (List.getElem?_eq_some_iff.1 hi).1
  rcases sweepM_case ins.length (Nat.le_refl _) h1 h2 with hc | hc
  · have := hc k hk i hi g hg
    show (markOne (slotN ins gr) _ i k g).le _
    rw [this]
    exact Lv.le.refl _
  · rw [h] at hc; omega
theorem start_CW {m : Mc} {N at_ : Nat} (hin : 0 < m.ins.length) (hat : at_ ≤ N) : CW m N (startS m at_) := by
  refine ⟨hin, hat, by simp [startS, nsS], by simp [startS], fun p hp => ?_, fun t ht => ?_⟩
  · obtain ⟨_, _, rfl⟩ := List.mem_map.1 hp
    simp only; omega
  · obtain ⟨_, _, rfl⟩ := List.mem_map.1 ht
    simp only; omega
/-- What a run of a made machine answers. -/
theorem ran_answer {m : Mc} {L : List UInt8} {f at_ st kp : Nat} {r : Rn} (hW : MW m) (hF : Full m) (hL : L.length ≤ 900000) (hin : 0 < m.ins.length) (hat : at_ ≤ L.length) (h : ranS m L f at_ st kp = some r) :
    (∀ e, r.best = some e → ∃ c, Reach m L (startS m at_) c ∧ isHit m c = true ∧ c.at_ = e) ∧ ∀ c, Reach m L (startS m at_) c → isHit m c = true → atLeast r.best c.at_ :=
  run_answer (full_sim hW hF hL) (start_CW hin hat) h
end Go.Proofs.Ytoadmpochaeohaa
