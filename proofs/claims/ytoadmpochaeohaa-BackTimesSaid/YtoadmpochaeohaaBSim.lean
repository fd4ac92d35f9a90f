/-
  Layer 20 in plain Lean: what is told apart by the same key goes on alike.
-/
import Derived.Test.YtoadmpochaeohaaBTheo
import Derived.Test.YtoadmpochaeohaaBOnAll
import Derived.Test.YtoadmpochaeohaaBMarkP
set_option linter.unusedVariables false
set_option linter.unusedSimpArgs false
set_option maxRecDepth 100000
namespace Go.Proofs.Ytoadmpochaeohaa
open Go.RowKit

theorem ofNat_inj {a b : Nat} (ha : a < 256) (hb : b < 256) (h : UInt8.ofNat a = UInt8.ofNat b) : a = b := by
  have := congrArg UInt8.toNat h
  rw [UInt8.toNat_ofNat', UInt8.toNat_ofNat'] at this
  omega
theorem put4_inj {a b : Int} (ha : -1 ≤ a ∧ a ≤ 16000000) (hb : -1 ≤ b ∧ b ≤ 16000000) (h : put4 a = put4 b) : a = b := by
  unfold put4 at h
  simp only [List.cons.injEq, and_true] at h
  obtain ⟨h0, h1, h2, h3⟩ := h
  have e0 := ofNat_inj (by omega) (by omega) h0
  have e1 := ofNat_inj (by omega) (by omega) h1
  have e2 := ofNat_inj (by omega) (by omega) h2
  have e3 := ofNat_inj (by omega) (by omega) h3
  omega
theorem put4_len (a : Int) : (put4 a).length = 4 := rfl
/-- Alike, so far as it matters at this instruction. -/
structure Eqv (m : Mc) (c c' : Cf) : Prop where
  pc : c.pc = c'.pc
  at_ : c.at_ = c'.at_
  np : c.parts.length = c'.parts.length
  nt : c.turns.length = c'.turns.length
  p : ∀ (g : Nat) (p p' : Pt), c.parts[g]? = some p → c'.parts[g]? = some p' → ((lv m.live c.pc g).began = true → p.began = p'.began) ∧ ((lv m.live c.pc g).part = true → p.frm = p'.frm ∧ p.til = p'.til)
  t : ∀ (k : Nat) (t t' : Tn), c.turns[k]? = some t → c'.turns[k]? = some t' → t.many = t'.many ∧ (t.began = c.at_ ↔ t'.began = c.at_)
theorem keyPt_iff {l : Lv} {p q : Pt} (hp : (-1 ≤ p.began ∧ p.began ≤ 16000000) ∧ (-1 ≤ p.frm ∧ p.frm ≤ 16000000) ∧ (-1 ≤ p.til ∧ p.til ≤ 16000000)) (hq : (-1 ≤ q.began ∧ q.began ≤ 16000000) ∧ (-1 ≤ q.frm ∧ q.frm ≤ 16000000) ∧ (-1 ≤ q.til ∧ q.til ≤ 16000000)) :
    keyPt l p = keyPt l q ↔ (l.began = true → p.began = q.began) ∧ (l.part = true → p.frm = q.frm ∧ p.til = q.til) := by
  constructor
  · intro h
    unfold keyPt at h
    obtain ⟨h12, h3⟩ := List.append_inj' h rfl
    obtain ⟨h1, h2⟩ := List.append_inj' h12 rfl
    refine ⟨fun hb => ?_, fun hb => ⟨?_, ?_⟩⟩
    · rw [if_pos hb, if_pos hb] at h1; exact put4_inj hp.1 hq.1 h1
    · rw [if_pos hb, if_pos hb] at h2; exact put4_inj hp.2.1 hq.2.1 h2
    · rw [if_pos hb, if_pos hb] at h3; exact put4_inj hp.2.2 hq.2.2 h3
  · rintro ⟨h1, h2⟩
    unfold keyPt
    cases hb : l.began <;> cases hr : l.part
    · simp
    · obtain ⟨e1, e2⟩ := h2 hr; simp [e1, e2]
    · simp [h1 hb]
    · obtain ⟨e1, e2⟩ := h2 hr; simp [h1 hb, e1, e2]
theorem keyPs_len' (ls : List Lv) : ∀ (a : List Pt) (g : Nat), (keyPs ls g a).length = 12 * a.length
  | [], _ => rfl
  | x :: a, g => by rw [keyPs, List.length_append, keyPs_len' ls a, List.length_cons]; simp [keyPt, put4]; omega
theorem keyPs_iff (ls : List Lv) : ∀ (a b : List Pt) (g : Nat), a.length = b.length → (keyPs ls g a = keyPs ls g b ↔ ∀ (j : Nat) (p q : Pt), a[j]? = some p → b[j]? = some q → keyPt (ls.getD (g + j) ⟨false, false⟩) p = keyPt (ls.getD (g + j) ⟨false, false⟩) q)
  | [], [], g, _ => by simp [keyPs]
  | [], _ :: _, _, h => by simp at h
  | _ :: _, [], _, h => by simp at h
  | x :: a, y :: b, g, h => by
    have hl : a.length = b.length := by simpa using h
    have ih := keyPs_iff ls a b (g + 1) hl
    rw [keyPs, keyPs]
    constructor
    · intro h
      obtain ⟨h1, h2⟩ := List.append_inj h rfl
      intro j p q hp hq
      cases j with
      | zero => simp at hp hq; subst hp; subst hq; exact h1
      | succ j =>
        have := ih.1 h2 j p q (by simpa using hp) (by simpa using hq)
        rwa [show g + 1 + j = g + (j + 1) by omega] at this
    · intro h
      have h1 := h 0 x y rfl rfl
      have h2 := ih.2 (fun j p q hp hq => by
        have := h (j + 1) p q (by simpa using hp) (by simpa using hq)
        rwa [show g + (j + 1) = g + 1 + j by omega] at this)
      rw [h2]
      congr 1
theorem keyTs_iff (at_ : Nat) : ∀ (a b : List Tn), a.length = b.length → (a.flatMap (keyTn at_) = b.flatMap (keyTn at_) ↔ ∀ (j : Nat) (p q : Tn), a[j]? = some p → b[j]? = some q → keyTn at_ p = keyTn at_ q)
  | [], [], _ => by simp
  | [], _ :: _, h => by simp at h
  | _ :: _, [], h => by simp at h
  | x :: a, y :: b, h => by
    have hl : a.length = b.length := by simpa using h
    have ih := keyTs_iff at_ a b hl
    rw [List.flatMap_cons, List.flatMap_cons]
    constructor
    · intro h
      obtain ⟨h1, h2⟩ := List.append_inj h rfl
      intro j p q hp hq
      cases j with
      | zero => simp at hp hq; subst hp; subst hq; exact h1
      | succ j => exact ih.1 h2 j p q (by simpa using hp) (by simpa using hq)
    · intro h
      rw [h 0 x y rfl rfl, ih.2 (fun j p q hp hq => h (j + 1) p q (by simpa using hp) (by simpa using hq))]
theorem keyTn_iff {at_ : Nat} {t u : Tn} (ht : 0 ≤ t.many ∧ t.many ≤ 1000000) (hu : 0 ≤ u.many ∧ u.many ≤ 1000000) : keyTn at_ t = keyTn at_ u ↔ t.many = u.many ∧ (t.began = at_ ↔ u.began = at_) := by
  unfold keyTn
  constructor
  · intro h
    by_cases h1 : t.began = at_ <;> by_cases h2 : u.began = at_
    · rw [if_pos h1, if_pos h2] at h; have := put4_inj (by omega) (by omega) h; exact ⟨by omega, by simp [h1, h2]⟩
    · rw [if_pos h1, if_neg h2] at h; have := put4_inj (by omega) (by omega) h; omega
    · rw [if_neg h1, if_pos h2] at h; have := put4_inj (by omega) (by omega) h; omega
    · rw [if_neg h1, if_neg h2] at h; have := put4_inj (by omega) (by omega) h; exact ⟨by omega, by simp [h1, h2]⟩
  · rintro ⟨h1, h2⟩
    rw [h1]
    by_cases h : t.began = at_
    · rw [if_pos h, if_pos (h2.1 h)]
    · rw [if_neg h, if_neg (fun x => h (h2.2 x))]
theorem key_eqv {m : Mc} {N : Nat} {c c' : Cf} (hW : MW m) (hN : N ≤ 900000) (h : CW m N c) (h' : CW m N c') : keyS m c = keyS m c' ↔ Eqv m c c' := by
  have hnp : c.parts.length = c'.parts.length := by rw [h.np, h'.np]
  have hnt : c.turns.length = c'.turns.length := by rw [h.nt, h'.nt]
  have b1 := h.pc
  have b2 := h'.pc
  have b3 := h.at_
  have b4 := h'.at_
  have b5 := hW.ni
  have hpb : ∀ (g : Nat) (p : Pt), c.parts[g]? = some p → (-1 ≤ p.began ∧ p.began ≤ 16000000) ∧ (-1 ≤ p.frm ∧ p.frm ≤ 16000000) ∧ (-1 ≤ p.til ∧ p.til ≤ 16000000) := fun g p hp => by have := h.p p (List.mem_of_getElem? hp); omega
  have hpb' : ∀ (g : Nat) (p : Pt), c'.parts[g]? = some p → (-1 ≤ p.began ∧ p.began ≤ 16000000) ∧ (-1 ≤ p.frm ∧ p.frm ≤ 16000000) ∧ (-1 ≤ p.til ∧ p.til ≤ 16000000) := fun g p hp => by have := h'.p p (List.mem_of_getElem? hp); omega
  unfold keyS
  constructor
  · intro hk
    obtain ⟨hk1, hk4⟩ := List.append_inj hk (by rw [List.length_append, List.length_append, List.length_append, List.length_append, keyPs_len', keyPs_len', hnp]; rfl)
    obtain ⟨hk2, hk3⟩ := List.append_inj hk1 rfl
    obtain ⟨e1, e2⟩ := List.append_inj hk2 rfl
    have hpc : c.pc = c'.pc := by have := put4_inj (by omega) (by omega) e1; omega
    have hat : c.at_ = c'.at_ := by have := put4_inj (by omega) (by omega) e2; omega
    rw [hpc] at hk3
    rw [hat] at hk4
    refine ⟨hpc, hat, hnp, hnt, fun g p p' hp hp' => ?_, fun k t t' ht ht' => ?_⟩
    · have := (keyPs_iff _ _ _ 0 hnp).1 hk3 g p p' hp hp'
      rw [Nat.zero_add] at this
      rw [hpc]
      exact (keyPt_iff (hpb g p hp) (hpb' g p' hp')).1 this
    · have := (keyTs_iff _ _ _ hnt).1 hk4 k t t' ht ht'
      rw [hat]
      exact (keyTn_iff (h.t t (List.mem_of_getElem? ht)).1 (h'.t t' (List.mem_of_getElem? ht')).1).1 this
  · intro e
    have q1 : keyPs (m.live.getD c.pc []) 0 c.parts = keyPs (m.live.getD c'.pc []) 0 c'.parts := by
      rw [← e.pc]
      refine (keyPs_iff _ _ _ 0 hnp).2 fun g p p' hp hp' => ?_
      rw [Nat.zero_add]
      exact (keyPt_iff (hpb g p hp) (hpb' g p' hp')).2 (e.p g p p' hp hp')
    have q2 : c.turns.flatMap (keyTn c.at_) = c'.turns.flatMap (keyTn c'.at_) := by
      rw [← e.at_]
      exact (keyTs_iff _ _ _ hnt).2 fun k t t' ht ht' => (keyTn_iff (h.t t (List.mem_of_getElem? ht)).1 (h'.t t' (List.mem_of_getElem? ht')).1).2 (e.t k t t' ht ht')
    rw [q1, q2, e.pc, e.at_]
end Go.Proofs.Ytoadmpochaeohaa
