/-
  Layer 20 in plain Lean: what is told apart by the same key goes on alike; where mark stops.
-/
import Derived.Test.YtoadmpochaeohaaPa30
import Derived.Test.YtoadmpochaeohaaPa12
import Derived.Test.YtoadmpochaeohaaPa16
import Derived.Test.YtoadmpochaeohaaPa18
import Derived.Test.YtoadmpochaeohaaPa32
import Derived.Test.YtoadmpochaeohaaPa29
section
set_option linter.unusedVariables false
set_option linter.unusedSimpArgs false
set_option maxRecDepth 100000
namespace Go.Proofs.Ytoadmpochaeohaa
open Go.RowKit

theorem ofNat_inj {a b : Nat} (ha : a < 256) (hb : b < 256) (h : UInt8.ofNat a = UInt8.ofNat b) : a = b := by
  have := congrArg UInt8.toNat h
  rw [UInt8.toNat_ofNat', UInt8.toNat_ofNat'] at this
  omega
theorem put4_inj {a b : Int} (ha : -1 ≤ a ∧ a ≤ 16000000) (hb : -1 ≤ b ∧ b ≤ 16000000) (h : put4 a = put4 b) : a = b := by
  unfold put4 at h
  simp only [List.cons.injEq, and_true] at h
  obtain ⟨h0, h1, h2, h3⟩ := h
  have e0 := ofNat_inj (by omega) (by omega) h0
  have e1 := ofNat_inj (by omega) (by omega) h1
  have e2 := ofNat_inj (by omega) (by omega) h2
  have e3 := ofNat_inj (by omega) (by omega) h3
  omega
theorem put4_len (a : Int) : (put4 a).length = 4 := rfl
/-- Alike, so far as it matters at this instruction. -/
structure Eqv (m : Mc) (c c' : Cf) : Prop where
  pc : c.pc = c'.pc
  at_ : c.at_ = c'.at_
  np : c.parts.length = c'.parts.length
  nt : c.turns.length = c'.turns.length
  p : ∀ (g : Nat) (p p' : Pt), c.parts[g]? = some p → c'.parts[g]? = some p' → ((lv m.live c.pc g).began = true → p.began = p'.began) ∧ ((lv m.live c.pc g).part = true → p.frm = p'.frm ∧ p.til = p'.til)
  t : ∀ (k : Nat) (t t' : Tn), c.turns[k]? = some t → c'.turns[k]? = some t' → t.many = t'.many ∧ (t.began = c.at_ ↔ t'.began = c.at_)
theorem keyPt_iff {l : Lv} {p q : Pt} (hp : (-1 ≤ p.began ∧ p.began ≤ 16000000) ∧ (-1 ≤ p.frm ∧ p.frm ≤ 16000000) ∧ (-1 ≤ p.til ∧ p.til ≤ 16000000)) (hq : (-1 ≤ q.began ∧ q.began ≤ 16000000) ∧ (-1 ≤ q.frm ∧ q.frm ≤ 16000000) ∧ (-1 ≤ q.til ∧ q.til ≤ 16000000)) :
    keyPt l p = keyPt l q ↔ (l.began = true → p.began = q.began) ∧ (l.part = true → p.frm = q.frm ∧ p.til = q.til) := by
  constructor
  · intro h
    unfold keyPt at h
    obtain ⟨h12, h3⟩ := List.append_inj' h rfl
    obtain ⟨h1, h2⟩ := List.append_inj' h12 rfl
    refine ⟨fun hb => ?_, fun hb => ⟨?_, ?_⟩⟩
    · rw [if_pos hb, if_pos hb] at h1; exact put4_inj hp.1 hq.1 h1
    · rw [if_pos hb, if_pos hb] at h2; exact put4_inj hp.2.1 hq.2.1 h2
    · rw [if_pos hb, if_pos hb] at h3; exact put4_inj hp.2.2 hq.2.2 h3
  · rintro ⟨h1, h2⟩
    unfold keyPt
    cases hb : l.began <;> cases hr : l.part
    · simp
    · obtain ⟨e1, e2⟩ := h2 hr; simp [e1, e2]
    · simp [h1 hb]
    · obtain ⟨e1, e2⟩ := h2 hr; simp [h1 hb, e1, e2]
theorem keyPs_len' (ls : List Lv) : ∀ (a : List Pt) (g : Nat), (keyPs ls g a).length = 12 * a.length
  | [], _ => rfl
  | x :: a, g => by rw [keyPs, List.length_append, keyPs_len' ls a, List.length_cons]; simp [keyPt, put4]; omega
theorem keyPs_iff (ls : List Lv) : ∀ (a b : List Pt) (g : Nat), a.length = b.length → (keyPs ls g a = keyPs ls g b ↔ ∀ (j : Nat) (p q : Pt), a[j]? = some p → b[j]? = some q → keyPt (ls.getD (g + j) ⟨false, false⟩) p = keyPt (ls.getD (g + j) ⟨false, false⟩) q)
  | [], [], g, _ => by simp [keyPs]
  | [], _ :: _, _, h => by simp at h
  | _ :: _, [], _, h => by simp at h
  | x :: a, y :: b, g, h => by
    have hl : a.length = b.length := by simpa using h
    have ih := keyPs_iff ls a b (g + 1) hl
    rw [keyPs, keyPs]
    constructor
    · intro h
      obtain ⟨h1, h2⟩ := List.append_inj h rfl
      intro j p q hp hq
      cases j with
      | zero => simp at hp hq; subst hp; subst hq; exact h1
      | succ j =>
        have := ih.1 h2 j p q (by simpa using hp) (by simpa using hq)
        rwa [show g + 1 + j = g + (j + 1) by omega] at this
    · intro h
      have h1 := h 0 x y rfl rfl
      have h2 := ih.2 (fun j p q hp hq => by
        have := h (j + 1) p q (by simpa using hp) (by simpa using hq)
        rwa [show g + (j + 1) = g + 1 + j by omega] at this)
      rw [h2]
      congr 1
theorem keyTs_iff (at_ : Nat) : ∀ (a b : List Tn), a.length = b.length → (a.flatMap (keyTn at_) = b.flatMap (keyTn at_) ↔ ∀ (j : Nat) (p q : Tn), a[j]? = some p → b[j]? = some q → keyTn at_ p = keyTn at_ q)
  | [], [], _ => by simp
  | [], _ :: _, h => by simp at h
  | _ :: _, [], h => by simp at h
  | x :: a, y :: b, h => by
    have hl : a.length = b.length := by simpa using h
    have ih := keyTs_iff at_ a b hl
    rw [List.flatMap_cons, List.flatMap_cons]
    constructor
    · intro h
      obtain ⟨h1, h2⟩ := List.append_inj h rfl
      intro j p q hp hq
      cases j with
      | zero => simp at hp hq; subst hp; subst hq; exact h1
      | succ j => exact ih.1 h2 j p q (by simpa using hp) (by simpa using hq)
    · intro h
      rw [h 0 x y rfl rfl, ih.2 (fun j p q hp hq => h (j + 1) p q (by simpa using hp) (by simpa using hq))]
theorem keyTn_iff {at_ : Nat} {t u : Tn} (ht : 0 ≤ t.many ∧ t.many ≤ 1000000) (hu : 0 ≤ u.many ∧ u.many ≤ 1000000) : keyTn at_ t = keyTn at_ u ↔ t.many = u.many ∧ (t.began = at_ ↔ u.began = at_) := by
  unfold keyTn
  constructor
  · intro h
    by_cases h1 : t.began = at_ <;> by_cases h2 : u.began = at_
    · rw [if_pos h1, if_pos h2] at h; have := put4_inj (by omega) (by omega) h; exact ⟨by omega, by simp [h1, h2]⟩
    · rw [if_pos h1, if_neg h2] at h; have := put4_inj (by omega) (by omega) h; omega
    · rw [if_neg h1, if_pos h2] at h; have := put4_inj (by omega) (by omega) h; omega
    · rw [if_neg h1, if_neg h2] at h; have := put4_inj (by omega) (by omega) h; exact ⟨by omega, by simp [h1, h2]⟩
  · rintro ⟨h1, h2⟩
    rw [h1]
    by_cases h : t.began = at_
    · rw [if_pos h, if_pos (h2.1 h)]
    · rw [if_neg h, if_neg (fun x => h (h2.2 x))]
theorem key_eqv {m : Mc} {N : Nat} {c c' : Cf} (hW : MW m) (hN : N ≤ 900000) (h : CW m N c) (h' : CW m N c') : keyS m c = keyS m c' ↔ Eqv m c c' := by
  have hnp : c.parts.length = c'.parts.length := by rw [h.np, h'.np]
  have hnt : c.turns.length = c'.turns.length := by rw [h.nt, h'.nt]
  have b1 := h.pc
  have b2 := h'.pc
  have b3 := h.at_
  have b4 := h'.at_
  have b5 := hW.ni
  have hpb : ∀ (g : Nat) (p : Pt), c.parts[g]? = some p → (-1 ≤ p.began ∧ p.began ≤ 16000000) ∧ (-1 ≤ p.frm ∧ p.frm ≤ 16000000) ∧ (-1 ≤ p.til ∧ p.til ≤ 16000000) := fun g p hp => by have := h.p p (List.mem_of_getElem? hp); omega
  have hpb' : ∀ (g : Nat) (p : Pt), c'.parts[g]? = some p → (-1 ≤ p.began ∧ p.began ≤ 16000000) ∧ (-1 ≤ p.frm ∧ p.frm ≤ 16000000) ∧ (-1 ≤ p.til ∧ p.til ≤ 16000000) := fun g p hp => by have := h'.p p (List.mem_of_getElem? hp); omega
  unfold keyS
  constructor
  · intro hk
    obtain ⟨hk1, hk4⟩ := List.append_inj hk (by rw [List.length_append, List.length_append, List.length_append, List.length_append, keyPs_len', keyPs_len', hnp]; rfl)
    obtain ⟨hk2, hk3⟩ := List.append_inj hk1 rfl
    obtain ⟨e1, e2⟩ := List.append_inj hk2 rfl
    have hpc : c.pc = c'.pc := by have := put4_inj (by omega) (by omega) e1; omega
    have hat : c.at_ = c'.at_ := by have := put4_inj (by omega) (by omega) e2; omega
    rw [hpc] at hk3
    rw [hat] at hk4
    refine ⟨hpc, hat, hnp, hnt, fun g p p' hp hp' => ?_, fun k t t' ht ht' => ?_⟩
    · have := (keyPs_iff _ _ _ 0 hnp).1 hk3 g p p' hp hp'
      rw [Nat.zero_add] at this
      rw [hpc]
      exact (keyPt_iff (hpb g p hp) (hpb' g p' hp')).1 this
    · have := (keyTs_iff _ _ _ hnt).1 hk4 k t t' ht ht'
      rw [hat]
      exact (keyTn_iff (h.t t (List.mem_of_getElem? ht)).1 (h'.t t' (List.mem_of_getElem? ht')).1).1 this
  · intro e
    have q1 : keyPs (m.live.getD c.pc []) 0 c.parts = keyPs (m.live.getD c'.pc []) 0 c'.parts := by
      rw [← e.pc]
      refine (keyPs_iff _ _ _ 0 hnp).2 fun g p p' hp hp' => ?_
      rw [Nat.zero_add]
      exact (keyPt_iff (hpb g p hp) (hpb' g p' hp')).2 (e.p g p p' hp hp')
    have q2 : c.turns.flatMap (keyTn c.at_) = c'.turns.flatMap (keyTn c'.at_) := by
      rw [← e.at_]
      exact (keyTs_iff _ _ _ hnt).2 fun k t t' ht ht' => (keyTn_iff (h.t t (List.mem_of_getElem? ht)).1 (h'.t t' (List.mem_of_getElem? ht')).1).2 (e.t k t t' ht ht')
    rw [q1, q2, e.pc, e.at_]

/-- What matters is all told. -/
def Full (m : Mc) : Prop := ∀ (k : Nat) (i : Ins), m.ins[k]? = some i → ∀ g, g < nsS m → (markOne m.slot m.live i k g).le (lv m.live k g)
theorem fold_ge (live : List (List Lv)) (g : Nat) : ∀ (ts : List Nat) (x : Lv), x.le (ts.foldl (fun l t => (⟨l.began || (lv live t g).began, l.part || (lv live t g).part⟩ : Lv)) x) ∧ ∀ t ∈ ts, (lv live t g).le (ts.foldl (fun l t => (⟨l.began || (lv live t g).began, l.part || (lv live t g).part⟩ : Lv)) x)
  | [], x => ⟨Lv.le.refl _, fun t h => (by simp at h)⟩
  | t :: ts, x => by
    obtain ⟨h1, h2⟩ := fold_ge live g ts ⟨x.began || (lv live t g).began, x.part || (lv live t g).part⟩
    rw [List.foldl_cons]
    refine ⟨Lv.le.trans ⟨fun h => by simp [h], fun h => by simp [h]⟩ h1, fun u hu => ?_⟩
    rcases List.mem_cons.1 hu with rfl | hu
    · exact Lv.le.trans ⟨fun h => by simp [h], fun h => by simp [h]⟩ h1
    · exact h2 u hu
/-- Where it leads, no more matters, but what the group's own instruction sets. -/
theorem lead_le {m : Mc} (hF : Full m) {k : Nat} {i : Ins} (hi : m.ins[k]? = some i) {g t : Nat} (hg : g < nsS m) (ht : t ∈ leadsS i k) :
    (¬ ((i.op = 6 ∨ i.op = 7 ∨ i.op = 8) ∧ m.slot.getD i.n.toNat (-1) = g) → (lv m.live t g).le (lv m.live k g)) ∧
    ((i.op = 6 ∨ i.op = 7 ∨ i.op = 8) ∧ m.slot.getD i.n.toNat (-1) = g → (i.op = 6 → (lv m.live t g).part = true → (lv m.live k g).part = true) ∧ (i.op = 7 → (lv m.live k g).began = true) ∧ (i.op = 8 → (lv m.live k g).part = true ∧ ((lv m.live t g).began = true → (lv m.live k g).began = true))) := by
  have h1 := hF k i hi g hg
  have h2 := (fold_ge m.live g (leadsS i k) ⟨false, false⟩).2 t ht
  unfold markOne at h1
  simp only at h1
  generalize (leadsS i k).foldl (fun l t => (⟨l.began || (lv m.live t g).began, l.part || (lv m.live t g).part⟩ : Lv)) ⟨false, false⟩ = x at *
  refine ⟨fun hn => ?_, fun hm => ?_⟩
  · rw [if_neg hn] at h1
    exact h2.trans h1
  · rw [if_pos hm] at h1
    refine ⟨fun h6 hp => ?_, fun h7 => ?_, fun h8 => ?_⟩
    · rw [if_pos h6] at h1
      exact h1.2 (h2.2 hp)
    · rw [if_neg (by omega), if_pos h7] at h1
      exact h1.1 rfl
    · rw [if_neg (by omega), if_neg (by omega)] at h1
      exact ⟨h1.2 rfl, fun hb => h1.1 (h2.1 hb)⟩
theorem Eqv.go {m : Mc} {N : Nat} {c c' : Cf} (h : Eqv m c c') (hc : CW m N c) (hc' : CW m N c') {t a2 : Nat} (hl : ∀ g, g < nsS m → (lv m.live t g).le (lv m.live c.pc g)) (ha : c.at_ ≤ a2) : Eqv m { c with pc := t, at_ := a2 } { c' with pc := t, at_ := a2 } := by
  refine ⟨rfl, rfl, h.np, h.nt, fun g p p' hp hp' => ?_, fun k u u' hu hu' => ?_⟩
  · have hg : g < nsS m := by have := (List.getElem?_eq_some_iff.1 hp).1; have := hc.np; simp only at *; omega
    obtain ⟨q1, q2⟩ := h.p g p p' hp hp'
    exact ⟨fun x => q1 ((hl g hg).1 x), fun x => q2 ((hl g hg).2 x)⟩
  · obtain ⟨q1, q2⟩ := h.t k u u' hu hu'
    refine ⟨q1, ?_⟩
    simp only
    have b1 := (hc.t u (List.mem_of_getElem? hu)).2.2
    have b2 := (hc'.t u' (List.mem_of_getElem? hu')).2.2
    rw [← h.at_] at b2
    by_cases e : c.at_ = a2
    · rw [← e]; exact q2
    · constructor <;> intro <;> omega
theorem Eqv.count {m : Mc} {N : Nat} {c c' : Cf} (h : Eqv m c c') (hc : CW m N c) (hc' : CW m N c') {t k : Nat} {T : Tn} (hl : ∀ g, g < nsS m → (lv m.live t g).le (lv m.live c.pc g)) : Eqv m { countS c k T with pc := t } { countS c' k T with pc := t } := by
  have h0 := h.go hc hc' (t := t) (a2 := c.at_) hl (Nat.le_refl _)
  refine ⟨rfl, h.at_, h.np, by simp [countS, h.nt], h0.p, fun j u u' hu hu' => ?_⟩
  simp only [countS] at hu hu' ⊢
  rw [List.getElem?_set] at hu hu'
  by_cases e : k = j
  · subst e
    rw [if_pos rfl] at hu hu'
    split at hu
    · split at hu'
      · injection hu with hu; injection hu' with hu'
        subst hu; subst hu'
        exact ⟨rfl, Iff.rfl⟩
      · cases hu'
    · cases hu
  · rw [if_neg e] at hu hu'
    exact h.t j u u' hu hu'
theorem on_eqv {m : Mc} {L : List UInt8} {c c' : Cf} (hW : MW m) (hF : Full m) (hc : CW m L.length c) (hc' : CW m L.length c') (h : Eqv m c c') : ∀ d, d ∈ onS m L c → ∃ d', d' ∈ onS m L c' ∧ Eqv m d d' := by
  intro d hd
  obtain ⟨i, hi⟩ : ∃ i, m.ins[c.pc]? = some i := ⟨_, List.getElem?_eq_getElem hc.pc⟩
  have hi' : m.ins[c'.pc]? = some i := by rw [← h.pc]; exact hi
  have hI := hW.ok _ _ hi
  unfold onS at hd ⊢
  rw [hi] at hd
  rw [hi']
  simp only at hd ⊢
  have plain : ¬ (i.op = 6 ∨ i.op = 7 ∨ i.op = 8) → ∀ t, t ∈ leadsS i c.pc → ∀ g, g < nsS m → (lv m.live t g).le (lv m.live c.pc g) := fun hn t ht g hg => (lead_le hF hi hg ht).1 (fun x => hn x.1)
  have nx : i.op ≠ 2 → i.op ≠ 10 → i.op ≠ 3 → i.op ≠ 11 → c.pc + 1 ∈ leadsS i c.pc := fun h1 h2 h3 h4 => by simp [leadsS, h1, h2, h3, h4]
  have hat := h.at_
  have hpc := h.pc
  by_cases h1 : i.op = 1
  · rw [if_pos h1] at hd ⊢
    rw [← hat, ← hpc]
    split at hd
    · rename_i x hx
      split at hd
      · rename_i hin
        rw [List.mem_singleton] at hd; subst hd
        rw [if_pos hin]
        exact ⟨_, List.mem_singleton.2 rfl, h.go hc hc' (plain (by omega) _ (nx (by omega) (by omega) (by omega) (by omega))) (by omega)⟩
      · cases hd
    · cases hd
  rw [if_neg h1] at hd ⊢
  by_cases h2 : i.op = 2
  · rw [if_pos h2] at hd ⊢
    have ht : ∀ t, t = i.x.toNat ∨ t = i.y.toNat → t ∈ leadsS i c.pc := fun t ht => by simp [leadsS, h2, ht]
    simp only [List.mem_cons, List.not_mem_nil, or_false] at hd ⊢
    rcases hd with rfl | rfl
    · exact ⟨_, .inl rfl, hat ▸ h.go hc hc' (plain (by omega) _ (ht _ (.inr rfl))) (Nat.le_refl _)⟩
    · exact ⟨_, .inr rfl, hat ▸ h.go hc hc' (plain (by omega) _ (ht _ (.inl rfl))) (Nat.le_refl _)⟩
  rw [if_neg h2] at hd ⊢
  by_cases h3 : i.op = 3
  · rw [if_pos h3] at hd ⊢
    rw [List.mem_singleton] at hd; subst hd
    exact ⟨_, List.mem_singleton.2 rfl, hat ▸ h.go hc hc' (plain (by omega) _ (by simp [leadsS, h3])) (Nat.le_refl _)⟩
  rw [if_neg h3] at hd ⊢
  by_cases h4 : i.op = 4
  · rw [if_pos h4] at hd ⊢
    rw [← hat, ← hpc]
    split at hd
    · rename_i h0
      rw [List.mem_singleton] at hd; subst hd
      rw [if_pos h0]
      exact ⟨_, List.mem_singleton.2 rfl, h.go hc hc' (plain (by omega) _ (nx (by omega) (by omega) (by omega) (by omega))) (Nat.le_refl _)⟩
    · cases hd
  rw [if_neg h4] at hd ⊢
  by_cases h5 : i.op = 5
  · rw [if_pos h5] at hd ⊢
    rw [← hat, ← hpc]
    split at hd
    · rename_i h0
      rw [List.mem_singleton] at hd; subst hd
      rw [if_pos h0]
      exact ⟨_, List.mem_singleton.2 rfl, h.go hc hc' (plain (by omega) _ (nx (by omega) (by omega) (by omega) (by omega))) (Nat.le_refl _)⟩
    · cases hd
  rw [if_neg h5] at hd ⊢
  by_cases h6 : i.op = 6 ∨ i.op = 7
  · rw [if_pos h6] at hd ⊢
    rw [List.mem_singleton] at hd; subst hd
    refine ⟨_, List.mem_singleton.2 rfl, ?_⟩
    obtain ⟨_, g0, hg0, hgn, _⟩ := hI.gr (by omega)
    rw [brk_eq m c i g0 hg0, brk_eq m c' i g0 hg0, ← hat, ← hpc]
    have hsl : m.slot.getD i.n.toNat (-1) = g0 := by rw [List.getD_eq_getElem?_getD, hg0]; rfl
    have hnx := nx (by omega) (by omega) (by omega) (by omega)
    refine ⟨rfl, rfl, by simp only [brkS_len]; exact h.np, h.nt, fun g p p' hp hp' => ?_, fun k u u' hu hu' => h.t k u u' hu hu'⟩
    simp only at hp hp' ⊢
    have hgl : g < nsS m := by have := (List.getElem?_eq_some_iff.1 hp).1; rw [brkS_len] at this; have := hc.np; omega
    obtain ⟨l1, l2⟩ := lead_le hF hi hgl hnx
    by_cases hmine : (g0 : Int) = g
    · obtain ⟨m6, m7, _⟩ := l2 ⟨by omega, by rw [hsl]; exact hmine⟩
      obtain ⟨q, hq⟩ : ∃ q, c.parts[g]? = some q := ⟨_, List.getElem?_eq_getElem (by rw [hc.np]; exact hgl)⟩
      obtain ⟨q', hq'⟩ : ∃ q, c'.parts[g]? = some q := ⟨_, List.getElem?_eq_getElem (by rw [hc'.np]; exact hgl)⟩
      obtain ⟨e1, e2⟩ := h.p g q q' hq hq'
      have hgt : g0.toNat = g := by omega
      unfold brkS at hp hp'
      rw [if_neg (by omega)] at hp hp'
      simp only [hgt, List.getD_eq_getElem?_getD, hq, hq', Option.getD_some] at hp hp'
      have gl : g < c.parts.length := by rw [hc.np]; exact hgl
      have gl' : g < c'.parts.length := by rw [hc'.np]; exact hgl
      by_cases o6 : i.op = 6
      · rw [if_pos o6, List.getElem?_set, if_pos rfl] at hp hp'
        rw [if_pos gl] at hp
        rw [if_pos gl'] at hp'
        injection hp with hp; injection hp' with hp'
        subst hp; subst hp'
        exact ⟨fun _ => rfl, fun x => e2 (m6 o6 x)⟩
      · have o7 : i.op = 7 := by omega
        rw [if_neg o6, List.getElem?_set, if_pos rfl] at hp hp'
        rw [if_pos gl] at hp
        rw [if_pos gl'] at hp'
        injection hp with hp; injection hp' with hp'
        have hb := e1 (m7 o7)
        subst hp; subst hp'
        simp only
        exact ⟨fun _ => hb, fun _ => by rw [hb]; simp⟩
    · have hun : ∀ (ps : List Pt), (brkS ps g0 i.op c.at_)[g]? = ps[g]? := fun ps => by
        unfold brkS
        split
        · rfl
        · simp only
          split <;> rw [List.getElem?_set, if_neg (by omega)]
      rw [hun] at hp hp'
      obtain ⟨e1, e2⟩ := h.p g p p' hp hp'
      have hle := l1 (fun x => hmine (by rw [← hsl]; exact x.2))
      exact ⟨fun x => e1 (hle.1 x), fun x => e2 (hle.2 x)⟩
  rw [if_neg h6] at hd ⊢
  by_cases h8 : i.op = 8
  · rw [if_pos h8] at hd ⊢
    obtain ⟨_, g0, hg0, hgn, hpos⟩ := hI.gr (by omega)
    have hsl : m.slot.getD i.n.toNat (-1) = g0 := by rw [List.getD_eq_getElem?_getD, hg0]; rfl
    have hnx := nx (by omega) (by omega) (by omega) (by omega)
    have h00 := hpos h8
    have hgl : g0.toNat < nsS m := by omega
    have hmine : m.slot.getD i.n.toNat (-1) = (g0.toNat : Int) := by rw [hsl]; omega
    obtain ⟨_, _, m8⟩ := (lead_le hF hi hgl hnx).2 ⟨by omega, hmine⟩
    obtain ⟨mp, mb⟩ := m8 h8
    obtain ⟨q, hq⟩ : ∃ q, c.parts[g0.toNat]? = some q := ⟨_, List.getElem?_eq_getElem (by rw [hc.np]; exact hgl)⟩
    obtain ⟨q', hq'⟩ : ∃ q, c'.parts[g0.toNat]? = some q := ⟨_, List.getElem?_eq_getElem (by rw [hc'.np]; exact hgl)⟩
    obtain ⟨e1, e2⟩ := (h.p _ q q' hq hq').2 mp
    have hsame : againS m L c' g0.toNat = againS m L c g0.toNat := by
      unfold againS
      rw [hq, hq']
      simp only
      rw [← hat, e1, e2]
    rw [hsl] at hd ⊢
    rw [hsame]
    split at hd
    · rename_i n hn
      rw [List.mem_singleton] at hd; subst hd
      rw [← hpc]
      refine ⟨_, List.mem_singleton.2 rfl, ?_⟩
      rw [← hat]
      refine h.go hc hc' (fun g hg => ?_) (Nat.le_add_right _ _)
      obtain ⟨l1, l2⟩ := lead_le hF hi hg hnx
      by_cases hm : m.slot.getD i.n.toNat (-1) = (g : Int)
      · obtain ⟨_, _, z⟩ := l2 ⟨by omega, hm⟩
        obtain ⟨z1, z2⟩ := z h8
        exact ⟨z2, fun _ => z1⟩
      · exact l1 (fun x => hm x.2)
    · cases hd
  rw [if_neg h8] at hd ⊢
  by_cases h9 : i.op = 9
  · rw [if_pos h9] at hd ⊢
    rw [List.mem_singleton] at hd; subst hd
    rw [← hpc]
    exact ⟨_, List.mem_singleton.2 rfl, h.count hc hc' (plain (by omega) _ (nx (by omega) (by omega) (by omega) (by omega)))⟩
  rw [if_neg h9] at hd ⊢
  by_cases h10 : i.op = 10
  · rw [if_pos h10] at hd ⊢
    have ht : ∀ t, t = i.x.toNat ∨ t = i.y.toNat → t ∈ leadsS i c.pc := fun t ht => by simp [leadsS, h10, ht]
    obtain ⟨hn0, hn1⟩ := hI.co (by omega)
    obtain ⟨u, hu⟩ : ∃ t, c.turns[i.n.toNat]? = some t := ⟨_, List.getElem?_eq_getElem (by rw [hc.nt]; exact hn1)⟩
    obtain ⟨u', hu'⟩ : ∃ t, c'.turns[i.n.toNat]? = some t := ⟨_, List.getElem?_eq_getElem (by rw [hc'.nt]; exact hn1)⟩
    obtain ⟨q1, q2⟩ := h.t _ u u' hu hu'
    simp only [List.getD_eq_getElem?_getD, hu, hu', Option.getD_some] at hd ⊢
    rw [← hat, ← q1]
    have hcond : (i.mn < u.many ∧ u'.began = c.at_) ↔ (i.mn < u.many ∧ u.began = c.at_) := by rw [q2]
    split at hd
    · cases hd
    · rename_i hno
      rw [if_neg (fun x => hno (hcond.1 x))]
      rcases List.mem_append.1 hd with hd | hd
      · split at hd
        · rename_i hmn
          rw [List.mem_singleton] at hd; subst hd
          rw [if_pos hmn]
          exact ⟨_, List.mem_append.2 (.inl (List.mem_singleton.2 rfl)), h.go hc hc' (plain (by omega) _ (ht _ (.inr rfl))) (Nat.le_refl _)⟩
        · cases hd
      · split at hd
        · rename_i hmx
          rw [List.mem_singleton] at hd; subst hd
          rw [if_pos hmx]
          exact ⟨_, List.mem_append.2 (.inr (List.mem_singleton.2 rfl)), h.count hc hc' (plain (by omega) _ (ht _ (.inl rfl)))⟩
        · cases hd
  rw [if_neg h10] at hd
  cases hd
theorem full_sim {m : Mc} {L : List UInt8} (hW : MW m) (hF : Full m) (hL : L.length ≤ 900000) : Sim m L (CW m L.length) := by
  refine ⟨fun c hc d hd => on_CW hW hc d hd, fun c c' hc hc' hk => ?_⟩
  have he := (key_eqv hW hL hc hc').1 hk
  refine ⟨he.at_, by unfold isHit; rw [he.pc], fun d hd => ?_⟩
  obtain ⟨d', hd', e⟩ := on_eqv hW hF hc hc' he d hd
  exact ⟨d', hd', (key_eqv hW hL (on_CW hW hc d hd) (on_CW hW hc' d' hd')).2 e⟩

theorem cellM_trues {ins : List Ins} {slot : List Int} {ns k g : Nat} {live : List (List Lv)} (h : Shp ins.length ns live) (hP : Post ins slot ns live) (hg : g < ns) : trues live ≤ trues (cellM ins slot k g live) := by
  cases hi : ins[k]? with
  | none => unfold cellM; rw [hi]; exact Nat.le_refl _
  | some i =>
    obtain ⟨h1, h2⟩ := cellM_step h hP hi hg
    by_cases e : markOne slot live i k g = lv live k g
    · rw [h1 e]; exact Nat.le_refl _
    · exact Nat.le_of_lt (h2 e)
theorem rowM_case {ins : List Ins} {slot : List Int} {ns k : Nat} {i : Ins} {live : List (List Lv)} (h : Shp ins.length ns live) (hP : Post ins slot ns live) (hi : ins[k]? = some i) : ∀ g, g ≤ ns →
    (rowM ins slot k g live = live ∧ ∀ g', g' < g → markOne slot live i k g' = lv live k g') ∨ trues live < trues (rowM ins slot k g live)
  | 0, _ => .inl ⟨rfl, fun g' h => by omega⟩
  | g + 1, hg => by
    rw [rowM]
    rcases rowM_case h hP hi g (by omega) with ⟨e, ih⟩ | ih
    · rw [e]
      obtain ⟨h1, h2⟩ := cellM_step h hP hi (g := g) (by omega)
      by_cases hq : markOne slot live i k g = lv live k g
      · refine .inl ⟨h1 hq, fun g' hg' => ?_⟩
        by_cases hgg : g' = g
        · subst hgg; exact hq
        · exact ih g' (by omega)
      · exact .inr (h2 hq)
    · exact .inr (Nat.lt_of_lt_of_le ih (cellM_trues (rowM_shp h g) (rowM_post h hP g (by omega)) (by omega)))
theorem sweepM_post {ins : List Ins} {slot : List Int} {ns : Nat} : ∀ (k : Nat) {live : List (List Lv)}, Shp ins.length ns live → Post ins slot ns live → Post ins slot ns (sweepM ins slot ns k live)
  | 0, _, _, h => h
  | k + 1, _, hs, h => sweepM_post k (rowM_shp hs ns) (rowM_post hs h ns (Nat.le_refl _))
theorem sweepM_trues {ins : List Ins} {slot : List Int} {ns : Nat} : ∀ (k : Nat) {live : List (List Lv)}, Shp ins.length ns live → Post ins slot ns live → trues live ≤ trues (sweepM ins slot ns k live)
  | 0, _, _, _ => Nat.le_refl _
  | k + 1, live, hs, h => by
    rw [sweepM]
    refine Nat.le_trans ?_ (sweepM_trues k (rowM_shp hs ns) (rowM_post hs h ns (Nat.le_refl _)))
    have : ∀ g, g ≤ ns → trues live ≤ trues (rowM ins slot k g live) := by
      intro g
      induction g with
      | zero => intro _; exact Nat.le_refl _
      | succ g ih => intro hg; exact Nat.le_trans (ih (by omega)) (cellM_trues (rowM_shp hs g) (rowM_post hs h g (by omega)) (by omega))
    exact this ns (Nat.le_refl _)
theorem sweepM_case {ins : List Ins} {slot : List Int} {ns : Nat} : ∀ (k : Nat) {live : List (List Lv)}, k ≤ ins.length → Shp ins.length ns live → Post ins slot ns live →
    (∀ k', k' < k → ∀ i, ins[k']? = some i → ∀ g, g < ns → markOne slot live i k' g = lv live k' g) ∨ trues live < trues (sweepM ins slot ns k live)
  | 0, _, _, _, _ => .inl fun k' h => by omega
  | k + 1, live, hk, hs, h => by
    obtain ⟨i, hi⟩ : ∃ i, ins[k]? = some i := ⟨_, List.getElem?_eq_getElem (by omega)⟩
    rw [sweepM]
    rcases rowM_case hs h hi ns (Nat.le_refl _) with ⟨e, hr⟩ | hr
    · rw [e]
      rcases sweepM_case k (by omega) hs h with hc | hc
      · refine .inl fun k' hk' j hj g hg => ?_
        by_cases hkk : k' = k
        · subst hkk
          rw [hi] at hj; injection hj with hj; subst hj
          exact hr g hg
        · exact hc k' (by omega) j hj g hg
      · exact .inr hc
    · exact .inr (Nat.lt_of_lt_of_le hr (sweepM_trues k (rowM_shp hs ns) (rowM_post hs h ns (Nat.le_refl _))))
theorem iterM_post {ins : List Ins} {slot : List Int} {ns : Nat} {live : List (List Lv)} (hs : Shp ins.length ns live) (h : Post ins slot ns live) : ∀ t, Shp ins.length ns (iterM (sweepM ins slot ns ins.length) t live) ∧ Post ins slot ns (iterM (sweepM ins slot ns ins.length) t live)
  | 0 => ⟨hs, h⟩
  | t + 1 => by
    obtain ⟨h1, h2⟩ := iterM_post hs h t
    exact ⟨sweepM_shp _ h1, sweepM_post _ h1 h2⟩
/-- Where it stops, all that matters is told. -/
theorem stop_full {ins : List Ins} {gr co t : Nat} {fo pl : Bool} (h : sweepM ins (slotN ins gr) (nsN ins gr) ins.length (iterM (sweepM ins (slotN ins gr) (nsN ins gr) ins.length) t (live0 ins.length (nsN ins gr))) = iterM (sweepM ins (slotN ins gr) (nsN ins gr) ins.length) t (live0 ins.length (nsN ins gr))) :
    Full ⟨ins, fo, pl, slotN ins gr, mostN ins co, iterM (sweepM ins (slotN ins gr) (nsN ins gr) ins.length) t (live0 ins.length (nsN ins gr))⟩ := by
  obtain ⟨h1, h2⟩ := iterM_post (slot := slotN ins gr) (live0_shp ins.length (nsN ins gr)) (live0_post ins (slotN ins gr) ins.length (nsN ins gr)) t
  intro k i hi g hg
  have hk := (List.getElem?_eq_some_iff.1 hi).1
  rcases sweepM_case ins.length (Nat.le_refl _) h1 h2 with hc | hc
  · have := hc k hk i hi g hg
    show (markOne (slotN ins gr) _ i k g).le _
    rw [this]
    exact Lv.le.refl _
  · rw [h] at hc; omega
theorem start_CW {m : Mc} {N at_ : Nat} (hin : 0 < m.ins.length) (hat : at_ ≤ N) : CW m N (startS m at_) := by
  refine ⟨hin, hat, by simp [startS, nsS], by simp [startS], fun p hp => ?_, fun t ht => ?_⟩
  · obtain ⟨_, _, rfl⟩ := List.mem_map.1 hp
    simp only; omega
  · obtain ⟨_, _, rfl⟩ := List.mem_map.1 ht
    simp only; omega
/-- What a run of a made machine answers. -/
theorem ran_answer {m : Mc} {L : List UInt8} {f at_ st kp : Nat} {r : Rn} (hW : MW m) (hF : Full m) (hL : L.length ≤ 900000) (hin : 0 < m.ins.length) (hat : at_ ≤ L.length) (h : ranS m L f at_ st kp = some r) :
    (∀ e, r.best = some e → ∃ c, Reach m L (startS m at_) c ∧ isHit m c = true ∧ c.at_ = e) ∧ ∀ c, Reach m L (startS m at_) c → isHit m c = true → atLeast r.best c.at_ :=
  run_answer (full_sim hW hF hL) (start_CW hin hat) h
end Go.Proofs.Ytoadmpochaeohaa
end

section
set_option linter.unusedVariables false
set_option linter.unusedSimpArgs false
set_option maxRecDepth 100000
namespace Go.Proofs.Ytoadmpochaeohaa
open Go.RowKit

/-- The greatest place at which a match can be come to. -/
def BestIs (m : Mc) (L : List UInt8) (a : Nat) (o : Option Nat) : Prop := (∀ e, o = some e → ∃ c, Reach m L (startS m a) c ∧ isHit m c = true ∧ c.at_ = e) ∧ ∀ c, Reach m L (startS m a) c → isHit m c = true → atLeast o c.at_
theorem best_unique {m : Mc} {L : List UInt8} {a : Nat} {o o' : Option Nat} (h : BestIs m L a o) (h' : BestIs m L a o') : o = o' := by
  cases o with
  | none =>
    cases o' with
    | none => rfl
    | some e =>
      obtain ⟨c, h1, h2, h3⟩ := h'.1 e rfl
      obtain ⟨x, hx, _⟩ := h.2 c h1 h2
      cases hx
  | some e =>
    obtain ⟨c, h1, h2, h3⟩ := h.1 e rfl
    obtain ⟨x, hx, hx2⟩ := h'.2 c h1 h2
    subst hx
    obtain ⟨c2, k1, k2, k3⟩ := h'.1 x rfl
    obtain ⟨y, hy, hy2⟩ := h.2 c2 k1 k2
    injection hy with hy
    congr 1
    omega
/-- What a machine does hangs on neither its being plain, nor what matters where. -/
theorem on_same {m m' : Mc} (h1 : m.ins = m'.ins) (h2 : m.slot = m'.slot) (h3 : m.most = m'.most) (h4 : m.fold = m'.fold) (L : List UInt8) (c : Cf) : onS m L c = onS m' L c := by
  obtain ⟨i, f, p, s, mo, l⟩ := m
  obtain ⟨i', f', p', s', mo', l'⟩ := m'
  simp only at h1 h2 h3 h4
  subst h1 h2 h3 h4
  rfl
theorem reach_same {m m' : Mc} (h1 : m.ins = m'.ins) (h2 : m.slot = m'.slot) (h3 : m.most = m'.most) (h4 : m.fold = m'.fold) {L : List UInt8} {c0 c : Cf} (h : Reach m L c0 c) : Reach m' L c0 c := by
  induction h with
  | refl => exact .refl
  | step _ hd ih => exact .step ih (by rw [← on_same h1 h2 h3 h4]; exact hd)
theorem best_same {m m' : Mc} (h1 : m.ins = m'.ins) (h2 : m.slot = m'.slot) (h3 : m.most = m'.most) (h4 : m.fold = m'.fold) {L : List UInt8} {a : Nat} {o : Option Nat} (h : BestIs m L a o) : BestIs m' L a o := by
  have hst : startS m a = startS m' a := by unfold startS; rw [h2, h3]
  have hh : ∀ c, isHit m c = isHit m' c := fun c => by unfold isHit; rw [h1]
  refine ⟨fun e he => ?_, fun c hc hit => ?_⟩
  · obtain ⟨c, k1, k2, k3⟩ := h.1 e he
    exact ⟨c, by rw [← hst]; exact reach_same h1 h2 h3 h4 k1, by rw [← hh]; exact k2, k3⟩
  · exact h.2 c (by rw [hst]; exact reach_same h1.symm h2.symm h3.symm h4.symm hc) (by rw [hh]; exact hit)
/-- Where the ways are few, there is an answer, and each machine that stands gives it. -/
theorem few_best {ins : List Ins} {gr co : Nat} {fo : Bool} {L : List UInt8} {a : Nat} (hr : rightE ins gr co = 0) (hN : L.length ≤ 100000) (hat : a ≤ L.length) (hfew : manyR ins fo L gr co 2000 a ≤ 2000)
    (t0 : Nat) (h0 : sweepM ins (slotN ins gr) (nsN ins gr) ins.length (iterM (sweepM ins (slotN ins gr) (nsN ins gr) ins.length) t0 (live0 ins.length (nsN ins gr))) = iterM (sweepM ins (slotN ins gr) (nsN ins gr) ins.length) t0 (live0 ins.length (nsN ins gr))) :
    ∃ o, ∀ (pl : Bool) (t st kp : Nat), sweepM ins (slotN ins gr) (nsN ins gr) ins.length (iterM (sweepM ins (slotN ins gr) (nsN ins gr) ins.length) t (live0 ins.length (nsN ins gr))) = iterM (sweepM ins (slotN ins gr) (nsN ins gr) ins.length) t (live0 ins.length (nsN ins gr)) →
      ∃ r, ranS (mOf ins gr co fo pl t) L 5000 a st kp = some r ∧ r.best = o := by
  obtain ⟨_, _, _, r4, _⟩ := right_ok hr
  have hW : ∀ pl t, MW (mOf ins gr co fo pl t) := fun pl t => new_MW hr (iterM_post (live0_shp _ _) (live0_post _ _ _ _) _).1
  obtain ⟨r0, hr0⟩ := few_ends (fo := fo) (pl := false) (t := t0) (st := 0) (kp := 0) hr hN hat hfew
  have b0 : BestIs (mOf ins gr co fo false t0) L a r0.best := ran_answer (hW false t0) (stop_full h0) (by omega) r4 hat hr0
  refine ⟨r0.best, fun pl t st kp ht => ?_⟩
  obtain ⟨r, hrr⟩ := few_ends (fo := fo) (pl := pl) (t := t) (st := st) (kp := kp) hr hN hat hfew
  have b1 : BestIs (mOf ins gr co fo pl t) L a r.best := ran_answer (hW pl t) (stop_full ht) (by omega) r4 hat hrr
  exact ⟨r, hrr, best_unique (best_same (m := mOf ins gr co fo pl t) (m' := mOf ins gr co fo false t0) rfl rfl rfl rfl b1) b0⟩
end Go.Proofs.Ytoadmpochaeohaa
end

section
set_option linter.unusedVariables false
set_option linter.unusedSimpArgs false
set_option maxRecDepth 100000
namespace Go.Proofs.Ytoadmpochaeohaa
open Go.RowKit

/-- So many places are taken. -/
def tknS (ss : List (List UInt8)) : Nat := (ss.filter fun s => s ≠ []).length
theorem tkn_empty {ss : List (List UInt8)} (h : tknS ss < ss.length) : ∃ e : Nat, ss[e]? = some [] := by
  apply Classical.byContradiction
  intro hn
  have : ss.filter (fun s => decide (s ≠ [])) = ss := List.filter_eq_self.2 (fun s hs => by
    obtain ⟨k, hk⟩ := List.getElem?_of_mem hs
    simp only [decide_eq_true_eq]
    rintro rfl
    exact hn ⟨k, hk⟩)
  unfold tknS at h
  rw [this] at h
  omega
theorem tkn_set (x : List UInt8) : ∀ (ss : List (List UInt8)) (k : Nat), tknS (ss.set k x) ≤ tknS ss + 1
  | [], k => by simp [tknS]
  | s :: ss, 0 => by
    unfold tknS
    rw [List.set_cons_zero, List.filter_cons, List.filter_cons]
    split <;> split <;> simp <;> omega
  | s :: ss, k + 1 => by
    have ih := tkn_set x ss k
    unfold tknS at ih ⊢
    rw [List.set_cons_succ, List.filter_cons, List.filter_cons]
    split
    · simp only [List.length_cons]; omega
    · exact ih
theorem tkn_rep (n : Nat) : tknS (List.replicate n []) = 0 := by
  unfold tknS
  rw [List.filter_eq_nil_iff.2 (fun a ha => by rw [List.eq_of_mem_replicate ha]; simp)]
  rfl
theorem tkn_le (ss : List (List UInt8)) : tknS ss ≤ ss.length := List.length_filter_le _ _
theorem tkn_snoc (l : List (List UInt8)) (x : List UInt8) : tknS (l ++ [x]) = tknS l + if x = [] then 0 else 1 := by
  unfold tknS
  rw [List.filter_append, List.length_append]
  by_cases h : x = [] <;> simp [h]
theorem SV_nil : SV [] = .string ⟨#[]⟩ := rfl
set_option maxHeartbeats 8000000 in
theorem slotC (bX o : Nat) (cs : List Value) (tX : TypeId) (ss : List (List UInt8)) (v : Value) (x : ByteArray) (Fs : Nat → Prop) (w : World) (hX : Blk w bX cs tX) (hc : cs[o]? = some v) (hS : Sl w Fs 9 1 v ss.length (ss.map SV)) (hcnt : tknS ss < ss.length) (hx : x.size ≤ 1000000) (hl : ss.length ≤ 1000000) :
    Calls Try.prog 67 #[.pointer (some ⟨bX, o, none⟩), .string x] w fun e w' => ∃ k : Nat, e = .returned (.int .i64 k) ∧ k < ss.length ∧ w = w' := by
  obtain ⟨em, hem⟩ := tkn_empty hcnt
  have heml := (List.getElem?_eq_some_iff.1 hem).1
  obtain ⟨n, hn⟩ : ∃ n, ss.length = n := ⟨_, rfl⟩
  obtain ⟨A, c, rfl⟩ := hS.form
  obtain ⟨b9, rfl, hFb, hbl, cur, hcur, hcx⟩ := hS.head (by omega)
  rw [hn] at heml hl hc hS ⊢
  have o0 : w.cell? ⟨bX, o, none⟩ = some (.slice (some ⟨b9, 0, none⟩) n c) := by rw [hX.cell, hc]
  have lo := hX.lt
  have hcell : ∀ k, k < n → ∃ s, ss[k]? = some s ∧ w.cell? ⟨b9, k, none⟩ = some (.string ⟨s.toArray⟩) := fun k hk => by
    obtain ⟨s, hs⟩ : ∃ s, ss[k]? = some s := ⟨_, List.getElem?_eq_getElem (by omega)⟩
    exact ⟨s, hs, by rw [hcur.cell, hcx _ (by rw [List.length_map]; omega), List.getElem?_map, hs]; rfl⟩
  have HCELL := Lib.hid hcell
  have HEM := Lib.hid (⟨hem, hn⟩ : _ ∧ _)
  clear hcell hem hn hcx hcur hX hc hS hcnt
  go_enter Try.func67, Try.ntmps67
  go_wp2_with fail
  go_loopw [5, 6] (fun hv i wr => ∃ j h : Nat, i = .int .i64 j ∧ j ≤ x.size ∧ hv = .int .i64 h ∧ h ≤ 1000003 ∧ wr = w) (fun _ i _ => x.size - (intOf i).toNat)
  case atStart => exact ⟨0, 5381, rfl, Nat.zero_le _, rfl, by omega, rfl⟩
  case round =>
    obtain ⟨j, h, rfl, hj, rfl, hh, rfl⟩ := hrel
    by_cases hjl : j < x.size
    · obtain ⟨cb, hcb⟩ : ∃ cb, x[j]'hjl = cb := ⟨_, rfl⟩
      obtain ⟨cn, hcn, hwc⟩ : ∃ cn : Nat, cn < 256 ∧ wrap64 (cb.toNat : Int) = (cn : Int) := ⟨cb.toNat, cb.toNat_lt, IntWalk.wrap64_in _ (by have := cb.toNat_lt; omega)⟩
      have hwk : IntKind.i64.wrap ((j : Int) + 1) = ((j + 1 : Nat) : Int) := by rw [IntWalk.i64_in _ (by omega)]; omega
      obtain ⟨h3, hh3⟩ : ∃ h3, h * 33 = h3 := ⟨_, rfl⟩
      obtain ⟨h4, hh4⟩ : ∃ h4, h3 + cn = h4 := ⟨_, rfl⟩
      have hw1 : IntKind.i64.wrap ((h : Int) * 33) = (h3 : Int) := by rw [IntWalk.i64_in _ (by omega)]; omega
      have hw2 : IntKind.i64.wrap ((h3 : Int) + cn) = (h4 : Int) := by rw [IntWalk.i64_in _ (by omega)]; omega
      clear hh3 hh4
      obtain ⟨h5, hh5b, hm1⟩ : ∃ h5 : Nat, h5 ≤ 1000003 ∧ (h4 : Int).tmod 1000003 = (h5 : Int) := ⟨h4 % 1000003, Nat.le_of_lt (Nat.mod_lt _ (by decide)), by rw [Int.tmod_eq_emod_of_nonneg (Int.natCast_nonneg _)]; rfl⟩
      go_wp2_with fail
      go_roundw
      case measure => simp [intOf] <;> omega
      case rel => exact ⟨j + 1, h5, by go_num, by omega, rfl, hh5b, by first | rfl | trivial⟩
    · obtain rfl : j = x.size := by omega
      obtain ⟨k0, hk0n, hm1⟩ : ∃ k0 : Nat, k0 < n ∧ (h : Int).tmod (n : Int) = (k0 : Int) := ⟨h % n, Nat.mod_lt _ (by omega), by rw [Int.tmod_eq_emod_of_nonneg (Int.natCast_nonneg _)]; rfl⟩
      have hnz : (n : Int) ≠ 0 := by omega
      go_wp2_with fail
      go_loopw [7] (fun i wx => ∃ k : Nat, i = .int .i64 k ∧ k < n ∧ wx = wr) (fun i _ => (em + n - (intOf i).toNat) % n)
      case atStart => exact ⟨k0, rfl, hk0n, rfl⟩
      case round =>
        obtain ⟨k, rfl, hkn, hwx⟩ := hrel
        subst hwx
        obtain ⟨s, hs, hcs⟩ := HCELL.out k hkn
        have HS := Lib.hid hs
        obtain ⟨t, rfl⟩ : ∃ t : List UInt8, x = ⟨t.toArray⟩ := ⟨x.data.toList, by simp⟩
        clear hs
        by_cases h0 : s = []
        · subst h0
          have t1 : (([] : List UInt8) != []) = false := rfl
          go_wp2_with fail
          go_ret
          exact ⟨k, rfl, hkn, rfl⟩
        · have t1 : (s != []) = true := by simpa using h0
          have t3 : s.isEmpty = false := by simpa using h0
          by_cases h1 : s = t
          · have t2 : (s == t) = true := by simpa using h1
            clear h1 h0
            go_wp2_with fail
            go_ret
            exact ⟨k, rfl, hkn, rfl⟩
          · have t2 : (s == t) = false := by simpa using h1
            have hke : k ≠ em := by
              rintro rfl
              have h3 := HS.out
              rw [HEM.out.1] at h3
              injection h3 with h3
              exact h0 h3.symm
            obtain ⟨k1, hk1⟩ : ∃ k1, k + 1 = k1 := ⟨_, rfl⟩
            have hwk : IntKind.i64.wrap ((k : Int) + 1) = (k1 : Int) := by rw [IntWalk.i64_in _ (by omega)]; omega
            obtain ⟨k2, hk2, hk2n, hm2⟩ : ∃ k2 : Nat, k1 % n = k2 ∧ k2 < n ∧ (k1 : Int).tmod (n : Int) = (k2 : Int) := ⟨k1 % n, rfl, Nat.mod_lt _ (by omega), by rw [Int.tmod_eq_emod_of_nonneg (Int.natCast_nonneg _)]; rfl⟩
            have hms : (em + n - k2) % n < (em + n - k) % n := by
              by_cases hlast : k1 = n
              · have : k2 = 0 := by rw [← hk2, hlast, Nat.mod_self]
                subst this
                have e1 : (em + n - 0) % n = em := by rw [Nat.sub_zero, Nat.add_mod_right, Nat.mod_eq_of_lt heml]
                have e2 : (em + n - k) % n = em + n - k := Nat.mod_eq_of_lt (by omega)
                omega
              · have : k2 = k1 := by rw [← hk2]; exact Nat.mod_eq_of_lt (by omega)
                subst this
                by_cases hlt : k < em
                · have e1 : (em + n - k2) % n = em - k2 := by rw [show em + n - k2 = em - k2 + n by omega, Nat.add_mod_right, Nat.mod_eq_of_lt (by omega)]
                  have e2 : (em + n - k) % n = em - k := by rw [show em + n - k = em - k + n by omega, Nat.add_mod_right, Nat.mod_eq_of_lt (by omega)]
                  omega
                · have e1 : (em + n - k2) % n = em + n - k2 := Nat.mod_eq_of_lt (by omega)
                  have e2 : (em + n - k) % n = em + n - k := Nat.mod_eq_of_lt (by omega)
                  omega
            have HMS := Lib.hid hms
            clear hms hk2 hk1 h0 h1 hke
            go_wp2_with fail
            go_roundw
            case measure => simp [intOf]; exact HMS.out
            case rel => exact ⟨k2, rfl, hk2n, by first | rfl | trivial⟩
end Go.Proofs.Ytoadmpochaeohaa
end
