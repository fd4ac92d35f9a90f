/-
  Layer 20 in plain Lean: what matters goes on alike.
-/
import Derived.Test.YtoadmpochaeohaaBSim
set_option linter.unusedVariables false
set_option linter.unusedSimpArgs false
set_option maxRecDepth 100000
namespace Go.Proofs.Ytoadmpochaeohaa
open Go.RowKit

/-- What matters is all told. -/
def Full (m : Mc) : Prop := ∀ (k : Nat) (i : Ins), m.ins[k]? = some i → ∀ g, g < nsS m → (markOne m.slot m.live i k g).le (lv m.live k g)
theorem fold_ge (live : List (List Lv)) (g : Nat) : ∀ (ts : List Nat) (x : Lv), x.le (ts.foldl (fun l t => (⟨l.began || (lv live t g).began, l.part || (lv live t g).part⟩ : Lv)) x) ∧ ∀ t ∈ ts, (lv live t g).le (ts.foldl (fun l t => (⟨l.began || (lv live t g).began, l.part || (lv live t g).part⟩ : Lv)) x)
  | [], x => ⟨Lv.le.refl _, fun t h => (by simp at h)⟩
  | t :: ts, x => by
    obtain ⟨h1, h2⟩ := fold_ge live g ts ⟨x.began || (lv live t g).began, x.part || (lv live t g).part⟩
    rw [List.foldl_cons]
    refine ⟨Lv.le.trans ⟨fun h => by simp [h], fun h => by simp [h]⟩ h1, fun u hu => ?_⟩
    rcases List.mem_cons.1 hu with rfl | hu
    · exact Lv.le.trans ⟨fun h => by simp [h], fun h => by simp [h]⟩ h1
    · exact h2 u hu
/-- Where it leads, no more matters, but what the group's own instruction sets. -/
theorem lead_le {m : Mc} (hF : Full m) {k : Nat} {i : Ins} (hi : m.ins[k]? = some i) {g t : Nat} (hg : g < nsS m) (ht : t ∈ leadsS i k) :
    (¬ ((i.op = 6 ∨ i.op = 7 ∨ i.op = 8) ∧ m.slot.getD i.n.toNat (-1) = g) → (lv m.live t g).le (lv m.live k g)) ∧
    ((i.op = 6 ∨ i.op = 7 ∨ i.op = 8) ∧ m.slot.getD i.n.toNat (-1) = g → (i.op = 6 → (lv m.live t g).part = true → (lv m.live k g).part = true) ∧ (i.op = 7 → (lv m.live k g).began = true) ∧ (i.op = 8 → (lv m.live k g).part = true ∧ ((lv m.live t g).began = true → (lv m.live k g).began = true))) := by
  have h1 := hF k i hi g hg
  have h2 := (fold_ge m.live g (leadsS i k) ⟨false, false⟩).2 t ht
  unfold markOne at h1
  simp only at h1
  generalize (leadsS i k).foldl (fun l t => (⟨l.began || (lv m.live t g).began, l.part || (lv m.live t g).part⟩ : Lv)) ⟨false, false⟩ = x at *
  refine ⟨fun hn => ?_, fun hm => ?_⟩
  · rw [if_neg hn] at h1
    exact h2.trans h1
  · rw [if_pos hm] at h1
    refine ⟨fun h6 hp => ?_, fun h7 => ?_, fun h8 => ?_⟩
    · rw [if_pos h6] at h1
      exact h1.2 (h2.2 hp)
    · rw [if_neg (by omega), if_pos h7] at h1
      exact h1.1 rfl
    · rw [if_neg (by omega), if_neg (by omega)] at h1
      exact ⟨h1.2 rfl, fun hb => h1.1 (h2.1 hb)⟩
theorem Eqv.go {m : Mc} {N : Nat} {c c' : Cf} (h : Eqv m c c') (hc : CW m N c) (hc' : CW m N c') {t a2 : Nat} (hl : ∀ g, g < nsS m → (lv m.live t g).le (lv m.live c.pc g)) (ha : c.at_ ≤ a2) : Eqv m { c with pc := t, at_ := a2 } { c' with pc := t, at_ := a2 } := by
  refine ⟨rfl, rfl, h.np, h.nt, fun g p p' hp hp' => ?_, fun k u u' hu hu' => ?_⟩
  · have hg : g < nsS m := by have := (List.getElem?_eq_some_iff.1 hp).1; have := hc.np; simp only at *; omega
    obtain ⟨q1, q2⟩ := h.p g p p' hp hp'
    exact ⟨fun x => q1 ((hl g hg).1 x), fun x => q2 ((hl g hg).2 x)⟩
  · obtain ⟨q1, q2⟩ := h.t k u u' hu hu'
    refine ⟨q1, ?_⟩
    simp only
    have b1 := (hc.t u (List.mem_of_getElem? hu)).2.2
    have b2 := (hc'.t u' (List.mem_of_getElem? hu')).2.2
    rw [← h.at_] at b2
    by_cases e : c.at_ = a2
    · rw [← e]; exact q2
    · constructor <;> intro <;> omega
theorem Eqv.count {m : Mc} {N : Nat} {c c' : Cf} (h : Eqv m c c') (hc : CW m N c) (hc' : CW m N c') {t k : Nat} {T : Tn} (hl : ∀ g, g < nsS m → (lv m.live t g).le (lv m.live c.pc g)) : Eqv m { countS c k T with pc := t } { countS c' k T with pc := t } := by
  have h0 := h.go hc hc' (t := t) (a2 := c.at_) hl (Nat.le_refl _)
  refine ⟨rfl, h.at_, h.np, by simp [countS, h.nt], h0.p, fun j u u' hu hu' => ?_⟩
  simp only [countS] at hu hu' ⊢
  rw [List.getElem?_set] at hu hu'
  by_cases e : k = j
  · subst e
    rw [if_pos rfl] at hu hu'
    split at hu
    · split at hu'
      · injection hu with hu; injection hu' with hu'
        subst hu; subst hu'
        exact ⟨rfl, Iff.rfl⟩
      · cases hu'
    · cases hu
  · rw [if_neg e] at hu hu'
    exact h.t j u u' hu hu'
theorem on_eqv {m : Mc} {L : List UInt8} {c c' : Cf} (hW : MW m) (hF : Full m) (hc : CW m L.length c) (hc' : CW m L.length c') (h : Eqv m c c') : ∀ d, d ∈ onS m L c → ∃ d', d' ∈ onS m L c' ∧ Eqv m d d' := by
  intro d hd
  obtain ⟨i, hi⟩ : ∃ i, m.ins[c.pc]? = some i := ⟨_, List.getElem?_eq_getElem hc.pc⟩
  have hi' : m.ins[c'.pc]? = some i := by rw [← h.pc]; exact hi
  have hI := hW.ok _ _ hi
  unfold onS at hd ⊢
  rw [hi] at hd
  rw [hi']
  simp only at hd ⊢
  have plain : ¬ (i.op = 6 ∨ i.op = 7 ∨ i.op = 8) → ∀ t, t ∈ leadsS i c.pc → ∀ g, g < nsS m → (lv m.live t g).le (lv m.live c.pc g) := fun hn t ht g hg => (lead_le hF hi hg ht).1 (fun x => hn x.1)
  have nx : i.op ≠ 2 → i.op ≠ 10 → i.op ≠ 3 → i.op ≠ 11 → c.pc + 1 ∈ leadsS i c.pc := fun h1 h2 h3 h4 => by simp [leadsS, h1, h2, h3, h4]
  have hat := h.at_
  have hpc := h.pc
  by_cases h1 : i.op = 1
  · rw [if_pos h1] at hd ⊢
    rw [← hat, ← hpc]
    split at hd
    · rename_i x hx
      split at hd
      · rename_i hin
        rw [List.mem_singleton] at hd; subst hd
        rw [if_pos hin]
        exact ⟨_, List.mem_singleton.2 rfl, h.go hc hc' (plain (by omega) _ (nx (by omega) (by omega) (by omega) (by omega))) (by omega)⟩
      · cases hd
    · cases hd
  rw [if_neg h1] at hd ⊢
  by_cases h2 : i.op = 2
  · rw [if_pos h2] at hd ⊢
    have ht : ∀ t, t = i.x.toNat ∨ t = i.y.toNat → t ∈ leadsS i c.pc := fun t ht => by simp [leadsS, h2, ht]
    simp only [List.mem_cons, List.not_mem_nil, or_false] at hd ⊢
    rcases hd with rfl | rfl
    · exact ⟨_, .inl rfl, hat ▸ h.go hc hc' (plain (by omega) _ (ht _ (.inr rfl))) (Nat.le_refl _)⟩
    · exact ⟨_, .inr rfl, hat ▸ h.go hc hc' (plain (by omega) _ (ht _ (.inl rfl))) (Nat.le_refl _)⟩
  rw [if_neg h2] at hd ⊢
  by_cases h3 : i.op = 3
  · rw [if_pos h3] at hd ⊢
    rw [List.mem_singleton] at hd; subst hd
    exact ⟨_, List.mem_singleton.2 rfl, hat ▸ h.go hc hc' (plain (by omega) _ (by simp [leadsS, h3])) (Nat.le_refl _)⟩
  rw [if_neg h3] at hd ⊢
  by_cases h4 : i.op = 4
  · rw [if_pos h4] at hd ⊢
    rw [← hat, ← hpc]
    split at hd
    · rename_i h0
      rw [List.mem_singleton] at hd; subst hd
      rw [if_pos h0]
      exact ⟨_, List.mem_singleton.2 rfl, h.go hc hc' (plain (by omega) _ (nx (by omega) (by omega) (by omega) (by omega))) (Nat.le_refl _)⟩
    · cases hd
  rw [if_neg h4] at hd ⊢
  by_cases h5 : i.op = 5
  · rw [if_pos h5] at hd ⊢
    rw [← hat, ← hpc]
    split at hd
    · rename_i h0
      rw [List.mem_singleton] at hd; subst hd
      rw [if_pos h0]
      exact ⟨_, List.mem_singleton.2 rfl, h.go hc hc' (plain (by omega) _ (nx (by omega) (by omega) (by omega) (by omega))) (Nat.le_refl _)⟩
    · cases hd
  rw [if_neg h5] at hd ⊢
  by_cases h6 : i.op = 6 ∨ i.op = 7
  · rw [if_pos h6] at hd ⊢
    rw [List.mem_singleton] at hd; subst hd
    refine ⟨_, List.mem_singleton.2 rfl, ?_⟩
    obtain ⟨_, g0, hg0, hgn, _⟩ := hI.gr (by omega)
    rw [brk_eq m c i g0 hg0, brk_eq m c' i g0 hg0, ← hat, ← hpc]
    have hsl : m.slot.getD i.n.toNat (-1) = g0 := by rw [List.getD_eq_getElem?_getD, hg0]; rfl
    have hnx := nx (by omega) (by omega) (by omega) (by omega)
    refine ⟨rfl, rfl, by simp only [brkS_len]; exact h.np, h.nt, fun g p p' hp hp' => ?_, fun k u u' hu hu' => h.t k u u' hu hu'⟩
    simp only at hp hp' ⊢
    have hgl : g < nsS m := by have := (List.getElem?_eq_some_iff.1 hp).1; rw [brkS_len] at this; have := hc.np; omega
    obtain ⟨l1, l2⟩ := lead_le hF hi hgl hnx
    by_cases hmine : (g0 : Int) = g
    · obtain ⟨m6, m7, _⟩ := l2 ⟨by omega, by rw [hsl]; exact hmine⟩
      obtain ⟨q, hq⟩ : ∃ q, c.parts[g]? = some q := ⟨_, List.getElem?_eq_getElem (by rw [hc.np]; exact hgl)⟩
      obtain ⟨q', hq'⟩ : ∃ q, c'.parts[g]? = some q := ⟨_, List.getElem?_eq_getElem (by rw [hc'.np]; exact hgl)⟩
      obtain ⟨e1, e2⟩ := h.p g q q' hq hq'
      have hgt : g0.toNat = g := by omega
      unfold brkS at hp hp'
      rw [if_neg (by omega)] at hp hp'
      simp only [hgt, List.getD_eq_getElem?_getD, hq, hq', Option.getD_some] at hp hp'
      have gl : g < c.parts.length := by rw [hc.np]; exact hgl
      have gl' : g < c'.parts.length := by rw [hc'.np]; exact hgl
      by_cases o6 : i.op = 6
      · rw [if_pos o6, List.getElem?_set, if_pos rfl] at hp hp'
        rw [if_pos gl] at hp
        rw [if_pos gl'] at hp'
        injection hp with hp; injection hp' with hp'
        subst hp; subst hp'
        exact ⟨fun _ => rfl, fun x => e2 (m6 o6 x)⟩
      · have o7 : i.op = 7 := by omega
        rw [if_neg o6, List.getElem?_set, if_pos rfl] at hp hp'
        rw [if_pos gl] at hp
        rw [if_pos gl'] at hp'
        injection hp with hp; injection hp' with hp'
        have hb := e1 (m7 o7)
        subst hp; subst hp'
        simp only
        exact ⟨fun _ => hb, fun _ => by rw [hb]; simp⟩
    · have hun : ∀ (ps : List Pt), (brkS ps g0 i.op c.at_)[g]? = ps[g]? := fun ps => by
        unfold brkS
        split
        · rfl
        · simp only
          split <;> rw [List.getElem?_set, if_neg (by omega)]
      rw [hun] at hp hp'
      obtain ⟨e1, e2⟩ := h.p g p p' hp hp'
      have hle := l1 (fun x => hmine (by rw [← hsl]; exact x.2))
      exact ⟨fun x => e1 (hle.1 x), fun x => e2 (hle.2 x)⟩
  rw [if_neg h6] at hd ⊢
  by_cases h8 : i.op = 8
  · rw [if_pos h8] at hd ⊢
    obtain ⟨_, g0, hg0, hgn, hpos⟩ := hI.gr (by omega)
    have hsl : m.slot.getD i.n.toNat (-1) = g0 := by rw [List.getD_eq_getElem?_getD, hg0]; rfl
    have hnx := nx (by omega) (by omega) (by omega) (by omega)
    have h00 := hpos h8
    have hgl : g0.toNat < nsS m := by omega
    have hmine : m.slot.getD i.n.toNat (-1) = (g0.toNat : Int) := by rw [hsl]; omega
    obtain ⟨_, _, m8⟩ := (lead_le hF hi hgl hnx).2 ⟨by omega, hmine⟩
    obtain ⟨mp, mb⟩ := m8 h8
    obtain ⟨q, hq⟩ : ∃ q, c.parts[g0.toNat]? = some q := ⟨_, List.getElem?_eq_getElem (by rw [hc.np]; exact hgl)⟩
    obtain ⟨q', hq'⟩ : ∃ q, c'.parts[g0.toNat]? = some q := ⟨_, List.getElem?_eq_getElem (by rw [hc'.np]; exact hgl)⟩
    obtain ⟨e1, e2⟩ := (h.p _ q q' hq hq').2 mp
    have hsame : againS m L c' g0.toNat = againS m L c g0.toNat := by
      unfold againS
      rw [hq, hq']
      simp only
      rw [← hat, e1, e2]
    rw [hsl] at hd ⊢
    rw [hsame]
    split at hd
    · rename_i n hn
      rw [List.mem_singleton] at hd; subst hd
      rw [← hpc]
      refine ⟨_, List.mem_singleton.2 rfl, ?_⟩
      rw [← hat]
      refine h.go hc hc' (fun g hg => ?_) (Nat.le_add_right _ _)
      obtain ⟨l1, l2⟩ := lead_le hF hi hg hnx
      by_cases hm : m.slot.getD i.n.toNat (-1) = (g : Int)
      · obtain ⟨_, _, z⟩ := l2 ⟨by omega, hm⟩
        obtain ⟨z1, z2⟩ := z h8
        exact ⟨z2, fun _ => z1⟩
      · exact l1 (fun x => hm x.2)
    · cases hd
  rw [if_neg h8] at hd ⊢
  by_cases h9 : i.op = 9
  · rw [if_pos h9] at hd ⊢
    rw [List.mem_singleton] at hd; subst hd
    rw [← hpc]
    exact ⟨_, List.mem_singleton.2 rfl, h.count hc hc' (plain (by omega) _ (nx (by omega) (by omega) (by omega) (by omega)))⟩
  rw [if_neg h9] at hd ⊢
  by_cases h10 : i.op = 10
  · rw [if_pos h10] at hd ⊢
    have ht : ∀ t, t = i.x.toNat ∨ t = i.y.toNat → t ∈ leadsS i c.pc := fun t ht => by simp [leadsS, h10, ht]
    obtain ⟨hn0, hn1⟩ := hI.co (by omega)
    obtain ⟨u, hu⟩ : ∃ t, c.turns[i.n.toNat]? = some t := ⟨_, List.getElem?_eq_getElem (by rw [hc.nt]; exact hn1)⟩
    obtain ⟨u', hu'⟩ : ∃ t, c'.turns[i.n.toNat]? = some t := ⟨_, List.getElem?_eq_getElem (by rw [hc'.nt]; exact hn1)⟩
    obtain ⟨q1, q2⟩ := h.t _ u u' hu hu'
    simp only [List.getD_eq_getElem?_getD, hu, hu', Option.getD_some] at hd ⊢
    rw [← hat, ← q1]
    have hcond : (i.mn < u.many ∧ u'.began = c.at_) ↔ (i.mn < u.many ∧ u.began = c.at_) := by rw [q2]
    split at hd
    · cases hd
    · rename_i hno
      rw [if_neg (fun x => hno (hcond.1 x))]
      rcases List.mem_append.1 hd with hd | hd
      · split at hd
        · rename_i hmn
          rw [List.mem_singleton] at hd; subst hd
          rw [if_pos hmn]
          exact ⟨_, List.mem_append.2 (.inl (List.mem_singleton.2 rfl)), h.go hc hc' (plain (by omega) _ (ht _ (.inr rfl))) (Nat.le_refl _)⟩
        · cases hd
      · split at hd
        · rename_i hmx
          rw [List.mem_singleton] at hd; subst hd
          rw [if_pos hmx]
          exact ⟨_, List.mem_append.2 (.inr (List.mem_singleton.2 rfl)), h.count hc hc' (plain (by omega) _ (ht _ (.inl rfl)))⟩
        · cases hd
  rw [if_neg h10] at hd
  cases hd
theorem full_sim {m : Mc} {L : List UInt8} (hW : MW m) (hF : Full m) (hL : L.length ≤ 900000) : Sim m L (CW m L.length) := by
  refine ⟨fun c hc d hd => on_CW hW hc d hd, fun c c' hc hc' hk => ?_⟩
  have he := (key_eqv hW hL hc hc').1 hk
  refine ⟨he.at_, by unfold isHit; rw [he.pc], fun d hd => ?_⟩
  obtain ⟨d', hd', e⟩ := on_eqv hW hF hc hc' he d hd
  exact ⟨d', hd', (key_eqv hW hL (on_CW hW hc d hd) (on_CW hW hc' d' hd')).2 e⟩
end Go.Proofs.Ytoadmpochaeohaa
