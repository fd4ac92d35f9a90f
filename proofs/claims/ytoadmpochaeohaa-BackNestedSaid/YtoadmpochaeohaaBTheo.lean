/-
  Layer 20 in plain Lean: what a run finds is what can be come to.
-/
import Derived.Test.YtoadmpochaeohaaBSpec
set_option linter.unusedVariables false
set_option linter.unusedSimpArgs false
set_option maxRecDepth 100000
namespace Go.Proofs.Ytoadmpochaeohaa
open Go.RowKit

inductive Reach (m : Mc) (L : List UInt8) (c0 : Cf) : Cf → Prop
  | refl : Reach m L c0 c0
  | step {c d : Cf} (h : Reach m L c0 c) (hd : d ∈ onS m L c) : Reach m L c0 d
/-- An invariant of configurations; what is told apart by a key goes on alike. -/
structure Sim (m : Mc) (L : List UInt8) (Inv : Cf → Prop) : Prop where
  next : ∀ c, Inv c → ∀ d, d ∈ onS m L c → Inv d
  same : ∀ c c', Inv c → Inv c' → keyS m c = keyS m c' → c.at_ = c'.at_ ∧ isHit m c = isHit m c' ∧ ∀ d, d ∈ onS m L c → ∃ d', d' ∈ onS m L c' ∧ keyS m d = keyS m d'
theorem Reach.inv {m : Mc} {L : List UInt8} {Inv : Cf → Prop} (S : Sim m L Inv) {c0 c : Cf} (h0 : Inv c0) (h : Reach m L c0 c) : Inv c := by
  induction h with
  | refl => exact h0
  | step _ hd ih => exact S.next _ ih _ hd
/-- What is known is at least so far. -/
def atLeast (b : Option Nat) (e : Nat) : Prop := ∃ x, b = some x ∧ e ≤ x
def bestLe (a b : Option Nat) : Prop := ∀ e, atLeast a e → atLeast b e
theorem bestLe.refl (a : Option Nat) : bestLe a a := fun _ h => h
theorem bestLe.trans {a b c : Option Nat} (h : bestLe a b) (k : bestLe b c) : bestLe a c := fun e x => k e (h e x)
theorem hitS_le (m : Mc) (c : Cf) (b : Option Nat) : bestLe b (hitS m c b) := by
  intro e he
  obtain ⟨x, rfl, hx⟩ := he
  unfold hitS
  split
  · simp only
    split
    · exact ⟨_, rfl, by omega⟩
    · exact ⟨_, rfl, hx⟩
  · exact ⟨_, rfl, hx⟩
theorem hitS_at {m : Mc} {c : Cf} (b : Option Nat) (h : isHit m c = true) : atLeast (hitS m c b) c.at_ := by
  unfold hitS
  rw [if_pos h]
  cases b with
  | none => exact ⟨_, rfl, Nat.le_refl _⟩
  | some e =>
    simp only
    split
    · exact ⟨_, rfl, Nat.le_refl _⟩
    · exact ⟨_, rfl, by omega⟩
theorem hitS_cases (m : Mc) (c : Cf) (b : Option Nat) : hitS m c b = b ∨ (isHit m c = true ∧ hitS m c b = some c.at_) := by
  unfold hitS
  split
  · rename_i h
    cases b with
    | none => exact .inr ⟨h, rfl⟩
    | some e =>
      simp only
      split
      · exact .inr ⟨h, rfl⟩
      · exact .inl rfl
  · exact .inl rfl
/-- What a run finds can be come to. -/
theorem run_sound {m : Mc} {L : List UInt8} (Good : Cf → Prop) (hG : ∀ c, Good c → ∀ d, d ∈ onS m L c → Good d) : ∀ (f : Nat) (p : List Fr) (rn r : Rn), runS m L f p rn = some r → (∀ c, .look c ∈ p → Good c) →
    (∀ e, rn.best = some e → ∃ c, Good c ∧ isHit m c = true ∧ c.at_ = e) → ∀ e, r.best = some e → ∃ c, Good c ∧ isHit m c = true ∧ c.at_ = e
  | f, [], rn, r, h, _, hb => by
    have : rn = r := by cases f <;> (simp [runS] at h; exact h)
    subst this; exact hb
  | 0, _ :: _, rn, r, h, _, _ => by simp [runS] at h
  | f + 1, .leave k :: p, rn, r, h, hp, hb => by
    rw [runS] at h
    exact run_sound Good hG f p _ r h (fun c hc => hp c (List.mem_cons_of_mem _ hc)) hb
  | f + 1, .look c :: p, rn, r, h, hp, hb => by
    rw [runS] at h
    have hc := hp c (List.mem_cons_self ..)
    split at h
    · exact run_sound Good hG f p _ r h (fun c hc => hp c (List.mem_cons_of_mem _ hc)) hb
    · refine run_sound Good hG f _ _ r h (fun d hd => ?_) (fun e he => ?_)
      · rcases List.mem_append.1 hd with hd | hd
        · obtain ⟨d', h1, h2⟩ := List.mem_map.1 hd
          injection h2 with h2; subst h2
          exact hG c hc _ (List.mem_reverse.1 h1)
        · split at hd
          · rcases List.mem_cons.1 hd with hd | hd
            · cases hd
            · exact hp d (List.mem_cons_of_mem _ hd)
          · exact hp d (List.mem_cons_of_mem _ hd)
      · simp only at he
        rcases hitS_cases m c rn.best with h1 | ⟨h1, h2⟩
        · exact hb e (by rw [← h1]; exact he)
        · rw [h2] at he; injection he with he
          exact ⟨c, hc, h1, he⟩
/-- How much fuel is enough. -/
def wt (μ : Cf → Nat) : Fr → Nat
  | .look c => μ c
  | .leave _ => 1
theorem wt_looks (μ : Cf → Nat) : ∀ l : List Cf, (l.map (fun c => wt μ (.look c))).sum = (l.map μ).sum
  | [] => rfl
  | c :: l => by simp [wt]
theorem run_ends {m : Mc} {L : List UInt8} (Good : Cf → Prop) (hG : ∀ c, Good c → ∀ d, d ∈ onS m L c → Good d) (μ : Cf → Nat) (hμ : ∀ c, Good c → 2 + ((onS m L c).map μ).sum ≤ μ c) :
    ∀ (f : Nat) (p : List Fr) (rn : Rn), (∀ c, .look c ∈ p → Good c) → (p.map (wt μ)).sum ≤ f → ∃ r, runS m L f p rn = some r
  | f, [], rn, _, _ => ⟨rn, by cases f <;> rfl⟩
  | 0, .leave k :: p, rn, hp, h => by simp [wt] at h
  | 0, .look c :: p, rn, hp, h => by have := hμ c (hp c (List.mem_cons_self ..)); simp [wt] at h; omega
  | f + 1, .leave k :: p, rn, hp, h => by
    rw [runS]
    refine run_ends Good hG μ hμ f p _ (fun c hc => hp c (List.mem_cons_of_mem _ hc)) ?_
    rw [List.map_cons, List.sum_cons, wt] at h
    omega
  | f + 1, .look c :: p, rn, hp, h => by
    rw [runS]
    have hc := hp c (List.mem_cons_self ..)
    have hm := hμ c hc
    rw [List.map_cons, List.sum_cons, wt] at h
    split
    · exact run_ends Good hG μ hμ f p _ (fun c hc => hp c (List.mem_cons_of_mem _ hc)) (by omega)
    · refine run_ends Good hG μ hμ f _ _ (fun d hd => ?_) ?_
      · rcases List.mem_append.1 hd with hd | hd
        · obtain ⟨d', h1, h2⟩ := List.mem_map.1 hd
          injection h2 with h2; subst h2
          exact hG c hc _ (List.mem_reverse.1 h1)
        · split at hd
          · rcases List.mem_cons.1 hd with hd | hd
            · cases hd
            · exact hp d (List.mem_cons_of_mem _ hd)
          · exact hp d (List.mem_cons_of_mem _ hd)
      · rw [List.map_append, List.sum_append, List.map_map]
        have e1 : ((onS m L c).reverse.map (wt μ ∘ Fr.look)).sum = ((onS m L c).map μ).sum := by
          rw [show (wt μ ∘ Fr.look) = μ from rfl, List.map_reverse, List.sum_reverse]
        rw [e1]
        split
        · rw [List.map_cons, List.sum_cons, wt]; omega
        · omega

/-- A way that comes by no key of A. -/
inductive RA (m : Mc) (L : List UInt8) (A : List Key) : Nat → Cf → Cf → Prop
  | refl {c : Cf} (h : keyS m c ∉ A) : RA m L A 0 c c
  | step {n : Nat} {c d e : Cf} (h : keyS m c ∉ A) (hd : d ∈ onS m L c) (t : RA m L A n d e) : RA m L A (n + 1) c e
/-- The same way from what is told apart by the same key. -/
theorem RA.carry {m : Mc} {L : List UInt8} {Inv : Cf → Prop} (S : Sim m L Inv) {A : List Key} : ∀ {n : Nat} {c e : Cf}, RA m L A n c e → ∀ c', Inv c → Inv c' → keyS m c = keyS m c' → ∃ e', RA m L A n c' e' ∧ Inv e' ∧ Inv e ∧ keyS m e = keyS m e'
  | _, _, _, .refl h, c', h1, h2, hk => ⟨c', .refl (by rw [← hk]; exact h), h2, h1, hk⟩
  | _, _, _, .step h hd t, c', h1, h2, hk => by
    obtain ⟨d', hd', hkd⟩ := (S.same _ _ h1 h2 hk).2.2 _ hd
    obtain ⟨e', t', i1, i2, i3⟩ := RA.carry S t d' (S.next _ h1 _ hd) (S.next _ h2 _ hd') hkd
    exact ⟨e', .step (by rw [← hk]; exact h) hd' t', i1, i2, i3⟩
/-- Either it comes by κ no more, or there is a shorter rest from there. -/
theorem RA.cut {m : Mc} {L : List UInt8} {Inv : Cf → Prop} (S : Sim m L Inv) {A : List Key} (κ : Key) : ∀ {n : Nat} {c e : Cf}, Inv c → RA m L A n c e → RA m L (κ :: A) n c e ∨ ∃ n' c2, n' ≤ n ∧ Inv c2 ∧ keyS m c2 = κ ∧ RA m L A n' c2 e
  | n, c, e, hi, h => by
    by_cases hk : keyS m c = κ
    · exact .inr ⟨n, c, Nat.le_refl _, hi, hk, h⟩
    · cases h with
      | refl h => exact .inl (.refl (fun hm => by rcases List.mem_cons.1 hm with hm | hm; exact hk hm; exact h hm))
      | step h hd t =>
        rcases RA.cut S κ (S.next _ hi _ hd) t with h1 | ⟨n', c2, q1, q2, q3, q4⟩
        · exact .inl (.step (fun hm => by rcases List.mem_cons.1 hm with hm | hm; exact hk hm; exact h hm) hd h1)
        · exact .inr ⟨n', c2, by omega, q2, q3, q4⟩
theorem RA.once {m : Mc} {L : List UInt8} {Inv : Cf → Prop} (S : Sim m L Inv) {A : List Key} : ∀ (N n : Nat) (c e : Cf), n ≤ N → Inv c → RA m L A n c e → ∃ e', Inv e' ∧ Inv e ∧ keyS m e = keyS m e' ∧ (keyS m e' = keyS m c ∨ ∃ d n', d ∈ onS m L c ∧ RA m L (keyS m c :: A) n' d e')
  | N, n, c, e, hn, hi, h => by
    cases h with
    | refl h => exact ⟨c, hi, hi, rfl, .inl rfl⟩
    | step h hd t =>
      rename_i n0 d
      have hid := S.next _ hi _ hd
      rcases RA.cut S (keyS m c) hid t with h1 | ⟨n', c2, q1, q2, q3, q4⟩
      · obtain ⟨e', t', i1, i2, i3⟩ := RA.carry S h1 d hid hid rfl
        exact ⟨e', i1, i2, i3, .inr ⟨d, _, hd, t'⟩⟩
      · obtain ⟨e2, t2, i1, i2, i3⟩ := RA.carry S q4 c q2 hi q3
        cases N with
        | zero => omega
        | succ N =>
          obtain ⟨e', j1, j2, j3, j4⟩ := RA.once S N n' c e2 (by omega) hi t2
          exact ⟨e', j1, i2, i3.trans j3, j4⟩
/-- Closed: whoever has been seen leads to what has been seen. -/
def Clo (m : Mc) (L : List UInt8) (Inv : Cf → Prop) (p : List Fr) (rn : Rn) : Prop :=
  ∀ κ, κ ∈ rn.seen → ∃ c, Inv c ∧ keyS m c = κ ∧ (isHit m c = true → atLeast rn.best c.at_) ∧ ∀ d, d ∈ onS m L c → keyS m d ∈ rn.seen ∨ .look d ∈ p
theorem run_closed {m : Mc} {L : List UInt8} {Inv : Cf → Prop} (S : Sim m L Inv) (hpl : m.plain = false) : ∀ (f : Nat) (p : List Fr) (rn r : Rn), runS m L f p rn = some r → (∀ c, .look c ∈ p → Inv c) → (∀ k, .leave k ∉ p) → Clo m L Inv p rn →
    Clo m L Inv [] r ∧ (∀ c, .look c ∈ p → keyS m c ∈ r.seen) ∧ ∀ κ, κ ∈ rn.seen → κ ∈ r.seen
  | f, [], rn, r, h, _, _, hc => by
    have : rn = r := by cases f <;> (simp [runS] at h; exact h)
    subst this
    exact ⟨hc, fun c h => (by simp at h), fun κ h => h⟩
  | 0, _ :: _, rn, r, h, _, _, _ => by simp [runS] at h
  | f + 1, .leave k :: p, rn, r, h, _, hl, _ => absurd (List.mem_cons_self ..) (hl k)
  | f + 1, .look c :: p, rn, r, h, hp, hl, hc => by
    rw [runS] at h
    have hic := hp c (List.mem_cons_self ..)
    split at h
    · rename_i hin
      obtain ⟨g1, g2, g3⟩ := run_closed S hpl f p _ r h (fun c hc => hp c (List.mem_cons_of_mem _ hc)) (fun k hk => hl k (List.mem_cons_of_mem _ hk)) (fun κ hκ => by
        obtain ⟨x, q1, q2, q3, q4⟩ := hc κ hκ
        refine ⟨x, q1, q2, q3, fun d hd => ?_⟩
        rcases q4 d hd with q | q
        · exact .inl q
        · rcases List.mem_cons.1 q with q | q
          · injection q with q; subst q; exact .inl hin
          · exact .inr q)
      refine ⟨g1, fun x hx => ?_, g3⟩
      rcases List.mem_cons.1 hx with hx | hx
      · injection hx with hx; subst hx; exact g3 _ hin
      · exact g2 x hx
    · simp only [hpl, Bool.false_eq_true, if_false] at h
      obtain ⟨g1, g2, g3⟩ := run_closed S hpl f _ _ r h (fun d hd => by
        rcases List.mem_append.1 hd with hd | hd
        · obtain ⟨d', h1, h2⟩ := List.mem_map.1 hd
          injection h2 with h2; subst h2
          exact S.next c hic _ (List.mem_reverse.1 h1)
        · exact hp d (List.mem_cons_of_mem _ hd)) (fun k hk => by
        rcases List.mem_append.1 hk with hk | hk
        · obtain ⟨d', h1, h2⟩ := List.mem_map.1 hk
          cases h2
        · exact hl k (List.mem_cons_of_mem _ hk)) (fun κ hκ => by
        rcases List.mem_cons.1 hκ with rfl | hκ
        · refine ⟨c, hic, rfl, fun hh => hitS_at _ hh, fun d hd => .inr (List.mem_append.2 (.inl (List.mem_map.2 ⟨d, List.mem_reverse.2 hd, rfl⟩)))⟩
        · obtain ⟨x, q1, q2, q3, q4⟩ := hc κ hκ
          refine ⟨x, q1, q2, fun hh => hitS_le _ _ _ _ (q3 hh), fun d hd => ?_⟩
          rcases q4 d hd with q | q
          · exact .inl (List.mem_cons_of_mem _ q)
          · rcases List.mem_cons.1 q with q | q
            · injection q with q; subst q; exact .inl (List.mem_cons_self ..)
            · exact .inr (List.mem_append.2 (.inr q)))
      refine ⟨g1, fun x hx => ?_, fun κ hκ => g3 κ (List.mem_cons_of_mem _ hκ)⟩
      rcases List.mem_cons.1 hx with hx | hx
      · injection hx with hx; subst hx; exact g3 _ (List.mem_cons_self ..)
      · exact g2 x (List.mem_append.2 (.inr hx))
/-- What can be come to is found: a machine that remembers. -/
theorem run_complete {m : Mc} {L : List UInt8} {Inv : Cf → Prop} (S : Sim m L Inv) (hpl : m.plain = false) {f st kp : Nat} {c0 : Cf} {r : Rn} (h0 : Inv c0) (h : runS m L f [.look c0] ⟨[], st, kp, none⟩ = some r) : ∀ c, Reach m L c0 c → isHit m c = true → atLeast r.best c.at_ := by
  obtain ⟨g1, g2, _⟩ := run_closed S hpl f _ _ r h (fun c hc => by rw [List.mem_singleton] at hc; injection hc with hc; subst hc; exact h0) (fun k hk => by simp at hk) (fun κ hκ => (by simp at hκ))
  have key : ∀ c, Reach m L c0 c → keyS m c ∈ r.seen := by
    intro c hc
    induction hc with
    | refl => exact g2 c0 (List.mem_singleton.2 rfl)
    | @step c d hc hd ih =>
      obtain ⟨x, q1, q2, q3, q4⟩ := g1 _ ih
      obtain ⟨d', hd', hk⟩ := (S.same c x (hc.inv S h0) q1 q2.symm).2.2 d hd
      rcases q4 d' hd' with q | q
      · rw [hk]; exact q
      · simp at q
  intro c hc hh
  obtain ⟨x, q1, q2, q3, q4⟩ := g1 _ (key c hc)
  obtain ⟨e1, e2, _⟩ := S.same c x (hc.inv S h0) q1 q2.symm
  rw [e1]
  exact q3 (by rw [← e2]; exact hh)
/-- A plain machine: what lies above is gone through, and forgotten. -/
theorem run_plain {m : Mc} {L : List UInt8} {Inv : Cf → Prop} (S : Sim m L Inv) (hpl : m.plain = true) : ∀ (N f : Nat), f ≤ N → ∀ (cs : List Cf) (p : List Fr) (rn r : Rn), runS m L f (cs.map .look ++ p) rn = some r → (∀ c, c ∈ cs → Inv c) →
    ∃ f' rn', f' ≤ f ∧ runS m L f' p rn' = some r ∧ rn'.seen = rn.seen ∧ bestLe rn.best rn'.best ∧ ∀ c, c ∈ cs → ∀ n e, RA m L rn.seen n c e → isHit m e = true → atLeast rn'.best e.at_
  | N, f, hN, [], p, rn, r, h, _ => ⟨f, rn, Nat.le_refl _, h, rfl, bestLe.refl _, fun c hc => (by simp at hc)⟩
  | N, 0, hN, c :: cs, p, rn, r, h, _ => by simp [runS] at h
  | 0, f + 1, hN, c :: cs, p, rn, r, h, _ => by omega
  | N + 1, f + 1, hN, c :: cs, p, rn, r, h, hi => by
    rw [List.map_cons, List.cons_append, runS] at h
    have hic := hi c (List.mem_cons_self ..)
    split at h
    · rename_i hin
      obtain ⟨f', rn', q1, q2, q3, q4, q5⟩ := run_plain S hpl N f (by omega) cs p _ r h (fun c hc => hi c (List.mem_cons_of_mem _ hc))
      refine ⟨f', rn', by omega, q2, q3, q4, fun x hx n e hr hh => ?_⟩
      rcases List.mem_cons.1 hx with rfl | hx
      · cases hr with
        | refl hno => exact absurd hin hno
        | step hno _ _ => exact absurd hin hno
      · exact q5 x hx n e hr hh
    · rename_i hno
      obtain ⟨f1, rn1, a1, a2, a3, a4, a5⟩ := run_plain S hpl N f (by omega) (onS m L c).reverse _ _ r h (fun d hd => S.next c hic d (List.mem_reverse.1 hd))
      try simp only at a3 a4 a5
      cases f1 with
      | zero => simp [runS] at a2
      | succ f1 =>
        rw [runS] at a2
        obtain ⟨f', rn', q1, q2, q3, q4, q5⟩ := run_plain S hpl N f1 (by omega) cs p _ r a2 (fun c hc => hi c (List.mem_cons_of_mem _ hc))
        simp only [a3, List.erase_cons_head] at q3 q4 q5
        refine ⟨f', rn', by omega, q2, q3, (hitS_le m c rn.best).trans (a4.trans q4), fun x hx n e hr hh => ?_⟩
        rcases List.mem_cons.1 hx with rfl | hx
        · obtain ⟨e', j1, j2, j3, j4⟩ := RA.once S n n x e (Nat.le_refl _) hic hr
          obtain ⟨z1, z2, _⟩ := S.same e e' j2 j1 j3
          rw [z1]
          rw [z2] at hh
          rcases j4 with j4 | ⟨d, n', hd, j4⟩
          · obtain ⟨y1, y2, _⟩ := S.same e' x j1 hic j4
            rw [y2] at hh
            rw [y1]
            exact q4 _ (a4 _ (hitS_at _ hh))
          · exact q4 _ (a5 d (List.mem_reverse.2 hd) n' e' j4 hh)
        · exact q5 x hx n e hr hh
theorem reach_ra {m : Mc} {L : List UInt8} {c0 c : Cf} (h : Reach m L c0 c) : ∃ n, RA m L [] n c0 c := by
  have app : ∀ n c d e, RA m L [] n c d → e ∈ onS m L d → RA m L [] (n + 1) c e := by
    intro n c d e h he
    induction h with
    | refl h => exact .step h he (.refl (by simp))
    | step h hd t ih => exact .step h hd (ih he)
  induction h with
  | refl => exact ⟨0, .refl (by simp)⟩
  | step _ hd ih => obtain ⟨n, h⟩ := ih; exact ⟨n + 1, app _ _ _ _ h hd⟩
/-- What can be come to is found: plain or not. -/
theorem run_all {m : Mc} {L : List UInt8} {Inv : Cf → Prop} (S : Sim m L Inv) {f st kp : Nat} {c0 : Cf} {r : Rn} (h0 : Inv c0) (h : runS m L f [.look c0] ⟨[], st, kp, none⟩ = some r) : ∀ c, Reach m L c0 c → isHit m c = true → atLeast r.best c.at_ := by
  cases hpl : m.plain with
  | false => exact run_complete S hpl h0 h
  | true =>
    intro c hc hh
    obtain ⟨n, hr⟩ := reach_ra hc
    obtain ⟨f', rn', q1, q2, q3, q4, q5⟩ := run_plain S hpl f f (Nat.le_refl _) [c0] [] _ r (by simpa using h) (fun c hc => by rw [List.mem_singleton] at hc; subst hc; exact h0)
    have : rn' = r := by cases f' <;> (simp [runS] at q2; exact q2)
    subst this
    exact q5 c0 (List.mem_singleton.2 rfl) n c hr hh
/-- The answer is the greatest place at which a match can be come to. -/
theorem run_answer {m : Mc} {L : List UInt8} {Inv : Cf → Prop} (S : Sim m L Inv) {f st kp : Nat} {c0 : Cf} {r : Rn} (h0 : Inv c0) (h : runS m L f [.look c0] ⟨[], st, kp, none⟩ = some r) :
    (∀ e, r.best = some e → ∃ c, Reach m L c0 c ∧ isHit m c = true ∧ c.at_ = e) ∧ ∀ c, Reach m L c0 c → isHit m c = true → atLeast r.best c.at_ :=
  ⟨run_sound (Reach m L c0) (fun c hc d hd => .step hc hd) f _ _ r h (fun c hc => by rw [List.mem_singleton] at hc; injection hc with hc; subst hc; exact .refl) (fun e he => (by simp at he)), run_all S h0 h⟩
end Go.Proofs.Ytoadmpochaeohaa
