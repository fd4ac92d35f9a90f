/-
  What a search finds: the least start from which the program matches, and the greatest end (in plain Lean).
-/
import Derived.Test.YtoadmpochaeohaaPg36
section
set_option linter.unusedVariables false
set_option linter.unusedSimpArgs false
set_option maxRecDepth 100000
namespace Go.Proofs.Ytoadmpochaeohaa
/-- Instruction k is come to at place p, begun at s. -/
inductive Al (l : List Ins) (line : List UInt8) (s : Nat) : Nat → Nat → Prop
  | start : Al l line s s 0
  | eps {p k j : Nat} : Al l line s p k → j ∈ succs l (p == 0) (p == line.length) k → Al l line s p j
  | byte {p k : Nat} {i : Ins} {c : UInt8} : Al l line s p k → l[k]? = some i → i.op = 1 → line[p]? = some c → inSet i c = true → Al l line s (p + 1) (k + 1)
/-- From s the program matches up to q. -/
def Mt (l : List Ins) (line : List UInt8) (s q : Nat) : Prop := ∃ k i, Al l line s q k ∧ l[k]? = some i ∧ i.op = 11

section
variable {l : List Ins} {line : List UInt8}
theorem Al.le {s p k : Nat} (h : Al l line s p k) : s ≤ p := by
  induction h with
  | start => exact Nat.le_refl _
  | eps _ _ ih => exact ih
  | byte _ _ _ _ _ ih => omega
theorem Al.lt {s p k : Nat} (h : Al l line s p k) (hs : s ≤ line.length) : p ≤ line.length := by
  induction h with
  | start => exact hs
  | eps _ _ ih => exact ih
  | byte _ _ _ hc _ _ => have := (List.getElem?_eq_some_iff.1 hc).1; omega
/-- What lives at a place has lived at all places ahead. -/
theorem Al.back {s q k : Nat} (h : Al l line s q k) : ∀ p, s ≤ p → p ≤ q → ∃ j, Al l line s p j := by
  induction h with
  | start => intro p h1 h2; obtain rfl : p = s := by omega
             exact ⟨0, .start⟩
  | eps _ _ ih => exact ih
  | @byte p k i c h1 h2 h3 h4 h5 ih =>
    intro p' h6 h7
    by_cases h8 : p' = p + 1
    · subst h8; exact ⟨_, .byte h1 h2 h3 h4 h5⟩
    · exact ih p' h6 (by omega)

/-- A list of those that come: sorted by where they began. -/
def Srt (np : List (Nat × Int)) : Prop := np.Pairwise fun a b => a.2 ≤ b.2
/-- Whatever is led to without a byte is there, begun no later. -/
def Cls (l : List Ins) (b0 b1 : Bool) (np : List (Nat × Int)) : Prop := ∀ p ∈ np, ∀ j ∈ succs l b0 b1 p.1, ∃ f, f ≤ p.2 ∧ (j, f) ∈ np

theorem comeP_split {b0 b1 : Bool} {fm : Int} : ∀ (f : Nat) (st : List Nat) (np : List (Nat × Int)), ∃ nw, comeP l b0 b1 fm f st np = np ++ nw ∧ ∀ p ∈ nw, p.2 = fm
  | 0, st, np => ⟨[], by simp [comeP], by simp⟩
  | f + 1, [], np => ⟨[], by simp [comeP], by simp⟩
  | f + 1, k :: st, np => by
    rw [comeP]
    split
    · exact comeP_split f st np
    · obtain ⟨nw, h1, h2⟩ := comeP_split (b0 := b0) (b1 := b1) (fm := fm) f (succs l b0 b1 k ++ st) (np ++ [(k, fm)])
      refine ⟨(k, fm) :: nw, by rw [h1]; simp, fun p hp => ?_⟩
      rcases List.mem_cons.1 hp with rfl | hp
      · rfl
      · exact h2 p hp
theorem comeP_nodup (hfi : Fine l) {b0 b1 : Bool} {fm : Int} : ∀ (f : Nat) (st : List Nat) (np : List (Nat × Int)), (np.map Prod.fst).Nodup → (∀ p ∈ np, p.1 < l.length) → (∀ j ∈ st, j < l.length) →
    ((comeP l b0 b1 fm f st np).map Prod.fst).Nodup ∧ ∀ p ∈ comeP l b0 b1 fm f st np, p.1 < l.length
  | 0, st, np, h1, h2, _ => ⟨h1, h2⟩
  | f + 1, [], np, h1, h2, _ => ⟨h1, h2⟩
  | f + 1, k :: st, np, h1, h2, h3 => by
    rw [comeP]
    split
    · exact comeP_nodup hfi f st np h1 h2 (fun j hj => h3 j (List.mem_cons_of_mem _ hj))
    · rename_i hk
      refine comeP_nodup hfi f _ _ ?_ (fun p hp => ?_) (fun j hj => ?_)
      · rw [List.map_append]
        exact List.nodup_append.2 ⟨h1, by simp, fun a ha b hb => by simp at hb; subst hb; exact fun e => hk (e ▸ ha)⟩
      · rcases List.mem_append.1 hp with hp | hp
        · exact h2 p hp
        · rw [List.mem_singleton.1 hp]; exact h3 k List.mem_cons_self
      · rcases List.mem_append.1 hj with hj | hj
        · exact succs_lt hfi b0 b1 k j hj
        · exact h3 j (List.mem_cons_of_mem _ hj)

theorem nodup_inj {α β : Type} {f : α → β} : ∀ {l : List α}, (l.map f).Nodup → ∀ {p q : α}, p ∈ l → q ∈ l → f p = f q → p = q
  | [], _, p, q, hp, _, _ => by cases hp
  | a :: l, h, p, q, hp, hq, e => by
    rw [List.map_cons] at h
    obtain ⟨h1, h2⟩ := List.nodup_cons.1 h
    rcases List.mem_cons.1 hp with h3 | h3
    · subst h3
      rcases List.mem_cons.1 hq with h4 | h4
      · exact h4.symm
      · exact absurd (e ▸ List.mem_map_of_mem h4) h1
    · rcases List.mem_cons.1 hq with h4 | h4
      · subst h4
        exact absurd (e ▸ List.mem_map_of_mem h3) h1
      · exact nodup_inj h2 h3 h4 e
/-- What those that come must be, at a place. -/
structure NX (l : List Ins) (line : List UInt8) (at_ : Nat) (np : List (Nat × Int)) : Prop where
  nodup : (np.map Prod.fst).Nodup
  lt : ∀ p ∈ np, p.1 < l.length
  srt : Srt np
  cls : Cls l (at_ == 0) (at_ == line.length) np
  sound : ∀ p ∈ np, ∃ s : Nat, p.2 = s ∧ Al l line s at_ p.1
theorem NX.nil (l : List Ins) (line : List UInt8) (at_ : Nat) : NX l line at_ [] := ⟨by simp, by simp, List.Pairwise.nil, fun p hp => (by cases hp), fun p hp => (by cases hp)⟩
/-- 'come'. -/
theorem NX.come (hfi : Fine l) {at_ k s : Nat} {np : List (Nat × Int)} (h : NX l line at_ np) (hk : k < l.length) (hal : Al l line s at_ k) (hle : ∀ p ∈ np, p.2 ≤ (s : Int)) :
    NX l line at_ (comeL l (at_ == 0) (at_ == line.length) s k np) ∧ (∀ p ∈ np, p ∈ comeL l (at_ == 0) (at_ == line.length) s k np) ∧ (∃ f, f ≤ (s : Int) ∧ (k, f) ∈ comeL l (at_ == 0) (at_ == line.length) s k np) ∧
      ∀ p ∈ comeL l (at_ == 0) (at_ == line.length) s k np, p.2 ≤ (s : Int) := by
  obtain ⟨nw, e1, e2⟩ := comeP_split (l := l) (b0 := at_ == 0) (b1 := at_ == line.length) (fm := (s : Int)) (3 * l.length + 1) [k] np
  obtain ⟨n1, n2⟩ := comeP_nodup hfi (b0 := at_ == 0) (b1 := at_ == line.length) (fm := (s : Int)) (3 * l.length + 1) [k] np h.nodup h.lt (by simpa using hk)
  obtain ⟨c1, c2⟩ := comeP_closed (b0 := at_ == 0) (b1 := at_ == line.length) (fm := (s : Int)) hfi (3 * l.length + 1) [k] np h.nodup h.lt (by simpa using hk) (by simp; omega)
  have hw := comeP_within (l := l) (b0 := at_ == 0) (b1 := at_ == line.length) (fm := (s : Int)) (C := fun j => Al l line s at_ j) (fun k hk j hj => .eps hk hj) (3 * l.length + 1) [k] np (by simpa using hal)
  have hall : ∀ p ∈ comeP l (at_ == 0) (at_ == line.length) s (3 * l.length + 1) [k] np, p.2 ≤ (s : Int) := by
    intro p hp
    rw [e1] at hp
    rcases List.mem_append.1 hp with hp | hp
    · exact hle p hp
    · rw [e2 p hp]; exact Int.le_refl _
  have hat : ∀ j ∈ (comeP l (at_ == 0) (at_ == line.length) s (3 * l.length + 1) [k] np).map Prod.fst, ∃ f, f ≤ (s : Int) ∧ (j, f) ∈ comeP l (at_ == 0) (at_ == line.length) s (3 * l.length + 1) [k] np := by
    intro j hj
    obtain ⟨p, hp, rfl⟩ := List.mem_map.1 hj
    exact ⟨p.2, hall p hp, hp⟩
  have hkeep : ∀ p ∈ np, p ∈ comeP l (at_ == 0) (at_ == line.length) s (3 * l.length + 1) [k] np := fun p hp => by rw [e1]; exact List.mem_append_left _ hp
  unfold comeL
  refine ⟨⟨n1, n2, ?_, ?_, ?_⟩, hkeep, hat k (c1 k (by simp)), hall⟩
  · rw [e1]
    refine List.pairwise_append.2 ⟨h.srt, ?_, fun a ha b hb => by rw [e2 b hb]; exact hle a ha⟩
    refine List.pairwise_iff_getElem.2 fun i j hi hj _ => ?_
    rw [e2 _ (List.getElem_mem hi), e2 _ (List.getElem_mem hj)]
    exact Int.le_refl _
  · intro p hp j hj
    by_cases hpn : p ∈ np
    · obtain ⟨f, h1, h2⟩ := h.cls p hpn j hj
      exact ⟨f, h1, hkeep _ h2⟩
    · have hp2 : p.2 = (s : Int) := by
        rw [e1] at hp
        rcases List.mem_append.1 hp with hp | hp
        · exact absurd hp hpn
        · exact e2 p hp
      have hnk : p.1 ∉ np.map Prod.fst := by
        intro hm
        obtain ⟨q, hq, e⟩ := List.mem_map.1 hm
        have hq2 := hkeep q hq
        have := nodup_inj n1 hq2 hp e
        subst this
        exact hpn hq
      rw [hp2]
      exact hat j (c2 p.1 (List.mem_map_of_mem hp) hnk j hj)
  · intro p hp
    rcases hw p hp with h1 | h1
    · exact h.sound p h1
    · by_cases hpn : p ∈ np
      · exact h.sound p hpn
      · rw [e1] at hp
        rcases List.mem_append.1 hp with hp | hp
        · exact absurd hp hpn
        · exact ⟨s, e2 p hp, h1⟩

/-- One best is as good as another, or better. -/
def Bm (b b2 : Best) : Prop := ∀ f t, b = some (f, t) → ∃ f2 t2, b2 = some (f2, t2) ∧ f2 ≤ f ∧ (f2 = f → t ≤ t2)
theorem Bm.refl (b : Best) : Bm b b := fun f t e => ⟨f, t, e, Int.le_refl _, fun _ => Int.le_refl _⟩
theorem Bm.trans {a b c : Best} (h : Bm a b) (k : Bm b c) : Bm a c := fun f t e => by
  obtain ⟨f2, t2, e2, h1, h2⟩ := h f t e
  obtain ⟨f3, t3, e3, h3, h4⟩ := k f2 t2 e2
  exact ⟨f3, t3, e3, by omega, fun h5 => by have := h2 (by omega); have := h4 (by omega); omega⟩
theorem not_late {b : Best} {f f0 t0 : Int} (h : tooLate b f = false) (e : b = some (f0, t0)) : f ≤ f0 := by
  subst e
  have := of_decide_eq_false h
  omega
theorem bestAt_bm (b : Best) (f : Int) (at_ : Nat) (hl : ∀ f0 t0, b = some (f0, t0) → t0 ≤ (at_ : Int)) (hf : tooLate b f = false) : Bm b (bestAt b f at_) := by
  intro f0 t0 e
  have h1 := not_late hf e
  have h2 := hl f0 t0 e
  subst e
  unfold bestAt
  simp only
  split
  · exact ⟨f, at_, rfl, h1, fun _ => h2⟩
  · exact ⟨f0, t0, rfl, Int.le_refl _, fun _ => Int.le_refl _⟩
theorem bestAt_it (b : Best) (f : Int) (at_ : Nat) (hf : tooLate b f = false) : ∃ f1 t1, bestAt b f at_ = some (f1, t1) ∧ f1 ≤ f ∧ (f1 = f → (at_ : Int) ≤ t1) := by
  unfold bestAt
  split
  · exact ⟨f, at_, rfl, Int.le_refl _, fun _ => Int.le_refl _⟩
  · rename_i f0 t0
    split
    · exact ⟨f, at_, rfl, Int.le_refl _, fun _ => Int.le_refl _⟩
    · rename_i h
      have h1 : f ≤ f0 := not_late hf rfl
      exact ⟨f0, t0, rfl, by omega, fun _ => by omega⟩

/-- One step. -/
structure StS (l : List Ins) (line : List UInt8) (at_ : Nat) (p : Nat × Int) (b : Best) (nx : List (Nat × Int)) (r : Best × List (Nat × Int)) : Prop where
  ok : NX l line (at_ + 1) r.2
  keep : ∀ q ∈ nx, q ∈ r.2
  bm : Bm b r.1
  best : r.1 = b ∨ ∃ s : Nat, r.1 = some ((s : Int), (at_ : Int)) ∧ (s : Int) = p.2 ∧ Mt l line s at_
  byte : ∀ i c, l[p.1]? = some i → i.op = 1 → line[at_]? = some c → inSet i c = true → ∃ f, f ≤ p.2 ∧ (p.1 + 1, f) ∈ r.2
  hit : ∀ i, l[p.1]? = some i → i.op = 11 → ∃ f1 t1, r.1 = some (f1, t1) ∧ f1 ≤ p.2 ∧ (f1 = p.2 → (at_ : Int) ≤ t1)
  le : ∀ q ∈ r.2, q.2 ≤ p.2
theorem step_spec (hfi : Fine l) {at_ : Nat} (p : Nat × Int) (b : Best) (nx : List (Nat × Int)) (hp : ∃ s : Nat, p.2 = s ∧ Al l line s at_ p.1) (hn : NX l line (at_ + 1) nx) (hle : ∀ q ∈ nx, q.2 ≤ p.2) (hb : ∀ f0 t0, b = some (f0, t0) → t0 ≤ (at_ : Int)) (hf : tooLate b p.2 = false) :
    StS l line at_ p b nx (stepS l line at_ p (b, nx)) := by
  obtain ⟨s, hs, hal⟩ := hp
  obtain ⟨k, f⟩ := p
  simp only at hs hal hle hf
  subst hs
  have same : (∀ i, l[k]? = some i → i.op ≠ 11) → (∀ i c, l[k]? = some i → i.op = 1 → line[at_]? = some c → inSet i c = true → False) → StS l line at_ (k, (s : Int)) b nx (b, nx) := fun h1 h2 =>
    ⟨hn, fun q hq => hq, Bm.refl b, .inl rfl, fun i c e1 e2 e3 e4 => (h2 i c e1 e2 e3 e4).elim, fun i e1 e2 => absurd e2 (h1 i e1), hle⟩
  unfold stepS
  simp only
  cases hi : l[k]? with
  | none => exact same (fun i e => by rw [hi] at e; cases e) (fun i c e => by rw [hi] at e; cases e)
  | some i =>
    simp only
    split
    · rename_i h11
      refine ⟨hn, fun q hq => hq, bestAt_bm b s at_ hb hf, ?_, fun j c e1 e2 => by rw [hi] at e1; cases e1; omega, fun j e1 e2 => bestAt_it b s at_ hf, hle⟩
      unfold bestAt
      split
      · exact .inr ⟨s, rfl, rfl, k, i, hal, hi, h11⟩
      · rename_i f0 t0
        split
        · exact .inr ⟨s, rfl, rfl, k, i, hal, hi, h11⟩
        · exact .inl rfl
    · rename_i h11
      split
      · rename_i h1
        cases hc : line[at_]? with
        | none => exact same (fun j e => by rw [hi] at e; cases e; exact h11) (fun j c e1 e2 e3 => by rw [hc] at e3; cases e3)
        | some c =>
          simp only
          split
          · rename_i hin
            have hk := hfi.next k i hi (.inl h1)
            have hal2 := Al.byte hal hi h1 hc hin
            obtain ⟨g1, g2, ⟨f, g3, g4⟩, g5⟩ := hn.come hfi hk hal2 hle
            rw [show (at_ + 1 == 0) = false by simp] at g1 g2 g4 g5
            exact ⟨g1, g2, Bm.refl b, .inl rfl, fun _ _ _ _ _ _ => ⟨f, g3, g4⟩, fun j e1 e2 => by rw [hi] at e1; cases e1; exact absurd e2 h11, g5⟩
          · rename_i hin
            exact same (fun j e => by rw [hi] at e; cases e; exact h11) (fun j c' e1 e2 e3 e4 => by rw [hi] at e1; cases e1; rw [hc] at e3; cases e3; exact hin e4)
      · rename_i h1
        exact same (fun j e => by rw [hi] at e; cases e; exact h11) (fun j c e1 e2 => by rw [hi] at e1; cases e1; exact absurd e2 h1)
/-- A turn. -/
structure TuS (l : List Ins) (line : List UInt8) (at_ : Nat) (now : List (Nat × Int)) (b : Best) (nx : List (Nat × Int)) (r : Best × List (Nat × Int)) : Prop where
  ok : NX l line (at_ + 1) r.2
  keep : ∀ q ∈ nx, q ∈ r.2
  bm : Bm b r.1
  best : r.1 = b ∨ ∃ s : Nat, r.1 = some ((s : Int), (at_ : Int)) ∧ (∃ p ∈ now, (s : Int) = p.2) ∧ Mt l line s at_
  byte : ∀ p ∈ now, (∀ f1 t1, r.1 = some (f1, t1) → p.2 ≤ f1) → ∀ i c, l[p.1]? = some i → i.op = 1 → line[at_]? = some c → inSet i c = true → ∃ f, f ≤ p.2 ∧ (p.1 + 1, f) ∈ r.2
  hit : ∀ p ∈ now, ∀ i, l[p.1]? = some i → i.op = 11 → ∃ f1 t1, r.1 = some (f1, t1) ∧ f1 ≤ p.2 ∧ (f1 = p.2 → (at_ : Int) ≤ t1)
theorem turn_spec (hfi : Fine l) {at_ : Nat} : ∀ (now : List (Nat × Int)) (b : Best) (nx : List (Nat × Int)), Srt now → (∀ p ∈ now, ∃ s : Nat, p.2 = s ∧ Al l line s at_ p.1) → NX l line (at_ + 1) nx → (∀ q ∈ nx, ∀ p ∈ now, q.2 ≤ p.2) →
    (∀ f0 t0, b = some (f0, t0) → t0 ≤ (at_ : Int)) → TuS l line at_ now b nx (turnNS l line at_ now (b, nx))
  | [], b, nx, _, _, hn, _, _ => ⟨hn, fun q hq => hq, Bm.refl b, .inl rfl, fun p hp => (by cases hp), fun p hp => (by cases hp)⟩
  | p :: now, b, nx, hs, hal, hn, hle, hb => by
    obtain ⟨hs1, hs2⟩ := List.pairwise_cons.1 hs
    have hge : ∀ q ∈ p :: now, p.2 ≤ q.2 := fun q hq => by
      rcases List.mem_cons.1 hq with h3 | h3
      · rw [h3]; exact Int.le_refl _
      · exact hs1 q h3
    rw [turnNS]
    split
    · rename_i hl
      have hlate : ∃ f0 t0, b = some (f0, t0) ∧ f0 < p.2 := by
        cases b with
        | none => simp [tooLate] at hl
        | some q => exact ⟨q.1, q.2, rfl, by simpa [tooLate] using hl⟩
      obtain ⟨f0, t0, rfl, hlt⟩ := hlate
      refine ⟨hn, fun q hq => hq, Bm.refl _, .inl rfl, fun q hq hc => ?_, fun q hq i _ _ => ?_⟩
      · have := hc f0 t0 rfl
        have := hge q hq
        omega
      · have := hge q hq
        exact ⟨f0, t0, rfl, by omega, fun h => by omega⟩
    · rename_i hl
      have S := step_spec hfi p b nx (hal p List.mem_cons_self) hn (fun q hq => hle q hq p List.mem_cons_self) hb (by simpa using hl)
      obtain ⟨⟨b2, nx2⟩, hst⟩ : ∃ r, stepS l line at_ p (b, nx) = r := ⟨_, rfl⟩
      rw [hst] at S ⊢
      have hb2 : ∀ f0 t0, b2 = some (f0, t0) → t0 ≤ (at_ : Int) := fun f0 t0 e => by
        rcases S.best with h | ⟨s, h, _⟩
        · simp only at h; rw [h] at e; exact hb f0 t0 e
        · simp only at h; rw [h] at e; cases e; exact Int.le_refl _
      have T := turn_spec hfi now b2 nx2 hs2 (fun q hq => hal q (List.mem_cons_of_mem _ hq)) S.ok (fun q hq p2 hp2 => by have := S.le q hq; have := hs1 p2 hp2; omega) hb2
      refine ⟨T.ok, fun q hq => T.keep q (S.keep q hq), S.bm.trans T.bm, ?_, fun q hq hc i c e1 e2 e3 e4 => ?_, fun q hq i e1 e2 => ?_⟩
      · rcases T.best with h | ⟨s, h1, ⟨q, hq, h2⟩, h3⟩
        · rcases S.best with h4 | ⟨s, h4, h5, h6⟩
          · exact .inl (h.trans h4)
          · exact .inr ⟨s, h.trans h4, ⟨p, List.mem_cons_self, h5⟩, h6⟩
        · exact .inr ⟨s, h1, ⟨q, List.mem_cons_of_mem _ hq, h2⟩, h3⟩
      · rcases List.mem_cons.1 hq with h3 | h3
        · subst h3
          obtain ⟨f, h4, h5⟩ := S.byte i c e1 e2 e3 e4
          exact ⟨f, h4, T.keep _ h5⟩
        · exact T.byte q h3 hc i c e1 e2 e3 e4
      · rcases List.mem_cons.1 hq with h3 | h3
        · subst h3
          obtain ⟨f1, t1, h4, h5, h6⟩ := S.hit i e1 e2
          obtain ⟨f2, t2, h7, h8, h9⟩ := T.bm f1 t1 h4
          exact ⟨f2, t2, h7, by omega, fun h => by have := h6 (by omega); have := h9 (by omega); omega⟩
        · exact T.hit q h3 i e1 e2
end
end Go.Proofs.Ytoadmpochaeohaa
end

section
set_option linter.unusedVariables false
set_option linter.unusedSimpArgs false
set_option maxRecDepth 100000
namespace Go.Proofs.Ytoadmpochaeohaa
section
variable {l : List Ins} {line : List UInt8}
theorem step_from {C : Int → Prop} {at_ : Nat} (p : Nat × Int) (s : Best × List (Nat × Int)) (hp : C p.2) (hn : ∀ q ∈ s.2, C q.2) : ∀ q ∈ (stepS l line at_ p s).2, C q.2 := by
  unfold stepS
  split
  · exact hn
  · split
    · exact hn
    · split
      · split
        · split
          · intro q hq
            rcases comeP_from _ _ _ q hq with h | h
            · exact hn q h
            · rw [h]; exact hp
          · exact hn
        · exact hn
      · exact hn
theorem turn_from {C : Int → Prop} {at_ : Nat} : ∀ (now : List (Nat × Int)) (s : Best × List (Nat × Int)), (∀ p ∈ now, C p.2) → (∀ q ∈ s.2, C q.2) → ∀ q ∈ (turnNS l line at_ now s).2, C q.2
  | [], s, _, hn => hn
  | p :: now, s, h, hn => by
    rw [turnNS]
    split
    · exact hn
    · exact turn_from now _ (fun q hq => h q (List.mem_cons_of_mem _ hq)) (step_from p s (h p List.mem_cons_self) hn)

/-- Between two places. -/
structure PSn (l : List Ins) (line : List UInt8) (every : Bool) (at0 at_ : Nat) (now : List (Nat × Int)) (b : Best) : Prop where
  ok : NX l line at_ now
  cmp : ∀ s k, at0 ≤ s → (every = false → s = at0) → (∀ f1 t1, b = some (f1, t1) → (s : Int) ≤ f1) → Al l line s at_ k → ∃ f, f ≤ (s : Int) ∧ (k, f) ∈ now
  old : ∀ s q, at0 ≤ s → (every = false → s = at0) → q < at_ → Mt l line s q → ∃ f t, b = some (f, t) ∧ f ≤ (s : Int) ∧ (f = s → (q : Int) ≤ t)
  snd : ∀ f t, b = some (f, t) → ∃ s q : Nat, f = s ∧ t = q ∧ at0 ≤ s ∧ (every = false → s = at0) ∧ q < at_ ∧ Mt l line s q
  frm : ∀ p ∈ now, ∃ s : Nat, p.2 = s ∧ at0 ≤ s ∧ (every = false → s = at0)
/-- Of what is found at last. -/
structure FS (l : List Ins) (line : List UInt8) (every : Bool) (at0 : Nat) (r : Best) : Prop where
  all : ∀ s q, at0 ≤ s → (every = false → s = at0) → q ≤ line.length → Mt l line s q → ∃ f t, r = some (f, t) ∧ f ≤ (s : Int) ∧ (f = s → (q : Int) ≤ t)
  snd : ∀ f t, r = some (f, t) → ∃ s q : Nat, f = s ∧ t = q ∧ at0 ≤ s ∧ (every = false → s = at0) ∧ q ≤ line.length ∧ Mt l line s q

theorem Mt.le {s q : Nat} (h : Mt l line s q) : s ≤ q := by
  obtain ⟨k, i, h, _⟩ := h
  exact h.le

/-- The next place's threads that were begun ahead of it. -/
theorem PSn.next (hfi : Fine l) {every : Bool} {at0 at_ : Nat} {now : List (Nat × Int)} {b : Best} (h : PSn l line every at0 at_ now b) {r : Best × List (Nat × Int)} (T : TuS l line at_ now b [] r) (s : Nat) (h0 : at0 ≤ s) (he : every = false → s = at0) (hs : s ≤ at_)
    (hc : ∀ f1 t1, r.1 = some (f1, t1) → (s : Int) ≤ f1) : ∀ {p k : Nat}, Al l line s p k → p = at_ + 1 → ∃ f, f ≤ (s : Int) ∧ (k, f) ∈ r.2 := by
  intro p k hal
  induction hal with
  | start => intro e; omega
  | @eps p k j a1 a2 ih =>
    intro e
    subst e
    obtain ⟨f, g1, g2⟩ := ih rfl
    obtain ⟨f2, g3, g4⟩ := T.ok.cls _ g2 j a2
    simp only at g3
    exact ⟨f2, by omega, g4⟩
  | @byte p k i c h1 h2 h3 h4 h5 ih =>
    intro e
    obtain rfl : p = at_ := by omega
    obtain ⟨f, g1, g2⟩ := h.cmp s k h0 he (fun f1 t1 e1 => by
      obtain ⟨f2, t2, e2, g3, _⟩ := T.bm f1 t1 e1
      have := hc f2 t2 e2
      omega) h1
    obtain ⟨f2, g3, g4⟩ := T.byte _ g2 (fun f1 t1 e1 => by have := hc f1 t1 e1; simp only; omega) i c h2 h3 h4 h5
    simp only at g3
    exact ⟨f2, by omega, g4⟩

theorem play_spec (hfi : Fine l) (every : Bool) (at0 : Nat) : ∀ (m at_ : Nat) (now : List (Nat × Int)) (b : Best), at_ + m = line.length → at0 ≤ at_ → PSn l line every at0 at_ now b → FS l line every at0 (playS l line every m at_ now b)
  | m, at_, now, b, hm, h0, h => by
    have T : TuS l line at_ now b [] (turnNS l line at_ now (b, [])) := turn_spec hfi now b [] h.ok.srt h.ok.sound (NX.nil l line (at_ + 1)) (fun q hq => (by cases hq)) (fun f0 t0 e => by
      obtain ⟨s, q, _, h2, _, _, h5, _⟩ := h.snd f0 t0 e
      omega)
    have F := turn_from (l := l) (line := line) (C := fun z => ∃ s : Nat, z = s ∧ at0 ≤ s ∧ (every = false → s = at0)) (at_ := at_) now (b, []) h.frm (fun q hq => (by cases hq))
    obtain ⟨r, hr⟩ : ∃ r, turnNS l line at_ now (b, []) = r := ⟨_, rfl⟩
    rw [hr] at T F
    -- what is old behind the turn
    have old2 : ∀ s q, at0 ≤ s → (every = false → s = at0) → q < at_ + 1 → Mt l line s q → ∃ f t, r.1 = some (f, t) ∧ f ≤ (s : Int) ∧ (f = s → (q : Int) ≤ t) := by
      intro s q h1 h2 h3 h4
      by_cases hq : q < at_
      · obtain ⟨f, t, e, g1, g2⟩ := h.old s q h1 h2 hq h4
        obtain ⟨f2, t2, e2, g3, g4⟩ := T.bm f t e
        exact ⟨f2, t2, e2, by omega, fun g5 => by have := g2 (by omega); have := g4 (by omega); omega⟩
      · obtain rfl : q = at_ := by omega
        obtain ⟨k, i, hal, hi, h11⟩ := h4
        by_cases hb : ∃ f1 t1, b = some (f1, t1) ∧ f1 < (s : Int)
        · obtain ⟨f1, t1, e, g1⟩ := hb
          obtain ⟨f2, t2, e2, g3, _⟩ := T.bm f1 t1 e
          exact ⟨f2, t2, e2, by omega, fun g5 => by omega⟩
        · obtain ⟨f, g1, g2⟩ := h.cmp s k h1 h2 (fun f1 t1 e => by
            by_cases g : f1 < (s : Int)
            · exact absurd ⟨f1, t1, e, g⟩ hb
            · omega) hal
          obtain ⟨f1, t1, e1, g3, g4⟩ := T.hit _ g2 i hi h11
          simp only at g3 g4
          exact ⟨f1, t1, e1, by omega, fun g5 => g4 (by omega)⟩
    have snd2 : ∀ f t, r.1 = some (f, t) → ∃ s q : Nat, f = s ∧ t = q ∧ at0 ≤ s ∧ (every = false → s = at0) ∧ q < at_ + 1 ∧ Mt l line s q := by
      intro f t e
      rcases T.best with g | ⟨s, g1, ⟨p, hp, g2⟩, g3⟩
      · rw [g] at e
        obtain ⟨s, q, e1, e2, e3, e4, e5, e6⟩ := h.snd f t e
        exact ⟨s, q, e1, e2, e3, e4, by omega, e6⟩
      · rw [g1] at e
        cases e
        obtain ⟨s2, g4, g5, g6⟩ := h.frm p hp
        obtain rfl : s = s2 := by omega
        exact ⟨s, at_, rfl, rfl, g5, g6, by omega, g3⟩
    have fin : (∀ s q, at0 ≤ s → (every = false → s = at0) → at_ + 1 ≤ q → q ≤ line.length → Mt l line s q → (∀ f1 t1, r.1 = some (f1, t1) → (s : Int) ≤ f1) → False) → FS l line every at0 r.1 := by
      intro hno
      refine ⟨fun s q h1 h2 h3 h4 => ?_, fun f t e => ?_⟩
      · by_cases hq : q < at_ + 1
        · exact old2 s q h1 h2 hq h4
        · by_cases hb : ∃ f1 t1, r.1 = some (f1, t1) ∧ f1 < (s : Int)
          · obtain ⟨f1, t1, e, g1⟩ := hb
            exact ⟨f1, t1, e, by omega, fun g => by omega⟩
          · exact (hno s q h1 h2 (by omega) h3 h4 (fun f1 t1 e => by
              by_cases g : f1 < (s : Int)
              · exact absurd ⟨f1, t1, e, g⟩ hb
              · omega)).elim
      · obtain ⟨s, q, e1, e2, e3, e4, e5, e6⟩ := snd2 f t e
        exact ⟨s, q, e1, e2, e3, e4, by omega, e6⟩
    -- a thread that is not begun too late was begun by now
    have now2 : ∀ s, (every = false → s = at0) → (∀ f1 t1, r.1 = some (f1, t1) → (s : Int) ≤ f1) → (every && r.1.isNone) = false → s ≤ at_ := by
      intro s h1 h2 h3
      cases hr1 : r.1 with
      | none =>
        rw [hr1] at h3
        have : every = false := by cases every <;> simp at h3 ⊢
        have := h1 this
        omega
      | some ft =>
        obtain ⟨f, t⟩ := ft
        obtain ⟨s2, q, e1, e2, e3, e4, e5, e6⟩ := snd2 f t hr1
        have := h2 f t hr1
        have := e6.le
        omega
    cases m with
    | zero =>
      rw [playS, hr]
      exact fin (fun s q h1 h2 h3 h4 => by omega)
    | succ m =>
      rw [playS, hr]
      have frm2 : ∀ p ∈ r.2, ∃ s : Nat, p.2 = s ∧ at0 ≤ s ∧ (every = false → s = at0) := F
      split
      · rename_i hev
        obtain ⟨hev1, hev2⟩ : every = true ∧ r.1 = none := by
          cases every <;> cases hx : r.1 <;> simp [hx] at hev ⊢
        obtain ⟨g1, g2, ⟨f0, g3, g4⟩, g5⟩ := T.ok.come hfi (k := 0) (s := at_ + 1) hfi.pos (Al.start) (fun p hp => by
          obtain ⟨s, e, hal⟩ := T.ok.sound p hp
          have := hal.le
          omega)
        rw [show (at_ + 1 == 0) = false by simp] at g1 g2 g4 g5
        rw [show (((at_ + 1 : Nat) : Int)) = (at_ : Int) + 1 by omega] at g1 g2 g4 g5
        refine play_spec hfi every at0 m (at_ + 1) _ _ (by omega) (by omega) ⟨g1, fun s k h1 h2 h3 hal => ?_, old2, snd2, fun p hp => ?_⟩
        · by_cases hs : s ≤ at_
          · obtain ⟨f, k1, k2⟩ := h.next hfi T s h1 h2 hs (fun f1 t1 e => by rw [hev2] at e; cases e) hal rfl
            exact ⟨f, k1, g2 _ k2⟩
          · have hle := hal.le
            obtain rfl : s = at_ + 1 := by omega
            have key : ∀ {p k : Nat}, Al l line (at_ + 1) p k → p = at_ + 1 → ∃ f, f ≤ ((at_ + 1 : Nat) : Int) ∧ (k, f) ∈ comeL l false (at_ + 1 == line.length) ((at_ : Int) + 1) 0 r.2 := by
              intro p k ha
              induction ha with
              | start => intro _; exact ⟨f0, by omega, g4⟩
              | @eps p k j a1 a2 ih =>
                intro e
                subst e
                obtain ⟨f, k1, k2⟩ := ih rfl
                obtain ⟨f2, k3, k4⟩ := g1.cls _ k2 j a2
                simp only at k3
                exact ⟨f2, by omega, k4⟩
              | @byte p k i c a1 _ _ _ _ _ =>
                intro e
                have := a1.le
                omega
            exact key hal rfl
        · rcases comeP_from _ _ _ p hp with h1 | h1
          · exact frm2 p h1
          · exact ⟨at_ + 1, by rw [h1]; omega, by omega, fun h2 => by rw [hev1] at h2; cases h2⟩
      · rename_i hev
        have hev2 : (every && r.1.isNone) = false := by cases hx : (every && r.1.isNone) with
          | false => rfl
          | true => exact absurd hx hev
        split
        · rename_i hnil
          refine fin (fun s q h1 h2 h3 h4 h5 h6 => ?_)
          have hs := now2 s h2 h6 hev2
          obtain ⟨k, i, hal, _, _⟩ := h5
          obtain ⟨j, hj⟩ := hal.back (at_ + 1) (by omega) h3
          obtain ⟨f, _, k2⟩ := h.next hfi T s h1 h2 hs h6 hj rfl
          rw [hnil] at k2
          cases k2
        · refine play_spec hfi every at0 m (at_ + 1) _ _ (by omega) (by omega) ⟨T.ok, fun s k h1 h2 h3 hal => ?_, old2, snd2, frm2⟩
          exact h.next hfi T s h1 h2 (now2 s h2 h3 hev2) h3 hal rfl
theorem find_spec (hfi : Fine l) (at_ : Nat) (hat : at_ ≤ line.length) (every : Bool) : FS l line every at_ (findS l line at_ every) := by
  unfold findS
  obtain ⟨g1, g2, ⟨f0, g3, g4⟩, g5⟩ := (NX.nil l line at_).come hfi (k := 0) (s := at_) hfi.pos Al.start (fun p hp => (by cases hp))
  refine play_spec hfi every at_ (line.length - at_) at_ _ none (by omega) (Nat.le_refl _) ⟨g1, fun s k h1 h2 _ hal => ?_, fun s q h1 h2 h3 h4 => ?_, fun f t e => (by cases e), fun p hp => ?_⟩
  · have hle := hal.le
    obtain rfl : s = at_ := by omega
    have key : ∀ {p k : Nat}, Al l line s p k → p = s → ∃ f, f ≤ (s : Int) ∧ (k, f) ∈ comeL l (s == 0) (s == line.length) s 0 [] := by
      intro p k ha
      induction ha with
      | start => intro _; exact ⟨f0, g3, g4⟩
      | @eps p k j a1 a2 ih =>
        intro e
        subst e
        obtain ⟨f, k1, k2⟩ := ih rfl
        obtain ⟨f2, k3, k4⟩ := g1.cls _ k2 j a2
        simp only at k3
        exact ⟨f2, by omega, k4⟩
      | @byte p k i c a1 _ _ _ _ _ =>
        intro e
        have := a1.le
        omega
    exact key hal rfl
  · have := h4.le; omega
  · rcases comeP_from _ _ _ p hp with h1 | h1
    · cases h1
    · exact ⟨at_, h1, Nat.le_refl _, fun _ => rfl⟩

/-- Find by Longest: nothing from no place ahead of it, and from there what Longest tells. -/
theorem follows_law (hfi : Fine l) (at_ : Nat) (hat : at_ ≤ line.length) :
    (∀ f t, findS l line at_ true = some (f, t) → ∃ i : Nat, f = i ∧ at_ ≤ i ∧ i ≤ line.length ∧ findS l line i false = some (f, t) ∧ ∀ j, at_ ≤ j → j < i → findS l line j false = none) ∧
    (findS l line at_ true = none → ∀ j, at_ ≤ j → j ≤ line.length → findS l line j false = none) := by
  have M := find_spec (line := line) hfi at_ hat true
  have none_of : ∀ j, j ≤ line.length → (∀ q, q ≤ line.length → ¬ Mt l line j q) → findS l line j false = none := by
    intro j hj hno
    cases hr : findS l line j false with
    | none => rfl
    | some ft =>
      obtain ⟨f, t⟩ := ft
      obtain ⟨s, q, h1, h2, h3, h4, h5, h6⟩ := (find_spec (line := line) hfi j hj false).snd f t hr
      obtain rfl : s = j := h4 rfl
      exact absurd h6 (hno q h5)
  constructor
  · intro f t e
    obtain ⟨s, q, rfl, rfl, h3, _, h5, h6⟩ := M.snd f t e
    have hsl : s ≤ line.length := Nat.le_trans h6.le h5
    refine ⟨s, rfl, h3, hsl, ?_, fun j h7 h8 => none_of j (by omega) (fun q2 h9 h10 => ?_)⟩
    · have S := find_spec (line := line) hfi s hsl false
      obtain ⟨f1, t1, e1, g1, g2⟩ := S.all s q (Nat.le_refl _) (fun _ => rfl) h5 h6
      obtain ⟨s2, q2, k1, k2, k3, k4, k5, k6⟩ := S.snd f1 t1 e1
      obtain rfl : s2 = s := k4 rfl
      subst k1
      subst k2
      have g3 := g2 rfl
      obtain ⟨f3, t3, e3, g4, g5⟩ := M.all s2 q2 h3 (fun h => (by cases h)) k5 k6
      rw [e] at e3
      cases e3
      have g6 := g5 rfl
      obtain rfl : q = q2 := by omega
      exact e1
    · obtain ⟨f3, t3, e3, g4, _⟩ := M.all j q2 h7 (fun h => (by cases h)) h9 h10
      rw [e] at e3
      cases e3
      omega
  · intro e j h1 h2
    refine none_of j h2 (fun q h3 h4 => ?_)
    obtain ⟨f3, t3, e3, _⟩ := M.all j q h1 (fun h => (by cases h)) h3 h4
    rw [e] at e3
    cases e3
end
end Go.Proofs.Ytoadmpochaeohaa
end
