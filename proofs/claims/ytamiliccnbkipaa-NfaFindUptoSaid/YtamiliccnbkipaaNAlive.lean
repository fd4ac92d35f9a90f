/-
  What a search finds: the least start from which the program matches, and the greatest end (in plain Lean).
-/
import Derived.Test.YtamiliccnbkipaaNBound
set_option linter.unusedVariables false
set_option linter.unusedSimpArgs false
namespace Go.Proofs.Ytamiliccnbkipaa

/-- Instruction k is come to at place p, begun at s. -/
inductive Al (l : List Ins) (line : List UInt8) (s : Nat) : Nat → Nat → Prop
  | start : Al l line s s 0
  | eps {p k j : Nat} : Al l line s p k → j ∈ succs l (p == 0) (p == line.length) k → Al l line s p j
  | byte {p k : Nat} {i : Ins} {c : UInt8} : Al l line s p k → l[k]? = some i → i.op = 1 → line[p]? = some c → inSet i c = true → Al l line s (p + 1) (k + 1)
/-- From s the program matches up to q. -/
def Mt (l : List Ins) (line : List UInt8) (s q : Nat) : Prop := ∃ k i, Al l line s q k ∧ l[k]? = some i ∧ i.op = 11

section
variable {l : List Ins} {line : List UInt8}
theorem Al.le {s p k : Nat} (h : Al l line s p k) : s ≤ p := by
  induction h with
  | start => exact Nat.le_refl _
  | eps _ _ ih => exact ih
  | byte _ _ _ _ _ ih => omega
theorem Al.lt {s p k : Nat} (h : Al l line s p k) (hs : s ≤ line.length) : p ≤ line.length := by
  induction h with
  | start => exact hs
  | eps _ _ ih => exact ih
  | byte _ _ _ hc _ _ => have := (List.getElem?_eq_some_iff.1 hc).1; omega
/-- What lives at a place has lived at all places ahead. -/
theorem Al.back {s q k : Nat} (h : Al l line s q k) : ∀ p, s ≤ p → p ≤ q → ∃ j, Al l line s p j := by
  induction h with
  | start => intro p h1 h2; obtain rfl : p = s := by omega
             exact ⟨0, .start⟩
  | eps _ _ ih => exact ih
  | @byte p k i c h1 h2 h3 h4 h5 ih =>
    intro p' h6 h7
    by_cases h8 : p' = p + 1
    · subst h8; exact ⟨_, .byte h1 h2 h3 h4 h5⟩
    · exact ih p' h6 (by omega)

/-- A list of those that come: sorted by where they began. -/
def Srt (np : List (Nat × Int)) : Prop := np.Pairwise fun a b => a.2 ≤ b.2
/-- Whatever is led to without a byte is there, begun no later. -/
def Cls (l : List Ins) (b0 b1 : Bool) (np : List (Nat × Int)) : Prop := ∀ p ∈ np, ∀ j ∈ succs l b0 b1 p.1, ∃ f, f ≤ p.2 ∧ (j, f) ∈ np

theorem comeP_split {b0 b1 : Bool} {fm : Int} : ∀ (f : Nat) (st : List Nat) (np : List (Nat × Int)), ∃ nw, comeP l b0 b1 fm f st np = np ++ nw ∧ ∀ p ∈ nw, p.2 = fm
  | 0, st, np => ⟨[], by simp [comeP], by simp⟩
  | f + 1, [], np => ⟨[], by simp [comeP], by simp⟩
  | f + 1, k :: st, np => by
    rw [comeP]
    split
    · exact comeP_split f st np
    · obtain ⟨nw, h1, h2⟩ := comeP_split (b0 := b0) (b1 := b1) (fm := fm) f (succs l b0 b1 k ++ st) (np ++ [(k, fm)])
      refine ⟨(k, fm) :: nw, by rw [h1]; simp, fun p hp => ?_⟩
      rcases List.mem_cons.1 hp with rfl | hp
      · rfl
      · exact h2 p hp
theorem comeP_nodup (hfi : Fine l) {b0 b1 : Bool} {fm : Int} : ∀ (f : Nat) (st : List Nat) (np : List (Nat × Int)), (np.map Prod.fst).Nodup → (∀ p ∈ np, p.1 < l.length) → (∀ j ∈ st, j < l.length) →
    ((comeP l b0 b1 fm f st np).map Prod.fst).Nodup ∧ ∀ p ∈ comeP l b0 b1 fm f st np, p.1 < l.length
  | 0, st, np, h1, h2, _ => ⟨h1, h2⟩
  | f + 1, [], np, h1, h2, _ => ⟨h1, h2⟩
  | f + 1, k :: st, np, h1, h2, h3 => by
    rw [comeP]
    split
    · exact comeP_nodup hfi f st np h1 h2 (fun j hj => h3 j (List.mem_cons_of_mem _ hj))
    · rename_i hk
      refine comeP_nodup hfi f _ _ ?_ (fun p hp => ?_) (fun j hj => ?_)
      · rw [List.map_append]
        exact List.nodup_append.2 ⟨h1, by simp, fun a ha b hb => by simp at hb; subst hb; exact fun e => hk (e ▸ ha)⟩
      · rcases List.mem_append.1 hp with hp | hp
        · exact h2 p hp
        · rw [List.mem_singleton.1 hp]; exact h3 k List.mem_cons_self
      · rcases List.mem_append.1 hj with hj | hj
        · exact succs_lt hfi b0 b1 k j hj
        · exact h3 j (List.mem_cons_of_mem _ hj)

theorem nodup_inj {α β : Type} {f : α → β} : ∀ {l : List α}, (l.map f).Nodup → ∀ {p q : α}, p ∈ l → q ∈ l → f p = f q → p = q
  | [], _, p, q, hp, _, _ => by cases hp
  | a :: l, h, p, q, hp, hq, e => by
    rw [List.map_cons] at h
    obtain ⟨h1, h2⟩ := List.nodup_cons.1 h
    rcases List.mem_cons.1 hp with h3 | h3
    · subst h3
      rcases List.mem_cons.1 hq with h4 | h4
      · exact h4.symm
      · exact absurd (e ▸ List.mem_map_of_mem h4) h1
    · rcases List.mem_cons.1 hq with h4 | h4
      · subst h4
        exact absurd (e ▸ List.mem_map_of_mem h3) h1
      · exact nodup_inj h2 h3 h4 e
/-- What those that come must be, at a place. -/
structure NX (l : List Ins) (line : List UInt8) (at_ : Nat) (np : List (Nat × Int)) : Prop where
  nodup : (np.map Prod.fst).Nodup
  lt : ∀ p ∈ np, p.1 < l.length
  srt : Srt np
  cls : Cls l (at_ == 0) (at_ == line.length) np
  sound : ∀ p ∈ np, ∃ s : Nat, p.2 = s ∧ Al l line s at_ p.1
theorem NX.nil (l : List Ins) (line : List UInt8) (at_ : Nat) : NX l line at_ [] := ⟨by simp, by simp, List.Pairwise.nil, fun p hp => (by cases hp), fun p hp => (by cases hp)⟩
/-- 'come'. -/
theorem NX.come (hfi : Fine l) {at_ k s : Nat} {np : List (Nat × Int)} (h : NX l line at_ np) (hk : k < l.length) (hal : Al l line s at_ k) (hle : ∀ p ∈ np, p.2 ≤ (s : Int)) :
    NX l line at_ (comeL l (at_ == 0) (at_ == line.length) s k np) ∧ (∀ p ∈ np, p ∈ comeL l (at_ == 0) (at_ == line.length) s k np) ∧ (∃ f, f ≤ (s : Int) ∧ (k, f) ∈ comeL l (at_ == 0) (at_ == line.length) s k np) ∧
      ∀ p ∈ comeL l (at_ == 0) (at_ == line.length) s k np, p.2 ≤ (s : Int) := by
  obtain ⟨nw, e1, e2⟩ := comeP_split (l := l) (b0 := at_ == 0) (b1 := at_ == line.length) (fm := (s : Int)) (3 * l.length + 1) [k] np
  obtain ⟨n1, n2⟩ := comeP_nodup hfi (b0 := at_ == 0) (b1 := at_ == line.length) (fm := (s : Int)) (3 * l.length + 1) [k] np h.nodup h.lt (by simpa using hk)
  obtain ⟨c1, c2⟩ := comeP_closed (b0 := at_ == 0) (b1 := at_ == line.length) (fm := (s : Int)) hfi (3 * l.length + 1) [k] np h.nodup h.lt (by simpa using hk) (by simp; omega)
  have hw := comeP_within (l := l) (b0 := at_ == 0) (b1 := at_ == line.length) (fm := (s : Int)) (C := fun j => Al l line s at_ j) (fun k hk j hj => .eps hk hj) (3 * l.length + 1) [k] np (by simpa using hal)
  have hall : ∀ p ∈ comeP l (at_ == 0) (at_ == line.length) s (3 * l.length + 1) [k] np, p.2 ≤ (s : Int) := by
    intro p hp
    rw [e1] at hp
    rcases List.mem_append.1 hp with hp | hp
    · exact hle p hp
    · rw [e2 p hp]; exact Int.le_refl _
  have hat : ∀ j ∈ (comeP l (at_ == 0) (at_ == line.length) s (3 * l.length + 1) [k] np).map Prod.fst, ∃ f, f ≤ (s : Int) ∧ (j, f) ∈ comeP l (at_ == 0) (at_ == line.length) s (3 * l.length + 1) [k] np := by
    intro j hj
    obtain ⟨p, hp, rfl⟩ := List.mem_map.1 hj
    exact ⟨p.2, hall p hp, hp⟩
  have hkeep : ∀ p ∈ np, p ∈ comeP l (at_ == 0) (at_ == line.length) s (3 * l.length + 1) [k] np := fun p hp => by rw [e1]; exact List.mem_append_left _ hp
  unfold comeL
  refine ⟨⟨n1, n2, ?_, ?_, ?_⟩, hkeep, hat k (c1 k (by simp)), hall⟩
  · rw [e1]
    refine List.pairwise_append.2 ⟨h.srt, ?_, fun a ha b hb => by rw [e2 b hb]; exact hle a ha⟩
    refine List.pairwise_iff_getElem.2 fun i j hi hj _ => ?_
    rw [e2 _ (List.getElem_mem hi), e2 _ (List.getElem_mem hj)]
    exact Int.le_refl _
  · intro p hp j hj
    by_cases hpn : p ∈ np
    · obtain ⟨f, h1, h2⟩ := h.cls p hpn j hj
      exact ⟨f, h1, hkeep _ h2⟩
    · have hp2 : p.2 = (s : Int) := by
        rw [e1] at hp
        rcases List.mem_append.1 hp with hp | hp
        · exact absurd hp hpn
        · exact e2 p hp
      have hnk : p.1 ∉ np.map Prod.fst := by
        intro hm
        obtain ⟨q, hq, e⟩ := List.mem_map.1 hm
        have hq2 := hkeep q hq
        have := nodup_inj n1 hq2 hp e
        subst this
        exact hpn hq
      rw [hp2]
      exact hat j (c2 p.1 (List.mem_map_of_mem hp) hnk j hj)
  · intro p hp
    rcases hw p hp with h1 | h1
    · exact h.sound p h1
    · by_cases hpn : p ∈ np
      · exact h.sound p hpn
      · rw [e1] at hp
        rcases List.mem_append.1 hp with hp | hp
        · exact absurd hp hpn
        · exact ⟨s, e2 p hp, h1⟩

/-- One best is as good as another, or better. -/
def Bm (b b2 : Best) : Prop := ∀ f t, b = some (f, t) → ∃ f2 t2, b2 = some (f2, t2) ∧ f2 ≤ f ∧ (f2 = f → t ≤ t2)
theorem Bm.refl (b : Best) : Bm b b := fun f t e => ⟨f, t, e, Int.le_refl _, fun _ => Int.le_refl _⟩
theorem Bm.trans {a b c : Best} (h : Bm a b) (k : Bm b c) : Bm a c := fun f t e => by
  obtain ⟨f2, t2, e2, h1, h2⟩ := h f t e
  obtain ⟨f3, t3, e3, h3, h4⟩ := k f2 t2 e2
  exact ⟨f3, t3, e3, by omega, fun h5 => by have := h2 (by omega); have := h4 (by omega); omega⟩
theorem not_late {b : Best} {f f0 t0 : Int} (h : tooLate b f = false) (e : b = some (f0, t0)) : f ≤ f0 := by
  subst e
  have := of_decide_eq_false h
  omega
theorem bestAt_bm (b : Best) (f : Int) (at_ : Nat) (hl : ∀ f0 t0, b = some (f0, t0) → t0 ≤ (at_ : Int)) (hf : tooLate b f = false) : Bm b (bestAt b f at_) := by
  intro f0 t0 e
  have h1 := not_late hf e
  have h2 := hl f0 t0 e
  subst e
  unfold bestAt
  simp only
  split
  · exact ⟨f, at_, rfl, h1, fun _ => h2⟩
  · exact ⟨f0, t0, rfl, Int.le_refl _, fun _ => Int.le_refl _⟩
theorem bestAt_it (b : Best) (f : Int) (at_ : Nat) (hf : tooLate b f = false) : ∃ f1 t1, bestAt b f at_ = some (f1, t1) ∧ f1 ≤ f ∧ (f1 = f → (at_ : Int) ≤ t1) := by
  unfold bestAt
  split
  · exact ⟨f, at_, rfl, Int.le_refl _, fun _ => Int.le_refl _⟩
  · rename_i f0 t0
    split
    · exact ⟨f, at_, rfl, Int.le_refl _, fun _ => Int.le_refl _⟩
    · rename_i h
      have h1 : f ≤ f0 := not_late hf rfl
      exact ⟨f0, t0, rfl, by omega, fun _ => by omega⟩

/-- One step. -/
structure StS (l : List Ins) (line : List UInt8) (at_ : Nat) (p : Nat × Int) (b : Best) (nx : List (Nat × Int)) (r : Best × List (Nat × Int)) : Prop where
  ok : NX l line (at_ + 1) r.2
  keep : ∀ q ∈ nx, q ∈ r.2
  bm : Bm b r.1
  best : r.1 = b ∨ ∃ s : Nat, r.1 = some ((s : Int), (at_ : Int)) ∧ (s : Int) = p.2 ∧ Mt l line s at_
  byte : ∀ i c, l[p.1]? = some i → i.op = 1 → line[at_]? = some c → inSet i c = true → ∃ f, f ≤ p.2 ∧ (p.1 + 1, f) ∈ r.2
  hit : ∀ i, l[p.1]? = some i → i.op = 11 → ∃ f1 t1, r.1 = some (f1, t1) ∧ f1 ≤ p.2 ∧ (f1 = p.2 → (at_ : Int) ≤ t1)
  le : ∀ q ∈ r.2, q.2 ≤ p.2
theorem step_spec (hfi : Fine l) {at_ : Nat} (p : Nat × Int) (b : Best) (nx : List (Nat × Int)) (hp : ∃ s : Nat, p.2 = s ∧ Al l line s at_ p.1) (hn : NX l line (at_ + 1) nx) (hle : ∀ q ∈ nx, q.2 ≤ p.2) (hb : ∀ f0 t0, b = some (f0, t0) → t0 ≤ (at_ : Int)) (hf : tooLate b p.2 = false) :
    StS l line at_ p b nx (stepS l line at_ p (b, nx)) := by
  obtain ⟨s, hs, hal⟩ := hp
  obtain ⟨k, f⟩ := p
  simp only at hs hal hle hf
  subst hs
  have same : (∀ i, l[k]? = some i → i.op ≠ 11) → (∀ i c, l[k]? = some i → i.op = 1 → line[at_]? = some c → inSet i c = true → False) → StS l line at_ (k, (s : Int)) b nx (b, nx) := fun h1 h2 =>
    ⟨hn, fun q hq => hq, Bm.refl b, .inl rfl, fun i c e1 e2 e3 e4 => (h2 i c e1 e2 e3 e4).elim, fun i e1 e2 => absurd e2 (h1 i e1), hle⟩
  unfold stepS
  simp only
  cases hi : l[k]? with
  | none => exact same (fun i e => by rw [hi] at e; cases e) (fun i c e => by rw [hi] at e; cases e)
  | some i =>
    simp only
    split
    · rename_i h11
      refine ⟨hn, fun q hq => hq, bestAt_bm b s at_ hb hf, ?_, fun j c e1 e2 => by rw [hi] at e1; cases e1; omega, fun j e1 e2 => bestAt_it b s at_ hf, hle⟩
      unfold bestAt
      split
      · exact .inr ⟨s, rfl, rfl, k, i, hal, hi, h11⟩
      · rename_i f0 t0
        split
        · exact .inr ⟨s, rfl, rfl, k, i, hal, hi, h11⟩
        · exact .inl rfl
    · rename_i h11
      split
      · rename_i h1
        cases hc : line[at_]? with
        | none => exact same (fun j e => by rw [hi] at e; cases e; exact h11) (fun j c e1 e2 e3 => by rw [hc] at e3; cases e3)
        | some c =>
          simp only
          split
          · rename_i hin
            have hk := hfi.next k i hi (.inl h1)
            have hal2 := Al.byte hal hi h1 hc hin
            obtain ⟨g1, g2, ⟨f, g3, g4⟩, g5⟩ := hn.come hfi hk hal2 hle
            rw [show (at_ + 1 == 0) = false by simp] at g1 g2 g4 g5
            exact ⟨g1, g2, Bm.refl b, .inl rfl, fun _ _ _ _ _ _ => ⟨f, g3, g4⟩, fun j e1 e2 => by rw [hi] at e1; cases e1; exact absurd e2 h11, g5⟩
          · rename_i hin
            exact same (fun j e => by rw [hi] at e; cases e; exact h11) (fun j c' e1 e2 e3 e4 => by rw [hi] at e1; cases e1; rw [hc] at e3; cases e3; exact hin e4)
      · rename_i h1
        exact same (fun j e => by rw [hi] at e; cases e; exact h11) (fun j c e1 e2 => by rw [hi] at e1; cases e1; exact absurd e2 h1)
/-- A turn. -/
structure TuS (l : List Ins) (line : List UInt8) (at_ : Nat) (now : List (Nat × Int)) (b : Best) (nx : List (Nat × Int)) (r : Best × List (Nat × Int)) : Prop where
  ok : NX l line (at_ + 1) r.2
  keep : ∀ q ∈ nx, q ∈ r.2
  bm : Bm b r.1
  best : r.1 = b ∨ ∃ s : Nat, r.1 = some ((s : Int), (at_ : Int)) ∧ (∃ p ∈ now, (s : Int) = p.2) ∧ Mt l line s at_
  byte : ∀ p ∈ now, (∀ f1 t1, r.1 = some (f1, t1) → p.2 ≤ f1) → ∀ i c, l[p.1]? = some i → i.op = 1 → line[at_]? = some c → inSet i c = true → ∃ f, f ≤ p.2 ∧ (p.1 + 1, f) ∈ r.2
  hit : ∀ p ∈ now, ∀ i, l[p.1]? = some i → i.op = 11 → ∃ f1 t1, r.1 = some (f1, t1) ∧ f1 ≤ p.2 ∧ (f1 = p.2 → (at_ : Int) ≤ t1)
theorem turn_spec (hfi : Fine l) {at_ : Nat} : ∀ (now : List (Nat × Int)) (b : Best) (nx : List (Nat × Int)), Srt now → (∀ p ∈ now, ∃ s : Nat, p.2 = s ∧ Al l line s at_ p.1) → NX l line (at_ + 1) nx → (∀ q ∈ nx, ∀ p ∈ now, q.2 ≤ p.2) →
    (∀ f0 t0, b = some (f0, t0) → t0 ≤ (at_ : Int)) → TuS l line at_ now b nx (turnS l line at_ now (b, nx))
  | [], b, nx, _, _, hn, _, _ => ⟨hn, fun q hq => hq, Bm.refl b, .inl rfl, fun p hp => (by cases hp), fun p hp => (by cases hp)⟩
  | p :: now, b, nx, hs, hal, hn, hle, hb => by
    obtain ⟨hs1, hs2⟩ := List.pairwise_cons.1 hs
    have hge : ∀ q ∈ p :: now, p.2 ≤ q.2 := fun q hq => by
      rcases List.mem_cons.1 hq with h3 | h3
      · rw [h3]; exact Int.le_refl _
      · exact hs1 q h3
    rw [turnS]
    split
    · rename_i hl
      have hlate : ∃ f0 t0, b = some (f0, t0) ∧ f0 < p.2 := by
        cases b with
        | none => simp [tooLate] at hl
        | some q => exact ⟨q.1, q.2, rfl, by simpa [tooLate] using hl⟩
      obtain ⟨f0, t0, rfl, hlt⟩ := hlate
      refine ⟨hn, fun q hq => hq, Bm.refl _, .inl rfl, fun q hq hc => ?_, fun q hq i _ _ => ?_⟩
      · have := hc f0 t0 rfl
        have := hge q hq
        omega
      · have := hge q hq
        exact ⟨f0, t0, rfl, by omega, fun h => by omega⟩
    · rename_i hl
      have S := step_spec hfi p b nx (hal p List.mem_cons_self) hn (fun q hq => hle q hq p List.mem_cons_self) hb (by simpa using hl)
      obtain ⟨⟨b2, nx2⟩, hst⟩ : ∃ r, stepS l line at_ p (b, nx) = r := ⟨_, rfl⟩
      rw [hst] at S ⊢
      have hb2 : ∀ f0 t0, b2 = some (f0, t0) → t0 ≤ (at_ : Int) := fun f0 t0 e => by
        rcases S.best with h | ⟨s, h, _⟩
        · simp only at h; rw [h] at e; exact hb f0 t0 e
        · simp only at h; rw [h] at e; cases e; exact Int.le_refl _
      have T := turn_spec hfi now b2 nx2 hs2 (fun q hq => hal q (List.mem_cons_of_mem _ hq)) S.ok (fun q hq p2 hp2 => by have := S.le q hq; have := hs1 p2 hp2; omega) hb2
      refine ⟨T.ok, fun q hq => T.keep q (S.keep q hq), S.bm.trans T.bm, ?_, fun q hq hc i c e1 e2 e3 e4 => ?_, fun q hq i e1 e2 => ?_⟩
      · rcases T.best with h | ⟨s, h1, ⟨q, hq, h2⟩, h3⟩
        · rcases S.best with h4 | ⟨s, h4, h5, h6⟩
          · exact .inl (h.trans h4)
          · exact .inr ⟨s, h.trans h4, ⟨p, List.mem_cons_self, h5⟩, h6⟩
        · exact .inr ⟨s, h1, ⟨q, List.mem_cons_of_mem _ hq, h2⟩, h3⟩
      · rcases List.mem_cons.1 hq with h3 | h3
        · subst h3
          obtain ⟨f, h4, h5⟩ := S.byte i c e1 e2 e3 e4
          exact ⟨f, h4, T.keep _ h5⟩
        · exact T.byte q h3 hc i c e1 e2 e3 e4
      · rcases List.mem_cons.1 hq with h3 | h3
        · subst h3
          obtain ⟨f1, t1, h4, h5, h6⟩ := S.hit i e1 e2
          obtain ⟨f2, t2, h7, h8, h9⟩ := T.bm f1 t1 h4
          exact ⟨f2, t2, h7, by omega, fun h => by have := h6 (by omega); have := h9 (by omega); omega⟩
        · exact T.hit q h3 i e1 e2
end
end Go.Proofs.Ytamiliccnbkipaa
