/-
  What a search finds: the least start from which the program matches, and its greatest end; Find by Longest (in plain Lean).
-/
import Derived.Test.YtamiliccnbkipaaNAlive
set_option linter.unusedVariables false
set_option linter.unusedSimpArgs false
namespace Go.Proofs.Ytamiliccnbkipaa

section
variable {l : List Ins} {line : List UInt8}
theorem step_from {C : Int → Prop} {at_ : Nat} (p : Nat × Int) (s : Best × List (Nat × Int)) (hp : C p.2) (hn : ∀ q ∈ s.2, C q.2) : ∀ q ∈ (stepS l line at_ p s).2, C q.2 := by
  unfold stepS
  split
  · exact hn
  · split
    · exact hn
    · split
      · split
        · split
          · intro q hq
            rcases comeP_from _ _ _ q hq with h | h
            · exact hn q h
            · rw [h]; exact hp
          · exact hn
        · exact hn
      · exact hn
theorem turn_from {C : Int → Prop} {at_ : Nat} : ∀ (now : List (Nat × Int)) (s : Best × List (Nat × Int)), (∀ p ∈ now, C p.2) → (∀ q ∈ s.2, C q.2) → ∀ q ∈ (turnS l line at_ now s).2, C q.2
  | [], s, _, hn => hn
  | p :: now, s, h, hn => by
    rw [turnS]
    split
    · exact hn
    · exact turn_from now _ (fun q hq => h q (List.mem_cons_of_mem _ hq)) (step_from p s (h p List.mem_cons_self) hn)

/-- Between two places. -/
structure PS (l : List Ins) (line : List UInt8) (every : Bool) (at0 at_ : Nat) (now : List (Nat × Int)) (b : Best) : Prop where
  ok : NX l line at_ now
  cmp : ∀ s k, at0 ≤ s → (every = false → s = at0) → (∀ f1 t1, b = some (f1, t1) → (s : Int) ≤ f1) → Al l line s at_ k → ∃ f, f ≤ (s : Int) ∧ (k, f) ∈ now
  old : ∀ s q, at0 ≤ s → (every = false → s = at0) → q < at_ → Mt l line s q → ∃ f t, b = some (f, t) ∧ f ≤ (s : Int) ∧ (f = s → (q : Int) ≤ t)
  snd : ∀ f t, b = some (f, t) → ∃ s q : Nat, f = s ∧ t = q ∧ at0 ≤ s ∧ (every = false → s = at0) ∧ q < at_ ∧ Mt l line s q
  frm : ∀ p ∈ now, ∃ s : Nat, p.2 = s ∧ at0 ≤ s ∧ (every = false → s = at0)
/-- Of what is found at last. -/
structure FS (l : List Ins) (line : List UInt8) (every : Bool) (at0 : Nat) (r : Best) : Prop where
  all : ∀ s q, at0 ≤ s → (every = false → s = at0) → q ≤ line.length → Mt l line s q → ∃ f t, r = some (f, t) ∧ f ≤ (s : Int) ∧ (f = s → (q : Int) ≤ t)
  snd : ∀ f t, r = some (f, t) → ∃ s q : Nat, f = s ∧ t = q ∧ at0 ≤ s ∧ (every = false → s = at0) ∧ q ≤ line.length ∧ Mt l line s q

theorem Mt.le {s q : Nat} (h : Mt l line s q) : s ≤ q := by
  obtain ⟨k, i, h, _⟩ := h
  exact h.le

/-- The next place's threads that were begun ahead of it. -/
theorem PS.next (hfi : Fine l) {every : Bool} {at0 at_ : Nat} {now : List (Nat × Int)} {b : Best} (h : PS l line every at0 at_ now b) {r : Best × List (Nat × Int)} (T : TuS l line at_ now b [] r) (s : Nat) (h0 : at0 ≤ s) (he : every = false → s = at0) (hs : s ≤ at_)
    (hc : ∀ f1 t1, r.1 = some (f1, t1) → (s : Int) ≤ f1) : ∀ {p k : Nat}, Al l line s p k → p = at_ + 1 → ∃ f, f ≤ (s : Int) ∧ (k, f) ∈ r.2 := by
  intro p k hal
  induction hal with
  | start => intro e; omega
  | @eps p k j a1 a2 ih =>
    intro e
    subst e
    obtain ⟨f, g1, g2⟩ := ih rfl
    obtain ⟨f2, g3, g4⟩ := T.ok.cls _ g2 j a2
    simp only at g3
    exact ⟨f2, by omega, g4⟩
  | @byte p k i c h1 h2 h3 h4 h5 ih =>
    intro e
    obtain rfl : p = at_ := by omega
    obtain ⟨f, g1, g2⟩ := h.cmp s k h0 he (fun f1 t1 e1 => by
      obtain ⟨f2, t2, e2, g3, _⟩ := T.bm f1 t1 e1
      have := hc f2 t2 e2
      omega) h1
    obtain ⟨f2, g3, g4⟩ := T.byte _ g2 (fun f1 t1 e1 => by have := hc f1 t1 e1; simp only; omega) i c h2 h3 h4 h5
    simp only at g3
    exact ⟨f2, by omega, g4⟩

theorem play_spec (hfi : Fine l) (every : Bool) (at0 : Nat) : ∀ (m at_ : Nat) (now : List (Nat × Int)) (b : Best), at_ + m = line.length → at0 ≤ at_ → PS l line every at0 at_ now b → FS l line every at0 (playS l line every m at_ now b)
  | m, at_, now, b, hm, h0, h => by
    have T : TuS l line at_ now b [] (turnS l line at_ now (b, [])) := turn_spec hfi now b [] h.ok.srt h.ok.sound (NX.nil l line (at_ + 1)) (fun q hq => (by cases hq)) (fun f0 t0 e => by
      obtain ⟨s, q, _, h2, _, _, h5, _⟩ := h.snd f0 t0 e
      omega)
    have F := turn_from (l := l) (line := line) (C := fun z => ∃ s : Nat, z = s ∧ at0 ≤ s ∧ (every = false → s = at0)) (at_ := at_) now (b, []) h.frm (fun q hq => (by cases hq))
    obtain ⟨r, hr⟩ : ∃ r, turnS l line at_ now (b, []) = r := ⟨_, rfl⟩
    rw [hr] at T F
    -- what is old behind the turn
    have old2 : ∀ s q, at0 ≤ s → (every = false → s = at0) → q < at_ + 1 → Mt l line s q → ∃ f t, r.1 = some (f, t) ∧ f ≤ (s : Int) ∧ (f = s → (q : Int) ≤ t) := by
      intro s q h1 h2 h3 h4
      by_cases hq : q < at_
      · obtain ⟨f, t, e, g1, g2⟩ := h.old s q h1 h2 hq h4
        obtain ⟨f2, t2, e2, g3, g4⟩ := T.bm f t e
        exact ⟨f2, t2, e2, by omega, fun g5 => by have := g2 (by omega); have := g4 (by omega); omega⟩
      · obtain rfl : q = at_ := by omega
        obtain ⟨k, i, hal, hi, h11⟩ := h4
        by_cases hb : ∃ f1 t1, b = some (f1, t1) ∧ f1 < (s : Int)
        · obtain ⟨f1, t1, e, g1⟩ := hb
          obtain ⟨f2, t2, e2, g3, _⟩ := T.bm f1 t1 e
          exact ⟨f2, t2, e2, by omega, fun g5 => by omega⟩
        · obtain ⟨f, g1, g2⟩ := h.cmp s k h1 h2 (fun f1 t1 e => by
            by_cases g : f1 < (s : Int)
            · exact absurd ⟨f1, t1, e, g⟩ hb
            · omega) hal
          obtain ⟨f1, t1, e1, g3, g4⟩ := T.hit _ g2 i hi h11
          simp only at g3 g4
          exact ⟨f1, t1, e1, by omega, fun g5 => g4 (by omega)⟩
    have snd2 : ∀ f t, r.1 = some (f, t) → ∃ s q : Nat, f = s ∧ t = q ∧ at0 ≤ s ∧ (every = false → s = at0) ∧ q < at_ + 1 ∧ Mt l line s q := by
      intro f t e
      rcases T.best with g | ⟨s, g1, ⟨p, hp, g2⟩, g3⟩
      · rw [g] at e
        obtain ⟨s, q, e1, e2, e3, e4, e5, e6⟩ := h.snd f t e
        exact ⟨s, q, e1, e2, e3, e4, by omega, e6⟩
      · rw [g1] at e
        cases e
        obtain ⟨s2, g4, g5, g6⟩ := h.frm p hp
        obtain rfl : s = s2 := by omega
        exact ⟨s, at_, rfl, rfl, g5, g6, by omega, g3⟩
    have fin : (∀ s q, at0 ≤ s → (every = false → s = at0) → at_ + 1 ≤ q → q ≤ line.length → Mt l line s q → (∀ f1 t1, r.1 = some (f1, t1) → (s : Int) ≤ f1) → False) → FS l line every at0 r.1 := by
      intro hno
      refine ⟨fun s q h1 h2 h3 h4 => ?_, fun f t e => ?_⟩
      · by_cases hq : q < at_ + 1
        · exact old2 s q h1 h2 hq h4
        · by_cases hb : ∃ f1 t1, r.1 = some (f1, t1) ∧ f1 < (s : Int)
          · obtain ⟨f1, t1, e, g1⟩ := hb
            exact ⟨f1, t1, e, by omega, fun g => by omega⟩
          · exact (hno s q h1 h2 (by omega) h3 h4 (fun f1 t1 e => by
              by_cases g : f1 < (s : Int)
              · exact absurd ⟨f1, t1, e, g⟩ hb
              · omega)).elim
      · obtain ⟨s, q, e1, e2, e3, e4, e5, e6⟩ := snd2 f t e
        exact ⟨s, q, e1, e2, e3, e4, by omega, e6⟩
    -- a thread that is not begun too late was begun by now
    have now2 : ∀ s, (every = false → s = at0) → (∀ f1 t1, r.1 = some (f1, t1) → (s : Int) ≤ f1) → (every && r.1.isNone) = false → s ≤ at_ := by
      intro s h1 h2 h3
      cases hr1 : r.1 with
      | none =>
        rw [hr1] at h3
        have : every = false := by cases every <;> simp at h3 ⊢
        have := h1 this
        omega
      | some ft =>
        obtain ⟨f, t⟩ := ft
        obtain ⟨s2, q, e1, e2, e3, e4, e5, e6⟩ := snd2 f t hr1
        have := h2 f t hr1
        have := e6.le
        omega
    cases m with
    | zero =>
      rw [playS, hr]
      exact fin (fun s q h1 h2 h3 h4 => by omega)
    | succ m =>
      rw [playS, hr]
      have frm2 : ∀ p ∈ r.2, ∃ s : Nat, p.2 = s ∧ at0 ≤ s ∧ (every = false → s = at0) := F
      split
      · rename_i hev
        obtain ⟨hev1, hev2⟩ : every = true ∧ r.1 = none := by
          cases every <;> cases hx : r.1 <;> simp [hx] at hev ⊢
        obtain ⟨g1, g2, ⟨f0, g3, g4⟩, g5⟩ := T.ok.come hfi (k := 0) (s := at_ + 1) hfi.pos (Al.start) (fun p hp => by
          obtain ⟨s, e, hal⟩ := T.ok.sound p hp
          have := hal.le
          omega)
        rw [show (at_ + 1 == 0) = false by simp] at g1 g2 g4 g5
        rw [show (((at_ + 1 : Nat) : Int)) = (at_ : Int) + 1 by omega] at g1 g2 g4 g5
        refine play_spec hfi every at0 m (at_ + 1) _ _ (by omega) (by omega) ⟨g1, fun s k h1 h2 h3 hal => ?_, old2, snd2, fun p hp => ?_⟩
        · by_cases hs : s ≤ at_
          · obtain ⟨f, k1, k2⟩ := h.next hfi T s h1 h2 hs (fun f1 t1 e => by rw [hev2] at e; cases e) hal rfl
            exact ⟨f, k1, g2 _ k2⟩
          · have hle := hal.le
            obtain rfl : s = at_ + 1 := by omega
            have key : ∀ {p k : Nat}, Al l line (at_ + 1) p k → p = at_ + 1 → ∃ f, f ≤ ((at_ + 1 : Nat) : Int) ∧ (k, f) ∈ comeL l false (at_ + 1 == line.length) ((at_ : Int) + 1) 0 r.2 := by
              intro p k ha
              induction ha with
              | start => intro _; exact ⟨f0, by omega, g4⟩
              | @eps p k j a1 a2 ih =>
                intro e
                subst e
                obtain ⟨f, k1, k2⟩ := ih rfl
                obtain ⟨f2, k3, k4⟩ := g1.cls _ k2 j a2
                simp only at k3
                exact ⟨f2, by omega, k4⟩
              | @byte p k i c a1 _ _ _ _ _ =>
                intro e
                have := a1.le
                omega
            exact key hal rfl
        · rcases comeP_from _ _ _ p hp with h1 | h1
          · exact frm2 p h1
          · exact ⟨at_ + 1, by rw [h1]; omega, by omega, fun h2 => by rw [hev1] at h2; cases h2⟩
      · rename_i hev
        have hev2 : (every && r.1.isNone) = false := by cases hx : (every && r.1.isNone) with
          | false => rfl
          | true => exact absurd hx hev
        split
        · rename_i hnil
          refine fin (fun s q h1 h2 h3 h4 h5 h6 => ?_)
          have hs := now2 s h2 h6 hev2
          obtain ⟨k, i, hal, _, _⟩ := h5
          obtain ⟨j, hj⟩ := hal.back (at_ + 1) (by omega) h3
          obtain ⟨f, _, k2⟩ := h.next hfi T s h1 h2 hs h6 hj rfl
          rw [hnil] at k2
          cases k2
        · refine play_spec hfi every at0 m (at_ + 1) _ _ (by omega) (by omega) ⟨T.ok, fun s k h1 h2 h3 hal => ?_, old2, snd2, frm2⟩
          exact h.next hfi T s h1 h2 (now2 s h2 h3 hev2) h3 hal rfl
theorem find_spec (hfi : Fine l) (at_ : Nat) (hat : at_ ≤ line.length) (every : Bool) : FS l line every at_ (findS l line at_ every) := by
  unfold findS
  obtain ⟨g1, g2, ⟨f0, g3, g4⟩, g5⟩ := (NX.nil l line at_).come hfi (k := 0) (s := at_) hfi.pos Al.start (fun p hp => (by cases hp))
  refine play_spec hfi every at_ (line.length - at_) at_ _ none (by omega) (Nat.le_refl _) ⟨g1, fun s k h1 h2 _ hal => ?_, fun s q h1 h2 h3 h4 => ?_, fun f t e => (by cases e), fun p hp => ?_⟩
  · have hle := hal.le
    obtain rfl : s = at_ := by omega
    have key : ∀ {p k : Nat}, Al l line s p k → p = s → ∃ f, f ≤ (s : Int) ∧ (k, f) ∈ comeL l (s == 0) (s == line.length) s 0 [] := by
      intro p k ha
      induction ha with
      | start => intro _; exact ⟨f0, g3, g4⟩
      | @eps p k j a1 a2 ih =>
        intro e
        subst e
        obtain ⟨f, k1, k2⟩ := ih rfl
        obtain ⟨f2, k3, k4⟩ := g1.cls _ k2 j a2
        simp only at k3
        exact ⟨f2, by omega, k4⟩
      | @byte p k i c a1 _ _ _ _ _ =>
        intro e
        have := a1.le
        omega
    exact key hal rfl
  · have := h4.le; omega
  · rcases comeP_from _ _ _ p hp with h1 | h1
    · cases h1
    · exact ⟨at_, h1, Nat.le_refl _, fun _ => rfl⟩

/-- Find by Longest: nothing from no place ahead of it, and from there what Longest tells. -/
theorem follows_law (hfi : Fine l) (at_ : Nat) (hat : at_ ≤ line.length) :
    (∀ f t, findS l line at_ true = some (f, t) → ∃ i : Nat, f = i ∧ at_ ≤ i ∧ i ≤ line.length ∧ findS l line i false = some (f, t) ∧ ∀ j, at_ ≤ j → j < i → findS l line j false = none) ∧
    (findS l line at_ true = none → ∀ j, at_ ≤ j → j ≤ line.length → findS l line j false = none) := by
  have M := find_spec (line := line) hfi at_ hat true
  have none_of : ∀ j, j ≤ line.length → (∀ q, q ≤ line.length → ¬ Mt l line j q) → findS l line j false = none := by
    intro j hj hno
    cases hr : findS l line j false with
    | none => rfl
    | some ft =>
      obtain ⟨f, t⟩ := ft
      obtain ⟨s, q, h1, h2, h3, h4, h5, h6⟩ := (find_spec (line := line) hfi j hj false).snd f t hr
      obtain rfl : s = j := h4 rfl
      exact absurd h6 (hno q h5)
  constructor
  · intro f t e
    obtain ⟨s, q, rfl, rfl, h3, _, h5, h6⟩ := M.snd f t e
    have hsl : s ≤ line.length := Nat.le_trans h6.le h5
    refine ⟨s, rfl, h3, hsl, ?_, fun j h7 h8 => none_of j (by omega) (fun q2 h9 h10 => ?_)⟩
    · have S := find_spec (line := line) hfi s hsl false
      obtain ⟨f1, t1, e1, g1, g2⟩ := S.all s q (Nat.le_refl _) (fun _ => rfl) h5 h6
      obtain ⟨s2, q2, k1, k2, k3, k4, k5, k6⟩ := S.snd f1 t1 e1
      obtain rfl : s2 = s := k4 rfl
      subst k1
      subst k2
      have g3 := g2 rfl
      obtain ⟨f3, t3, e3, g4, g5⟩ := M.all s2 q2 h3 (fun h => (by cases h)) k5 k6
      rw [e] at e3
      cases e3
      have g6 := g5 rfl
      obtain rfl : q = q2 := by omega
      exact e1
    · obtain ⟨f3, t3, e3, g4, _⟩ := M.all j q2 h7 (fun h => (by cases h)) h9 h10
      rw [e] at e3
      cases e3
      omega
  · intro e j h1 h2
    refine none_of j h2 (fun q h3 h4 => ?_)
    obtain ⟨f3, t3, e3, _⟩ := M.all j q h1 (fun h => (by cases h)) h3 h4
    rw [e] at e3
    cases e3
end
end Go.Proofs.Ytamiliccnbkipaa
