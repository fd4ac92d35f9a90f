/-
  Layer 20 in plain Lean: a machine that remembers comes to its end: how many steps it does at most.
-/
import Derived.Test.YtoadmpochaeohaaPa33
import Derived.Test.YtoadmpochaeohaaPp2
import Derived.Test.YtoadmpochaeohaaPa36
import Derived.Test.YtoadmpochaeohaaPp3
section
set_option linter.unusedVariables false
set_option linter.unusedSimpArgs false
set_option maxRecDepth 100000
namespace Go.Proofs.Ytoadmpochaeohaa
open Go.RowKit

theorem nodup_lt : ∀ (N : Nat) (l : List Nat), l.Nodup → (∀ x ∈ l, x < N) → l.length ≤ N
  | 0, l, _, h => by
    cases l with
    | nil => simp
    | cons x l => exact absurd (h x (List.mem_cons_self ..)) (by omega)
  | N + 1, l, hn, h => by
    have h1 := nodup_lt N (l.erase N) (hn.erase _) (fun x hx => by
      have h2 := List.mem_of_mem_erase hx
      have h3 : x ≠ N := fun e => by subst e; exact hn.not_mem_erase hx
      have := h x h2; omega)
    rw [List.length_erase] at h1
    split at h1 <;> omega
theorem on_len (m : Mc) (L : List UInt8) (c : Cf) : (onS m L c).length ≤ 2 := by
  unfold onS
  split
  · simp
  · rename_i i hi
    simp only
    by_cases h1 : i.op = 1
    · rw [if_pos h1]; split
      · split <;> simp
      · simp
    rw [if_neg h1]
    by_cases h2 : i.op = 2
    · rw [if_pos h2]; simp
    rw [if_neg h2]
    by_cases h3 : i.op = 3
    · rw [if_pos h3]; simp
    rw [if_neg h3]
    by_cases h4 : i.op = 4
    · rw [if_pos h4]; split <;> simp
    rw [if_neg h4]
    by_cases h5 : i.op = 5
    · rw [if_pos h5]; split <;> simp
    rw [if_neg h5]
    by_cases h6 : i.op = 6 ∨ i.op = 7
    · rw [if_pos h6]; simp
    rw [if_neg h6]
    by_cases h8 : i.op = 8
    · rw [if_pos h8]; split <;> simp
    rw [if_neg h8]
    by_cases h9 : i.op = 9
    · rw [if_pos h9]; simp
    rw [if_neg h9]
    by_cases h10 : i.op = 10
    · rw [if_pos h10]
      split
      · simp
      · rw [List.length_append]
        split <;> split <;> simp
    rw [if_neg h10]; simp
/-- What the counters are, where a configuration leads. -/
theorem on_turns {m : Mc} {L : List UInt8} {c d : Cf} (hd : d ∈ onS m L c) : d.turns = c.turns ∨ ∃ i, m.ins[c.pc]? = some i ∧ ((i.op = 9 ∧ d.turns = c.turns.set i.n.toNat ⟨0, -1⟩) ∨ (i.op = 10 ∧ ∃ x b, d.turns = c.turns.set i.n.toNat ⟨min x (m.most.getD i.n.toNat 0), b⟩)) := by
  unfold onS at hd
  split at hd
  · cases hd
  · rename_i i hi
    simp only at hd
    by_cases h1 : i.op = 1
    · rw [if_pos h1] at hd
      split at hd
      · split at hd
        · rw [List.mem_singleton] at hd; subst hd; exact .inl rfl
        · cases hd
      · cases hd
    rw [if_neg h1] at hd
    by_cases h2 : i.op = 2
    · rw [if_pos h2] at hd
      simp only [List.mem_cons, List.not_mem_nil, or_false] at hd
      rcases hd with rfl | rfl <;> exact .inl rfl
    rw [if_neg h2] at hd
    by_cases h3 : i.op = 3
    · rw [if_pos h3, List.mem_singleton] at hd; subst hd; exact .inl rfl
    rw [if_neg h3] at hd
    by_cases h4 : i.op = 4
    · rw [if_pos h4] at hd
      split at hd
      · rw [List.mem_singleton] at hd; subst hd; exact .inl rfl
      · cases hd
    rw [if_neg h4] at hd
    by_cases h5 : i.op = 5
    · rw [if_pos h5] at hd
      split at hd
      · rw [List.mem_singleton] at hd; subst hd; exact .inl rfl
      · cases hd
    rw [if_neg h5] at hd
    by_cases h6 : i.op = 6 ∨ i.op = 7
    · rw [if_pos h6, List.mem_singleton] at hd; subst hd
      refine .inl ?_
      show (bracketS m c i).turns = c.turns
      unfold bracketS
      simp only
      split
      · rfl
      · split <;> rfl
    rw [if_neg h6] at hd
    by_cases h8 : i.op = 8
    · rw [if_pos h8] at hd
      split at hd
      · rw [List.mem_singleton] at hd; subst hd; exact .inl rfl
      · cases hd
    rw [if_neg h8] at hd
    by_cases h9 : i.op = 9
    · rw [if_pos h9, List.mem_singleton] at hd; subst hd
      exact .inr ⟨i, hi, .inl ⟨h9, rfl⟩⟩
    rw [if_neg h9] at hd
    by_cases h10 : i.op = 10
    · rw [if_pos h10] at hd
      split at hd
      · cases hd
      · rcases List.mem_append.1 hd with hd | hd
        · split at hd
          · rw [List.mem_singleton] at hd; subst hd; exact .inl rfl
          · cases hd
        · split at hd
          · rw [List.mem_singleton] at hd; subst hd
            exact .inr ⟨i, hi, .inr ⟨h10, _, _, rfl⟩⟩
          · cases hd
    rw [if_neg h10] at hd
    cases hd
def turnedB (m : Mc) (k : Nat) : Bool := m.ins.any fun i => i.op == 10 && i.n.toNat == k
/-- What a counter may be. -/
def TB (m : Mc) (c : Cf) : Prop := ∀ (k : Nat) (t : Tn), c.turns[k]? = some t → (turnedB m k = true → t.many ≤ m.most.getD k 0) ∧ (turnedB m k = false → t = ⟨0, -1⟩)
theorem most_ge {m : Mc} (hW : MW m) (k : Nat) : 0 ≤ m.most.getD k 0 := by
  rw [List.getD_eq_getElem?_getD]
  cases h : m.most[k]? with
  | none => simp
  | some v => exact (hW.most v (List.mem_of_getElem? h)).1
theorem on_TB {m : Mc} {L : List UInt8} {c d : Cf} (hW : MW m) (hT : TB m c) (hd : d ∈ onS m L c) : TB m d := by
  intro k t ht
  rcases on_turns hd with h | ⟨i, hi, h⟩
  · rw [h] at ht; exact hT k t ht
  · rcases h with ⟨h9, h⟩ | ⟨h10, x, b, h⟩
    · rw [h, List.getElem?_set] at ht
      split at ht
      · split at ht
        · injection ht with ht; subst ht
          exact ⟨fun _ => most_ge hW k, fun _ => rfl⟩
        · cases ht
      · exact hT k t ht
    · rw [h, List.getElem?_set] at ht
      split at ht
      · rename_i e
        split at ht
        · injection ht with ht; subst ht
          have htu : turnedB m k = true := by
            unfold turnedB
            rw [List.any_eq_true]
            exact ⟨i, List.mem_of_getElem? hi, by simp [h10, e]⟩
          refine ⟨fun _ => ?_, fun hf => ?_⟩
          · rw [← e]; simp only; omega
          · rw [htu] at hf; cases hf
        · cases ht
      · exact hT k t ht
def codeL : List (Nat × Nat) → Nat
  | [] => 0
  | x :: l => x.1 + x.2 * codeL l
def radP : List Nat → Nat
  | [] => 1
  | r :: l => r * radP l
theorem codeL_lt : ∀ l : List (Nat × Nat), (∀ x ∈ l, x.1 < x.2) → codeL l < radP (l.map (·.2))
  | [], _ => by simp [codeL, radP]
  | x :: l, h => by
    have ih := codeL_lt l (fun y hy => h y (List.mem_cons_of_mem _ hy))
    have hx := h x (List.mem_cons_self ..)
    rw [codeL, List.map_cons, radP]
    have : x.2 * (codeL l + 1) ≤ x.2 * radP (l.map (·.2)) := Nat.mul_le_mul_left _ ih
    rw [Nat.mul_add] at this
    omega
theorem codeL_inj : ∀ l l' : List (Nat × Nat), l.map (·.2) = l'.map (·.2) → (∀ x ∈ l, x.1 < x.2) → (∀ x ∈ l', x.1 < x.2) → codeL l = codeL l' → l = l'
  | [], [], _, _, _, _ => rfl
  | [], _ :: _, h, _, _, _ => by simp at h
  | _ :: _, [], h, _, _, _ => by simp at h
  | x :: l, y :: l', h, h1, h2, he => by
    rw [List.map_cons, List.map_cons] at h
    injection h with hr h
    have hx := h1 x (List.mem_cons_self ..)
    have hy := h2 y (List.mem_cons_self ..)
    rw [codeL, codeL] at he
    obtain ⟨a, r⟩ := x
    obtain ⟨b, r'⟩ := y
    simp only at hr hx hy he
    subst hr
    have e1 : a = b := by
      have := congrArg (· % r) he
      simp only [Nat.add_mul_mod_self_left, Nat.mod_eq_of_lt hx, Nat.mod_eq_of_lt hy] at this
      exact this
    subst e1
    have e2 : codeL l = codeL l' := Nat.eq_of_mul_eq_mul_left (by omega) (Nat.add_left_cancel he)
    rw [codeL_inj l l' h (fun z hz => h1 z (List.mem_cons_of_mem _ hz)) (fun z hz => h2 z (List.mem_cons_of_mem _ hz)) e2]
theorem flat_inj {α β : Type} (f f' : α → List β) (n : Nat) : ∀ l : List α, (∀ g, (f g).length = n) → (∀ g, (f' g).length = n) → l.flatMap f = l.flatMap f' → ∀ g ∈ l, f g = f' g
  | [], _, _, _, g, hg => (by simp at hg)
  | x :: l, h1, h2, he, g, hg => by
    rw [List.flatMap_cons, List.flatMap_cons] at he
    obtain ⟨e1, e2⟩ := List.append_inj he (by rw [h1, h2])
    rcases List.mem_cons.1 hg with rfl | hg
    · exact e1
    · exact flat_inj f f' n l h1 h2 e2 g hg
def pd (m : Mc) (n : Nat) (c : Cf) (g : Nat) : List (Nat × Nat) :=
  [(if (lv m.live c.pc g).began then ((c.parts.getD g ⟨-1, -1, -1⟩).began + 1).toNat else 0, n + 2),
   (if (lv m.live c.pc g).part then ((c.parts.getD g ⟨-1, -1, -1⟩).frm + 1).toNat else 0, n + 2),
   (if (lv m.live c.pc g).part then ((c.parts.getD g ⟨-1, -1, -1⟩).til + 1).toNat else 0, n + 2)]
def rt (m : Mc) (k : Nat) : Nat := if turnedB m k then 2 * ((m.most.getD k 0).toNat + 1) else 1
def td (m : Mc) (c : Cf) (k : Nat) : Nat × Nat :=
  (if turnedB m k then (2 * (c.turns.getD k ⟨0, -1⟩).many + if (c.turns.getD k ⟨0, -1⟩).began = c.at_ then 1 else 0).toNat else 0, rt m k)
def digs (m : Mc) (n : Nat) (c : Cf) : List (Nat × Nat) :=
  (c.pc, m.ins.length) :: (c.at_, n + 1) :: ((List.range (nsS m)).flatMap (pd m n c) ++ (List.range m.most.length).map (td m c))
def rads (m : Mc) (n : Nat) : List Nat := m.ins.length :: (n + 1) :: ((List.range (nsS m)).flatMap (fun _ => [n + 2, n + 2, n + 2]) ++ (List.range m.most.length).map (rt m))
/-- How many keys there may be. -/
def keysN (m : Mc) (n : Nat) : Nat := radP (rads m n)
theorem digs_rads (m : Mc) (n : Nat) (c : Cf) : (digs m n c).map (·.2) = rads m n := by
  unfold digs rads
  rw [List.map_cons, List.map_cons, List.map_append, List.map_map, List.map_flatMap]
  rfl
/-- What a configuration is. -/
def GW (m : Mc) (n : Nat) (c : Cf) : Prop := CW m n c ∧ TB m c
theorem on_GW {m : Mc} {L : List UInt8} (hW : MW m) : ∀ c, GW m L.length c → ∀ d, d ∈ onS m L c → GW m L.length d := fun c hc d hd => ⟨on_CW hW hc.1 d hd, on_TB hW hc.2 hd⟩
theorem digs_lt {m : Mc} {n : Nat} {c : Cf} (hW : MW m) (h : GW m n c) : ∀ x ∈ digs m n c, x.1 < x.2 := by
  intro x hx
  unfold digs at hx
  rcases List.mem_cons.1 hx with rfl | hx
  · exact h.1.pc
  rcases List.mem_cons.1 hx with rfl | hx
  · exact Nat.lt_succ_of_le h.1.at_
  rcases List.mem_append.1 hx with hx | hx
  · obtain ⟨g, hg, hx⟩ := List.mem_flatMap.1 hx
    have hp : (c.parts.getD g ⟨-1, -1, -1⟩).began ≤ c.at_ ∧ (c.parts.getD g ⟨-1, -1, -1⟩).frm ≤ c.at_ ∧ (c.parts.getD g ⟨-1, -1, -1⟩).til ≤ c.at_ := by
      rw [List.getD_eq_getElem?_getD]
      cases hq : c.parts[g]? with
      | none => simp only [Option.getD_none]; omega
      | some p => have := h.1.p p (List.mem_of_getElem? hq); simp only [Option.getD_some]; omega
    have hat := h.1.at_
    unfold pd at hx
    simp only [List.mem_cons, List.not_mem_nil, or_false] at hx
    rcases hx with rfl | rfl | rfl <;> simp only <;> split <;> omega
  · obtain ⟨k, hk, rfl⟩ := List.mem_map.1 hx
    rw [List.mem_range] at hk
    unfold td rt
    simp only
    split
    · rename_i hb
      obtain ⟨t, ht⟩ : ∃ t, c.turns[k]? = some t := ⟨_, List.getElem?_eq_getElem (by rw [h.1.nt]; exact hk)⟩
      rw [List.getD_eq_getElem?_getD, ht]
      have h1 := (h.2 k t ht).1 hb
      have h2 := (h.1.t t (List.mem_of_getElem? ht)).1
      have h3 := most_ge hW k
      simp only [Option.getD_some]
      split <;> omega
    · omega
theorem digs_eqv {m : Mc} {n : Nat} {c c' : Cf} (hW : MW m) (h : GW m n c) (h' : GW m n c') (he : digs m n c = digs m n c') : Eqv m c c' := by
  unfold digs at he
  injection he with e1 he
  injection he with e2 he
  injection e1 with e1 _
  injection e2 with e2 _
  obtain ⟨e3, e4⟩ := List.append_inj' he (by simp)
  have hnp : c.parts.length = c'.parts.length := by rw [h.1.np, h'.1.np]
  have hnt : c.turns.length = c'.turns.length := by rw [h.1.nt, h'.1.nt]
  refine ⟨e1, e2, hnp, hnt, fun g p p' hp hp' => ?_, fun k t t' ht ht' => ?_⟩
  · have hg : g < nsS m := by have := (List.getElem?_eq_some_iff.1 hp).1; have := h.1.np; omega
    have hpd := flat_inj _ _ 3 _ (fun _ => rfl) (fun _ => rfl) e3 g (List.mem_range.2 hg)
    unfold pd at hpd
    rw [List.getD_eq_getElem?_getD, List.getD_eq_getElem?_getD, hp, hp', ← e1] at hpd
    simp only [Option.getD_some] at hpd
    injection hpd with q1 hpd
    injection hpd with q2 hpd
    injection hpd with q3 hpd
    injection q1 with q1 _
    injection q2 with q2 _
    injection q3 with q3 _
    have b1 := h.1.p p (List.mem_of_getElem? hp)
    have b2 := h'.1.p p' (List.mem_of_getElem? hp')
    refine ⟨fun hb => ?_, fun hb => ?_⟩
    · rw [if_pos hb, if_pos hb] at q1; omega
    · rw [if_pos hb, if_pos hb] at q2 q3; omega
  · have hk : k < m.most.length := by have := (List.getElem?_eq_some_iff.1 ht).1; have := h.1.nt; omega
    have htd : td m c k = td m c' k := List.map_inj_left.1 e4 k (List.mem_range.2 hk)
    unfold td at htd
    rw [List.getD_eq_getElem?_getD, List.getD_eq_getElem?_getD, ht, ht', ← e2] at htd
    simp only [Option.getD_some] at htd
    injection htd with q1 _
    have b1 := h.1.t t (List.mem_of_getElem? ht)
    have b2 := h'.1.t t' (List.mem_of_getElem? ht')
    cases hb : turnedB m k with
    | true =>
      rw [hb] at q1
      simp only [if_true] at q1
      by_cases g1 : t.began = c.at_ <;> by_cases g2 : t'.began = c.at_
      · rw [if_pos g1, if_pos g2] at q1
        exact ⟨by omega, by simp [g1, g2]⟩
      · rw [if_pos g1, if_neg g2] at q1; omega
      · rw [if_neg g1, if_pos g2] at q1; omega
      · rw [if_neg g1, if_neg g2] at q1
        exact ⟨by omega, by simp [g1, g2]⟩
    | false =>
      have r1 := (h.2 k t ht).2 hb
      have r2 := (h'.2 k t' ht').2 hb
      rw [r1, r2]
      exact ⟨rfl, Iff.rfl⟩
theorem code_key {m : Mc} {n : Nat} (hW : MW m) (hn : n ≤ 900000) (c c' : Cf) (h : GW m n c) (h' : GW m n c') (he : codeL (digs m n c) = codeL (digs m n c')) : keyS m c = keyS m c' :=
  (key_eqv hW hn h.1 h'.1).2 (digs_eqv hW h h' (codeL_inj _ _ (by rw [digs_rads, digs_rads]) (digs_lt hW h) (digs_lt hW h') he))
theorem code_lt {m : Mc} {n : Nat} (hW : MW m) (c : Cf) (h : GW m n c) : codeL (digs m n c) < keysN m n := by
  have := codeL_lt _ (digs_lt hW h)
  rwa [digs_rads] at this
theorem start_GW {m : Mc} {N at_ : Nat} (hW : MW m) (hin : 0 < m.ins.length) (hat : at_ ≤ N) : GW m N (startS m at_) := by
  refine ⟨start_CW hin hat, fun k t ht => ?_⟩
  have := List.mem_of_getElem? ht
  obtain ⟨_, _, rfl⟩ := List.mem_map.1 this
  exact ⟨fun _ => most_ge hW k, fun _ => rfl⟩
/-- Nothing is forgotten by the tallies. -/
theorem run_mono {m : Mc} {L : List UInt8} : ∀ (f : Nat) (p : List Fr) (rn r : Rn), runS m L f p rn = some r → rn.steps ≤ r.steps ∧ rn.kept ≤ r.kept ∧ (m.plain = true → r.kept = rn.kept)
  | f, [], rn, r, h => by
    have : rn = r := by cases f <;> (simp [runS] at h; exact h)
    subst this
    exact ⟨Nat.le_refl _, Nat.le_refl _, fun _ => rfl⟩
  | 0, _ :: _, rn, r, h => by simp [runS] at h
  | f + 1, .leave k :: p, rn, r, h => by
    rw [runS] at h
    have := run_mono f p _ r h
    exact this
  | f + 1, .look c :: p, rn, r, h => by
    rw [runS] at h
    split at h
    · have ih := run_mono f p _ r h
      simp only at ih
      exact ⟨by omega, ih.2.1, ih.2.2⟩
    · have ih := run_mono f _ _ r h
      simp only at ih
      refine ⟨by omega, ?_, fun hp => ?_⟩
      · have := ih.2.1
        split at this <;> omega
      · rw [ih.2.2 hp, if_pos hp]
theorem run_counts {m : Mc} {L : List UInt8} (hpl : m.plain = false) (Good : Cf → Prop) (hG : ∀ c, Good c → ∀ d, d ∈ onS m L c → Good d) (N : Nat) (code : Cf → Nat) (hc : ∀ c, Good c → code c < N)
    (hinj : ∀ c c', Good c → Good c' → code c = code c' → keyS m c = keyS m c') :
    ∀ (f : Nat) (p : List Fr) (rn : Rn) (cs : List Cf), (∀ c, .look c ∈ p → Good c) → (∀ k, .leave k ∉ p) → rn.seen = cs.map (keyS m) → (∀ c ∈ cs, Good c) → rn.seen.Nodup → p.length + 2 * (N - cs.length) ≤ f →
      ∃ r, runS m L f p rn = some r ∧ r.steps ≤ rn.steps + p.length + 2 * (N - cs.length)
  | f, [], rn, cs, _, _, _, _, _, _ => ⟨rn, by cases f <;> rfl, by omega⟩
  | 0, _ :: _, rn, cs, _, _, _, _, _, h => by simp at h
  | f + 1, .leave k :: p, rn, cs, _, hl, _, _, _, _ => absurd (List.mem_cons_self ..) (hl k)
  | f + 1, .look c :: p, rn, cs, hp, hl, hs, hg, hn, hf => by
    rw [runS]
    have hgc := hp c (List.mem_cons_self ..)
    rw [List.length_cons] at hf
    split
    · obtain ⟨r, h1, h2⟩ := run_counts hpl Good hG N code hc hinj f p { rn with steps := rn.steps + 1 } cs (fun d hd => hp d (List.mem_cons_of_mem _ hd)) (fun k hk => hl k (List.mem_cons_of_mem _ hk)) hs hg hn (by omega)
      refine ⟨r, h1, ?_⟩
      simp only at h2
      rw [List.length_cons]
      omega
    · rename_i hno
      simp only [hpl, Bool.false_eq_true, if_false]
      have hn2 : (keyS m c :: rn.seen).Nodup := List.nodup_cons.2 ⟨hno, hn⟩
      have hnc : ((c :: cs).map code).Nodup := by
        have : ∀ l : List Cf, (∀ x ∈ l, Good x) → (l.map (keyS m)).Nodup → (l.map code).Nodup := by
          intro l
          induction l with
          | nil => intro _ _; simp
          | cons x l ih =>
            intro hgl hnl
            rw [List.map_cons, List.nodup_cons] at hnl ⊢
            refine ⟨fun hm => hnl.1 ?_, ih (fun y hy => hgl y (List.mem_cons_of_mem _ hy)) hnl.2⟩
            obtain ⟨y, hy, hey⟩ := List.mem_map.1 hm
            exact List.mem_map.2 ⟨y, hy, hinj y x (hgl y (List.mem_cons_of_mem _ hy)) (hgl x (List.mem_cons_self ..)) hey⟩
        refine this (c :: cs) (fun x hx => ?_) (by rw [List.map_cons, ← hs]; exact hn2)
        rcases List.mem_cons.1 hx with rfl | hx
        · exact hgc
        · exact hg x hx
      have hlen := nodup_lt N _ hnc (fun x hx => by
        obtain ⟨y, hy, rfl⟩ := List.mem_map.1 hx
        rcases List.mem_cons.1 hy with rfl | hy
        · exact hc _ hgc
        · exact hc _ (hg y hy))
      rw [List.length_map, List.length_cons] at hlen
      have hon := on_len m L c
      obtain ⟨r, h1, h2⟩ := run_counts hpl Good hG N code hc hinj f ((onS m L c).reverse.map .look ++ p) ⟨keyS m c :: rn.seen, rn.steps + 1, max rn.kept (rn.seen.length + 1), hitS m c rn.best⟩ (c :: cs)
        (fun d hd => by
          rcases List.mem_append.1 hd with hd | hd
          · obtain ⟨d', q1, q2⟩ := List.mem_map.1 hd
            injection q2 with q2; subst q2
            exact hG c hgc _ (List.mem_reverse.1 q1)
          · exact hp d (List.mem_cons_of_mem _ hd))
        (fun k hk => by
          rcases List.mem_append.1 hk with hk | hk
          · obtain ⟨d', q1, q2⟩ := List.mem_map.1 hk
            cases q2
          · exact hl k (List.mem_cons_of_mem _ hk))
        (by rw [List.map_cons, ← hs]) (fun x hx => by
          rcases List.mem_cons.1 hx with rfl | hx
          · exact hgc
          · exact hg x hx) hn2 (by simp only [List.length_append, List.length_map, List.length_reverse, List.length_cons]; omega)
      refine ⟨r, h1, ?_⟩
      simp only [List.length_append, List.length_map, List.length_reverse, List.length_cons] at h2 ⊢
      omega
/-- A machine that remembers comes to its end. -/
theorem ran_counts {m : Mc} {L : List UInt8} {f at_ st kp : Nat} (hW : MW m) (hpl : m.plain = false) (hL : L.length ≤ 900000) (hin : 0 < m.ins.length) (hat : at_ ≤ L.length) (hf : 1 + 2 * keysN m L.length ≤ f) :
    ∃ r, ranS m L f at_ st kp = some r ∧ r.steps ≤ st + 1 + 2 * keysN m L.length ∧ 1 ≤ r.kept := by
  unfold ranS
  obtain ⟨r, h1, h2⟩ := run_counts hpl (GW m L.length) (on_GW hW) (keysN m L.length) (fun c => codeL (digs m L.length c)) (fun c hc => code_lt hW c hc) (fun c c' h h' he => code_key hW hL c c' h h' he) f [.look (startS m at_)] ⟨[], st, kp, none⟩ [] (fun c hc => by rw [List.mem_singleton] at hc; injection hc with hc; subst hc; exact start_GW hW hin hat) (fun k hk => by simp at hk) rfl (fun c hc => (by simp at hc)) List.nodup_nil (by simpa using hf)
  refine ⟨r, h1, by simpa using h2, ?_⟩
  cases f with
  | zero => omega
  | succ f =>
    rw [runS, if_neg (by simp)] at h1
    have := (run_mono _ _ _ _ h1).2.1
    simp only [hpl, Bool.false_eq_true, if_false, List.length_nil] at this
    omega
end Go.Proofs.Ytoadmpochaeohaa
end

section
set_option linter.unusedVariables false
set_option linter.unusedSimpArgs false
set_option maxRecDepth 100000
namespace Go.Proofs.Ytoadmpochaeohaa
open Go.RowKit

/-- A machine goes on as reference 14 does; it begins so. -/
theorem sim_abs {ins : List Ins} {gr co : Nat} {fo pl : Bool} {t : Nat} {L : List UInt8} (hr : rightE ins gr co = 0) :
    (∀ c, LR gr co c → onS (mOf ins gr co fo pl t) L (absC (mOf ins gr co fo pl t) c) = (nextR ins fo L (refsN ins gr) c).map (absC (mOf ins gr co fo pl t))) ∧ ∀ a, absC (mOf ins gr co fo pl t) (c0R gr co a) = startS (mOf ins gr co fo pl t) a := by
  obtain ⟨r1, r2, r3, r4, r5⟩ := right_ok hr
  have hfi : ∀ (k : Nat) (i : Ins), ins[k]? = some i → FineI ins.length gr co k i := fun k i hi => fine_ok (r5 k i hi)
  have h8 : ∀ i ∈ ins, i.op = 8 → 0 ≤ i.n ∧ i.n < gr := fun i hi h => by
    obtain ⟨q, hq, e⟩ := List.getElem_of_mem hi
    exact (e ▸ hfi q _ (List.getElem?_eq_getElem hq) : FineI _ _ _ _ i).g (.inr (.inr h))
  have h10 : ∀ i ∈ ins, i.op = 10 → 0 ≤ i.mn ∧ i.mn ≤ 255 ∧ i.mx ≤ 255 := fun i hi h => by
    obtain ⟨q, hq, e⟩ := List.getElem_of_mem hi
    have := (e ▸ hfi q _ (List.getElem?_eq_getElem hq) : FineI _ _ _ _ i).b h
    omega
  have hS := slotN_R h8
  obtain ⟨s1, _, _⟩ := slotP_inv ins _ _ (slI0 gr) h8
  have hcnt : (slotP ins (List.replicate gr (-1)) 0).2 = ((nsS (mOf ins gr co fo pl t) : Nat) : Int) := s1.cnt.symm
  obtain ⟨ml, mb⟩ := mostP_inv ins (List.replicate co 0) h10 (fun v hv => by rw [List.eq_of_mem_replicate hv]; omega)
  rw [List.length_replicate] at ml
  have hm0 : ∀ k, 0 ≤ (mostN ins co).getD k 0 := fun k => by
    rw [List.getD_eq_getElem?_getD]
    cases hq : (mostN ins co)[k]? with
    | none => simp
    | some v => exact (mb v (List.mem_of_getElem? hq)).1
  constructor
  · intro c hc
    exact on_abs (m := mOf ins gr co fo pl t) (ins := ins) (gr := gr) (co := co) (refs := refsN ins gr) rfl hS (fun v hv h0 => by have := hS.bd v hv; omega) (fun j hj => hS.sur j (by omega)) ml hm0
      (fun i hi h => by
        obtain ⟨q, hq, e⟩ := List.getElem_of_mem hi
        have hc := (e ▸ hfi q _ (List.getElem?_eq_getElem hq) : FineI _ _ _ _ i).c (.inr h)
        exact (mostP_ge ins (List.replicate co 0) i.n.toNat (by rw [List.length_replicate]; omega)).2 i hi h rfl) hfi (refs_of h8) hc
  · intro a
    unfold absC startS
    have p1 : (List.range (nsS (mOf ins gr co fo pl t))).map (ptOf (mOf ins gr co fo pl t).slot (c0R gr co a)) = ((mOf ins gr co fo pl t).slot.filter (0 ≤ ·)).map fun _ => ⟨-1, -1, -1⟩ := by
      have e1 : ∀ j, ptOf (mOf ins gr co fo pl t).slot (c0R gr co a) j = ⟨-1, -1, -1⟩ := fun j => by
        have rep : ∀ (n g : Nat), (List.replicate n (-1 : Int)).getD g (-1) = -1 := fun n g => by
          rw [List.getD_eq_getElem?_getD, List.getElem?_replicate]; split <;> rfl
        unfold ptOf c0R
        simp only [rep]
      apply List.ext_getElem?
      intro j
      rw [List.getElem?_map, List.getElem?_map]
      by_cases hj : j < nsS (mOf ins gr co fo pl t)
      · rw [List.getElem?_range hj, Option.map_some, e1, List.getElem?_eq_getElem hj]; rfl
      · rw [List.getElem?_eq_none (by simp; omega), List.getElem?_eq_none (by unfold nsS at hj; omega)]; rfl
    have p2 : (List.range (mOf ins gr co fo pl t).most.length).map (tnOf (mOf ins gr co fo pl t).most (c0R gr co a)) = (mOf ins gr co fo pl t).most.map fun _ => ⟨0, -1⟩ := by
      apply List.ext_getElem?
      intro j
      rw [List.getElem?_map, List.getElem?_map]
      by_cases hj : j < (mOf ins gr co fo pl t).most.length
      · rw [List.getElem?_range hj, Option.map_some, List.getElem?_eq_getElem hj]
        have hz := hm0 j
        unfold tnOf c0R
        simp only [Option.map_some, Option.some.injEq]
        have q1 : (List.replicate co (0 : Int)).getD j 0 = 0 := by rw [List.getD_eq_getElem?_getD, List.getElem?_replicate]; split <;> rfl
        have q2 : (List.replicate co (-1 : Int)).getD j (-1) = -1 := by rw [List.getD_eq_getElem?_getD, List.getElem?_replicate]; split <;> rfl
        rw [q1, q2]
        congr 1
        show min 0 ((mostN ins co).getD j 0) = 0
        omega
      · rw [List.getElem?_eq_none (by simp; omega), List.getElem?_eq_none (by omega)]; rfl
    rw [p1, p2]
    rfl
theorem hit_abs (m : Mc) (c : RC) : isHit m (absC m c) = hitR m.ins c := rfl
section
variable {ins : List Ins} {gr co : Nat} {fo pl : Bool} {t : Nat} {L : List UInt8} {a : Nat}
theorem rr_lr {c : RC} (h : RReach (nextR ins fo L (refsN ins gr)) (c0R gr co a) c) : LR gr co c := by
  induction h with
  | refl => exact c0_LR gr co a
  | step _ hd ih => exact next_LR ih hd
theorem reach_rr (hr : rightE ins gr co = 0) {c : Cf} (h : Reach (mOf ins gr co fo pl t) L (startS (mOf ins gr co fo pl t) a) c) : ∃ rc, RReach (nextR ins fo L (refsN ins gr)) (c0R gr co a) rc ∧ absC (mOf ins gr co fo pl t) rc = c := by
  obtain ⟨s1, s2⟩ := sim_abs (fo := fo) (pl := pl) (t := t) (L := L) hr
  induction h with
  | refl => exact ⟨_, .refl, s2 a⟩
  | step _ hd ih =>
    obtain ⟨rc, h1, rfl⟩ := ih
    rw [s1 rc (rr_lr h1)] at hd
    obtain ⟨d', h2, rfl⟩ := List.mem_map.1 hd
    exact ⟨d', .step h1 h2, rfl⟩
theorem rr_reach (hr : rightE ins gr co = 0) {rc : RC} (h : RReach (nextR ins fo L (refsN ins gr)) (c0R gr co a) rc) : Reach (mOf ins gr co fo pl t) L (startS (mOf ins gr co fo pl t) a) (absC (mOf ins gr co fo pl t) rc) := by
  obtain ⟨s1, s2⟩ := sim_abs (fo := fo) (pl := pl) (t := t) (L := L) hr
  induction h with
  | refl => rw [s2 a]; exact .refl
  | step h1 hd ih => exact .step ih (by rw [s1 _ (rr_lr h1)]; exact List.mem_map.2 ⟨_, hd, rfl⟩)
/-- The greatest place of some. -/
structure LastIs (outs : List Bool) (o : Option Nat) : Prop where
  is : ∀ e, o = some e → outs[e]? = some true
  ge : ∀ e, outs[e]? = some true → atLeast o e
theorem last_unique {outs : List Bool} {o o' : Option Nat} (h : LastIs outs o) (h' : LastIs outs o') : o = o' := by
  cases o with
  | none =>
    cases o' with
    | none => rfl
    | some e => obtain ⟨x, hx, _⟩ := h.ge e (h'.is e rfl); cases hx
  | some e =>
    obtain ⟨x, hx, hx2⟩ := h'.ge e (h.is e rfl)
    subst hx
    obtain ⟨y, hy, hy2⟩ := h.ge x (h'.is x rfl)
    injection hy with hy
    congr 1
    omega
/-- The machine's answer is the greatest place. -/
theorem best_last (hr : rightE ins gr co = 0) {cs : List RC} {outs : List Bool} (hA : AllR (nextR ins fo L (refsN ins gr)) (hitR ins) (c0R gr co a) gr co cs outs) {o : Option Nat} (hB : BestIs (mOf ins gr co fo pl t) L a o) : LastIs outs o := by
  refine ⟨fun e he => ?_, fun e he => ?_⟩
  · obtain ⟨c, h1, h2, h3⟩ := hB.1 e he
    obtain ⟨rc, h4, rfl⟩ := reach_rr hr h1
    exact (hA.p.out e).2 ⟨rc, hA.has rc h4, h3, h2⟩
  · obtain ⟨rc, h1, rfl, h3⟩ := (hA.p.out e).1 he
    exact hB.2 _ (rr_reach hr (hA.p.good rc (.inl h1)).2) h3
/-- Few configurations from a place. -/
def FewAt (ins : List Ins) (gr co : Nat) (fo : Bool) (L : List UInt8) (a : Nat) : Prop := ∃ (cs : List RC) (outs : List Bool), cs.length ≤ 4000 ∧ AllR (nextR ins fo L (refsN ins gr)) (hitR ins) (c0R gr co a) gr co cs outs
/-- Where they are few, there are not more than so many. -/
theorem few_not (h : FewAt ins gr co fo L a) {cs : List RC} (h1 : cs.Nodup) (h2 : ∀ c ∈ cs, RReach (nextR ins fo L (refsN ins gr)) (c0R gr co a) c) (h3 : 4000 < cs.length) : False := by
  obtain ⟨cs', outs, g1, g2⟩ := h
  have := nodup_sub cs cs' h1 (fun c hc => g2.has c (h2 c hc))
  omega
/-- A machine that remembers comes to its end where there are few. -/
theorem few_run (hr : rightE ins gr co = 0) (hst : sweepM ins (slotN ins gr) (nsN ins gr) ins.length (iterM (sweepM ins (slotN ins gr) (nsN ins gr) ins.length) t (live0 ins.length (nsN ins gr))) = iterM (sweepM ins (slotN ins gr) (nsN ins gr) ins.length) t (live0 ins.length (nsN ins gr)))
    (h : FewAt ins gr co fo L a) (st kp : Nat) : ∃ r, ranS (mOf ins gr co fo false t) L 8001 a st kp = some r ∧ r.steps ≤ st + 8001 := by
  obtain ⟨cs, outs, hl, hA⟩ := h
  obtain ⟨s1, s2⟩ := sim_abs (fo := fo) (pl := false) (t := t) (L := L) hr
  obtain ⟨m, hm⟩ : ∃ m, mOf ins gr co fo false t = m := ⟨_, rfl⟩
  rw [hm] at s1 s2 ⊢
  have hpl : m.plain = false := by rw [← hm]; rfl
  have hx : ∀ c, (∃ rc ∈ cs, absC m rc = c) → ∃ h : cs.findIdx (fun rc => decide (absC m rc = c)) < cs.length, absC m cs[cs.findIdx (fun rc => decide (absC m rc = c))] = c := fun c ⟨rc, h1, h2⟩ => by
    have hlt : cs.findIdx (fun rc => decide (absC m rc = c)) < cs.length := List.findIdx_lt_length_of_exists ⟨rc, h1, by simpa using h2⟩
    exact ⟨hlt, by simpa using List.findIdx_getElem (w := hlt)⟩
  obtain ⟨r, h1, h2⟩ := run_counts (m := m) (L := L) hpl (fun c => ∃ rc ∈ cs, absC m rc = c)
    (fun c ⟨rc, q1, q2⟩ d hd => by
      subst q2
      rw [s1 rc (hA.p.good rc (.inl q1)).1.1] at hd
      obtain ⟨d', q3, q4⟩ := List.mem_map.1 hd
      exact ⟨d', (hA.p.clo rc q1 d' q3).elim id (fun x => by cases x), q4⟩)
    cs.length (fun c => cs.findIdx (fun rc => decide (absC m rc = c))) (fun c hc => (hx c hc).1)
    (fun c c' hc hc' e => by
      obtain ⟨q1, q2⟩ := hx c hc
      obtain ⟨q3, q4⟩ := hx c' hc'
      have : c = c' := by
        rw [← q2, ← q4]
        simp only [e]
      rw [this])
    8001 [.look (startS m a)] ⟨[], st, kp, none⟩ [] (fun c hc => by
      rw [List.mem_singleton] at hc; injection hc with hc; subst hc
      exact ⟨c0R gr co a, hA.has _ .refl, s2 a⟩) (fun k hk => by simp at hk) rfl (fun c hc => by cases hc) List.nodup_nil (by simp; omega)
  exact ⟨r, h1, by simp at h2; omega⟩
/-- What is answered from a place. -/
structure Ans (ins : List Ins) (gr co : Nat) (fo : Bool) (L : List UInt8) (a : Nat) (o : Option Nat) : Prop where
  few : FewAt ins gr co fo L a
  last : ∀ (cs : List RC) (outs : List Bool), AllR (nextR ins fo L (refsN ins gr)) (hitR ins) (c0R gr co a) gr co cs outs → LastIs outs o
/-- Every machine that stands answers it. -/
theorem ans_run (hr : rightE ins gr co = 0) (hN : L.length ≤ 100000) (hat : a ≤ L.length) (h : FewAt ins gr co fo L a)
    (t0 : Nat) (h0 : sweepM ins (slotN ins gr) (nsN ins gr) ins.length (iterM (sweepM ins (slotN ins gr) (nsN ins gr) ins.length) t0 (live0 ins.length (nsN ins gr))) = iterM (sweepM ins (slotN ins gr) (nsN ins gr) ins.length) t0 (live0 ins.length (nsN ins gr))) :
    ∃ o, Ans ins gr co fo L a o ∧ ∀ (pl : Bool), (pl = true → manyR ins fo L gr co 2000 a ≤ 2000) → ∀ (st kp : Nat), ∃ r, ranS (mOf ins gr co fo pl t0) L 8001 a st kp = some r ∧ r.best = o ∧ st ≤ r.steps ∧ r.steps ≤ st + 8001 ∧ (kp ≤ r.kept ∧ r.kept ≤ max kp 8001) ∧ (pl = true → r.kept = kp) ∧ (pl = false → r.steps ≤ st + (1 + 2 * keysN (mOf ins gr co fo pl t0) L.length)) := by
  obtain ⟨r1, _, _, r4, _⟩ := right_ok hr
  have hW : ∀ pl t, MW (mOf ins gr co fo pl t) := fun pl t => new_MW hr (iterM_post (live0_shp _ _) (live0_post _ _ _ _) _).1
  obtain ⟨r0, hr0, _⟩ := few_run hr h0 h 0 0
  have b0 : BestIs (mOf ins gr co fo false t0) L a r0.best := ran_answer (hW false t0) (stop_full h0) (by omega) r4 hat hr0
  refine ⟨r0.best, ⟨h, fun cs outs hA => best_last hr hA b0⟩, fun pl hfew st kp => ?_⟩
  have fin : ∀ r, ranS (mOf ins gr co fo pl t0) L 8001 a st kp = some r → r.best = r0.best ∧ st ≤ r.steps ∧ (kp ≤ r.kept ∧ r.kept ≤ max kp 8001) ∧ (pl = true → r.kept = kp) := fun r hrr => by
    have hbd := run_bound _ _ _ _ hrr
    simp only [List.length_nil, Nat.zero_add] at hbd
    have b1 : BestIs (mOf ins gr co fo pl t0) L a r.best := ran_answer (hW pl t0) (stop_full h0) (by omega) r4 hat hrr
    obtain ⟨m1, m2, m3⟩ := run_mono _ _ _ _ hrr
    exact ⟨best_unique (best_same (m := mOf ins gr co fo pl t0) (m' := mOf ins gr co fo false t0) rfl rfl rfl rfl b1) b0, m1, ⟨m2, by omega⟩, m3⟩
  cases pl with
  | true =>
    obtain ⟨r, hrr⟩ := few_ends (fo := fo) (pl := true) (t := t0) (st := st) (kp := kp) hr hN hat (hfew rfl)
    have hbd := run_bound _ _ _ _ hrr
    simp only [List.length_nil, Nat.zero_add] at hbd
    have hr2 : ranS (mOf ins gr co fo true t0) L 8001 a st kp = some r := run_more 5000 _ _ r 3001 hrr
    obtain ⟨f1, f2, f3, f4⟩ := fin r hr2
    exact ⟨r, hr2, f1, f2, by omega, f3, f4, fun h => by cases h⟩
  | false =>
    obtain ⟨r, hrr, hs⟩ := few_run hr h0 h st kp
    obtain ⟨f1, f2, f3, f4⟩ := fin r hrr
    refine ⟨r, hrr, f1, f2, hs, f3, f4, fun _ => ?_⟩
    obtain ⟨r', g1, g2, _⟩ := ran_counts (f := 1 + 2 * keysN (mOf ins gr co fo false t0) L.length) (st := st) (kp := kp) (hW false t0) rfl (by omega) r4 hat (Nat.le_refl _)
    have e1 : ranS (mOf ins gr co fo false t0) L (8001 + (1 + 2 * keysN (mOf ins gr co fo false t0) L.length)) a st kp = some r := run_more 8001 _ _ r _ hrr
    have e2 : ranS (mOf ins gr co fo false t0) L (1 + 2 * keysN (mOf ins gr co fo false t0) L.length + 8001) a st kp = some r' := run_more _ _ _ r' 8001 g1
    rw [Nat.add_comm] at e1
    rw [e1] at e2
    injection e2 with e2
    subst e2
    omega
end
/-- Find, with what is counted. -/
theorem find_counts {m : Mc} {L : List UInt8} {o : Nat → Option Nat} {F M Q : Nat} {pl : Prop} : ∀ (n a st kp : Nat), (∀ b, a ≤ b → b < a + n → ∀ st kp, ∃ r, ranS m L F b st kp = some r ∧ r.best = o b ∧ st ≤ r.steps ∧ r.steps ≤ st + M ∧ (kp ≤ r.kept ∧ r.kept ≤ max kp Q) ∧ (pl → r.kept = kp)) →
    ∃ s k, findR m L F n a st kp = some (firstO o n a, s, k) ∧ st ≤ s ∧ s ≤ st + n * M ∧ (kp ≤ k ∧ k ≤ max kp Q) ∧ (pl → k = kp)
  | 0, a, st, kp, _ => ⟨st, kp, rfl, by omega, by omega, ⟨by omega, by omega⟩, fun _ => rfl⟩
  | n + 1, a, st, kp, h => by
    obtain ⟨r, h1, h2, h3, h4, h5, h6⟩ := h a (Nat.le_refl _) (by omega) st kp
    have hmul : (n + 1) * M = n * M + M := by rw [Nat.add_mul, Nat.one_mul]
    rw [findR, h1, firstO]
    simp only
    rw [h2]
    cases ho : o a with
    | some e => exact ⟨r.steps, r.kept, rfl, h3, by omega, h5, h6⟩
    | none =>
      obtain ⟨s, k, q1, q2, q3, q4, q5⟩ := find_counts (pl := pl) (M := M) (Q := Q) n (a + 1) r.steps r.kept (fun b hb1 hb2 => h b (by omega) (by omega))
      exact ⟨s, k, q1, by omega, by omega, ⟨by omega, by omega⟩, fun hp => by rw [q5 hp, h6 hp]⟩
end Go.Proofs.Ytoadmpochaeohaa
end

section
set_option linter.unusedVariables false
set_option linter.unusedSimpArgs false
set_option maxRecDepth 100000
namespace Go.Proofs.Ytoadmpochaeohaa
open Go.RowKit

/-- Few, from one place; plain too, if that is asked. -/
structure TmA (ins : List Ins) (gr co : Nat) (fo : Bool) (L : List UInt8) (pl : Bool) (a : Nat) : Prop where
  few : FewAt ins gr co fo L a
  ways : pl = true → manyR ins fo L gr co 2000 a ≤ 2000
/-- Where tame says yes. -/
def tameAll (ins : List Ins) (gr co : Nat) (fo : Bool) (L : List UInt8) (pl fd : Bool) (at_ : Nat) : Prop := ∀ a, at_ ≤ a → a ≤ L.length → (fd = false → a = at_) → TmA ins gr co fo L pl a
def TmX (w : World) (ins : List Ins) (gr co : Nat) (fo : Bool) (L : List UInt8) (pl fd : Bool) (at_ : Nat) (e : Ending) (w' : World) : Prop := (e = .returned (.bool false) ∨ (e = .returned (.bool true) ∧ tameAll ins gr co fo L pl fd at_)) ∧ Frm (fun _ => False) w w'
set_option maxHeartbeats 8000000 in
theorem tameX (A : Option Addr) (n cp gr co : Nat) (fo pl fd : Bool) (ins : List Ins) (line : ByteArray) (at0 : Nat) (G : Nat → Prop) (w : World) (hrd : Rd w G 10 A n cp (flatI ins)) (hr : rightE ins gr co = 0) (hok : ∀ i ∈ ins, i.ok) (hat : at0 ≤ line.size + 1) (hN : line.size ≤ 100000) :
    Calls Try.prog 17 #[.agg #[.slice A n cp, .int .i64 gr, .int .i64 co, .bool fo], .bool pl, .agg #[.string line, .int .i64 at0, .bool fd]] w (TmX w ins gr co fo line.toList pl fd at0) := by
  obtain ⟨PO, hPO⟩ : ∃ PO, TmX w ins gr co fo line.toList pl fd at0 = PO := ⟨_, rfl⟩
  rw [hPO]
  have HPO := Lib.hid hPO
  have HR := Lib.hid (⟨hr, hok⟩ : _ ∧ _)
  have hlb : line.toList.length = line.size := by rw [ByteArray.toList_eq]; simp
  have HLB := Lib.hid hlb
  obtain ⟨hP, hQ, hf0⟩ := twoT w [.slice A n cp, .int .i64 gr, .int .i64 co, .bool fo] [.string line, .int .i64 at0, .bool fd] 24 41
  have hrd1 := hrd.low.frm hf0 (fun _ _ h => h)
  clear hPO hr hok hrd hlb
  go_enter Try.func17, Try.ntmps17
  go_upto_region 1 with fail
  generalize (w.alloc (.cells #[.slice A n cp, .int .i64 gr, .int .i64 co, .bool fo] 24)).alloc (.cells #[.string line, .int .i64 at0, .bool fd] 41) = w1 at *
  obtain ⟨bP, hbP⟩ : ∃ b, w.heap.size = b := ⟨_, rfl⟩
  obtain ⟨bQ, hbQ⟩ : ∃ b, w.heap.size + 1 = b := ⟨_, rfl⟩
  simp only [hbQ] at hQ ⊢
  simp only [hbP] at hP hrd1 ⊢
  have HBP := Lib.hid (⟨hbP, hbQ⟩ : _ ∧ _)
  clear hbP hbQ
  have q1 := hQ.cell 1
  simp only [List.getElem?_cons_zero, List.getElem?_cons_succ] at q1
  have lq := hQ.lt
  have HM := Lib.hid (⟨hP, hQ, hrd1, hf0⟩ : _ ∧ _ ∧ _ ∧ _)
  clear hP hQ hrd1 hf0
  go_wp2_with fail
  clear q1 lq
  go_loopw [7] (fun i wr => ∃ a : Nat, i = .int .i64 a ∧ at0 ≤ a ∧ a ≤ line.size + 1 ∧ Hid ((fd = false → a = at0) ∧ ∀ b, at0 ≤ b → b < a → TmA ins gr co fo line.toList pl b) ∧ Frm (fun _ => False) w1 wr) (fun i _ => line.size + 1 - (intOf i).toNat)
  case atStart => exact ⟨at0, rfl, Nat.le_refl _, hat, Lib.hid ⟨fun _ => rfl, fun b h1 h2 => by omega⟩, Frm.refl _ _⟩
  case round =>
    obtain ⟨a, rfl, ha0, ha1, hfew, hfr⟩ := hrel
    have hP := HM.out.1.frm hfr (fun h => h)
    have hQ := HM.out.2.1.frm hfr (fun h => h)
    have hRd := HM.out.2.2.1.frm hfr (fun _ _ h => h)
    have hff := HM.out.2.2.2.trans hfr
    obtain ⟨x0, x1, x2, x3, y0, y1, y2, y3, lx⟩ := blk4 hP
    have q0 := hQ.cell 0
    have q2 := hQ.cell 2
    simp only [List.getElem?_cons_zero, List.getElem?_cons_succ] at q0 q2
    have lq := hQ.lt
    by_cases hal : a ≤ line.size
    · have d1 : decide ((a : Int) ≤ (line.size : Int)) = true := decide_eq_true (by omega)
      have d1n : decide (a ≤ line.size) = true := decide_eq_true hal
      have HNP := Lib.hid (newPC A n cp gr co fo ins line _ wr hRd HR.out.1)
      go_wp2_with fail
      refine HNP.out.mono ?_
      rintro e w2 ⟨bX, bR, rfl, hPl, hbX, hbR, hf2⟩
      have hXR : bX ≠ bR := hPl.obj.ne hPl.refs (by decide)
      have HFC := Lib.hid (fromX bX bR A n cp gr co fo ins line a 4000 _ _ _ w2 hPl HR.out.1 HR.out.2 hal hN (by omega) (fun h => by have := h.2; omega) hXR)
      have hPl2 := hP.frm hf2 (fun h => h)
      clear x0 x1 x2 x3 y0 y1 y2 y3 lx q0 q2 lq HNP
      go_wp2_with fail
      refine HFC.out.mono ?_
      rintro e w3 ⟨hres, hf3⟩
      have hfw : Frm (fun _ => False) wr w3 := hf2.then hf3 (fun q hq hl => by have h2 : q = bX := hq; omega)
      have hP3 := hP.frm hfw (fun h => h)
      have hQ3 := hQ.frm hfw (fun h => h)
      have hRd3 := hRd.frm hfw (fun _ _ h => h)
      have hff3 := hff.trans hfw
      have hfr3 := hfr.trans hfw
      clear hP hQ hRd hff hfr hf2 hf3 HFC hPl hPl2 hfw
      rcases hres with ⟨v, rfl, _⟩ | ⟨bO, cs, outs, rfl, _, _, _, hcl, hall, _⟩
      · go_wp2_with fail
        rw [← HPO.out]
        exact ⟨.inl rfl, hff3⟩
      · have HFA : Hid (FewAt ins gr co fo line.toList a) := Lib.hid ⟨cs, outs, hcl, hall⟩
        clear hcl hall
        obtain ⟨x0, x1, x2, x3, y0, y1, y2, y3, lx⟩ := blk4 hP3
        have q0 := hQ3.cell 0
        have q2 := hQ3.cell 2
        simp only [List.getElem?_cons_zero, List.getElem?_cons_succ] at q0 q2
        have lq := hQ3.lt
        have hwk : IntKind.i64.wrap ((a : Int) + 1) = ((a + 1 : Nat) : Int) := by rw [IntWalk.i64_in _ (by omega)]; omega
        cases pl with
        | false =>
          cases fd with
          | false =>
            have HT : Hid (tameAll ins gr co fo line.toList false false at0) := Lib.hid fun b h1 h2 h3 => by
              have e1 := h3 rfl
              have e2 := hfew.out.1 rfl
              obtain rfl : b = a := by omega
              exact ⟨HFA.out, fun h => by cases h⟩
            go_wp2_with fail
            rw [← HPO.out]
            exact ⟨.inr ⟨rfl, HT.out⟩, hff3⟩
          | true =>
            have hfew2 : Hid ((true = false → a + 1 = at0) ∧ ∀ b, at0 ≤ b → b < a + 1 → TmA ins gr co fo line.toList false b) := Lib.hid ⟨fun h => (by cases h), fun b h1 h2 => by
              by_cases e : b = a
              · subst e; exact ⟨HFA.out, fun h => by cases h⟩
              · exact hfew.out.2 b h1 (by omega)⟩
            go_wp2_with fail
            go_roundw
            case measure => simp [intOf] <;> omega
            case rel => exact ⟨a + 1, by go_num, by omega, by omega, hfew2, hfr3⟩
        | true =>
          have HFW := Lib.hid (fewC A n cp gr co fo ins line a 2000 _ w3 hRd3 HR.out.1 HR.out.2 hal (by omega) (by omega))
          obtain ⟨fw, hfw⟩ : ∃ fw, decide (manyR ins fo line.toList gr co 2000 a ≤ 2000) = fw := ⟨_, rfl⟩
          rw [hfw] at HFW
          have HFD := Lib.hid hfw
          clear hfw
          go_wp2_with fail
          refine HFW.out.mono ?_
          rintro e w4 ⟨rfl, hf34⟩
          have hQ4 := hQ3.frm hf34 (fun h => h)
          have hff4 := hff3.trans hf34
          have hfr4 := hfr3.trans hf34
          clear x0 x1 x2 x3 y0 y1 y2 y3 lx q0 q2 lq HFW hP3 hQ3 hRd3 hff3 hfr3 hf34
          have q0 := hQ4.cell 0
          have q2 := hQ4.cell 2
          simp only [List.getElem?_cons_zero, List.getElem?_cons_succ] at q0 q2
          have lq := hQ4.lt
          cases fw with
          | false =>
            go_wp2_with fail
            rw [← HPO.out]
            exact ⟨.inl rfl, hff4⟩
          | true =>
            cases fd with
            | false =>
              have HT : Hid (tameAll ins gr co fo line.toList true false at0) := Lib.hid fun b h1 h2 h3 => by
                have e1 := h3 rfl
                have e2 := hfew.out.1 rfl
                obtain rfl : b = a := by omega
                exact ⟨HFA.out, fun _ => of_decide_eq_true HFD.out⟩
              go_wp2_with fail
              rw [← HPO.out]
              exact ⟨.inr ⟨rfl, HT.out⟩, hff4⟩
            | true =>
              have hfew2 : Hid ((true = false → a + 1 = at0) ∧ ∀ b, at0 ≤ b → b < a + 1 → TmA ins gr co fo line.toList true b) := Lib.hid ⟨fun h => (by cases h), fun b h1 h2 => by
                by_cases e : b = a
                · subst e; exact ⟨HFA.out, fun _ => of_decide_eq_true HFD.out⟩
                · exact hfew.out.2 b h1 (by omega)⟩
              clear hff4
              go_wp2_with fail
              go_roundw
              case measure => simp [intOf] <;> omega
              case rel => exact ⟨a + 1, by go_num, by omega, by omega, hfew2, hfr4⟩
    · obtain rfl : a = line.size + 1 := by omega
      have d1 : decide (((line.size + 1 : Nat) : Int) ≤ (line.size : Int)) = false := decide_eq_false (by omega)
      have HT : Hid (tameAll ins gr co fo line.toList pl fd at0) := Lib.hid fun b h1 h2 _ => hfew.out.2 b h1 (by have := HLB.out; omega)
      clear hP hQ hRd hfr hal
      go_wp2_with fail
      rw [← HPO.out]
      exact ⟨.inr ⟨rfl, HT.out⟩, hff⟩
end Go.Proofs.Ytoadmpochaeohaa
end

section
set_option linter.unusedVariables false
set_option linter.unusedSimpArgs false
set_option maxRecDepth 100000
namespace Go.Proofs.Ytoadmpochaeohaa
open Go.RowKit

/-- The greatest place, as a number. -/
def lastZ (o : Option Nat) : Int := match o with | some e => e | none => -1
set_option maxHeartbeats 4000000 in
theorem lastC (bO n : Nat) (outs : List Bool) (o : Option Nat) (w : World) (hB : Blk w bO (outs.map BV) 4) (hn : outs.length = n) (hn1 : n ≤ 1000000) (ho : LastIs outs o) :
    Calls Try.prog 39 #[.slice (some ⟨bO, 0, none⟩) n n] w fun e w' => e = .returned (.int .i64 (lastZ o)) ∧ w = w' := by
  have hcell : ∀ k, k < n → ∃ b, outs[k]? = some b ∧ w.cell? ⟨bO, k, none⟩ = some (.bool b) := fun k hk => by
    obtain ⟨b, hb⟩ : ∃ b, outs[k]? = some b := ⟨_, List.getElem?_eq_getElem (by omega)⟩
    exact ⟨b, hb, by rw [hB.cell, List.getElem?_map, hb]; rfl⟩
  have HC := Lib.hid hcell
  have lb := hB.lt
  have HO := Lib.hid ho
  have H0 : Hid (∀ e : Nat, outs[e]? = some true → e < n) := Lib.hid fun e he => by rw [← hn]; exact (List.getElem?_eq_some_iff.1 he).1
  obtain ⟨n1, hn2⟩ : ∃ n1 : Int, (n : Int) - 1 = n1 := ⟨_, rfl⟩
  have hw1 : IntKind.i64.wrap ((n : Int) - 1) = n1 := by rw [IntWalk.i64_in _ (by omega)]; exact hn2
  have HN2 := Lib.hid hn2
  clear hcell hB hn ho hn2
  go_enter Try.func39, Try.ntmps39
  go_wp2_with fail
  go_loopw [3] (fun i wr => ∃ (k : Nat) (at_ : Int), i = .int .i64 at_ ∧ at_ + 1 = k ∧ k ≤ n ∧ wr = w ∧ Hid (∀ e : Nat, outs[e]? = some true → e < k)) (fun i _ => (intOf i + 1).toNat)
  case atStart => exact ⟨n, n1, rfl, by have := HN2.out; omega, Nat.le_refl _, rfl, H0⟩
  case round =>
    obtain ⟨k, at_, rfl, hk, hkn, hwr, HK⟩ := hrel
    subst hwr
    rcases k with _ | a
    · obtain rfl : at_ = -1 := by omega
      have HE : Hid (lastZ o = -1) := Lib.hid (by
        cases o with
        | none => rfl
        | some e => have := HK.out e (HO.out.is e rfl); omega)
      clear hk hkn
      go_wp2_with fail
      go_ret
      exact ⟨by rw [HE.out]; rfl, rfl⟩
    · obtain rfl : at_ = (a : Int) := by omega
      have d1 : decide (0 ≤ (a : Int)) = true := decide_eq_true (by omega)
      have han : a < n := by omega
      obtain ⟨b, hb, cb⟩ := HC.out a han
      have HBB := Lib.hid hb
      obtain ⟨y, hy⟩ : ∃ y : Int, (a : Int) - 1 = y := ⟨_, rfl⟩
      have hwy : IntKind.i64.wrap ((a : Int) - 1) = y := by rw [IntWalk.i64_in _ (by omega)]; exact hy
      have HY := Lib.hid hy
      clear hk hkn hb hy
      cases b with
      | true =>
        have HE : Hid (lastZ o = a) := Lib.hid (by
          obtain ⟨x, hx, hx2⟩ := HO.out.ge a HBB.out
          subst hx
          have := HK.out x (HO.out.is x rfl)
          show (x : Int) = a
          omega)
        go_wp2_with fail
        go_ret
        exact ⟨by rw [HE.out]; rfl, rfl⟩
      | false =>
        have HK2 : Hid (∀ e : Nat, outs[e]? = some true → e < a) := Lib.hid fun e he => by
          have := HK.out e he
          by_cases e1 : e = a
          · subst e1; rw [HBB.out] at he; cases he
          · omega
        go_wp2_with fail
        go_roundw
        case measure => have := HY.out; simp [intOf] <;> omega
        case rel => exact ⟨a, y, rfl, by have := HY.out; omega, by omega, by first | rfl | trivial, HK2⟩
/-- What is found, from a place on. -/
def PtI (ins : List Ins) (A : Option Addr) (n cp gr co : Nat) (fo : Bool) (line : ByteArray) (E : Nat → Prop) (o : Nat → Option Nat) (from_ : Nat) (w1 : World) (bX bR bS : Nat) (i : Value) (wr : World) : Prop :=
  ∃ (a : Nat) (sv mv : Value), i = .int .i64 a ∧ from_ ≤ a ∧ a ≤ line.size + 1 ∧ PlM wr E bX A n cp gr co fo ins line bR sv mv ∧ Blk wr bS [.int .i64 0, .int .i64 0] 50 ∧ Frm (fun q => q = bX) w1 wr ∧ Hid (firstO o (line.size + 1 - from_) from_ = firstO o (line.size + 1 - a) a)
set_option maxHeartbeats 8000000 in
theorem partC (A : Option Addr) (n cp gr co : Nat) (fo : Bool) (ins : List Ins) (line : ByteArray) (from_ : Nat) (o : Nat → Option Nat) (G : Nat → Prop) (w : World) (hrd : Rd w G 10 A n cp (flatI ins)) (hr : rightE ins gr co = 0) (hok : ∀ i ∈ ins, i.ok) (hat : from_ ≤ line.size + 1) (hN : line.size ≤ 100000)
    (hA : ∀ a, from_ ≤ a → a ≤ line.size → Ans ins gr co fo line.toList a (o a)) :
    Calls Try.prog 38 #[.agg #[.slice A n cp, .int .i64 gr, .int .i64 co, .bool fo], .string line, .int .i64 from_, .int .i64 4000] w fun e w' => e = .returned (.tuple #[spanV (firstO o (line.size + 1 - from_) from_), .bool (firstO o (line.size + 1 - from_) from_).isSome, .bool true]) ∧ Frm (fun _ => False) w w' := by
  have HR := Lib.hid (⟨hr, hok⟩ : _ ∧ _)
  have HA := Lib.hid hA
  obtain ⟨hP, hQ, hf0⟩ := twoT w [.slice A n cp, .int .i64 gr, .int .i64 co, .bool fo] [.int .i64 0, .int .i64 0] 24 50
  have hrd1 := hrd.low.frm hf0 (fun _ _ h => h)
  obtain ⟨res, hres⟩ : ∃ res, firstO o (line.size + 1 - from_) from_ = res := ⟨_, rfl⟩
  rw [hres]
  have HRES := Lib.hid hres
  clear hr hok hrd hA hres
  go_enter Try.func38, Try.ntmps38
  go_upto_region 1 with fail
  generalize (w.alloc (.cells #[.slice A n cp, .int .i64 gr, .int .i64 co, .bool fo] 24)).alloc (.cells #[.int .i64 0, .int .i64 0] 50) = w1 at *
  obtain ⟨bP, hbP⟩ : ∃ b, w.heap.size = b := ⟨_, rfl⟩
  obtain ⟨bS, hbS⟩ : ∃ b, w.heap.size + 1 = b := ⟨_, rfl⟩
  simp only [hbS] at hQ ⊢
  simp only [hbP] at hP hrd1 ⊢
  have HBP := Lib.hid (⟨hbP, hbS⟩ : _ ∧ _)
  clear hbP hbS
  obtain ⟨x0, x1, x2, x3, y0, y1, y2, y3, lx⟩ := blk4 hP
  have HNP := Lib.hid (newPC A n cp gr co fo ins line _ w1 hrd1 HR.out.1)
  have lsS := hQ.lt
  go_wp2_with fail
  refine HNP.out.mono ?_
  rintro e w2 ⟨bX, bR, rfl, hPl, hbX, hbR, hf2⟩
  have hXR : bX ≠ bR := hPl.obj.ne hPl.refs (by decide)
  have hS2 := hQ.frm hf2 (fun h => h)
  have hff2 := hf0.trans hf2
  have hXS : bX ≠ bS := by omega
  have HX : Hid (bX ≠ bR ∧ bX ≠ bS ∧ w1.heap.size ≤ bX ∧ w.heap.size ≤ w1.heap.size) := Lib.hid ⟨hXR, hXS, hbX, hf0.size⟩
  have HEX : Hid (¬ (fun k => (G k ∧ k < bP)) bX) := Lib.hid (fun h => by have := h.2; have := HBP.out.1; have := hf0.size; omega)
  have HI0 : Hid (PtI ins A n cp gr co fo line (fun k => (G k ∧ k < bP)) o from_ w2 bX bR bS (.int .i64 from_) w2) := Lib.hid ⟨from_, _, _, rfl, Nat.le_refl _, hat, hPl, hS2, Frm.refl _ _, Lib.hid rfl⟩
  clear x0 x1 x2 x3 y0 y1 y2 y3 lx HNP hP hQ hrd1 hf0 hf2 hPl hS2 hXR hXS hbX hbR lsS
  go_wp2_with fail
  go_loopw [12] (fun i wr => PtI ins A n cp gr co fo line (fun k => (G k ∧ k < bP)) o from_ w2 bX bR bS i wr) (fun i _ => line.size + 1 - (intOf i).toNat)
  case atStart => exact HI0.out
  case round =>
    clear HI0
    obtain ⟨a, sv, mv, rfl, ha0, ha1, hPl, hS, hfr, HF⟩ := hrel
    have hwr : w2.heap.size ≤ wr.heap.size := hfr.size
    have hff : Frm (fun _ => False) w wr := hff2.then hfr (fun q hq hl => by have h2 : q = bX := hq; have := HX.out; omega)
    by_cases hal : a ≤ line.size
    · have d1 : decide ((a : Int) ≤ (line.size : Int)) = true := decide_eq_true (by omega)
      have d1n : decide (a ≤ line.size) = true := decide_eq_true hal
      have HFC := Lib.hid (fromX bX bR A n cp gr co fo ins line a 4000 _ _ _ wr hPl HR.out.1 HR.out.2 hal hN (by omega) HEX.out HX.out.1)
      have HAa := Lib.hid (HA.out a ha0 hal)
      obtain ⟨oa, hoa⟩ : ∃ oa, o a = oa := ⟨_, rfl⟩
      have HOA := Lib.hid hoa
      clear hoa
      have lbX := hPl.obj.lt
      go_wp2_with fail
      refine HFC.out.mono ?_
      rintro e w3 ⟨hres, hf3⟩
      rcases hres with ⟨v, rfl, cs, c1, c2, c3⟩ | ⟨bO, cs, outs, rfl, hbO, hBO, hol, hcl, hall, sv3, mv3, hO3⟩
      · exact (few_not HAa.out.few c1 c2 c3).elim
      · have hla := HAa.out.last cs outs hall
        rw [HOA.out] at hla
        have hS3 := hS.frm hf3 (fun e => HX.out.2.1 e.symm)
        have hPl3 : PlM w3 (fun k => (G k ∧ k < bP)) bX A n cp gr co fo ins line bR sv3 mv3 := ⟨hO3, hPl.rd.frm hf3 (fun q hq e => HEX.out (e ▸ hq)), hPl.refs.frm hf3 (fun e => HX.out.1 e.symm)⟩
        have HLA := Lib.hid (lastC bO (line.size + 1) outs oa w3 hBO hol (by omega) hla)
        have hfr3 := hfr.trans hf3
        have hff3 : Frm (fun _ => False) w w3 := hff.then hf3 (fun q hq hl => by have h2 : q = bX := hq; have := HX.out; omega)
        clear hPl hS hfr hff hf3 hBO hol hcl hall hO3 HFC hla
        obtain ⟨N1, hN1⟩ : ∃ N1, line.size + 1 = N1 := ⟨_, rfl⟩
        rw [hN1] at HLA
        have hcast : ((line.size : Int) + 1) = (N1 : Int) := by omega
        simp only [hN1]
        have HN1 := Lib.hid hN1
        clear hN1
        go_wp2_with fail
        refine HLA.out.mono ?_
        rintro e w4 ⟨rfl, hww⟩
        subst hww
        obtain ⟨s0, s1, s2, s3, ls⟩ := blk2 hS3
        rcases oa with _ | e1
        · have hwk : IntKind.i64.wrap ((a : Int) + 1) = ((a + 1 : Nat) : Int) := by rw [IntWalk.i64_in _ (by omega)]; omega
          have HF2 : Hid (firstO o (line.size + 1 - from_) from_ = firstO o (line.size + 1 - (a + 1)) (a + 1)) := Lib.hid (by
            rw [HF.out, show line.size + 1 - a = (line.size + 1 - (a + 1)) + 1 by omega, firstO, HOA.out])
          have HIN : Hid (PtI ins A n cp gr co fo line (fun k => (G k ∧ k < bP)) o from_ w2 bX bR bS (.int .i64 ((a + 1 : Nat) : Int)) w3) := Lib.hid ⟨a + 1, sv3, mv3, rfl, by omega, by omega, hPl3, hS3, hfr3, HF2⟩
          clear hPl3 hS3 hfr3 hff3
          simp only [lastZ]
          go_wp2_with fail
          go_roundw
          case measure => simp [intOf] <;> omega
          case rel => first | exact HIN.out | (have h := HIN.out; rw [show (((a + 1 : Nat) : Int)) = (a : Int) + 1 by omega] at h; exact h)
        · have HE : Hid (res = some (a, e1)) := Lib.hid (by
            rw [← HRES.out, HF.out, show line.size + 1 - a = (line.size + 1 - (a + 1)) + 1 by omega, firstO, HOA.out])
          have d2 : decide ((0 : Int) ≤ (e1 : Int)) = true := decide_eq_true (by omega)
          have hS4 := (hS3.setSame 0 (.int .i64 a)).setSame 1 (.int .i64 e1)
          simp only [List.set_cons_zero, List.set_cons_succ] at hS4
          have hff4 : Frm (fun _ => False) w ((w3.setCell ⟨bS, 0, none⟩ (.int .i64 a)).setCell ⟨bS, 1, none⟩ (.int .i64 e1)) := (hff3.set bS 0 _ (fun h => by have := HBP.out; omega)).set bS 1 _ (fun h => by have := HBP.out; omega)
          simp only [lastZ]
          clear hPl3 hfr3 hS3 hff3
          go_wp2_with fail
          refine bodyPost_ret (results_three rfl (RV.cell rfl hS4 Try.underlying50 rfl (by kernel_rfl)) (RV.tmp rfl) (RV.tmp rfl)) rfl ?_
          exact ⟨by rw [HE.out]; rfl, hff4⟩
    · obtain rfl : a = line.size + 1 := by omega
      have d1 : decide (((line.size + 1 : Nat) : Int) ≤ (line.size : Int)) = false := decide_eq_false (by omega)
      have t1 : ¬ (((line.size + 1 : Nat) : Int) ≤ (line.size : Int)) := by omega
      have HE : Hid (res = none) := Lib.hid (by rw [← HRES.out, HF.out, Nat.sub_self]; rfl)
      obtain ⟨s0, s1, s2, s3, ls⟩ := blk2 hS
      have hS4 := (hS.setSame 0 (.int .i64 0)).setSame 1 (.int .i64 0)
      simp only [List.set_cons_zero, List.set_cons_succ] at hS4
      have hff4 : Frm (fun _ => False) w ((wr.setCell ⟨bS, 0, none⟩ (.int .i64 0)).setCell ⟨bS, 1, none⟩ (.int .i64 0)) := (hff.set bS 0 _ (fun h => by have := HBP.out; omega)).set bS 1 _ (fun h => by have := HBP.out; omega)
      clear hPl hS hfr hff hal
      go_wp2_with fail
      refine bodyPost_ret (results_three rfl (RV.cell rfl hS4 Try.underlying50 rfl (by kernel_rfl)) (RV.tmp rfl) (RV.tmp rfl)) rfl ?_
      exact ⟨by rw [HE.out]; rfl, hff4⟩
end Go.Proofs.Ytoadmpochaeohaa
end
