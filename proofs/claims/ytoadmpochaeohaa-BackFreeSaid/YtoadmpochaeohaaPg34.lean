/-
  Layer 20 in plain Lean: a machine that remembers comes to its end: how many steps it does at most.
-/
import Derived.Test.YtoadmpochaeohaaPg33
import Derived.Test.YtoadmpochaeohaaPg3
section
set_option linter.unusedVariables false
set_option linter.unusedSimpArgs false
set_option maxRecDepth 100000
namespace Go.Proofs.Ytoadmpochaeohaa
open Go.RowKit

theorem nodup_lt : ∀ (N : Nat) (l : List Nat), l.Nodup → (∀ x ∈ l, x < N) → l.length ≤ N
  | 0, l, _, h => by
    cases l with
    | nil => simp
    | cons x l => exact absurd (h x (List.mem_cons_self ..)) (by omega)
  | N + 1, l, hn, h => by
    have h1 := nodup_lt N (l.erase N) (hn.erase _) (fun x hx => by
      have h2 := List.mem_of_mem_erase hx
      have h3 : x ≠ N := fun e => by subst e; exact hn.not_mem_erase hx
      have := h x h2; omega)
    rw [List.length_erase] at h1
    split at h1 <;> omega
theorem on_len (m : Mc) (L : List UInt8) (c : Cf) : (onS m L c).length ≤ 2 := by
  unfold onS
  split
  · simp
  · rename_i i hi
    simp only
    by_cases h1 : i.op = 1
    · rw [if_pos h1]; split
      · split <;> simp
      · simp
    rw [if_neg h1]
    by_cases h2 : i.op = 2
    · rw [if_pos h2]; simp
    rw [if_neg h2]
    by_cases h3 : i.op = 3
    · rw [if_pos h3]; simp
    rw [if_neg h3]
    by_cases h4 : i.op = 4
    · rw [if_pos h4]; split <;> simp
    rw [if_neg h4]
    by_cases h5 : i.op = 5
    · rw [if_pos h5]; split <;> simp
    rw [if_neg h5]
    by_cases h6 : i.op = 6 ∨ i.op = 7
    · rw [if_pos h6]; simp
    rw [if_neg h6]
    by_cases h8 : i.op = 8
    · rw [if_pos h8]; split <;> simp
    rw [if_neg h8]
    by_cases h9 : i.op = 9
    · rw [if_pos h9]; simp
    rw [if_neg h9]
    by_cases h10 : i.op = 10
    · rw [if_pos h10]
      split
      · simp
      · rw [List.length_append]
        split <;> split <;> simp
    rw [if_neg h10]; simp
/-- What the counters are, where a configuration leads. -/
theorem on_turns {m : Mc} {L : List UInt8} {c d : Cf} (hd : d ∈ onS m L c) : d.turns = c.turns ∨ ∃ i, m.ins[c.pc]? = some i ∧ ((i.op = 9 ∧ d.turns = c.turns.set i.n.toNat ⟨0, -1⟩) ∨ (i.op = 10 ∧ ∃ x b, d.turns = c.turns.set i.n.toNat ⟨min x (m.most.getD i.n.toNat 0), b⟩)) := by
  unfold onS at hd
  split at hd
  · cases hd
  · rename_i i hi
    simp only at hd
    by_cases h1 : i.op = 1
    · rw [if_pos h1] at hd
      split at hd
      · split at hd
        · rw [List.mem_singleton] at hd; subst hd; exact .inl rfl
        · cases hd
      · cases hd
    rw [if_neg h1] at hd
    by_cases h2 : i.op = 2
    · rw [if_pos h2] at hd
      simp only [List.mem_cons, List.not_mem_nil, or_false] at hd
      rcases hd with rfl | rfl <;> exact .inl rfl
    rw [if_neg h2] at hd
    by_cases h3 : i.op = 3
    · rw [if_pos h3, List.mem_singleton] at hd; subst hd; exact .inl rfl
    rw [if_neg h3] at hd
    by_cases h4 : i.op = 4
    · rw [if_pos h4] at hd
      split at hd
      · rw [List.mem_singleton] at hd; subst hd; exact .inl rfl
      · cases hd
    rw [if_neg h4] at hd
    by_cases h5 : i.op = 5
    · rw [if_pos h5] at hd
      split at hd
      · rw [List.mem_singleton] at hd; subst hd; exact .inl rfl
      · cases hd
    rw [if_neg h5] at hd
    by_cases h6 : i.op = 6 ∨ i.op = 7
    · rw [if_pos h6, List.mem_singleton] at hd; subst hd
      refine .inl ?_
      show (bracketS m c i).turns = c.turns
      unfold bracketS
      simp only
      split
      · rfl
      · split <;> rfl
    rw [if_neg h6] at hd
    by_cases h8 : i.op = 8
    · rw [if_pos h8] at hd
      split at hd
      · rw [List.mem_singleton] at hd; subst hd; exact .inl rfl
      · cases hd
    rw [if_neg h8] at hd
    by_cases h9 : i.op = 9
    · rw [if_pos h9, List.mem_singleton] at hd; subst hd
      exact .inr ⟨i, hi, .inl ⟨h9, rfl⟩⟩
    rw [if_neg h9] at hd
    by_cases h10 : i.op = 10
    · rw [if_pos h10] at hd
      split at hd
      · cases hd
      · rcases List.mem_append.1 hd with hd | hd
        · split at hd
          · rw [List.mem_singleton] at hd; subst hd; exact .inl rfl
          · cases hd
        · split at hd
          · rw [List.mem_singleton] at hd; subst hd
            exact .inr ⟨i, hi, .inr ⟨h10, _, _, rfl⟩⟩
          · cases hd
    rw [if_neg h10] at hd
    cases hd
def turnedB (m : Mc) (k : Nat) : Bool := m.ins.any fun i => i.op == 10 && i.n.toNat == k
/-- What a counter may be. -/
def TB (m : Mc) (c : Cf) : Prop := ∀ (k : Nat) (t : Tn), c.turns[k]? = some t → (turnedB m k = true → t.many ≤ m.most.getD k 0) ∧ (turnedB m k = false → t = ⟨0, -1⟩)
theorem most_ge {m : Mc} (hW : MW m) (k : Nat) : 0 ≤ m.most.getD k 0 := by
  rw [List.getD_eq_getElem?_getD]
  cases h : m.most[k]? with
  | none => simp
  | some v => exact (hW.most v (List.mem_of_getElem? h)).1
theorem on_TB {m : Mc} {L : List UInt8} {c d : Cf} (hW : MW m) (hT : TB m c) (hd : d ∈ onS m L c) : TB m d := by
  intro k t ht
  rcases on_turns hd with h | ⟨i, hi, h⟩
  · rw [h] at ht; exact hT k t ht
  · rcases h with ⟨h9, h⟩ | ⟨h10, x, b, h⟩
    · rw [h, List.getElem?_set] at ht
      split at ht
      · split at ht
        · injection ht with ht; subst ht
          exact ⟨fun _ => most_ge hW k, fun _ => rfl⟩
        · cases ht
      · exact hT k t ht
    · rw [h, List.getElem?_set] at ht
      split at ht
      · rename_i e
        split at ht
        · injection ht with ht; subst ht
          have htu : turnedB m k = true := by
            unfold turnedB
            rw [List.any_eq_true]
            exact ⟨i, List.mem_of_getElem? hi, by simp [h10, e]⟩
          refine ⟨fun _ => ?_, fun hf => ?_⟩
          · rw [← e]; simp only; omega
          · rw [htu] at hf; cases hf
        · cases ht
      · exact hT k t ht
def codeL : List (Nat × Nat) → Nat
  | [] => 0
  | x :: l => x.1 + x.2 * codeL l
def radP : List Nat → Nat
  | [] => 1
  | r :: l => r * radP l
theorem codeL_lt : ∀ l : List (Nat × Nat), (∀ x ∈ l, x.1 < x.2) → codeL l < radP (l.map (·.2))
  | [], _ => by simp [codeL, radP]
  | x :: l, h => by
    have ih := codeL_lt l (fun y hy => h y (List.mem_cons_of_mem _ hy))
    have hx := h x (List.mem_cons_self ..)
    rw [codeL, List.map_cons, radP]
    have : x.2 * (codeL l + 1) ≤ x.2 * radP (l.map (·.2)) := Nat.mul_le_mul_left _ ih
    rw [Nat.mul_add] at this
    omega
theorem codeL_inj : ∀ l l' : List (Nat × Nat), l.map (·.2) = l'.map (·.2) → (∀ x ∈ l, x.1 < x.2) → (∀ x ∈ l', x.1 < x.2) → codeL l = codeL l' → l = l'
  | [], [], _, _, _, _ => rfl
  | [], _ :: _, h, _, _, _ => by simp at h
  | _ :: _, [], h, _, _, _ => by simp at h
  | x :: l, y :: l', h, h1, h2, he => by
    rw [List.map_cons, List.map_cons] at h
    injection h with hr h
    have hx := h1 x (List.mem_cons_self ..)
    have hy := h2 y (List.mem_cons_self ..)
    rw [codeL, codeL] at he
    obtain ⟨a, r⟩ := x
    obtain ⟨b, r'⟩ := y
    simp only at hr hx hy he
    subst hr
    have e1 : a = b := by
      have := congrArg (· % r) he
      simp only [Nat.add_mul_mod_self_left, Nat.mod_eq_of_lt hx, Nat.mod_eq_of_lt hy] at this
      exact this
    subst e1
    have e2 : codeL l = codeL l' := Nat.eq_of_mul_eq_mul_left (by omega) (Nat.add_left_cancel he)
    rw [codeL_inj l l' h (fun z hz => h1 z (List.mem_cons_of_mem _ hz)) (fun z hz => h2 z (List.mem_cons_of_mem _ hz)) e2]
theorem flat_inj {α β : Type} (f f' : α → List β) (n : Nat) : ∀ l : List α, (∀ g, (f g).length = n) → (∀ g, (f' g).length = n) → l.flatMap f = l.flatMap f' → ∀ g ∈ l, f g = f' g
  | [], _, _, _, g, hg => (by simp at hg)
  | x :: l, h1, h2, he, g, hg => by
    rw [List.flatMap_cons, List.flatMap_cons] at he
    obtain ⟨e1, e2⟩ := List.append_inj he (by rw [h1, h2])
    rcases List.mem_cons.1 hg with rfl | hg
    · exact e1
    · exact flat_inj f f' n l h1 h2 e2 g hg
def pd (m : Mc) (n : Nat) (c : Cf) (g : Nat) : List (Nat × Nat) :=
  [(if (lv m.live c.pc g).began then ((c.parts.getD g ⟨-1, -1, -1⟩).began + 1).toNat else 0, n + 2),
   (if (lv m.live c.pc g).part then ((c.parts.getD g ⟨-1, -1, -1⟩).frm + 1).toNat else 0, n + 2),
   (if (lv m.live c.pc g).part then ((c.parts.getD g ⟨-1, -1, -1⟩).til + 1).toNat else 0, n + 2)]
def rt (m : Mc) (k : Nat) : Nat := if turnedB m k then 2 * ((m.most.getD k 0).toNat + 1) else 1
def td (m : Mc) (c : Cf) (k : Nat) : Nat × Nat :=
  (if turnedB m k then (2 * (c.turns.getD k ⟨0, -1⟩).many + if (c.turns.getD k ⟨0, -1⟩).began = c.at_ then 1 else 0).toNat else 0, rt m k)
def digs (m : Mc) (n : Nat) (c : Cf) : List (Nat × Nat) :=
  (c.pc, m.ins.length) :: (c.at_, n + 1) :: ((List.range (nsS m)).flatMap (pd m n c) ++ (List.range m.most.length).map (td m c))
def rads (m : Mc) (n : Nat) : List Nat := m.ins.length :: (n + 1) :: ((List.range (nsS m)).flatMap (fun _ => [n + 2, n + 2, n + 2]) ++ (List.range m.most.length).map (rt m))
/-- How many keys there may be. -/
def keysN (m : Mc) (n : Nat) : Nat := radP (rads m n)
theorem digs_rads (m : Mc) (n : Nat) (c : Cf) : (digs m n c).map (·.2) = rads m n := by
  unfold digs rads
  rw [List.map_cons, List.map_cons, List.map_append, List.map_map, List.map_flatMap]
  rfl
/-- What a configuration is. -/
def GW (m : Mc) (n : Nat) (c : Cf) : Prop := CW m n c ∧ TB m c
theorem on_GW {m : Mc} {L : List UInt8} (hW : MW m) : ∀ c, GW m L.length c → ∀ d, d ∈ onS m L c → GW m L.length d := fun c hc d hd => ⟨on_CW hW hc.1 d hd, on_TB hW hc.2 hd⟩
theorem digs_lt {m : Mc} {n : Nat} {c : Cf} (hW : MW m) (h : GW m n c) : ∀ x ∈ digs m n c, x.1 < x.2 := by
  intro x hx
  unfold digs at hx
  rcases List.mem_cons.1 hx with rfl | hx
  · exact h.1.pc
  rcases List.mem_cons.1 hx with rfl | hx
  · exact Nat.lt_succ_of_le h.1.at_
  rcases List.mem_append.1 hx with hx | hx
  · obtain ⟨g, hg, hx⟩ := List.mem_flatMap.1 hx
    have hp : (c.parts.getD g ⟨-1, -1, -1⟩).began ≤ c.at_ ∧ (c.parts.getD g ⟨-1, -1, -1⟩).frm ≤ c.at_ ∧ (c.parts.getD g ⟨-1, -1, -1⟩).til ≤ c.at_ := by
      rw [List.getD_eq_getElem?_getD]
      cases hq : c.parts[g]? with
      | none => simp only [Option.getD_none]; omega
      | some p => have := h.1.p p (List.mem_of_getElem? hq); simp only [Option.getD_some]; omega
    have hat := h.1.at_
    unfold pd at hx
    simp only [List.mem_cons, List.not_mem_nil, or_false] at hx
    rcases hx with rfl | rfl | rfl <;> simp only <;> split <;> omega
  · obtain ⟨k, hk, rfl⟩ := List.mem_map.1 hx
    rw [List.mem_range] at hk
    unfold td rt
    simp only
    split
    · rename_i hb
      obtain ⟨t, ht⟩ : ∃ t, c.turns[k]? = some t := ⟨_, List.getElem?_eq_getElem (by rw [h.1.nt]; exact hk)⟩
      rw [List.getD_eq_getElem?_getD, ht]
      have h1 := (h.2 k t ht).1 hb
      have h2 := (h.1.t t (List.mem_of_getElem? ht)).1
      have h3 := most_ge hW k
      simp only [Option.getD_some]
      split <;> omega
    · omega
theorem digs_eqv {m : Mc} {n : Nat} {c c' : Cf} (hW : MW m) (h : GW m n c) (h' : GW m n c') (he : digs m n c = digs m n c') : Eqv m c c' := by
  unfold digs at he
  injection he with e1 he
  injection he with e2 he
  injection e1 with e1 _
  injection e2 with e2 _
  obtain ⟨e3, e4⟩ := List.append_inj' he (by simp)
  have hnp : c.parts.length = c'.parts.length := by rw [h.1.np, h'.1.np]
  have hnt : c.turns.length = c'.turns.length := by rw [h.1.nt, h'.1.nt]
  refine ⟨e1, e2, hnp, hnt, fun g p p' hp hp' => ?_, fun k t t' ht ht' => ?_⟩
  · have hg : g < nsS m := by have := (List.getElem?_eq_some_iff.1 hp).1; have := h.1.np; omega
    have hpd := flat_inj _ _ 3 _ (fun _ => rfl) (fun _ => rfl) e3 g (List.mem_range.2 hg)
    unfold pd at hpd
    rw [List.getD_eq_getElem?_getD, List.getD_eq_getElem?_getD, hp, hp', ← e1] at hpd
    simp only [Option.getD_some] at hpd
    injection hpd with q1 hpd
    injection hpd with q2 hpd
    injection hpd with q3 hpd
    injection q1 with q1 _
    injection q2 with q2 _
    injection q3 with q3 _
    have b1 := h.1.p p (List.mem_of_getElem? hp)
    have b2 := h'.1.p p' (List.mem_of_getElem? hp')
    refine ⟨fun hb => ?_, fun hb => ?_⟩
    · rw [if_pos hb, if_pos hb] at q1; omega
    · rw [if_pos hb, if_pos hb] at q2 q3; omega
  · have hk : k < m.most.length := by have := (List.getElem?_eq_some_iff.1 ht).1; have := h.1.nt; omega
    have htd : td m c k = td m c' k := List.map_inj_left.1 e4 k (List.mem_range.2 hk)
    unfold td at htd
    rw [List.getD_eq_getElem?_getD, List.getD_eq_getElem?_getD, ht, ht', ← e2] at htd
    simp only [Option.getD_some] at htd
    injection htd with q1 _
    have b1 := h.1.t t (List.mem_of_getElem? ht)
    have b2 := h'.1.t t' (List.mem_of_getElem? ht')
    cases hb : turnedB m k with
    | true =>
      rw [hb] at q1
      simp only [if_true] at q1
      by_cases g1 : t.began = c.at_ <;> by_cases g2 : t'.began = c.at_
      · rw [if_pos g1, if_pos g2] at q1
        exact ⟨by omega, by simp [g1, g2]⟩
      · rw [if_pos g1, if_neg g2] at q1; omega
      · rw [if_neg g1, if_pos g2] at q1; omega
      · rw [if_neg g1, if_neg g2] at q1
        exact ⟨by omega, by simp [g1, g2]⟩
    | false =>
      have r1 := (h.2 k t ht).2 hb
      have r2 := (h'.2 k t' ht').2 hb
      rw [r1, r2]
      exact ⟨rfl, Iff.rfl⟩
theorem code_key {m : Mc} {n : Nat} (hW : MW m) (hn : n ≤ 900000) (c c' : Cf) (h : GW m n c) (h' : GW m n c') (he : codeL (digs m n c) = codeL (digs m n c')) : keyS m c = keyS m c' :=
  (key_eqv hW hn h.1 h'.1).2 (digs_eqv hW h h' (codeL_inj _ _ (by rw [digs_rads, digs_rads]) (digs_lt hW h) (digs_lt hW h') he))
theorem code_lt {m : Mc} {n : Nat} (hW : MW m) (c : Cf) (h : GW m n c) : codeL (digs m n c) < keysN m n := by
  have := codeL_lt _ (digs_lt hW h)
  rwa [digs_rads] at this
theorem start_GW {m : Mc} {N at_ : Nat} (hW : MW m) (hin : 0 < m.ins.length) (hat : at_ ≤ N) : GW m N (startS m at_) := by
  refine ⟨start_CW hin hat, fun k t ht => ?_⟩
  have := List.mem_of_getElem? ht
  obtain ⟨_, _, rfl⟩ := List.mem_map.1 this
  exact ⟨fun _ => most_ge hW k, fun _ => rfl⟩
/-- Nothing is forgotten by the tallies. -/
theorem run_mono {m : Mc} {L : List UInt8} : ∀ (f : Nat) (p : List Fr) (rn r : Rn), runS m L f p rn = some r → rn.steps ≤ r.steps ∧ rn.kept ≤ r.kept ∧ (m.plain = true → r.kept = rn.kept)
  | f, [], rn, r, h => by
    have : rn = r := by cases f <;> (simp [runS] at h; exact h)
    subst this
    exact ⟨Nat.le_refl _, Nat.le_refl _, fun _ => rfl⟩
  | 0, _ :: _, rn, r, h => by simp [runS] at h
  | f + 1, .leave k :: p, rn, r, h => by
    rw [runS] at h
    have := run_mono f p _ r h
    exact this
  | f + 1, .look c :: p, rn, r, h => by
    rw [runS] at h
    split at h
    · have ih := run_mono f p _ r h
      simp only at ih
      exact ⟨by omega, ih.2.1, ih.2.2⟩
    · have ih := run_mono f _ _ r h
      simp only at ih
      refine ⟨by omega, ?_, fun hp => ?_⟩
      · have := ih.2.1
        split at this <;> omega
      · rw [ih.2.2 hp, if_pos hp]
theorem run_counts {m : Mc} {L : List UInt8} (hpl : m.plain = false) (Good : Cf → Prop) (hG : ∀ c, Good c → ∀ d, d ∈ onS m L c → Good d) (N : Nat) (code : Cf → Nat) (hc : ∀ c, Good c → code c < N)
    (hinj : ∀ c c', Good c → Good c' → code c = code c' → keyS m c = keyS m c') :
    ∀ (f : Nat) (p : List Fr) (rn : Rn) (cs : List Cf), (∀ c, .look c ∈ p → Good c) → (∀ k, .leave k ∉ p) → rn.seen = cs.map (keyS m) → (∀ c ∈ cs, Good c) → rn.seen.Nodup → p.length + 2 * (N - cs.length) ≤ f →
      ∃ r, runS m L f p rn = some r ∧ r.steps ≤ rn.steps + p.length + 2 * (N - cs.length)
  | f, [], rn, cs, _, _, _, _, _, _ => ⟨rn, by cases f <;> rfl, by omega⟩
  | 0, _ :: _, rn, cs, _, _, _, _, _, h => by simp at h
  | f + 1, .leave k :: p, rn, cs, _, hl, _, _, _, _ => absurd (List.mem_cons_self ..) (hl k)
  | f + 1, .look c :: p, rn, cs, hp, hl, hs, hg, hn, hf => by
    rw [runS]
    have hgc := hp c (List.mem_cons_self ..)
    rw [List.length_cons] at hf
    split
    · obtain ⟨r, h1, h2⟩ := run_counts hpl Good hG N code hc hinj f p { rn with steps := rn.steps + 1 } cs (fun d hd => hp d (List.mem_cons_of_mem _ hd)) (fun k hk => hl k (List.mem_cons_of_mem _ hk)) hs hg hn (by omega)
      refine ⟨r, h1, ?_⟩
      simp only at h2
      rw [List.length_cons]
      omega
    · rename_i hno
      simp only [hpl, Bool.false_eq_true, if_false]
      have hn2 : (keyS m c :: rn.seen).Nodup := List.nodup_cons.2 ⟨hno, hn⟩
      have hnc : ((c :: cs).map code).Nodup := by
        have : ∀ l : List Cf, (∀ x ∈ l, Good x) → (l.map (keyS m)).Nodup → (l.map code).Nodup := by
          intro l
          induction l with
          | nil => intro _ _; simp
          | cons x l ih =>
            intro hgl hnl
            rw [List.map_cons, List.nodup_cons] at hnl ⊢
            refine ⟨fun hm => hnl.1 ?_, ih (fun y hy => hgl y (List.mem_cons_of_mem _ hy)) hnl.2⟩
            obtain ⟨y, hy, hey⟩ := List.mem_map.1 hm
            exact List.mem_map.2 ⟨y, hy, hinj y x (hgl y (List.mem_cons_of_mem _ hy)) (hgl x (List.mem_cons_self ..)) hey⟩
        refine this (c :: cs) (fun x hx => ?_) (by rw [List.map_cons, ← hs]; exact hn2)
        rcases List.mem_cons.1 hx with rfl | hx
        · exact hgc
        · exact hg x hx
      have hlen := nodup_lt N _ hnc (fun x hx => by
        obtain ⟨y, hy, rfl⟩ := List.mem_map.1 hx
        rcases List.mem_cons.1 hy with rfl | hy
        · exact hc _ hgc
        · exact hc _ (hg y hy))
      rw [List.length_map, List.length_cons] at hlen
      have hon := on_len m L c
      obtain ⟨r, h1, h2⟩ := run_counts hpl Good hG N code hc hinj f ((onS m L c).reverse.map .look ++ p) ⟨keyS m c :: rn.seen, rn.steps + 1, max rn.kept (rn.seen.length + 1), hitS m c rn.best⟩ (c :: cs)
        (fun d hd => by
          rcases List.mem_append.1 hd with hd | hd
          · obtain ⟨d', q1, q2⟩ := List.mem_map.1 hd
            injection q2 with q2; subst q2
            exact hG c hgc _ (List.mem_reverse.1 q1)
          · exact hp d (List.mem_cons_of_mem _ hd))
        (fun k hk => by
          rcases List.mem_append.1 hk with hk | hk
          · obtain ⟨d', q1, q2⟩ := List.mem_map.1 hk
            cases q2
          · exact hl k (List.mem_cons_of_mem _ hk))
        (by rw [List.map_cons, ← hs]) (fun x hx => by
          rcases List.mem_cons.1 hx with rfl | hx
          · exact hgc
          · exact hg x hx) hn2 (by simp only [List.length_append, List.length_map, List.length_reverse, List.length_cons]; omega)
      refine ⟨r, h1, ?_⟩
      simp only [List.length_append, List.length_map, List.length_reverse, List.length_cons] at h2 ⊢
      omega
/-- A machine that remembers comes to its end. -/
theorem ran_counts {m : Mc} {L : List UInt8} {f at_ st kp : Nat} (hW : MW m) (hpl : m.plain = false) (hL : L.length ≤ 900000) (hin : 0 < m.ins.length) (hat : at_ ≤ L.length) (hf : 1 + 2 * keysN m L.length ≤ f) :
    ∃ r, ranS m L f at_ st kp = some r ∧ r.steps ≤ st + 1 + 2 * keysN m L.length ∧ 1 ≤ r.kept := by
  unfold ranS
  obtain ⟨r, h1, h2⟩ := run_counts hpl (GW m L.length) (on_GW hW) (keysN m L.length) (fun c => codeL (digs m L.length c)) (fun c hc => code_lt hW c hc) (fun c c' h h' he => code_key hW hL c c' h h' he) f [.look (startS m at_)] ⟨[], st, kp, none⟩ [] (fun c hc => by rw [List.mem_singleton] at hc; injection hc with hc; subst hc; exact start_GW hW hin hat) (fun k hk => by simp at hk) rfl (fun c hc => (by simp at hc)) List.nodup_nil (by simpa using hf)
  refine ⟨r, h1, by simpa using h2, ?_⟩
  cases f with
  | zero => omega
  | succ f =>
    rw [runS, if_neg (by simp)] at h1
    have := (run_mono _ _ _ _ h1).2.1
    simp only [hpl, Bool.false_eq_true, if_false, List.length_nil] at this
    omega
end Go.Proofs.Ytoadmpochaeohaa
end

section
set_option linter.unusedVariables false
set_option linter.unusedSimpArgs false
set_option maxRecDepth 100000
namespace Go.Proofs.Ytoadmpochaeohaa
open Go.RowKit Go.Shelf

/-- One of these cells holds a slice over block k. -/
def Own (ps : List Addr) (W : World) (k : Nat) : Prop := ∃ a ∈ ps, ∃ o n c, W.cell? a = some (.slice (some ⟨k, o, none⟩) n c)
theorem Own.same {ps : List Addr} {W W' : World} (h : ∀ a ∈ ps, W'.cell? a = W.cell? a) (k : Nat) : Own ps W' k ↔ Own ps W k := by
  constructor
  · rintro ⟨a, ha, o, n, c, hc⟩
    exact ⟨a, ha, o, n, c, by rw [← h a ha]; exact hc⟩
  · rintro ⟨a, ha, o, n, c, hc⟩
    exact ⟨a, ha, o, n, c, by rw [h a ha]; exact hc⟩

/-- What a round keeps. -/
structure KpO (ps : List Addr) (B : Nat) (W W' : World) : Prop where
  size : W.heap.size ≤ W'.heap.size
  same : ∀ (k : Nat) (o : Obj), B ≤ k → W.heap[k]? = some o → o.isCells = true → ¬ Own ps W k → W'.heap[k]? = some o ∧ ¬ Own ps W' k
theorem KpO.trans {ps : List Addr} {B : Nat} {X Y Z : World} (h : KpO ps B X Y) (k : KpO ps B Y Z) : KpO ps B X Z :=
  ⟨Nat.le_trans h.size k.size, fun i o hB hi ho hn => by
    obtain ⟨h1, h2⟩ := h.same i o hB hi ho hn
    exact k.same i o hB h1 ho h2⟩
theorem cells_frm {S : Nat → Prop} {ps : List Addr} {W W' : World} (f : Frm S W W') (h : ∀ a ∈ ps, a.block < W.heap.size ∧ ¬ S a.block) : ∀ a ∈ ps, W'.cell? a = W.cell? a :=
  fun a ha => World.cell?_of_block (w := W) (a := a) (f.block a.block (h a ha).1 (h a ha).2)
theorem KpO.of_frm {ps : List Addr} {B : Nat} {W W' : World} {S : Nat → Prop} (f : Frm S W W') (hS : ∀ k, S k → k < W.heap.size → k < B ∨ Own ps W k) (hO : ∀ k, B ≤ k → k < W.heap.size → Own ps W' k → Own ps W k) : KpO ps B W W' :=
  ⟨f.size, fun k o hB hk _ hn => by
    have hlt := (Array.getElem?_eq_some_iff.1 hk).1
    exact ⟨(f.block k hlt (fun hs => by rcases hS k hs hlt with h1 | h1; omega; exact hn h1)).trans hk, fun ho => hn (hO k hB hlt ho)⟩⟩
theorem KpO.turn {ps : List Addr} {B : Nat} (has : ∀ a ∈ ps, a.block < B) (W : World) (l : Nat) (o o' : Obj) (hl : B ≤ l) (h : W.heap[l]? = some o) (hc : o.isCells = false) (_ : o.isWalk = false) : KpO ps B W (W.putObj l o') := by
  have hg := grownBy_putObj' W l o'
  have hlt := (Array.getElem?_eq_some_iff.1 h).1
  have hcell : ∀ a ∈ ps, (W.putObj l o').cell? a = W.cell? a := fun a ha =>
    World.cell?_of_block (w := W) (a := a) (hg.block a.block (by have := has a ha; omega) (fun e => by cases e; have := has a ha; omega))
  refine ⟨hg.size, fun k o2 hB hk ho hn => ⟨?_, fun hO => hn ((Own.same hcell k).1 hO)⟩⟩
  have hne : some k ≠ some l := fun e => by cases e; rw [h] at hk; cases hk; rw [hc] at ho; cases ho
  exact (hg.block k (Array.getElem?_eq_some_iff.1 hk).1 hne).trans hk
theorem Sl.kpo {ps : List Addr} {B : Nat} {w w' : World} {F : Nat → Prop} {e : TypeId} {size : Nat} {v : Value} {n : Nat} {xs : List Value} (h : Sl w F e size v n xs) (k : KpO ps B w w') (hF : ∀ i, F i → B ≤ i ∧ ¬ Own ps w i) : Sl w' (fun i => F i ∧ ¬ Own ps w' i) e size v n xs := by
  cases h with
  | nil => exact .nil
  | @at_ g n cap xs rest hFg hb hx hr hn hm =>
    obtain ⟨h1, h2⟩ := k.same g _ (hF g hFg).1 hb.out rfl (hF g hFg).2
    exact .at_ ⟨hFg, h2⟩ ⟨h1⟩ hx hr hn hm

attribute [local go_sem] Oper.semAt_some

set_option maxHeartbeats 2000000 in
set_option maxRecDepth 100000 in
/-- The iterator over a set: its numbers in the order of their coming. -/
theorem allM_stopsO (ps : List Addr) (n : Nat) (hn : 2 ≤ n) (F : Nat → Prop) (g bx B room : Nat) (l : List (Fin room)) (w : World) (h : MK w F g room (l.map Fin.val)) (hbx : w.cell? ⟨bx, 0, none⟩ = some (.pointer (some ⟨g, 0, none⟩))) (hbl : bx < w.heap.size) (hB : B ≤ w.heap.size) (has : ∀ a ∈ ps, a.block < B) (hown : ∀ k, Own ps w k → k < w.heap.size) :
    SeqStopsK Fence.wide n Try.prog 82 #[.pointer (some ⟨bx, 0, none⟩)] (fun x : Fin room => #[.int .i64 x.val]) (KpO ps B) (fun ys => ys = l) (fun pre => pre <+: l) l.length w := by
  intro lo J Jx W hW hJ hJx hY h0
  have hF : Frm (fun _ => False) w W := Frm.of_below hW
  have hroom := h.room
  have hlen := h.nodup.2.2
  rw [List.length_map] at hlen
  obtain ⟨vw, vl, Fw, Fl, wh, hBl, hFg, hSw, hS, _⟩ := h.low.frm hF (fun _ _ h => h)
  obtain ⟨A, c, rfl⟩ := hS.form
  obtain ⟨c0, c1, f0, f1, l0⟩ := blk2 hBl
  have hbx2 := (hW.cell (p := ⟨bx, 0, none⟩) hbl).trans hbx
  have hbB : B ≤ W.heap.size := Nat.le_trans hB hW.size
  have h1 : 1 ≤ n - 1 := by omega
  rw [List.length_map] at hS c1
  refine callsIn_of_wp Try.func82 rfl trivial ?_ rfl
  simp only [Try.ntmps82, List.size_toArray, List.length_cons, List.length_nil, Nat.reduceAdd, Nat.reduceSub, Array.replicate_succ, Array.replicate_zero, List.push_toArray, List.append_toArray, List.nil_append, List.cons_append]
  gi_wp2
  refine ⟨trivial, fun _ => by omega, ?_⟩
  refine (callsIn_wide.2 (cloneM W hS.rd (by omega))).mono ?_
  rintro e w1 ⟨v1, rfl, hs1, hf1⟩
  have hownW : ∀ k, Own ps w1 k → k < w.heap.size := fun k hk => by
    have h1 : Own ps W k := (Own.same (cells_frm hf1 (fun a ha => ⟨by have := has a ha; omega, fun h => h⟩)) k).1 hk
    exact hown k ((Own.same (cells_frm hF (fun a ha => ⟨by have := has a ha; omega, fun h => h⟩)) k).1 h1)
  have hwW := hW.size
  have hs1 := hs1.mono (G := fun k => W.heap.size ≤ k ∧ ¬ Own ps w1 k) (fun k h _ => ⟨h, fun ho => by have := hownW k ho; omega⟩)
  have h01 : J [] w1 := hJ [] W w1 none h0 ((hf1.mono (fun _ h _ => h.elim)).grown) (fun r e => by cases e)
  have hz1 := hf1.size
  obtain ⟨A1, c1', rfl⟩ := hs1.form
  gi_wp2
  gi_loopw [11] (fun i wr => ∃ (pre rest : List (Fin room)), i = .int .i64 (pre.length : Int) ∧ Hid (l = pre ++ rest) ∧ J pre wr ∧ Sl wr (fun k => W.heap.size ≤ k ∧ ¬ Own ps wr k) 21 1 (.slice A1 l.length c1') l.length ((l.map Fin.val).map N32)) (fun i _ => l.length - (intOf i).toNat)
  case atStart => exact ⟨[], l, rfl, rfl, h01, hs1⟩
  case round =>
    obtain ⟨pre, rest, rfl, HX, hJs, hs⟩ := hrel
    rcases rest with _ | ⟨x, rest⟩
    · have hpl : pre = l := by have := HX.out; simpa using this.symm
      subst hpl
      gi_wp2
      go_end0
      exact ⟨⟨_, rfl⟩, .inl ⟨pre, rfl, hJs⟩⟩
    · have hlp : pre.length < l.length := by rw [HX.out]; simp
      have hxr : l[pre.length]? = some x := by rw [HX.out]; simp
      obtain ⟨b, off, rfl, hbl2, d0⟩ : ∃ b off, A1 = some ⟨b, off, none⟩ ∧ b < wr.heap.size ∧ wr.cell? ⟨b, off + pre.length, none⟩ = some (.int .i32 (x.val : Int)) := by
        obtain ⟨b, off, e, hb, hc⟩ := hs.rd.elem pre.length hlp
        exact ⟨b, off, e, hb, by simpa [N32, hxr] using hc 0 (N32 x.val) (by simp [hxr])⟩
      have hxl := x.isLt
      have hwx : IntKind.i64.wrap (x.val : Int) = (x.val : Int) := IntWalk.i64_in _ (by omega)
      obtain ⟨fn, tmps, assign, body, hy, hR⟩ := hY pre x _ hJs hlp
      clear hxr
      gi_wp2
      refine ⟨fun _ => by omega, ?_⟩
      refine hR.mono ?_
      rintro e W3 (⟨rfl, hJ3, hk3⟩ | ⟨rfl, hJx3⟩)
      · gi_wp2
        go_roundw
        case rel =>
          refine ⟨pre ++ [x], rest, by simp, ?_, hJ3, (hs.kpo hk3 (fun i hi => ⟨Nat.le_trans hbB hi.1, hi.2⟩)).mono (fun i hi _ => ⟨hi.1.1, hi.2⟩)⟩
          show l = pre ++ [x] ++ rest
          rw [HX.out]; simp
        case measure => simp [intOf] <;> omega
      · gi_wp2
        refine bodyPost_ret (results_none rfl _ _ _) rfl ?_
        refine ⟨⟨_, rfl⟩, .inr ⟨pre ++ [x], ⟨rest, ?_⟩, hJx3⟩⟩
        rw [HX.out]; simp
end Go.Proofs.Ytoadmpochaeohaa
end

section
set_option linter.unusedVariables false
set_option linter.unusedSimpArgs false
set_option maxRecDepth 100000
namespace Go.Proofs.Ytoadmpochaeohaa
open Go.RowKit

theorem blk11 {w : World} {g : Nat} {a0 a1 a2 a3 a4 a5 a6 a7 a8 a9 a10 : Value} {t : TypeId} (h : Blk w g [a0, a1, a2, a3, a4, a5, a6, a7, a8, a9, a10] t) :
    w.cell? ⟨g, 0, none⟩ = some a0 ∧ w.cell? ⟨g, 4, none⟩ = some a4 ∧ w.cell? ⟨g, 5, none⟩ = some a5 ∧ w.cell? ⟨g, 6, none⟩ = some a6 ∧ w.cell? ⟨g, 7, none⟩ = some a7 ∧ w.cell? ⟨g, 8, none⟩ = some a8 ∧ w.cell? ⟨g, 9, none⟩ = some a9 ∧ w.cell? ⟨g, 10, none⟩ = some a10 ∧ g < w.heap.size :=
  ⟨h.cell 0, h.cell 4, h.cell 5, h.cell 6, h.cell 7, h.cell 8, h.cell 9, h.cell 10, h.lt⟩
theorem frz11 {w : World} {g : Nat} {l : List Value} {t : TypeId} (h : Blk w g l t) : w.frozen? ⟨g, 5, none⟩ = false ∧ w.frozen? ⟨g, 6, none⟩ = false ∧ w.frozen? ⟨g, 7, none⟩ = false ∧ w.frozen? ⟨g, 8, none⟩ = false ∧ w.frozen? ⟨g, 9, none⟩ = false ∧ w.frozen? ⟨g, 10, none⟩ = false :=
  ⟨h.frozen 5, h.frozen 6, h.frozen 7, h.frozen 8, h.frozen 9, h.frozen 10⟩

/-- The player at block x: its program's list is A, n; the line; the sets; of each number where its part began. 'col' parts what it owns: 1 now, 2 next, 3 from, 4 then, 5 todo. -/
structure PL (w : World) (F : Nat → Prop) (col : Nat → Nat) (x : Nat) (A : Option Addr) (n cp : Nat) (gr co : Int) (fo : Bool) (line : ByteArray) (bn bx : Nat) (vf vt vd : Value) (st : Int) (ln lx : List Nat) (fr th td : List Int) : Prop where
  b : Blk w x [.slice A n cp, .int .i64 gr, .int .i64 co, .bool fo, .string line, .pointer (some ⟨bn, 0, none⟩), .pointer (some ⟨bx, 0, none⟩), vf, vt, vd, .int .i64 st] 99
  fx : F x ∧ col x = 0
  nw : MK w (fun k => F k ∧ col k = 1) bn n ln
  nx : MK w (fun k => F k ∧ col k = 2) bx n lx
  sf : Sl w (fun k => F k ∧ col k = 3) 3 1 vf n (fr.map I64)
  sh : Sl w (fun k => F k ∧ col k = 4) 3 1 vt n (th.map I64)
  sd : Sl w (fun k => F k ∧ col k = 5) 3 1 vd td.length (td.map I64)
  lf : fr.length = n
  lt : th.length = n

section
variable {w w1 : World} {F : Nat → Prop} {col : Nat → Nat} {x : Nat} {A : Option Addr} {n cp : Nat} {gr co : Int} {fo : Bool} {line : ByteArray} {bn bx : Nat} {vf vt vd : Value} {st : Int} {ln lx : List Nat} {fr th td : List Int}
theorem PL.frm {S : Nat → Prop} (h : PL w F col x A n cp gr co fo line bn bx vf vt vd st ln lx fr th td) (f : Frm S w w1) (hd : ∀ k, F k → ¬ S k) : PL w1 F col x A n cp gr co fo line bn bx vf vt vd st ln lx fr th td :=
  ⟨h.b.frm f (hd _ h.fx.1), h.fx, h.nw.frm f (fun k hk => hd k hk.1), h.nx.frm f (fun k hk => hd k hk.1), h.sf.frm f (fun k hk => hd k hk.1), h.sh.frm f (fun k hk => hd k hk.1), h.sd.frm f (fun k hk => hd k hk.1), h.lf, h.lt⟩
theorem PL.low (h : PL w F col x A n cp gr co fo line bn bx vf vt vd st ln lx fr th td) : PL w (fun k => F k ∧ k < w.heap.size) col x A n cp gr co fo line bn bx vf vt vd st ln lx fr th td :=
  ⟨h.b, ⟨⟨h.fx.1, h.b.lt⟩, h.fx.2⟩, h.nw.low.mono (fun k hk _ => ⟨⟨hk.1.1, hk.2⟩, hk.1.2⟩), h.nx.low.mono (fun k hk _ => ⟨⟨hk.1.1, hk.2⟩, hk.1.2⟩), h.sf.low.mono (fun k hk _ => ⟨⟨hk.1.1, hk.2⟩, hk.1.2⟩), h.sh.low.mono (fun k hk _ => ⟨⟨hk.1.1, hk.2⟩, hk.1.2⟩), h.sd.low.mono (fun k hk _ => ⟨⟨hk.1.1, hk.2⟩, hk.1.2⟩), h.lf, h.lt⟩
/-- The number of steps is stored. -/
theorem PL.steps (h : PL w F col x A n cp gr co fo line bn bx vf vt vd st ln lx fr th td) (st' : Int) : PL (w.setCell ⟨x, 10, none⟩ (.int .i64 st')) F col x A n cp gr co fo line bn bx vf vt vd st' ln lx fr th td := by
  have f : Frm (fun k => k = x) w (w.setCell ⟨x, 10, none⟩ (.int .i64 st')) := (Frm.refl (fun k => k = x) w).set x 10 _ (fun _ => rfl)
  have hx := h.fx.2
  have no : ∀ (c : Nat), 1 ≤ c → ∀ k, (F k ∧ col k = c) → ¬ (k = x) := fun c hc k hk e => by subst e; omega
  exact ⟨h.b.setSame 10 _, h.fx, h.nw.frm f (no 1 (by omega)), h.nx.frm f (no 2 (by omega)), h.sf.frm f (no 3 (by omega)), h.sh.frm f (no 4 (by omega)), h.sd.frm f (no 5 (by omega)), h.lf, h.lt⟩
/-- A new list to go over is stored, laid in blocks of its own. -/
theorem PL.todo {F' : Nat → Prop} {col' : Nat → Nat} {td' : List Int} {vd' : Value} {w2 : World} {S : Nat → Prop} (h : PL w F col x A n cp gr co fo line bn bx vf vt vd st ln lx fr th td) (f : Frm S w w2) (hS : ∀ k, S k → F k → col k = 5)
    (ht : Sl w2 (fun k => F' k ∧ col' k = 5) 3 1 vd' td'.length (td'.map I64)) (hF : ∀ k, F k → k < w.heap.size → F' k ∧ col' k = col k) : PL (w2.setCell ⟨x, 9, none⟩ vd') F' col' x A n cp gr co fo line bn bx vf vt vd' st ln lx fr th td' := by
  have hl := h.low
  have hxl := h.b.lt
  have f2 : Frm (fun k => k = x) w2 (w2.setCell ⟨x, 9, none⟩ vd') := (Frm.refl (fun k => k = x) w2).set x 9 _ (fun _ => rfl)
  have hx := h.fx.2
  have nS : ∀ (c : Nat), c ≠ 5 → ∀ k, ((F k ∧ k < w.heap.size) ∧ col k = c) → ¬ S k := fun c hc k hk hs => by have := hS k hs hk.1.1; omega
  have no : ∀ (c : Nat), 1 ≤ c → ∀ k, ((F k ∧ k < w.heap.size) ∧ col k = c) → ¬ (k = x) := fun c hc k hk e => by subst e; omega
  have hx' := hF x h.fx.1 hxl
  have hb2 := h.b.frm f (fun hs => by have := hS x hs h.fx.1; omega)
  refine ⟨hb2.setSame 9 vd', ⟨hx'.1, by rw [hx'.2]; exact hx⟩, ?_, ?_, ?_, ?_, ht.set x 9 vd' (fun hk => by have := hk.2; rw [hx'.2] at this; omega), h.lf, h.lt⟩
  · exact ((hl.nw.frm f (nS 1 (by omega))).frm f2 (no 1 (by omega))).mono (fun k hk _ => ⟨(hF k hk.1.1 hk.1.2).1, by rw [(hF k hk.1.1 hk.1.2).2]; exact hk.2⟩)
  · exact ((hl.nx.frm f (nS 2 (by omega))).frm f2 (no 2 (by omega))).mono (fun k hk _ => ⟨(hF k hk.1.1 hk.1.2).1, by rw [(hF k hk.1.1 hk.1.2).2]; exact hk.2⟩)
  · exact ((hl.sf.frm f (nS 3 (by omega))).frm f2 (no 3 (by omega))).mono (fun k hk _ => ⟨(hF k hk.1.1 hk.1.2).1, by rw [(hF k hk.1.1 hk.1.2).2]; exact hk.2⟩)
  · exact ((hl.sh.frm f (nS 4 (by omega))).frm f2 (no 4 (by omega))).mono (fun k hk _ => ⟨(hF k hk.1.1 hk.1.2).1, by rw [(hF k hk.1.1 hk.1.2).2]; exact hk.2⟩)
/-- A step on 'next'. -/
theorem PL.next {lx' : List Nat} (h : PL w F col x A n cp gr co fo line bn bx vf vt vd st ln lx fr th td) (f : Frm (fun k => F k ∧ col k = 2) w w1) (hm : MK w1 (fun k => (F k ∧ col k = 2) ∨ w.heap.size ≤ k) bx n lx') :
    PL w1 (fun k => F k ∨ w.heap.size ≤ k) (fun k => if k < w.heap.size then col k else 2) x A n cp gr co fo line bn bx vf vt vd st ln lx' fr th td := by
  have hl := h.low
  have hxl := h.b.lt
  have hx := h.fx.2
  have key : ∀ (c : Nat), c ≠ 2 → ∀ k, ((F k ∧ k < w.heap.size) ∧ col k = c) → ¬ (F k ∧ col k = 2) := fun c hc k hk hs => by omega
  have up : ∀ (c : Nat), ∀ k, ((F k ∧ k < w.heap.size) ∧ col k = c) → k < w1.heap.size → ((F k ∨ w.heap.size ≤ k) ∧ (if k < w.heap.size then col k else 2) = c) := fun c k hk _ => ⟨.inl hk.1.1, by rw [if_pos hk.1.2]; exact hk.2⟩
  refine ⟨h.b.frm f (fun hs => by omega), ⟨.inl h.fx.1, by rw [if_pos hxl]; exact hx⟩, (hl.nw.frm f (key 1 (by omega))).mono (up 1), hm.mono (fun k hk _ => ?_), (hl.sf.frm f (key 3 (by omega))).mono (up 3), (hl.sh.frm f (key 4 (by omega))).mono (up 4), (hl.sd.frm f (key 5 (by omega))).mono (up 5), h.lf, h.lt⟩
  by_cases hkl : k < w.heap.size
  · rcases hk with hk | hk
    · exact ⟨.inl hk.1, by rw [if_pos hkl]; exact hk.2⟩
    · omega
  · exact ⟨.inr (by omega), by rw [if_neg hkl]⟩
/-- Where a part began is stored. -/
theorem PL.then_ {b c k : Nat} (h : PL w F col x A n cp gr co fo line bn bx vf (.slice (some ⟨b, 0, none⟩) n c) vd st ln lx fr th td) (hk : k < n) (hFb : F b ∧ col b = 4) (f : Int) :
    PL (w.setCell ⟨b, k, none⟩ (.int .i64 f)) F col x A n cp gr co fo line bn bx vf (.slice (some ⟨b, 0, none⟩) n c) vd st ln lx fr (th.set k f) td := by
  have ff : Frm (fun i => i = b) w (w.setCell ⟨b, k, none⟩ (.int .i64 f)) := (Frm.refl (fun i => i = b) w).set b k _ (fun _ => rfl)
  have no : ∀ (c : Nat), c ≠ 4 → ∀ i, (F i ∧ col i = c) → ¬ (i = b) := fun c hc i hi e => by subst e; omega
  have ht := h.sh.put hk (.int .i64 f)
  rw [show (th.map I64).set k (.int .i64 f) = (th.set k f).map I64 by rw [List.map_set]; rfl] at ht
  have hxb : x ≠ b := fun e => by have := h.fx.2; subst e; omega
  exact ⟨h.b.setOther b k _ hxb, h.fx, h.nw.frm ff (no 1 (by omega)), h.nx.frm ff (no 2 (by omega)), h.sf.frm ff (no 3 (by omega)), ht, h.sd.frm ff (no 5 (by omega)), h.lf, by rw [List.length_set]; exact h.lt⟩
end
end Go.Proofs.Ytoadmpochaeohaa
end
