/-
  Layer 20: on, whole.
-/
import Derived.Test.YtoadmpochaeohaaBOn1
import Derived.Test.YtoadmpochaeohaaBOnS
import Derived.Test.YtoadmpochaeohaaBOn6
import Derived.Test.YtoadmpochaeohaaBOn7
import Derived.Test.YtoadmpochaeohaaBOn8
import Derived.Test.YtoadmpochaeohaaBOn10
set_option linter.unusedVariables false
set_option linter.unusedSimpArgs false
set_option maxRecDepth 100000
namespace Go.Proofs.Ytoadmpochaeohaa
open Go.RowKit

def nsS (m : Mc) : Nat := (m.slot.filter (0 ≤ ·)).length
/-- What an instruction must be. -/
structure InsOk (m : Mc) (i : Ins) (k : Nat) : Prop where
  op : 1 ≤ i.op ∧ i.op ≤ 11
  tgt : ∀ t ∈ leadsS i k, t < m.ins.length
  xy : i.op = 2 ∨ i.op = 10 → 0 ≤ i.x ∧ 0 ≤ i.y
  x : i.op = 3 → 0 ≤ i.x
  gr : i.op = 6 ∨ i.op = 7 ∨ i.op = 8 → 0 ≤ i.n ∧ ∃ g, m.slot[i.n.toNat]? = some g ∧ g < nsS m ∧ (i.op = 8 → 0 ≤ g)
  co : i.op = 9 ∨ i.op = 10 → 0 ≤ i.n ∧ i.n.toNat < m.most.length
/-- What a machine must be. -/
structure MW (m : Mc) : Prop where
  ni : m.ins.length ≤ 40000
  ok : ∀ (k : Nat) (i : Ins), m.ins[k]? = some i → InsOk m i k
  ns : nsS m ≤ 1000
  nm : m.most.length ≤ 1000
  sl : m.slot.length ≤ 1000
  most : ∀ v ∈ m.most, 0 ≤ v ∧ v ≤ 1000000
  live : m.live.length = m.ins.length
  row : ∀ (k : Nat) (r : List Lv), m.live[k]? = some r → nsS m ≤ r.length
/-- What a configuration must be; N: the line's length. -/
structure CW (m : Mc) (N : Nat) (c : Cf) : Prop where
  pc : c.pc < m.ins.length
  at_ : c.at_ ≤ N
  np : c.parts.length = nsS m
  nt : c.turns.length = m.most.length
  p : ∀ p ∈ c.parts, (-1 ≤ p.began ∧ p.began ≤ c.at_) ∧ (-1 ≤ p.frm ∧ p.frm ≤ c.at_) ∧ (-1 ≤ p.til ∧ p.til ≤ c.at_) ∧ (0 ≤ p.frm → p.frm ≤ p.til)
  t : ∀ t ∈ c.turns, (0 ≤ t.many ∧ t.many ≤ 1000000) ∧ (-1 ≤ t.began ∧ t.began ≤ c.at_)
theorem CW.go {m : Mc} {N : Nat} {c : Cf} (h : CW m N c) {pc at_ : Nat} (hp : pc < m.ins.length) (ha : c.at_ ≤ at_) (hN : at_ ≤ N) : CW m N { c with pc := pc, at_ := at_ } :=
  ⟨hp, hN, h.np, h.nt, fun p hp => by have := h.p p hp; simp only; omega, fun t ht => by have := h.t t ht; simp only; omega⟩
theorem mem_set_or {α : Type} {l : List α} {k : Nat} {x y : α} (h : y ∈ l.set k x) : y ∈ l ∨ y = x := List.mem_or_eq_of_mem_set h
theorem CW.count {m : Mc} {N : Nat} {c : Cf} (h : CW m N c) {pc k : Nat} {t : Tn} (hp : pc < m.ins.length) (ht : (0 ≤ t.many ∧ t.many ≤ 1000000) ∧ (-1 ≤ t.began ∧ t.began ≤ c.at_)) : CW m N { countS c k t with pc := pc } :=
  ⟨hp, h.at_, h.np, by simp [countS, h.nt], h.p, fun u hu => by
    rcases mem_set_or hu with hu | rfl
    · exact h.t u hu
    · exact ht⟩
theorem brkS_len (l : List Pt) (g op at_ : Int) : (brkS l g op at_).length = l.length := by
  unfold brkS
  split
  · rfl
  · simp only; split <;> simp
theorem CW.brk {m : Mc} {N : Nat} {c : Cf} (h : CW m N c) {pc : Nat} {g op : Int} (hp : pc < m.ins.length) : CW m N { c with parts := brkS c.parts g op c.at_, pc := pc } := by
  refine ⟨hp, h.at_, by rw [← h.np]; exact brkS_len _ _ _ _, h.nt, fun p hpm => ?_, h.t⟩
  simp only at hpm ⊢
  unfold brkS at hpm
  split at hpm
  · exact h.p p hpm
  · have hq : (-1 ≤ (c.parts.getD g.toNat ⟨-1, -1, -1⟩).began ∧ (c.parts.getD g.toNat ⟨-1, -1, -1⟩).began ≤ c.at_) ∧ (-1 ≤ (c.parts.getD g.toNat ⟨-1, -1, -1⟩).frm ∧ (c.parts.getD g.toNat ⟨-1, -1, -1⟩).frm ≤ c.at_) ∧ (-1 ≤ (c.parts.getD g.toNat ⟨-1, -1, -1⟩).til ∧ (c.parts.getD g.toNat ⟨-1, -1, -1⟩).til ≤ c.at_) ∧ (0 ≤ (c.parts.getD g.toNat ⟨-1, -1, -1⟩).frm → (c.parts.getD g.toNat ⟨-1, -1, -1⟩).frm ≤ (c.parts.getD g.toNat ⟨-1, -1, -1⟩).til) := by
      rw [List.getD_eq_getElem?_getD]
      cases hx : c.parts[g.toNat]? with
      | none => simp only [Option.getD_none]; omega
      | some x => exact h.p x (List.mem_of_getElem? hx)
    generalize c.parts.getD g.toNat ⟨-1, -1, -1⟩ = q at *
    simp only at hpm
    split at hpm
    · rcases mem_set_or hpm with hpm | rfl
      · exact h.p p hpm
      · simp only; omega
    · rcases mem_set_or hpm with hpm | rfl
      · exact h.p p hpm
      · simp only
        split <;> omega
theorem leads_next {m : Mc} {i : Ins} {k : Nat} (h : InsOk m i k) (h1 : i.op ≠ 2) (h2 : i.op ≠ 10) (h3 : i.op ≠ 3) (h4 : i.op ≠ 11) : k + 1 < m.ins.length := h.tgt (k + 1) (by simp [leadsS, h1, h2, h3, h4])
theorem on_CW {m : Mc} {line : List UInt8} {c : Cf} (hW : MW m) (h : CW m line.length c) : ∀ c' ∈ onS m line c, CW m line.length c' := by
  intro c' hc'
  obtain ⟨i, hi⟩ : ∃ i, m.ins[c.pc]? = some i := ⟨_, List.getElem?_eq_getElem h.pc⟩
  have hI := hW.ok _ _ hi
  unfold onS at hc'
  rw [hi] at hc'
  simp only at hc'
  by_cases h1 : i.op = 1
  · rw [if_pos h1] at hc'
    split at hc'
    · rename_i x hx
      have := (List.getElem?_eq_some_iff.1 hx).1
      split at hc'
      · rw [List.mem_singleton] at hc'; subst hc'
        exact h.go (leads_next hI (by omega) (by omega) (by omega) (by omega)) (by omega) (by omega)
      · cases hc'
    · cases hc'
  rw [if_neg h1] at hc'
  by_cases h2 : i.op = 2
  · rw [if_pos h2] at hc'
    have ht : ∀ t, t = i.x.toNat ∨ t = i.y.toNat → t < m.ins.length := fun t ht => hI.tgt t (by simp [leadsS, h2, ht])
    simp only [List.mem_cons, List.not_mem_nil, or_false] at hc'
    rcases hc' with rfl | rfl
    · exact h.go (ht _ (.inr rfl)) (Nat.le_refl _) h.at_
    · exact h.go (ht _ (.inl rfl)) (Nat.le_refl _) h.at_
  rw [if_neg h2] at hc'
  by_cases h3 : i.op = 3
  · rw [if_pos h3] at hc'
    rw [List.mem_singleton] at hc'; subst hc'
    exact h.go (hI.tgt _ (by simp [leadsS, h3])) (Nat.le_refl _) h.at_
  rw [if_neg h3] at hc'
  by_cases h4 : i.op = 4
  · rw [if_pos h4] at hc'
    split at hc'
    · rw [List.mem_singleton] at hc'; subst hc'
      exact h.go (leads_next hI (by omega) (by omega) (by omega) (by omega)) (Nat.le_refl _) h.at_
    · cases hc'
  rw [if_neg h4] at hc'
  by_cases h5 : i.op = 5
  · rw [if_pos h5] at hc'
    split at hc'
    · rw [List.mem_singleton] at hc'; subst hc'
      exact h.go (leads_next hI (by omega) (by omega) (by omega) (by omega)) (Nat.le_refl _) h.at_
    · cases hc'
  rw [if_neg h5] at hc'
  by_cases h6 : i.op = 6 ∨ i.op = 7
  · rw [if_pos h6] at hc'
    rw [List.mem_singleton] at hc'; subst hc'
    obtain ⟨_, g, hg, _⟩ := hI.gr (by omega)
    rw [brk_eq m c i g hg]
    exact h.brk (leads_next hI (by omega) (by omega) (by omega) (by omega))
  rw [if_neg h6] at hc'
  by_cases h8 : i.op = 8
  · rw [if_pos h8] at hc'
    split at hc'
    · rename_i n hn
      rw [List.mem_singleton] at hc'; subst hc'
      unfold againS at hn
      split at hn
      · cases hn
      · rename_i p hp
        have hpp := h.p p (List.mem_of_getElem? hp)
        split at hn
        · cases hn
        · rename_i hno
          split at hn
          · injection hn with hn
            exact h.go (leads_next hI (by omega) (by omega) (by omega) (by omega)) (by omega) (by have := h.at_; omega)
          · cases hn
    · cases hc'
  rw [if_neg h8] at hc'
  by_cases h9 : i.op = 9
  · rw [if_pos h9] at hc'
    rw [List.mem_singleton] at hc'; subst hc'
    exact h.count (leads_next hI (by omega) (by omega) (by omega) (by omega)) (by simp only; omega)
  rw [if_neg h9] at hc'
  by_cases h10 : i.op = 10
  · rw [if_pos h10] at hc'
    have ht : ∀ t, t = i.x.toNat ∨ t = i.y.toNat → t < m.ins.length := fun t ht => hI.tgt t (by simp [leadsS, h10, ht])
    obtain ⟨hn0, hn1⟩ := hI.co (by omega)
    obtain ⟨t, htn⟩ : ∃ t, c.turns[i.n.toNat]? = some t := ⟨_, List.getElem?_eq_getElem (by rw [h.nt]; exact hn1)⟩
    obtain ⟨mo, hmo⟩ : ∃ t, m.most[i.n.toNat]? = some t := ⟨_, List.getElem?_eq_getElem hn1⟩
    have htb := h.t t (List.mem_of_getElem? htn)
    have hmb := hW.most mo (List.mem_of_getElem? hmo)
    simp only [List.getD_eq_getElem?_getD, htn, hmo, Option.getD_some] at hc'
    split at hc'
    · cases hc'
    · rcases List.mem_append.1 hc' with hc' | hc'
      · split at hc'
        · rw [List.mem_singleton] at hc'; subst hc'
          exact h.go (ht _ (.inr rfl)) (Nat.le_refl _) h.at_
        · cases hc'
      · split at hc'
        · rw [List.mem_singleton] at hc'; subst hc'
          exact h.count (ht _ (.inl rfl)) (by simp only; omega)
        · cases hc'
  rw [if_neg h10] at hc'
  cases hc'

theorem onM {E D : Nat → Prop} {b g bm : Nat} {s : Stt} {m : Mc} {line : ByteArray} {pile : List Fr} {seen : List Key} {steps kept : Nat} {A B : Option Addr} {n cA k d : Nat} {w : World} (c : Cf) (hW : MW m) (hcw : CW m line.size c)
    (hM : MM w E D b g bm s m line pile seen steps kept) (hc : CfR w D c.parts c.turns A n cA B k d) (hb : pile.length ≤ 1073741000) (hls : line.size ≤ 900000) :
    Calls Try.prog 56 #[.pointer (some ⟨b, 0, none⟩), .agg #[.int .i64 c.pc, .int .i64 c.at_, .slice A n cA, .slice B k d]] w fun e w' => e = .returned (.tuple #[]) ∧ MX w E D w' b g bm s m line ((onS m line.toList c).reverse.map .look ++ pile) seen steps kept := by
  obtain ⟨pc, at_, parts, turns⟩ := c
  have hpc := hcw.pc
  have hat := hcw.at_
  simp only at hc hpc hat ⊢
  obtain ⟨i, hi⟩ : ∃ i, m.ins[pc]? = some i := ⟨_, List.getElem?_eq_getElem hpc⟩
  have hI := hW.ok _ _ hi
  have hp4 : pc ≤ 40000 := by have := hW.ni; omega
  have hls2 : line.size ≤ 1048576 := by omega
  have hnp : parts.length ≤ 1000 := by have := hcw.np; have := hW.ns; simp only at *; omega
  have hnt : turns.length ≤ 1000 := by have := hcw.nt; have := hW.nm; simp only at *; omega
  have hop := hI.op
  have hops : i.op = 1 ∨ i.op = 2 ∨ i.op = 3 ∨ i.op = 4 ∨ i.op = 5 ∨ i.op = 6 ∨ i.op = 7 ∨ i.op = 8 ∨ i.op = 9 ∨ i.op = 10 ∨ i.op = 11 := by omega
  rcases hops with h | h | h | h | h | h | h | h | h | h | h
  · exact on1M pc at_ i hM hc hb hi hp4 hat hls2 h trivial
  · exact on2M pc at_ i hM hc hb hi hp4 hat hls2 h (hI.xy (by omega))
  · exact on3M pc at_ i hM hc hb hi hp4 hat hls2 h (hI.x h)
  · exact on4M pc at_ i hM hc hb hi hp4 hat hls2 h trivial
  · exact on5M pc at_ i hM hc hb hi hp4 hat hls2 h trivial
  · obtain ⟨h0, g, hg, hgn, _⟩ := hI.gr (by omega)
    exact on6M pc at_ i hM hc hb hi hp4 hat hls2 h h0 g hg (by have := hcw.np; simp only at this; omega) hnp
  · obtain ⟨h0, g, hg, hgn, _⟩ := hI.gr (by omega)
    exact on7M pc at_ i hM hc hb hi hp4 hat hls2 h h0 g hg (by have := hcw.np; simp only at this; omega) hnp
  · obtain ⟨h0, g, hg, hgn, hg0⟩ := hI.gr (by omega)
    obtain ⟨gn, rfl⟩ := Int.eq_ofNat_of_zero_le (hg0 h)
    obtain ⟨p, hp⟩ : ∃ p, parts[gn]? = some p := ⟨_, List.getElem?_eq_getElem (by have := hcw.np; simp only at this; omega)⟩
    have hpb := hcw.p p (List.mem_of_getElem? hp)
    simp only at hpb
    exact on8M pc at_ i hM hc hb hi hp4 hat hls2 h h0 gn p hg hp (by omega) (by omega) hpb.2.2.2
  · obtain ⟨h0, h1⟩ := hI.co (by omega)
    exact on9M pc at_ i hM hc hb hi hp4 hat hls2 h ⟨h0, by have := hcw.nt; simp only at this; omega⟩ hnt
  · obtain ⟨h0, h1⟩ := hI.co (by omega)
    obtain ⟨hx, hy⟩ := hI.xy (by omega)
    obtain ⟨t, ht⟩ : ∃ t, turns[i.n.toNat]? = some t := ⟨_, List.getElem?_eq_getElem (by have := hcw.nt; simp only at this; omega)⟩
    have htb := hcw.t t (List.mem_of_getElem? ht)
    simp only at htb
    exact on10M pc at_ i hM hc hb hi hp4 hat hls2 h ⟨hx, hy, h0⟩ t ht _ (List.getElem?_eq_getElem h1) (by omega) hnt
  · exact on11M pc at_ i hM hc hb hi hp4 hat hls2 h trivial
end Go.Proofs.Ytoadmpochaeohaa
