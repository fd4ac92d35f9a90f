/-
  Reference 14: where a configuration leads, whole.
-/
import Derived.Test.YtoadmpochaeohaaPa24
import Derived.Test.YtoadmpochaeohaaPa25
import Derived.Test.YtoadmpochaeohaaPa26
import Derived.Test.YtoadmpochaeohaaPa27
import Derived.Test.YtoadmpochaeohaaPa22
section
set_option linter.unusedVariables false
set_option linter.unusedSimpArgs false
set_option maxRecDepth 100000
namespace Go.Proofs.Ytoadmpochaeohaa
open Go.RowKit

theorem nextC (bX : Nat) (A : Option Addr) (n cp gr co : Nat) (fo : Bool) (ins : List Ins) (line : ByteArray) (bR : Nat) (sv mv : Value) (s : CA) (c : RC) (E D : Nat → Prop) (w : World) (hP : PlM w E bX A n cp gr co fo ins line bR sv mv) (hC : CRd w D s gr co c) (hR : RW ins line.size c) (hr : rightE ins gr co = 0) (hok : ∀ i ∈ ins, i.ok) (hN : line.size ≤ 1000000) :
    Calls Try.prog 50 #[.pointer (some ⟨bX, 0, none⟩), .agg (s.cells gr co c.pc c.at_).toArray] w fun e w' => ∃ v, e = .returned v ∧ CfL w' (fun q => w.heap.size ≤ q) (fun q => D q ∨ w.heap.size ≤ q) gr co v (nextR ins fo line.toList (refsN ins gr) c) ∧ Frm (fun _ => False) w w' := by
  obtain ⟨r1, r2, r3, r4, r5⟩ := right_ok hr
  obtain ⟨i, hi⟩ : ∃ i, ins[c.pc]? = some i := ⟨_, List.getElem?_eq_getElem hR.pc⟩
  have f := fine_ok (r5 _ i hi)
  have hoki := hok i (List.mem_of_getElem? hi)
  have ho := f.op
  obtain h | h | h | h | h | h | h | h | h | h | h : i.op = 1 ∨ i.op = 2 ∨ i.op = 3 ∨ i.op = 4 ∨ i.op = 5 ∨ i.op = 6 ∨ i.op = 7 ∨ i.op = 8 ∨ i.op = 9 ∨ i.op = 10 ∨ i.op = 11 := by omega
  · exact next1 bX A n cp gr co fo ins line bR sv mv s c i E D w hP hC hR hi f (by omega) (by omega) r1 hN hoki h
  · exact next2 bX A n cp gr co fo ins line bR sv mv s c i E D w hP hC hR hi f (by omega) (by omega) r1 hN h
  · exact next3 bX A n cp gr co fo ins line bR sv mv s c i E D w hP hC hR hi f (by omega) (by omega) r1 hN h
  · exact next4 bX A n cp gr co fo ins line bR sv mv s c i E D w hP hC hR hi f (by omega) (by omega) r1 hN h
  · exact next5 bX A n cp gr co fo ins line bR sv mv s c i E D w hP hC hR hi f (by omega) (by omega) r1 hN h
  · exact next6 bX A n cp gr co fo ins line bR sv mv s c i E D w hP hC hR hi f (by omega) (by omega) r1 hN h
  · exact next7 bX A n cp gr co fo ins line bR sv mv s c i E D w hP hC hR hi f (by omega) (by omega) r1 hN h
  · exact next8 bX A n cp gr co fo ins line bR sv mv s c i E D w hP hC hR hi f (by omega) (by omega) r1 hN h
  · exact next9 bX A n cp gr co fo ins line bR sv mv s c i E D w hP hC hR hi f (by omega) (by omega) r1 hN h
  · exact next10 bX A n cp gr co fo ins line bR sv mv s c i E D w hP hC hR hi f (by omega) (by omega) r1 hN h
  · exact next11 bX A n cp gr co fo ins line bR sv mv s c i E D w hP hC hR hi f (by omega) (by omega) r1 hN h
end Go.Proofs.Ytoadmpochaeohaa
end

section
set_option linter.unusedVariables false
set_option linter.unusedSimpArgs false
set_option maxRecDepth 100000
namespace Go.Proofs.Ytoadmpochaeohaa
open Go.RowKit

/-- So many configurations are looked at, at most so many and one. -/
def walkR (nx : RC → List RC) (most : Nat) : Nat → Nat → List (List UInt8) → RC → Nat
  | 0, many, _, _ => many
  | f + 1, many, way, c => if textR c ∈ way then many + 1 else (nx c).foldl (fun m d => if m ≤ most then walkR nx most f m (way ++ [textR c]) d else m) (many + 1)
def kidsR (nx : RC → List RC) (most f : Nat) (way : List (List UInt8)) (l : List RC) (m : Nat) : Nat := l.foldl (fun m d => if m ≤ most then walkR nx most f m way d else m) m
theorem mem_set_or_ {α : Type} {l : List α} {k : Nat} {x y : α} (h : y ∈ l.set k x) : y ∈ l ∨ y = x := List.mem_or_eq_of_mem_set h
/-- Where it leads, one may go on. -/
theorem next_RW {ins : List Ins} {gr co : Int} {fo : Bool} {L : List UInt8} {refs : List Bool} {c d : RC} {M : Int} (hfi : ∀ (k : Nat) (i : Ins), ins[k]? = some i → FineI ins.length gr co k i) (h : RW ins L.length c) (hM : ∀ z ∈ c.turns, z ≤ M) (hM2 : M + 1 ≤ 1000000) (hd : d ∈ nextR ins fo L refs c) : RW ins L.length d ∧ (∀ z ∈ d.turns, z ≤ M + 1) := by
  have hM1 : ∀ z ∈ c.turns, z ≤ M + 1 := fun z hz => by have := hM z hz; omega
  obtain ⟨i, hi⟩ : ∃ i, ins[c.pc]? = some i := ⟨_, List.getElem?_eq_getElem h.pc⟩
  have f := hfi _ i hi
  have nx : i.op ≠ 2 → i.op ≠ 3 → i.op ≠ 10 → i.op ≠ 11 → c.pc + 1 < ins.length := fun a b e g => f.nx a b e g
  have same : ∀ p, p < ins.length → RW ins L.length { c with pc := p } := fun p hp => ⟨hp, h.at_, h.b, h.f, h.t, h.ft, h.tn, h.l⟩
  have go : ∀ p a, p < ins.length → c.at_ ≤ a → a ≤ L.length → RW ins L.length { c with pc := p, at_ := a } := fun p a hp ha hL =>
    ⟨hp, hL, fun z hz => by have := h.b z hz; simp only; omega, fun z hz => by have := h.f z hz; simp only; omega, fun z hz => by have := h.t z hz; simp only; omega, h.ft, h.tn, fun z hz => by have := h.l z hz; simp only; omega⟩
  unfold nextR at hd
  rw [hi] at hd
  simp only at hd
  by_cases h1 : i.op = 1
  · rw [if_pos h1] at hd
    split at hd
    · rename_i x hx
      split at hd
      · rw [List.mem_singleton] at hd; subst hd
        have := (List.getElem?_eq_some_iff.1 hx).1
        exact ⟨go _ _ (nx (by omega) (by omega) (by omega) (by omega)) (by omega) (by omega), hM1⟩
      · cases hd
    · cases hd
  rw [if_neg h1] at hd
  by_cases h2 : i.op = 2
  · rw [if_pos h2] at hd
    have hx := f.x (.inl h2)
    have hy := f.y (.inl h2)
    simp only [List.mem_cons, List.not_mem_nil, or_false] at hd
    rcases hd with rfl | rfl
    · exact ⟨same _ (by omega), hM1⟩
    · exact ⟨same _ (by omega), hM1⟩
  rw [if_neg h2] at hd
  by_cases h3 : i.op = 3
  · rw [if_pos h3, List.mem_singleton] at hd; subst hd
    have hx := f.x (.inr (.inl h3))
    exact ⟨same _ (by omega), hM1⟩
  rw [if_neg h3] at hd
  by_cases h4 : i.op = 4
  · rw [if_pos h4] at hd
    split at hd
    · rw [List.mem_singleton] at hd; subst hd
      exact ⟨same _ (nx (by omega) (by omega) (by omega) (by omega)), hM1⟩
    · cases hd
  rw [if_neg h4] at hd
  by_cases h5 : i.op = 5
  · rw [if_pos h5] at hd
    split at hd
    · rw [List.mem_singleton] at hd; subst hd
      exact ⟨same _ (nx (by omega) (by omega) (by omega) (by omega)), hM1⟩
    · cases hd
  rw [if_neg h5] at hd
  by_cases h6 : i.op = 6
  · rw [if_pos h6] at hd
    have hn := nx (by omega) (by omega) (by omega) (by omega)
    split at hd
    · rw [List.mem_singleton] at hd; subst hd
      refine ⟨⟨hn, h.at_, fun z hz => ?_, h.f, h.t, h.ft, h.tn, h.l⟩, hM1⟩
      rcases mem_set_or_ hz with hz | rfl
      · exact h.b z hz
      · simp only; omega
    · rw [List.mem_singleton] at hd; subst hd
      exact ⟨same _ hn, hM1⟩
  rw [if_neg h6] at hd
  by_cases h7 : i.op = 7
  · rw [if_pos h7] at hd
    have hn := nx (by omega) (by omega) (by omega) (by omega)
    have hb : c.began.getD i.n.toNat (-1) ≤ c.at_ ∧ -1 ≤ c.began.getD i.n.toNat (-1) := by
      rw [List.getD_eq_getElem?_getD]
      cases hq : c.began[i.n.toNat]? with
      | none => simp only [Option.getD_none]; omega
      | some z => have := h.b z (List.mem_of_getElem? hq); simp only [Option.getD_some]; omega
    split at hd
    · rw [List.mem_singleton] at hd; subst hd
      refine ⟨⟨hn, h.at_, h.b, fun z hz => ?_, fun z hz => ?_, fun k x y hx hy h0 => ?_, h.tn, h.l⟩, hM1⟩
      · rcases mem_set_or_ hz with hz | rfl
        · exact h.f z hz
        · simp only; split <;> omega
      · rcases mem_set_or_ hz with hz | rfl
        · exact h.t z hz
        · simp only; omega
      · simp only at hx hy
        rw [List.getElem?_set] at hx hy
        by_cases e : i.n.toNat = k
        · rw [if_pos e] at hx hy
          split at hx
          · injection hx with hx
            split at hy
            · injection hy with hy
              subst hx; subst hy
              split <;> omega
            · cases hy
          · cases hx
        · rw [if_neg e] at hx hy
          exact h.ft k x y hx hy h0
    · rw [List.mem_singleton] at hd; subst hd
      exact ⟨same _ hn, hM1⟩
  rw [if_neg h7] at hd
  by_cases h8 : i.op = 8
  · rw [if_pos h8] at hd
    have hn := nx (by omega) (by omega) (by omega) (by omega)
    split at hd
    · cases hd
    · rename_i hno
      split at hd
      · rw [List.mem_singleton] at hd; subst hd
        refine ⟨go _ _ hn (Nat.le_add_right _ _) ?_, hM1⟩
        have := h.at_
        omega
      · cases hd
  rw [if_neg h8] at hd
  by_cases h9 : i.op = 9
  · rw [if_pos h9, List.mem_singleton] at hd; subst hd
    have hn := nx (by omega) (by omega) (by omega) (by omega)
    refine ⟨⟨hn, h.at_, h.b, h.f, h.t, h.ft, fun z hz => ?_, fun z hz => ?_⟩, fun z hz => ?_⟩
    · rcases mem_set_or_ hz with hz | rfl
      · exact h.tn z hz
      · omega
    · rcases mem_set_or_ hz with hz | rfl
      · exact h.l z hz
      · simp only; omega
    · rcases mem_set_or_ hz with hz | rfl
      · exact hM1 z hz
      · by_cases e : c.turns = []
        · rw [e] at hz; simp at hz
        · obtain ⟨y, hy⟩ := List.exists_mem_of_ne_nil _ e
          have := hM y hy; have := h.tn y hy; omega
  rw [if_neg h9] at hd
  by_cases h10 : i.op = 10
  · rw [if_pos h10] at hd
    have hx := f.x (.inr (.inr h10))
    have hy := f.y (.inr h10)
    unfold turnR at hd
    simp only at hd
    split at hd
    · cases hd
    · rcases List.mem_append.1 hd with hd | hd
      · split at hd
        · rw [List.mem_singleton] at hd; subst hd
          exact ⟨same _ (by omega), hM1⟩
        · cases hd
      · split at hd
        · rw [List.mem_singleton] at hd; subst hd
          have key : ∀ z ∈ c.turns.set i.n.toNat (c.turns.getD i.n.toNat 0 + 1), 0 ≤ z ∧ z ≤ M + 1 := by
            intro z hz
            by_cases hlt : i.n.toNat < c.turns.length
            · have hq : c.turns[i.n.toNat]? = some c.turns[i.n.toNat] := List.getElem?_eq_getElem hlt
              have hg : c.turns.getD i.n.toNat 0 = c.turns[i.n.toNat] := by rw [List.getD_eq_getElem?_getD, hq]; rfl
              rw [hg] at hz
              rcases mem_set_or_ hz with hz | rfl
              · exact ⟨(h.tn z hz).1, hM1 z hz⟩
              · have := hM _ (List.mem_of_getElem? hq); have := h.tn _ (List.mem_of_getElem? hq); omega
            · rw [List.set_eq_of_length_le (by omega)] at hz
              exact ⟨(h.tn z hz).1, hM1 z hz⟩
          refine ⟨⟨by simp only; omega, h.at_, h.b, h.f, h.t, h.ft, fun z hz => ?_, fun z hz => ?_⟩, fun z hz => (key z hz).2⟩
          · have := key z hz; omega
          · rcases mem_set_or_ hz with hz | rfl
            · exact h.l z hz
            · simp only; omega
        · cases hd
  rw [if_neg h10] at hd
  cases hd
theorem RW_small {ins : List Ins} {N : Nat} {c : RC} (h : RW ins N c) (hi : ins.length ≤ 40000) (hN : N ≤ 1000000) : c.small := by
  intro z hz
  unfold RC.nums at hz
  simp only [List.mem_append, List.mem_cons, List.not_mem_nil, or_false] at hz
  have h1 := h.pc
  have h2 := h.at_
  rcases hz with ((((( rfl | rfl) | hz) | hz) | hz) | hz) | hz
  · omega
  · omega
  · have := h.b z hz; omega
  · have := h.f z hz; omega
  · have := h.t z hz; omega
  · have := h.tn z hz; omega
  · have := h.l z hz; omega
end Go.Proofs.Ytoadmpochaeohaa
end
