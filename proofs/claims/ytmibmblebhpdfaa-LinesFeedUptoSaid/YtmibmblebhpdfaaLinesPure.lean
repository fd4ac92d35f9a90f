/-
  The plain side of chapter 23: lines of a text, fed piece by piece; no program in sight.
-/
import Derived.Lib.Bytealg
set_option linter.unusedVariables false
set_option linter.unusedSimpArgs false
namespace Go.Proofs.Ytmibmblebhpdfaa

structure Ln where
  num : Int
  at_ : Int
  text : List UInt8
  ended : Bool
  deriving DecidableEq

/-- Where feeding leaves: the lines that ended, what is held, the number and the beginning of the line that is held. -/
structure Fed where
  lines : List Ln
  held : List UInt8
  num : Int
  begin_ : Int
  deriving DecidableEq

def Fed.before (l : List Ln) (r : Fed) : Fed := ⟨l ++ r.lines, r.held, r.num, r.begin_⟩

def feedL (b n : Int) (acc : List UInt8) : List UInt8 → Fed
  | [] => ⟨[], acc, n, b⟩
  | c :: cs => if c = 10 then (feedL (b + acc.length + 1) (n + 1) [] cs).before [⟨n, b, acc, true⟩] else feedL b n (acc ++ [c]) cs

theorem Fed.before_nil (r : Fed) : r.before [] = r := rfl
theorem Fed.before_before (l m : List Ln) (r : Fed) : (r.before m).before l = r.before (l ++ m) := by simp [Fed.before]

theorem feedL_append (p : List UInt8) : ∀ (b n : Int) (acc q : List UInt8), feedL b n acc (p ++ q) = (feedL (feedL b n acc p).begin_ (feedL b n acc p).num (feedL b n acc p).held q).before (feedL b n acc p).lines := by
  induction p with
  | nil => intro b n acc q; rfl
  | cons c cs ih =>
    intro b n acc q
    by_cases h : c = 10
    · simp only [List.cons_append, feedL, if_pos h, ih]
      rw [Fed.before_before]
      rfl
    · simp only [List.cons_append, feedL, if_neg h, ih]

theorem feedL_none (p : List UInt8) : ∀ (b n : Int) (acc : List UInt8), 10 ∉ p → feedL b n acc p = ⟨[], acc ++ p, n, b⟩ := by
  induction p with
  | nil => intro b n acc _; simp [feedL]
  | cons c cs ih =>
    intro b n acc h
    have h1 : ¬ c = 10 := fun e => h (by simp [e])
    rw [feedL, if_neg h1, ih _ _ _ (fun e => h (by simp [e]))]
    simp

theorem feedL_line (p q : List UInt8) (b n : Int) (acc : List UInt8) (h : 10 ∉ p) : feedL b n acc (p ++ 10 :: q) = (feedL (b + acc.length + p.length + 1) (n + 1) [] q).before [⟨n, b, acc ++ p, true⟩] := by
  rw [feedL_append, feedL_none p b n acc h]
  simp only [feedL, if_true, Fed.before_nil]
  rw [show b + ((acc ++ p).length : Int) + 1 = b + acc.length + p.length + 1 by simp; omega]

theorem feedL_begin (p : List UInt8) : ∀ (b n : Int) (acc : List UInt8), (feedL b n acc p).begin_ + (feedL b n acc p).held.length = b + acc.length + p.length := by
  induction p with
  | nil => intro b n acc; simp [feedL]
  | cons c cs ih =>
    intro b n acc
    by_cases h : c = 10
    · simp only [feedL, if_pos h, Fed.before]
      rw [ih]; simp; omega
    · simp only [feedL, if_neg h]
      rw [ih]; simp; omega

theorem feedL_num (p : List UInt8) : ∀ (b n : Int) (acc : List UInt8), (feedL b n acc p).num = n + (feedL b n acc p).lines.length := by
  induction p with
  | nil => intro b n acc; simp [feedL]
  | cons c cs ih =>
    intro b n acc
    by_cases h : c = 10
    · simp only [feedL, if_pos h, Fed.before]
      rw [ih]; simp; omega
    · simp only [feedL, if_neg h]
      rw [ih]

theorem feedL_small (p : List UInt8) : ∀ (b n : Int) (acc : List UInt8), (feedL b n acc p).held.length + (feedL b n acc p).lines.length ≤ acc.length + p.length := by
  induction p with
  | nil => intro b n acc; simp [feedL]
  | cons c cs ih =>
    intro b n acc
    by_cases h : c = 10
    · simp only [feedL, if_pos h, Fed.before]
      have := ih (b + acc.length + 1) (n + 1) []
      simp at this ⊢; omega
    · simp only [feedL, if_neg h]
      have := ih b n (acc ++ [c])
      simp at this ⊢; omega

/-- What IndexByte tells. -/
theorem index_none {l : List UInt8} (h : Lib.indexByte l 10 = -1) : 10 ∉ l := by
  induction l with
  | nil => simp
  | cons c cs ih =>
    rw [Lib.indexByte] at h
    by_cases h1 : c = 10
    · simp [h1] at h
    · have h2 : (c == 10) = false := by simpa using h1
      simp only [h2] at h
      by_cases h3 : Lib.indexByte cs 10 = -1
      · simp only [List.mem_cons, not_or]; exact ⟨fun e => h1 e.symm, ih h3⟩
      · have := Lib.indexByte_ge cs 10
        simp [h3] at h; omega

theorem index_some {l : List UInt8} (h : Lib.indexByte l 10 ≠ -1) : ∃ p q, l = p ++ 10 :: q ∧ 10 ∉ p ∧ Lib.indexByte l 10 = p.length := by
  induction l with
  | nil => simp [Lib.indexByte] at h
  | cons c cs ih =>
    rw [Lib.indexByte] at h ⊢
    by_cases h1 : c = 10
    · exact ⟨[], cs, by simp [h1], by simp, by simp [h1]⟩
    · have h2 : (c == 10) = false := by simpa using h1
      simp only [h2] at h ⊢
      by_cases h3 : Lib.indexByte cs 10 = -1
      · simp [h3] at h
      · obtain ⟨p, q, rfl, hp, hi⟩ := ih h3
        refine ⟨c :: p, q, rfl, ?_, ?_⟩
        · simp only [List.mem_cons, not_or]; exact ⟨fun e => h1 e.symm, hp⟩
        · simp [hi]

theorem feedL_snoc (p : List UInt8) (c : UInt8) (b n : Int) (acc : List UInt8) : feedL b n acc (p ++ [c]) = if c = 10 then ⟨(feedL b n acc p).lines ++ [⟨(feedL b n acc p).num, (feedL b n acc p).begin_, (feedL b n acc p).held, true⟩], [], (feedL b n acc p).num + 1, (feedL b n acc p).begin_ + (feedL b n acc p).held.length + 1⟩
    else ⟨(feedL b n acc p).lines, (feedL b n acc p).held ++ [c], (feedL b n acc p).num, (feedL b n acc p).begin_⟩ := by
  rw [feedL_append]
  by_cases h : c = 10
  · simp [feedL, h, Fed.before]
  · simp [feedL, h, Fed.before]

theorem feedL_held (p : List UInt8) : ∀ (b n : Int) (acc : List UInt8), b ≤ (feedL b n acc p).begin_ ∧ (feedL b n acc p).held = (acc ++ p).drop ((feedL b n acc p).begin_ - b).toNat := by
  induction p with
  | nil => intro b n acc; simp [feedL]
  | cons c cs ih =>
    intro b n acc
    by_cases h : c = 10
    · simp only [feedL, if_pos h, Fed.before]
      obtain ⟨h1, h2⟩ := ih (b + acc.length + 1) (n + 1) []
      refine ⟨by omega, ?_⟩
      rw [h2, show ((feedL (b + ↑acc.length + 1) (n + 1) [] cs).begin_ - b).toNat = (acc ++ [c]).length + ((feedL (b + ↑acc.length + 1) (n + 1) [] cs).begin_ - (b + acc.length + 1)).toNat by simp; omega]
      rw [show acc ++ c :: cs = (acc ++ [c]) ++ cs by simp, ← List.drop_drop, List.drop_left]
      simp
    · simp only [feedL, if_neg h]
      obtain ⟨h1, h2⟩ := ih b n (acc ++ [c])
      exact ⟨h1, by rw [h2]; simp⟩
theorem feedL_held0 (p : List UInt8) : 0 ≤ (feedL 0 1 [] p).begin_ ∧ (feedL 0 1 [] p).held = p.drop (feedL 0 1 [] p).begin_.toNat := by
  have := feedL_held p 0 1 []
  simpa using this

/-- What Close adds. -/
def closeL (r : Fed) : List Ln := if r.held = [] then [] else [⟨r.num, r.begin_, r.held, false⟩]
/-- The lines of a text. -/
def splitL (t : List UInt8) : List Ln := (feedL 0 1 [] t).lines ++ closeL (feedL 0 1 [] t)

/-- Lines as they must stand, the first one of number n at place b. -/
def Good (b n : Int) : List Ln → Prop
  | [] => True
  | x :: r => x.num = n ∧ x.at_ = b ∧ 10 ∉ x.text ∧ (x.ended = true ∨ (r = [] ∧ x.text ≠ [])) ∧ Good (b + x.text.length + if x.ended then 1 else 0) (n + 1) r
def lineText (x : Ln) : List UInt8 := x.text ++ if x.ended then [10] else []
def join (ls : List Ln) : List UInt8 := ls.flatMap lineText

theorem feedL_good (p : List UInt8) : ∀ (b n : Int) (acc : List UInt8), 10 ∉ acc → Good b n ((feedL b n acc p).lines ++ closeL (feedL b n acc p)) ∧ join ((feedL b n acc p).lines ++ closeL (feedL b n acc p)) = acc ++ p := by
  induction p with
  | nil =>
    intro b n acc h
    by_cases ha : acc = []
    · simp [feedL, closeL, ha, Good, join]
    · simp [feedL, closeL, ha, Good, join, lineText, h]
  | cons c cs ih =>
    intro b n acc h
    by_cases hc : c = 10
    · obtain ⟨h1, h2⟩ := ih (b + acc.length + 1) (n + 1) [] (by simp)
      simp only [feedL, if_pos hc]
      have e1 : closeL ((feedL (b + acc.length + 1) (n + 1) [] cs).before [⟨n, b, acc, true⟩]) = closeL (feedL (b + acc.length + 1) (n + 1) [] cs) := rfl
      rw [e1]
      simp only [Fed.before, List.singleton_append, List.cons_append]
      refine ⟨⟨rfl, rfl, h, .inl rfl, ?_⟩, ?_⟩
      · simpa using h1
      · simp only [join, List.flatMap_cons, List.nil_append] at h2 ⊢
        rw [h2]
        simp [lineText, hc]
    · simp only [feedL, if_neg hc]
      obtain ⟨h1, h2⟩ := ih b n (acc ++ [c]) (by simp; exact ⟨h, fun e => hc e.symm⟩)
      exact ⟨h1, by rw [h2]; simp⟩
theorem splitL_good (t : List UInt8) : Good 0 1 (splitL t) ∧ join (splitL t) = t := by
  have := feedL_good t 0 1 [] (by simp)
  exact ⟨this.1, this.2.trans (by simp)⟩
theorem join_take (L : List Ln) (k : Nat) (x : Ln) (h : L[k]? = some x) : join (L.take (k + 1)) = join (L.take k) ++ lineText x := by
  rw [List.take_add_one, h]; simp [join]
theorem join_take_le (L : List Ln) (k : Nat) : (join (L.take k)).length ≤ (join L).length := by
  have : join L = join (L.take k) ++ join (L.drop k) := by unfold join; rw [← List.flatMap_append, List.take_append_drop]
  rw [this, List.length_append]; omega

theorem feedL_ended (p : List UInt8) : ∀ (b n : Int) (acc : List UInt8), ∀ x ∈ (feedL b n acc p).lines, x.ended = true := by
  induction p with
  | nil => intro b n acc; simp [feedL]
  | cons c cs ih =>
    intro b n acc
    by_cases h : c = 10
    · simp only [feedL, if_pos h, Fed.before]
      intro x hx
      rcases List.mem_append.1 hx with h1 | h1
      · simp at h1; rw [h1]
      · exact ih _ _ _ x h1
    · simp only [feedL, if_neg h]
      exact ih _ _ _
end Go.Proofs.Ytmibmblebhpdfaa
