import Derived.Test.YtmibmblebhpdfaaLawSplit
set_option linter.unusedVariables false
set_option linter.unusedSimpArgs false
namespace Go.Proofs.Ytmibmblebhpdfaa
open Go.RowKit

/-- The splitter behind a text that it was fed. -/
def SplT (w : World) (F : Nat → Prop) (g : Nat) (p : List UInt8) : Prop := Spl w F g (feedL 0 1 [] p).held p.length (feedL 0 1 [] p).num
def TPost (F : Nat → Prop) (g : Nat) (w : World) (ls : List Ln) (p : List UInt8) (e : Ending) (w' : World) : Prop :=
  ∃ A c F1 F2, e = .returned (.slice A ls.length c) ∧ Sl w' F2 31 4 (.slice A ls.length c) ls.length (cellsL ls) ∧ SplT w' F1 g p ∧ Frm F w w' ∧ (∀ k, F1 k → F k ∨ w.heap.size ≤ k) ∧ (∀ k, F2 k → w.heap.size ≤ k) ∧ (∀ k, F1 k → ¬ F2 k)
/-- The lines that a piece ends. -/
def newL (p q : List UInt8) : List Ln := (feedL (feedL 0 1 [] p).begin_ (feedL 0 1 [] p).num (feedL 0 1 [] p).held q).lines

theorem SplT.low {w : World} {F : Nat → Prop} {g : Nat} {p : List UInt8} (h : SplT w F g p) : SplT w (fun k => F k ∧ k < w.heap.size) g p := Spl.low h
theorem SplT.mono {w : World} {F G : Nat → Prop} {g : Nat} {p : List UInt8} (h : SplT w F g p) (hG : ∀ k, F k → k < w.heap.size → G k) : SplT w G g p := Spl.mono h hG
theorem SplT.frm {S : Nat → Prop} {w w' : World} {F : Nat → Prop} {g : Nat} {p : List UInt8} (h : SplT w F g p) (f : Frm S w w') (hd : ∀ k, F k → ¬ S k) : SplT w' F g p := Spl.frm h f hd

theorem fed_begin (p : List UInt8) : (p.length : Int) - (feedL 0 1 [] p).held.length = (feedL 0 1 [] p).begin_ := by
  have := feedL_begin p 0 1 []
  simp at this; omega
theorem fed_small (p : List UInt8) : (feedL 0 1 [] p).held.length ≤ p.length ∧ (feedL 0 1 [] p).lines.length ≤ p.length ∧ 0 ≤ (feedL 0 1 [] p).num ∧ (feedL 0 1 [] p).num ≤ p.length + 1 := by
  have h1 := feedL_small p 0 1 []
  have h2 := feedL_num p 0 1 []
  simp at h1; omega
theorem fed_lines (p q : List UInt8) : (feedL 0 1 [] (p ++ q)).lines = (feedL 0 1 [] p).lines ++ newL p q := by
  rw [feedL_append p 0 1 [] q]; rfl
theorem splitL_of (p : List UInt8) : splitL p = (feedL 0 1 [] p).lines ++ closeL (feedL 0 1 [] p) := rfl

theorem feedT (F : Nat → Prop) (g : Nat) (p : List UInt8) (piece : ByteArray) (w : World) (h : SplT w F g p) (hb : p.length + piece.size ≤ 2097152) :
    Calls Try.prog 11 #[.pointer (some ⟨g, 0, none⟩), .string piece] w (TPost F g w (newL p piece.data.toList) (p ++ piece.data.toList)) := by
  have hs := fed_small p
  have hbg := fed_begin p
  refine (feed_calls F g _ _ _ piece w h (by omega) (by omega) (by omega) (by omega) (by omega)).mono ?_
  rintro e w' ⟨v, F1, F2, rfl, h1, h2, h3, h4, h5, h6⟩
  obtain ⟨A, c, rfl⟩ := h1.form
  rw [hbg] at h1 h2
  rw [hbg]
  refine ⟨A, c, F1, F2, rfl, h1, ?_, h3, h4, h5, h6⟩
  have e1 := feedL_append p 0 1 [] piece.data.toList
  unfold SplT
  rw [e1]
  have e2 : (((p ++ piece.data.toList).length : Nat) : Int) = (p.length : Int) + piece.size := by simp
  rw [e2]
  exact h2
theorem closeT (F : Nat → Prop) (g : Nat) (p : List UInt8) (w : World) (h : SplT w F g p) (hb : p.length ≤ 2097152) :
    Calls Try.prog 12 #[.pointer (some ⟨g, 0, none⟩)] w (TPost F g w (closeL (feedL 0 1 [] p)) []) := by
  have hs := fed_small p
  have hbg := fed_begin p
  refine (close_calls F g _ _ _ w h (by omega) (by omega) (by omega) (by omega) (by omega)).mono ?_
  rintro e w' ⟨v, F1, F2, rfl, h1, h2, h3, h4, h5, h6⟩
  obtain ⟨A, c, rfl⟩ := h1.form
  rw [hbg] at h1
  rw [hbg]
  exact ⟨A, c, F1, F2, rfl, h1, h2, h3, h4, h5, h6⟩
theorem newT (w : World) : SplT (w.alloc (.cells #[.slice none 0 0, .int .i64 0, .int .i64 1] 45)) (fun k => k = w.heap.size) w.heap.size [] := new_spl w
theorem atT (F : Nat → Prop) (g : Nat) (p : List UInt8) (w : World) (h : SplT w F g p) : Calls Try.prog 14 #[.pointer (some ⟨g, 0, none⟩)] w fun e w' => e = .returned (.int .i64 p.length) ∧ w = w' := at_calls F g _ _ _ w h
theorem heldT (F : Nat → Prop) (g : Nat) (p : List UInt8) (w : World) (h : SplT w F g p) : Calls Try.prog 18 #[.pointer (some ⟨g, 0, none⟩)] w fun e w' => e = .returned (.int .i64 (feedL 0 1 [] p).held.length) ∧ w = w' := held_calls F g _ _ _ w h
end Go.Proofs.Ytmibmblebhpdfaa
