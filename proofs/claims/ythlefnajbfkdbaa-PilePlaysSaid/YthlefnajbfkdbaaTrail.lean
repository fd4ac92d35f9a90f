import Derived.Test.YthlefnajbfkdbaaPInt
set_option linter.unusedVariables false
set_option linter.unusedSimpArgs false
namespace Go.Proofs.Ythlefnajbfkdbaa
open Go.RowKit

theorem infoWas : (Try.prog.info? 85).map (fun i => (i.zero, i.size, i.bytes)) = some (some (.agg #[.int .i64 0, .int .i64 0]), 2, 16) := by kernel_rfl
theorem sizeWas : (Try.prog.info? 85).map (·.size) = some 2 := by kernel_rfl
def flatW (l : List (Int × Int)) : List Value := l.flatMap fun p => [.int .i64 p.1, .int .i64 p.2]
theorem flatW_len (l : List (Int × Int)) : (flatW l).length = l.length * 2 := by
  induction l with
  | nil => rfl
  | cons x l ih => simp only [flatW, List.flatMap_cons, List.length_append] at *; rw [ih]; simp; omega
theorem flatW_append (a b : List (Int × Int)) : flatW (a ++ b) = flatW a ++ flatW b := by simp [flatW]
theorem flatW_take (l : List (Int × Int)) (k : Nat) : (flatW l).take (k * 2) = flatW (l.take k) := by
  by_cases h : k ≤ l.length
  · have : flatW l = flatW (l.take k) ++ flatW (l.drop k) := by rw [← flatW_append, List.take_append_drop]
    rw [this]
    exact List.take_left' (by rw [flatW_len, List.length_take, Nat.min_eq_left h])
  · rw [List.take_of_length_le (by rw [flatW_len]; omega), List.take_of_length_le (by omega)]
theorem flatW_get (l : List (Int × Int)) : ∀ (k : Nat) (p : Int × Int), l[k]? = some p → (flatW l)[k * 2]? = some (.int .i64 p.1) ∧ (flatW l)[k * 2 + 1]? = some (.int .i64 p.2) := by
  induction l with
  | nil => intro k p h; simp at h
  | cons x l ih =>
    intro k p h
    rw [show x :: l = [x] ++ l from rfl, flatW_append]
    cases k with
    | zero => simp at h; subst h; simp [flatW]
    | succ k =>
      have := ih k p (by simpa using h)
      rw [List.getElem?_append_right (by simp [flatW]; omega), List.getElem?_append_right (by simp [flatW]; omega)]
      have e : (flatW [x]).length = 2 := rfl
      rw [e, show (k + 1) * 2 - 2 = k * 2 by omega, show (k + 1) * 2 + 1 - 2 = k * 2 + 1 by omega]
      exact this
theorem Rd.was {w : World} {F : Nat → Prop} {A : Option Addr} {n c : Nat} {l : List (Int × Int)} (h : Rd w F 2 A n c (flatW l)) (k : Nat) (p : Int × Int) (hk : l[k]? = some p) : ∃ b off, A = some ⟨b, off, none⟩ ∧ b < w.heap.size ∧
    w.cell? ⟨b, off + k * 2, none⟩ = some (.int .i64 p.1) ∧ w.cell? ⟨b, off + k * 2 + 1, none⟩ = some (.int .i64 p.2) := by
  have hk' := (List.getElem?_eq_some_iff.1 hk).1
  have hn : l.length = n := by have := h.len; rw [flatW_len] at this; omega
  obtain ⟨b, off, hA, hb, hc⟩ := h.elem k (by omega)
  obtain ⟨h0, h1⟩ := flatW_get l k p hk
  exact ⟨b, off, hA, hb, hc 0 _ (by simpa using h0), hc 1 _ h1⟩

/-- What a step on the trail leaves: the cells' own slice stays. -/
def TrPost (F : Nat → Prop) (g : Nat) (v : Value) (w : World) (tr : List (Int × Int)) (r : Value) (e : Ending) (w' : World) : Prop :=
  ∃ u, e = .returned r ∧ Blk w' g [v, u] 80 ∧ Sl w' (fun k => F k ∨ w.heap.size ≤ k) 85 2 u tr.length (flatW tr) ∧ Frm (fun k => F k ∨ k = g) w w'

set_option maxHeartbeats 800000 in
theorem pushW (F : Nat → Prop) (g : Nat) (v u : Value) (tr : List (Int × Int)) (i x : Int) (w : World) (hB : Blk w g [v, u] 80) (hS : Sl w F 85 2 u tr.length (flatW tr)) (hg : ¬ F g) (hb : tr.length ≤ 1073741824) :
    Calls Try.prog 38 #[.pointer (some ⟨g, 1, none⟩), .agg #[.int .i64 i, .int .i64 x]] w (TrPost F g v w (tr ++ [(i, x)]) (.tuple #[])) := by
  obtain ⟨A, c, rfl⟩ := hS.form
  have hlt := hB.lt
  have hBx := hB.alloc (.cells #[.int .i64 i, .int .i64 x] 85)
  have hSx := hS.low.alloc (.cells #[.int .i64 i, .int .i64 x] 85)
  have hX := Blk.new w [.int .i64 i, .int .i64 x] 85
  go_enter Try.func38, Try.ntmps38
  go_wp2
  have hFx : Frm (fun k => F k ∨ k = g) w (w.alloc (.cells #[.int .i64 i, .int .i64 x] 85)) := (Frm.refl _ w).alloc _
  have hz : (w.alloc (.cells #[.int .i64 i, .int .i64 x] 85)).heap.size = w.heap.size + 1 := by simp
  have hzl : w.heap.size + 1 ≤ (w.alloc (.cells #[.int .i64 i, .int .i64 x] 85)).heap.size := by omega
  generalize w.alloc (.cells #[.int .i64 i, .int .i64 x] 85) = w1 at *
  clear hz
  obtain ⟨c0, c1, f0, f1, l0⟩ := blk2 hBx
  obtain ⟨d0, d1, e0, e1, l1⟩ := blk2 hX
  go_region_law (refine step_append rfl _ _ _ rfl 85 _ 2 16 Try.underlying76 infoWas rfl (by omega) ((hSx.alloc _).drew) rfl ⟨w1.heap.size, 0, none⟩ 1 1 [.int .i64 i, .int .i64 x] rfl rfl (fun j u hu => ((Blk.new w1 [.int .i64 i, .int .i64 x] 85).drew.cellAdd 0 j).trans (by rw [Nat.zero_add]; exact hu)) (by intro u hu; simp at hu; rcases hu with rfl | rfl <;> rfl) (by simp only [maxLen]; omega) (by omega) ?_; intro v' w3 hf3 hs3; have hB3 := ((hBx.alloc (.cells #[.int .i64 i, .int .i64 x] 85)).drew).frm hf3 (fun h => hg h.1); obtain ⟨A1, e1, rfl⟩ := hs3.form; obtain ⟨c0, c1, f0, f1, l0⟩ := blk2 hB3)
  all_goals
    go_wp2
    go_end0
    have hz3 : w1.heap.size + 1 ≤ w3.heap.size := by have := hf3.size; simpa using this
    refine ⟨_, rfl, hB3.setSame 1 _, ?_, ((((hFx.alloc _).drew).then hf3 (fun j h _ => .inl h.1)).set g 1 _ (fun _ => .inr rfl))⟩
    have hs4 := (hs3.set g 1 (.slice A1 (tr.length + 1) e1) (by rintro (h | h); exact hg h.1; simp at h; omega)).mono (G := fun k => F k ∨ w.heap.size ≤ k) (by rintro k (h | h) _; exact .inl h.1; exact .inr (by simp at h; omega))
    rw [List.length_append, flatW_append]
    exact hs4
end Go.Proofs.Ythlefnajbfkdbaa
