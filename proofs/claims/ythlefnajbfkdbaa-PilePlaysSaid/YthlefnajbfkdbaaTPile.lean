import Derived.Test.YthlefnajbfkdbaaPInt
set_option linter.unusedVariables false
set_option linter.unusedSimpArgs false
namespace Go.Proofs.Ythlefnajbfkdbaa
open Go.RowKit

structure Th where
  n : Int
  s : ByteArray
def Th.cells (t : Th) : List Value := [.int .i64 t.n, .string t.s]
def Th.val (t : Th) : Value := .agg #[.int .i64 t.n, .string t.s]
def th0 : Th := ⟨0, ⟨#[]⟩⟩
theorem infoTh : (Try.prog.info? 56).map (fun i => (i.zero, i.size, i.bytes)) = some (some (.agg #[.int .i64 0, .string ⟨#[]⟩]), 2, 24) := by kernel_rfl
theorem sizeTh : (Try.prog.info? 56).map (·.size) = some 2 := by kernel_rfl
theorem zeroTh (w : World) : (zeroValue 56).run Try.prog w = .ok (.agg #[.int .i64 0, .string ⟨#[]⟩]) w := by kernel_rfl
def flatT (l : List Th) : List Value := l.flatMap Th.cells
theorem flatT_len (l : List Th) : (flatT l).length = l.length * 2 := by
  induction l with
  | nil => rfl
  | cons x l ih => simp only [flatT, List.flatMap_cons, List.length_append] at *; rw [ih]; simp [Th.cells]; omega
theorem flatT_append (a b : List Th) : flatT (a ++ b) = flatT a ++ flatT b := by simp [flatT]
theorem flatT_take (l : List Th) (k : Nat) : (flatT l).take (k * 2) = flatT (l.take k) := by
  by_cases h : k ≤ l.length
  · have : flatT l = flatT (l.take k) ++ flatT (l.drop k) := by rw [← flatT_append, List.take_append_drop]
    rw [this]
    exact List.take_left' (by rw [flatT_len, List.length_take, Nat.min_eq_left h])
  · rw [List.take_of_length_le (by rw [flatT_len]; omega), List.take_of_length_le (by omega)]
theorem flatT_get (l : List Th) : ∀ (k : Nat) (p : Th), l[k]? = some p → (flatT l)[k * 2]? = some (.int .i64 p.n) ∧ (flatT l)[k * 2 + 1]? = some (.string p.s) := by
  induction l with
  | nil => intro k p h; simp at h
  | cons x l ih =>
    intro k p h
    rw [show x :: l = [x] ++ l from rfl, flatT_append]
    cases k with
    | zero => simp at h; subst h; simp [flatT, Th.cells]
    | succ k =>
      have := ih k p (by simpa using h)
      have e : (flatT [x]).length = 2 := rfl
      rw [List.getElem?_append_right (by rw [e]; omega), List.getElem?_append_right (by rw [e]; omega), e, show (k + 1) * 2 - 2 = k * 2 by omega, show (k + 1) * 2 + 1 - 2 = k * 2 + 1 by omega]
      exact this
theorem flatT_one (l : List Th) : ∀ u ∈ flatT l, u.oneCell' = true := by
  intro u hu
  obtain ⟨p, _, hu⟩ := List.mem_flatMap.1 hu
  simp [Th.cells] at hu
  rcases hu with rfl | rfl <;> rfl
theorem Rd.th {w : World} {F : Nat → Prop} {A : Option Addr} {n c : Nat} {l : List Th} (h : Rd w F 2 A n c (flatT l)) (k : Nat) (p : Th) (hk : l[k]? = some p) : ∃ b off, A = some ⟨b, off, none⟩ ∧ b < w.heap.size ∧
    w.cell? ⟨b, off + k * 2, none⟩ = some (.int .i64 p.n) ∧ w.cell? ⟨b, off + k * 2 + 1, none⟩ = some (.string p.s) := by
  have hk' := (List.getElem?_eq_some_iff.1 hk).1
  have hn : l.length = n := by have := h.len; rw [flatT_len] at this; omega
  obtain ⟨b, off, hA, hb, hc⟩ := h.elem k (by omega)
  obtain ⟨h0, h1⟩ := flatT_get l k p hk
  exact ⟨b, off, hA, hb, hc 0 _ (by simpa using h0), hc 1 _ h1⟩

/-- A pile of Things at block g. -/
def TP (w : World) (F : Nat → Prop) (g : Nat) (xs : List Th) : Prop :=
  ∃ v, Blk w g [v] 90 ∧ F g ∧ Sl w (fun k => F k ∧ k ≠ g) 56 2 v xs.length (flatT xs)
theorem TP.low {w : World} {F : Nat → Prop} {g : Nat} {xs : List Th} (h : TP w F g xs) : TP w (fun k => F k ∧ k < w.heap.size) g xs := by
  obtain ⟨v, hB, hF, hS⟩ := h
  exact ⟨v, hB, ⟨hF, hB.lt⟩, hS.mono fun k h l => ⟨⟨h.1, l⟩, h.2⟩⟩
theorem TP.frm {S : Nat → Prop} {w w' : World} {F : Nat → Prop} {g : Nat} {xs : List Th} (h : TP w F g xs) (f : Frm S w w') (hd : ∀ k, F k → ¬ S k) : TP w' F g xs := by
  obtain ⟨v, hB, hF, hS⟩ := h
  exact ⟨v, hB.frm f (hd _ hF), hF, hS.frm f (fun k h => hd k h.1)⟩
theorem TP.mono {w : World} {F G : Nat → Prop} {g : Nat} {xs : List Th} (h : TP w F g xs) (hG : ∀ k, F k → k < w.heap.size → G k) : TP w G g xs := by
  obtain ⟨v, hB, hF, hS⟩ := h
  exact ⟨v, hB, hG _ hF hB.lt, hS.mono fun k h l => ⟨hG _ h.1 l, h.2⟩⟩

theorem newT (w : World) : Calls Try.prog 27 #[] w fun e w' => e = .returned (.pointer (some ⟨w.heap.size, 0, none⟩)) ∧ w' = w.alloc (.cells #[.slice none 0 0] 90) := by
  go_enter Try.func27, Try.ntmps27
  go_wp2
  go_ret
  exact ⟨rfl, rfl⟩
theorem newTP (w : World) : TP (w.alloc (.cells #[.slice none 0 0] 90)) (fun k => k = w.heap.size) w.heap.size [] := ⟨_, Blk.new w [_] 90, rfl, Sl.nil⟩

theorem lenT (F : Nat → Prop) (g : Nat) (xs : List Th) (w : World) (h : TP w F g xs) : Calls Try.prog 32 #[.pointer (some ⟨g, 0, none⟩)] w fun e w' => e = .returned (.int .i64 xs.length) ∧ w = w' := by
  obtain ⟨v, hB, hF, hS⟩ := h
  obtain ⟨A, c, rfl⟩ := hS.form
  obtain ⟨c0, f0, l0⟩ := blk1 hB
  go_enter Try.func32, Try.ntmps32
  go_wp2
  go_ret
  exact ⟨rfl, rfl⟩

def PushPost (F : Nat → Prop) (g : Nat) (w : World) (xs : List Th) (e : Ending) (w' : World) : Prop :=
  e = .returned (.tuple #[]) ∧ TP w' (fun k => F k ∨ w.heap.size ≤ k) g xs ∧ Frm F w w'

set_option maxHeartbeats 800000 in
theorem pushT (F : Nat → Prop) (g : Nat) (xs : List Th) (n : Int) (s : ByteArray) (w : World) (h : TP w F g xs) (hb : xs.length ≤ 1073741824) :
    Calls Try.prog 31 #[.pointer (some ⟨g, 0, none⟩), .agg #[.int .i64 n, .string s]] w (PushPost F g w (xs ++ [⟨n, s⟩])) := by
  obtain ⟨v, hB, hF, hS⟩ := h
  obtain ⟨A, c, rfl⟩ := hS.form
  have hlt := hB.lt
  have hBx := hB.alloc (.cells #[.int .i64 n, .string s] 56)
  have hSx := hS.low.alloc (.cells #[.int .i64 n, .string s] 56)
  have hX := Blk.new w [.int .i64 n, .string s] 56
  go_enter Try.func31, Try.ntmps31
  go_wp2
  have hFx : Frm F w (w.alloc (.cells #[.int .i64 n, .string s] 56)) := (Frm.refl _ w).alloc _
  have hz : (w.alloc (.cells #[.int .i64 n, .string s] 56)).heap.size = w.heap.size + 1 := by simp
  have hzl : w.heap.size + 1 ≤ (w.alloc (.cells #[.int .i64 n, .string s] 56)).heap.size := by omega
  generalize w.alloc (.cells #[.int .i64 n, .string s] 56) = w1 at *
  clear hz
  obtain ⟨c0, f0, l0⟩ := blk1 hBx
  obtain ⟨d0, d1, e0, e1, l1⟩ := blk2 hX
  go_region_law (refine step_append rfl _ _ _ rfl 56 _ 2 24 Try.underlying57 infoTh rfl (by omega) ((hSx.alloc _).drew) rfl ⟨w1.heap.size, 0, none⟩ 1 1 [.int .i64 n, .string s] rfl rfl (fun j u hu => ((Blk.new w1 [.int .i64 n, .string s] 56).drew.cellAdd 0 j).trans (by rw [Nat.zero_add]; exact hu)) (by intro u hu; simp at hu; rcases hu with rfl | rfl <;> rfl) (by simp only [maxLen]; omega) (by omega) ?_; intro v' w3 hf3 hs3; have hB3 := ((hBx.alloc (.cells #[.int .i64 n, .string s] 56)).drew).frm hf3 (fun h => h.1.2 rfl); obtain ⟨A1, e1, rfl⟩ := hs3.form; obtain ⟨c0, f0, l0⟩ := blk1 hB3)
  all_goals
    go_wp2
    go_end0
    have hz3 : w1.heap.size + 1 ≤ w3.heap.size := by have := hf3.size; simpa using this
    refine ⟨rfl, ⟨_, hB3.setSame 0 _, .inl hF, ?_⟩, ((((hFx.alloc _).drew).then hf3 (fun j h _ => h.1.1)).set g 0 _ (fun _ => hF))⟩
    have hs4 := (hs3.set g 0 (.slice A1 (xs.length + 1) e1) (by rintro (h | h); exact h.1.2 rfl; simp at h; omega)).mono (G := fun k => (F k ∨ w.heap.size ≤ k) ∧ k ≠ g) (by rintro k (h | h) _; exact ⟨.inl h.1.1, h.1.2⟩; exact ⟨.inr (by simp at h; omega), by simp at h; omega⟩)
    rw [List.length_append, flatT_append]
    exact hs4
end Go.Proofs.Ythlefnajbfkdbaa
