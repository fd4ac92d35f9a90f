/-
  The pile of frames, walked: New, Push, Pop.
-/
import Derived.Test.YtoadmpochaeohaaNKit
set_option linter.unusedVariables false
set_option linter.unusedSimpArgs false
set_option maxRecDepth 100000
namespace Go.Proofs.Ytoadmpochaeohaa
open Go.RowKit

theorem infoFr : (Try.prog.info? 125).map (fun i => (i.zero, i.size, i.bytes)) = some (some .nilIface, 1, 16) := by kernel_rfl
/-- A pile of interface values at block g. -/
def PS (w : World) (F : Nat → Prop) (g : Nat) (xs : List Value) : Prop :=
  ∃ v, Blk w g [v] 165 ∧ F g ∧ Sl w (fun k => F k ∧ k ≠ g) 125 1 v xs.length xs
theorem PS.low {w : World} {F : Nat → Prop} {g : Nat} {xs : List Value} (h : PS w F g xs) : PS w (fun k => F k ∧ k < w.heap.size) g xs := by
  obtain ⟨v, hB, hF, hS⟩ := h
  exact ⟨v, hB, ⟨hF, hB.lt⟩, hS.mono fun k h l => ⟨⟨h.1, l⟩, h.2⟩⟩
theorem PS.frm {S : Nat → Prop} {w w' : World} {F : Nat → Prop} {g : Nat} {xs : List Value} (h : PS w F g xs) (f : Frm S w w') (hd : ∀ k, F k → ¬ S k) : PS w' F g xs := by
  obtain ⟨v, hB, hF, hS⟩ := h
  exact ⟨v, hB.frm f (hd _ hF), hF, hS.frm f (fun k h => hd k h.1)⟩
theorem PS.mono {w : World} {F G : Nat → Prop} {g : Nat} {xs : List Value} (h : PS w F g xs) (hG : ∀ k, F k → k < w.heap.size → G k) : PS w G g xs := by
  obtain ⟨v, hB, hF, hS⟩ := h
  exact ⟨v, hB, hG _ hF hB.lt, hS.mono fun k h l => ⟨hG _ h.1 l, h.2⟩⟩
theorem PS.lt {w : World} {F : Nat → Prop} {g : Nat} {xs : List Value} (h : PS w F g xs) : g < w.heap.size := by
  obtain ⟨v, hB, _⟩ := h; exact hB.lt

theorem newB (w : World) : Calls Try.prog 52 #[] w fun e w' => e = .returned (.pointer (some ⟨w.heap.size, 0, none⟩)) ∧ w' = w.alloc (.cells #[.slice none 0 0] 165) := by
  go_enter Try.func52, Try.ntmps52
  go_wp2
  go_ret
  exact ⟨rfl, rfl⟩
theorem newPS (w : World) : PS (w.alloc (.cells #[.slice none 0 0] 165)) (fun k => k = w.heap.size) w.heap.size [] := ⟨_, Blk.new w [_] 165, rfl, Sl.nil⟩

def PushPost (F : Nat → Prop) (g : Nat) (w : World) (xs : List Value) (e : Ending) (w' : World) : Prop :=
  e = .returned (.tuple #[]) ∧ PS w' (fun k => F k ∨ w.heap.size ≤ k) g xs ∧ Frm F w w'

set_option maxHeartbeats 800000 in
theorem pushB (F : Nat → Prop) (g : Nat) (xs : List Value) (ty : TypeId) (xv : Value) (w : World) (h : PS w F g xs) (hb : xs.length ≤ 1073741824) :
    Calls Try.prog 53 #[.pointer (some ⟨g, 0, none⟩), .iface ty xv] w (PushPost F g w (xs ++ [.iface ty xv])) := by
  obtain ⟨v, hB, hF, hS⟩ := h
  obtain ⟨A, c, rfl⟩ := hS.form
  have hlt := hB.lt
  have hBx := hB.alloc (.cells #[.iface ty xv] 125)
  have hSx := hS.low.alloc (.cells #[.iface ty xv] 125)
  have hX := Blk.new w [.iface ty xv] 125
  have hFx : Frm F w (w.alloc (.cells #[.iface ty xv] 125)) := (Frm.refl _ w).alloc _
  obtain ⟨c0, f0, l0⟩ := blk1 hB
  go_enter Try.func53, Try.ntmps53
  go_wp2_with (with_reducible refine stop_at 11 rfl ?_)
  unfold Stop
  refine op_append rfl _ _ _ rfl 125 _ 1 16 Try.underlying163 infoFr rfl (by omega) hSx rfl ⟨w.heap.size, 0, none⟩ 1 1 [.iface ty xv] rfl rfl (fun j u hu => by rw [hX.cellAdd 0 j, Nat.zero_add]; exact hu) (by intro u hu; simp at hu; subst hu; rfl) (by simp only [maxLen]; omega) (by omega) ?_
  intro v3 w3 hf3 hs3
  obtain ⟨A1, e1, rfl⟩ := hs3.form
  have hB3 := hBx.frm hf3 (fun h => h.1.2 rfl)
  have hz := (hFx.then hf3 (fun i h _ => h.1.1)).size
  clear c0 f0 l0
  obtain ⟨c0, f0, l0⟩ := blk1 hB3
  go_wp2_with fail
  go_end0
  refine ⟨rfl, ⟨_, hB3.setSame 0 _, .inl hF, ?_⟩, ((hFx.then hf3 (fun j h _ => h.1.1)).set g 0 _ (fun _ => hF))⟩
  rw [List.length_append]
  exact (hs3.set g 0 (.slice A1 (xs.length + 1) e1) (by rintro (h | h); exact h.1.2 rfl; simp at h; omega)).mono (G := fun k => (F k ∨ w.heap.size ≤ k) ∧ k ≠ g) (by rintro k (h | h) _; exact ⟨.inl h.1.1, h.1.2⟩; exact ⟨.inr (by simp at h; omega), by simp at h; omega⟩)

/-- The k-th of a pile, and whether there is one. -/
def getB (xs : List Value) (k : Int) : Value × Bool := if k < 0 then (.nilIface, false) else match xs[k.toNat]? with | some x => (x, true) | none => (.nilIface, false)

set_option maxHeartbeats 1600000 in
theorem atB (F : Nat → Prop) (g : Nat) (xs : List Value) (k : Int) (w : World) (h : PS w F g xs) (r : Value × Bool) (hr : getB xs k = r) :
    Calls Try.prog 85 #[.pointer (some ⟨g, 0, none⟩), .int .i64 k] w fun e w' => e = .returned (.tuple #[r.1, .bool r.2]) ∧ w = w' := by
  obtain ⟨v, hB, hF, hS⟩ := h
  obtain ⟨A, c, rfl⟩ := hS.form
  obtain ⟨c0, f0, l0⟩ := blk1 hB
  by_cases hk : k < 0
  · obtain rfl : r = (.nilIface, false) := by rw [← hr, getB, if_pos hk]
    clear hr
    go_enter Try.func85, Try.ntmps85
    go_wp2
    go_ret2
    exact ⟨rfl, rfl⟩
  · by_cases hk2 : k < xs.length
    · obtain ⟨m, rfl⟩ := Int.eq_ofNat_of_zero_le (Int.not_lt.1 hk)
      have hm : m < xs.length := by omega
      obtain rfl : r = (xs[m], true) := by rw [← hr, getB, if_neg hk, Int.toNat_natCast, List.getElem?_eq_getElem hm]
      obtain ⟨b, off, hA, lb, hc⟩ := hS.rd.elem m hm
      cases hA
      have p0 := hc 0 xs[m] (by simp [List.getElem?_eq_getElem hm])
      simp only [Nat.mul_one, Nat.add_zero] at p0
      clear hr hc
      generalize xs[m] = p at *
      have hkb : decide (xs.length ≤ m) = false := decide_eq_false (by omega)
      go_enter Try.func85, Try.ntmps85
      go_wp2
      go_ret2
      exact ⟨rfl, rfl⟩
    · have hn : xs[k.toNat]? = none := List.getElem?_eq_none (by omega)
      obtain rfl : r = (.nilIface, false) := by rw [← hr, getB, if_neg hk, hn]
      clear hr hn
      go_enter Try.func85, Try.ntmps85
      go_wp2
      go_ret2
      exact ⟨rfl, rfl⟩
theorem topB_ (F : Nat → Prop) (g : Nat) (xs : List Value) (w : World) (h : PS w F g xs) (hb : xs.length ≤ 1073741824) (r : Value × Bool) (hr : getB xs (xs.length - 1) = r) :
    Calls Try.prog 72 #[.pointer (some ⟨g, 0, none⟩)] w fun e w' => e = .returned (.tuple #[r.1, .bool r.2]) ∧ w = w' := by
  have hAT := Lib.hid (atB F g xs ((xs.length : Int) - 1) w h r hr)
  obtain ⟨v, hB, hF, hS⟩ := h
  obtain ⟨A, c, rfl⟩ := hS.form
  obtain ⟨c0, f0, l0⟩ := blk1 hB
  clear hr
  go_enter Try.func72, Try.ntmps72
  go_wp2_with fail
  refine hAT.out.mono ?_
  rintro e w' ⟨rfl, rfl⟩
  go_wp2
  go_ret2
  exact ⟨rfl, rfl⟩

/-- What lies on top is taken off. -/
theorem popB0 (F : Nat → Prop) (g : Nat) (w : World) (h : PS w F g []) : Calls Try.prog 54 #[.pointer (some ⟨g, 0, none⟩)] w fun e w' => e = .returned (.tuple #[.nilIface, .bool false]) ∧ w = w' := by
  have hT := Lib.hid (topB_ F g [] w h (by simp) (.nilIface, false) rfl)
  go_enter Try.func54, Try.ntmps54
  go_wp2_with fail
  refine hT.out.mono ?_
  rintro e w' ⟨rfl, rfl⟩
  go_wp2
  go_ret2
  exact ⟨rfl, rfl⟩
set_option maxHeartbeats 1600000 in
theorem popB1 (F : Nat → Prop) (g : Nat) (xs : List Value) (x : Value) (w : World) (h : PS w F g (xs ++ [x])) (hb : xs.length ≤ 1073741820) : Calls Try.prog 54 #[.pointer (some ⟨g, 0, none⟩)] w fun e w' => e = .returned (.tuple #[x, .bool true]) ∧ PS w' F g xs ∧ Frm F w w' := by
  have hT := Lib.hid (topB_ F g (xs ++ [x]) w h (by simp; omega) (x, true) (by
    rw [getB, List.length_append, List.length_singleton, if_neg (by omega), show (((xs.length + 1 : Nat) : Int) - 1).toNat = xs.length by omega, List.getElem?_append_right (Nat.le_refl _), Nat.sub_self]
    rfl))
  obtain ⟨v, hB, hF, hS⟩ := h
  obtain ⟨A, c, rfl⟩ := hS.form
  have hcap := hS.rd.cap
  obtain ⟨c0, f0, l0⟩ := blk1 hB
  simp only [List.length_append, List.length_singleton] at hcap c0 hB hS
  have hcut := hS.cut (k := xs.length) (by omega)
  rw [Nat.mul_one, List.take_left] at hcut
  have hwr : IntKind.i64.wrap (((xs.length + 1 : Nat) : Int) - 1) = (xs.length : Int) := by rw [IntWalk.i64_in _ (by omega)]; omega
  have hS2 := Lib.hid hS
  clear hS
  go_enter Try.func54, Try.ntmps54
  go_wp2_with fail
  refine hT.out.mono ?_
  rintro e w' ⟨rfl, rfl⟩
  go_wp2_with fail
  go_region
  all_goals
    go_wp2_with fail
    go_ret2
    refine ⟨rfl, ⟨_, (hB.setSame 0 (.slice A xs.length c)).drew, hF, (hcut.set g 0 (.slice A xs.length c) (fun h => h.2 rfl)).drew⟩, ((Frm.refl _ w).set g 0 _ (fun _ => hF)).drew⟩
end Go.Proofs.Ytoadmpochaeohaa
