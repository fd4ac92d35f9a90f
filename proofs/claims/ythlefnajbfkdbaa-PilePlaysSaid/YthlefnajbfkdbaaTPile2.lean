import Derived.Test.YthlefnajbfkdbaaTPile
set_option linter.unusedVariables false
set_option linter.unusedSimpArgs false
namespace Go.Proofs.Ythlefnajbfkdbaa
open Go.RowKit

/-- The k-th of a pile, and whether there is one. -/
def getT (xs : List Th) (k : Int) : Th × Bool := if k < 0 then (th0, false) else match xs[k.toNat]? with | some x => (x, true) | none => (th0, false)

def AtPost (w : World) (r : Th × Bool) (e : Ending) (w' : World) : Prop := e = .returned (.tuple #[.agg #[.int .i64 r.1.n, .string r.1.s], .bool r.2]) ∧ Frm (fun _ => False) w w'

set_option maxHeartbeats 1600000 in
theorem atT (F : Nat → Prop) (g : Nat) (xs : List Th) (k : Int) (w : World) (h : TP w F g xs) (hb : xs.length ≤ 1073741824) (r : Th × Bool) (hr : getT xs k = r) :
    Calls Try.prog 34 #[.pointer (some ⟨g, 0, none⟩), .int .i64 k] w (AtPost w r) := by
  obtain ⟨v, hB, hF, hS⟩ := h
  obtain ⟨A, c, rfl⟩ := hS.form
  have hBx := hB.alloc (.cells #[.int .i64 0, .string ⟨#[]⟩] 56)
  have hSx := hS.alloc (.cells #[.int .i64 0, .string ⟨#[]⟩] 56)
  have hX := Blk.new w [.int .i64 0, .string ⟨#[]⟩] 56
  have hFx : Frm (fun _ => False) w (w.alloc (.cells #[.int .i64 0, .string ⟨#[]⟩] 56)) := (Frm.refl _ w).alloc _
  by_cases hk : k < 0
  · obtain rfl : r = (th0, false) := by rw [← hr, getT, if_pos hk]
    clear hr
    go_enter Try.func34, Try.ntmps34
    obtain ⟨c0, f0, l0⟩ := blk1 hB
    go_wp2
    refine bodyPost_ret (results_two rfl (RV.cell rfl hX Try.underlying56 rfl (by kernel_rfl)) (RV.tmp rfl)) rfl ⟨rfl, ?_⟩
    exact hFx
  · by_cases hk2 : k < xs.length
    · obtain ⟨m, rfl⟩ := Int.eq_ofNat_of_zero_le (Int.not_lt.1 hk)
      have hm : m < xs.length := by omega
      obtain rfl : r = (xs[m], true) := by rw [← hr, getT, if_neg hk, Int.toNat_natCast, List.getElem?_eq_getElem hm]
      obtain ⟨b, off, hA, lb, p0, p1⟩ := hS.rd.th m xs[m] (List.getElem?_eq_getElem hm)
      cases hA
      clear hr
      generalize xs[m] = p at *
      go_enter Try.func34, Try.ntmps34
      obtain ⟨c0, f0, l0⟩ := blk1 hB
      have hkb : decide (xs.length ≤ m) = false := decide_eq_false (by omega)
      go_wp2
      refine bodyPost_ret (results_two rfl (RV.cell rfl (Blk.new w [.int .i64 p.n, .string p.s] 56) Try.underlying56 rfl (by kernel_rfl)) (RV.tmp rfl)) rfl ⟨rfl, ?_⟩
      exact (Frm.refl _ w).alloc _
    · have hn : xs[k.toNat]? = none := List.getElem?_eq_none (by omega)
      obtain rfl : r = (th0, false) := by rw [← hr, getT, if_neg hk, hn]
      clear hr hn
      go_enter Try.func34, Try.ntmps34
      obtain ⟨c0, f0, l0⟩ := blk1 hB
      go_wp2
      refine bodyPost_ret (results_two rfl (RV.cell rfl hX Try.underlying56 rfl (by kernel_rfl)) (RV.tmp rfl)) rfl ⟨rfl, ?_⟩
      exact hFx

set_option maxHeartbeats 1600000 in
theorem topT (F : Nat → Prop) (g : Nat) (xs : List Th) (w : World) (h : TP w F g xs) (hb : xs.length ≤ 1073741824) (r : Th × Bool) (hr : getT xs (xs.length - 1) = r) :
    Calls Try.prog 45 #[.pointer (some ⟨g, 0, none⟩)] w (AtPost w r) := by
  have hFx : Frm (fun _ => False) w (w.alloc (.cells #[.int .i64 0, .string ⟨#[]⟩] 56)) := (Frm.refl _ w).alloc _
  have hT := h.frm hFx (fun _ _ h => h)
  have hX := Blk.new w [.int .i64 0, .string ⟨#[]⟩] 56
  have hw : w.heap.size < (w.alloc (.cells #[.int .i64 0, .string ⟨#[]⟩] 56)).heap.size := by simp
  have hT2 := hT
  obtain ⟨v, hB, hF, hS⟩ := hT2
  obtain ⟨A, c, rfl⟩ := hS.form
  obtain ⟨c0, f0, l0⟩ := blk1 hB
  have HR := Lib.hid hr
  clear hr
  go_enter Try.func45, Try.ntmps45
  go_wp2_with fail
  refine (atT F g xs _ _ hT hb r HR.out).mono ?_
  rintro e w1 ⟨rfl, hf1⟩
  have hX1 := hX.frm hf1 (fun f => f)
  obtain ⟨d0, d1, e0, e1, l1⟩ := blk2 hX1
  go_wp2
  refine bodyPost_ret (results_two rfl (RV.cell rfl (hX1.setSame 0 (.int .i64 r.1.n) |>.setSame 1 (.string r.1.s)) Try.underlying56 rfl (by kernel_rfl)) (RV.tmp rfl)) rfl ⟨rfl, ?_⟩
  exact ((hFx.trans hf1).set _ 0 _ (fun h => absurd h (Nat.lt_irrefl _))).set _ 1 _ (fun h => absurd h (Nat.lt_irrefl _))
end Go.Proofs.Ythlefnajbfkdbaa
