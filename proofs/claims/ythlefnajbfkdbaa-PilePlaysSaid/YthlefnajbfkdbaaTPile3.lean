import Derived.Test.YthlefnajbfkdbaaTPile2
import Derived.Test.YthlefnajbfkdbaaCells2
set_option linter.unusedVariables false
set_option linter.unusedSimpArgs false
namespace Go.Proofs.Ythlefnajbfkdbaa
open Go.RowKit

def PopTPost (F : Nat → Prop) (g : Nat) (w : World) (xs : List Th) (r : Th × Bool) (e : Ending) (w' : World) : Prop :=
  e = .returned (.tuple #[.agg #[.int .i64 r.1.n, .string r.1.s], .bool r.2]) ∧ TP w' F g xs ∧ Frm F w w'

set_option maxHeartbeats 1600000 in
theorem popT (F : Nat → Prop) (g : Nat) (xs : List Th) (w : World) (h : TP w F g xs) (hb : xs.length ≤ 1073741824) (r : Th × Bool) (hr : getT xs (xs.length - 1) = r) :
    Calls Try.prog 33 #[.pointer (some ⟨g, 0, none⟩)] w (PopTPost F g w xs.dropLast r) := by
  have h' := h
  obtain ⟨v, hB, hF, hS⟩ := h.low
  have hlt := hB.lt
  obtain ⟨A, c, rfl⟩ := hS.form
  have hcap := hS.rd.cap
  have hTx := h.low.frm (S := fun _ => False) ((Frm.refl _ w).alloc (.cells #[.int .i64 0, .string ⟨#[]⟩] 56)) (fun _ _ h => h)
  have hBx := hB.alloc (.cells #[.int .i64 0, .string ⟨#[]⟩] 56)
  have hSx := hS.alloc (.cells #[.int .i64 0, .string ⟨#[]⟩] 56)
  have hX := Blk.new w [.int .i64 0, .string ⟨#[]⟩] 56
  have hFx : Frm F w (w.alloc (.cells #[.int .i64 0, .string ⟨#[]⟩] 56)) := (Frm.refl _ w).alloc _
  have hwz : w.heap.size < (w.alloc (.cells #[.int .i64 0, .string ⟨#[]⟩] 56)).heap.size := by simp
  have HR := Lib.hid hr
  by_cases hx : xs = []
  · subst hx
    obtain rfl : r = (th0, false) := by rw [← hr]; rfl
    clear hr
    go_enter Try.func33, Try.ntmps33
    go_wp2_with fail
    refine (topT _ g _ _ hTx hb _ HR.out).mono ?_
    rintro e w1 ⟨rfl, hf1⟩
    have hX1 := hX.frm hf1 (fun f => f)
    have hT1 := hTx.frm hf1 (fun _ _ f => f)
    have hF1 := hFx.then hf1 (fun _ h _ => h.elim)
    have hw1 := hf1.size
    have hX2 := hX1.alloc (.cells #[.int .i64 th0.n, .string th0.s] 56)
    have hT2 := hT1.frm (S := fun _ => False) ((Frm.refl _ w1).alloc (.cells #[.int .i64 th0.n, .string th0.s] 56)) (fun _ _ h => h)
    have hY2 := Blk.new w1 [.int .i64 th0.n, .string th0.s] 56
    have hF2 := hF1.alloc (.cells #[.int .i64 th0.n, .string th0.s] 56)
    obtain ⟨x0, x1, y0, y1, z0⟩ := blk2 hX2
    obtain ⟨x0', x1', y0', y1', z0'⟩ := blk2 hY2
    go_wp2
    generalize w1.alloc (.cells #[.int .i64 th0.n, .string th0.s] 56) = w2 at *
    refine bodyPost_ret (results_two rfl (RV.cell rfl ((hX2.setSame 0 (.int .i64 th0.n)).setSame 1 (.string th0.s)) Try.underlying56 rfl (by kernel_rfl)) (RV.tmp rfl)) rfl ⟨rfl, ?_, ?_⟩
    · have := (hT2.frm (S := fun k => k = w.heap.size) (((Frm.refl (fun k => k = w.heap.size) w2).set w.heap.size 0 (.int .i64 th0.n) (fun _ => rfl)).set w.heap.size 1 (.string th0.s) (fun _ => rfl)) (fun k h h' => absurd h.2 (by omega)))
      exact this.mono (fun k h _ => h.1)
    · exact (hF2.set _ 0 _ (fun h => absurd h (Nat.lt_irrefl _))).set _ 1 _ (fun h => absurd h (Nat.lt_irrefl _))
  · have hpos : 0 < xs.length := List.length_pos_iff.2 hx
    obtain ⟨p, rfl⟩ : ∃ p, r = (p, true) := by
      rw [← hr, getT, if_neg (by omega), show ((xs.length : Int) - 1).toNat = xs.length - 1 by omega, List.getElem?_eq_getElem (by omega)]
      exact ⟨_, rfl⟩
    clear hr
    have hwr : IntKind.i64.wrap ((xs.length : Int) - 1) = ((xs.length - 1 : Nat) : Int) := by rw [IntWalk.i64_in _ (by omega)]; omega
    have hdl : xs.dropLast = xs.take (xs.length - 1) := List.dropLast_eq_take
    have HDL := Lib.hid hdl
    clear hdl hx
    go_enter Try.func33, Try.ntmps33
    go_wp2_with fail
    refine (topT _ g _ _ hTx hb _ HR.out).mono ?_
    rintro e w1 ⟨rfl, hf1⟩
    have hB1 := hBx.frm hf1 (fun f => f)
    have hS1 := hSx.frm hf1 (fun _ _ f => f)
    have hX1 := hX.frm hf1 (fun f => f)
    have hF1 := hFx.then hf1 (fun _ h _ => h.elim)
    have hw1 := hf1.size
    have hB2 := hB1.alloc (.cells #[.int .i64 p.n, .string p.s] 56)
    have hS2 := hS1.alloc (.cells #[.int .i64 p.n, .string p.s] 56)
    have hX2 := hX1.alloc (.cells #[.int .i64 p.n, .string p.s] 56)
    have hY2 := Blk.new w1 [.int .i64 p.n, .string p.s] 56
    have hF2 := hF1.alloc (.cells #[.int .i64 p.n, .string p.s] 56)
    have hny : w.heap.size < w1.heap.size := by omega
    have hw2 : w1.heap.size < (w1.alloc (.cells #[.int .i64 p.n, .string p.s] 56)).heap.size := by simp
    have hgw : g ≠ w.heap.size := by omega
    have hlm : xs.length - 1 ≤ xs.length := by omega
    obtain ⟨c0, f0, l0⟩ := blk1 hB1
    generalize hmm : xs.length - 1 = m at *
    clear hmm
    go_wp2
    generalize w1.alloc (.cells #[.int .i64 p.n, .string p.s] 56) = w2 at *
    obtain ⟨c0, f0, l0⟩ := blk1 hB2
    go_region
    all_goals
      have hcut := hS2.cut (k := m) hlm
      rw [flatT_take] at hcut
      have hB3 := (hB2.setSame 0 (.slice A m c)).drew
      have hX3 := (hX2.setOther g 0 (.slice A m c) hgw.symm).drew
      have hY3 := (hY2.setOther g 0 (.slice A m c) (by omega)).drew
      have hS3 := (hcut.set g 0 (.slice A m c) (fun h => h.2 rfl)).drew
      have hF3 := (hF2.set g 0 (.slice A m c) (fun _ => hF.1)).drew
      generalize (w2.setCell ⟨g, 0, none⟩ (.slice A m c)).drew = w3 at *
      obtain ⟨x0, x1, y0, y1, z0⟩ := blk2 hX3
      obtain ⟨x0', x1', y0', y1', z0'⟩ := blk2 hY3
      go_wp2
      refine bodyPost_ret (results_two rfl (RV.cell rfl ((hX3.setSame 0 (.int .i64 p.n)).setSame 1 (.string p.s)) Try.underlying56 rfl (by kernel_rfl)) (RV.tmp rfl)) rfl ?_
      refine ⟨rfl, ⟨_, (hB3.setOther _ 0 _ hgw).setOther _ 1 _ hgw, hF.1, ?_⟩, (hF3.set _ 0 _ (fun h => absurd h (Nat.lt_irrefl _))).set _ 1 _ (fun h => absurd h (Nat.lt_irrefl _))⟩
      have hml : (xs.take m).length = m := by rw [List.length_take]; omega
      rw [HDL.out, hml]
      exact ((hS3.set _ 0 _ (fun h => absurd h.1.2 (Nat.lt_irrefl _))).set _ 1 _ (fun h => absurd h.1.2 (Nat.lt_irrefl _))).mono (fun k h _ => ⟨h.1.1, h.2⟩)

set_option maxHeartbeats 800000 in
theorem cutT (F : Nat → Prop) (g : Nat) (xs : List Th) (n : Int) (w : World) (h : TP w F g xs) (hb : xs.length ≤ 1073741824) :
    Calls Try.prog 35 #[.pointer (some ⟨g, 0, none⟩), .int .i64 n] w fun e w' => e = .returned (.int .i64 (if n < 0 ∨ (xs.length : Int) < n then 1 else 0)) ∧ TP w' F g (if n < 0 ∨ (xs.length : Int) < n then xs else xs.take n.toNat) ∧ Frm F w w' := by
  have h' := h
  obtain ⟨v, hB, hF, hS⟩ := h
  obtain ⟨A, c, rfl⟩ := hS.form
  obtain ⟨c0, f0, l0⟩ := blk1 hB
  have hcap := hS.rd.cap
  by_cases hn : n < 0
  · rw [if_pos (.inl hn), if_pos (.inl hn)]
    go_enter Try.func35, Try.ntmps35
    go_wp2
    go_ret
    exact ⟨rfl, h', Frm.refl _ _⟩
  · by_cases hn2 : (xs.length : Int) < n
    · rw [if_pos (.inr hn2), if_pos (.inr hn2)]
      go_enter Try.func35, Try.ntmps35
      go_wp2
      go_ret
      exact ⟨rfl, h', Frm.refl _ _⟩
    · obtain ⟨m, rfl⟩ := Int.eq_ofNat_of_zero_le (Int.not_lt.1 hn)
      have hm : m ≤ xs.length := by omega
      have hno : ¬ ((m : Int) < 0 ∨ (xs.length : Int) < (m : Int)) := by omega
      rw [if_neg hno, if_neg hno, Int.toNat_natCast]
      clear hno
      go_enter Try.func35, Try.ntmps35
      go_wp2_with (with_reducible refine stop_at 21 rfl ?_)
      unfold Stop
      refine op_from rfl _ _ _ rfl 56 2 Try.underlying57 sizeTh A xs.length c rfl _ rfl m rfl hm hcap ?_
      intro ao hao0
      have HAO := Lib.hid hao0
      clear hao0
      go_wp2_with (with_reducible refine stop_clear (.tmp 21) 57 rfl ?_)
      unfold Stop
      have hao := HAO.out
      have hql : (flatT xs).length = xs.length * 2 := flatT_len xs
      have htk := flatT_take xs m
      have htl : (xs.take m).length = m := by rw [List.length_take]; omega
      generalize hq : flatT xs = q at hS hql htk
      generalize hl : xs.length = l at *
      cases hS with
      | nil =>
        obtain rfl : m = 0 := by omega
        obtain rfl : xs = [] := List.eq_nil_of_length_eq_zero hl
        refine op_clearB rfl _ _ rfl 56 (.agg #[.int .i64 0, .string ⟨#[]⟩]) 2 Try.underlying57 zeroTh rfl (by intro u hu; simp [Value.cells] at hu; rcases hu with rfl | rfl <;> rfl) ao 0 _ rfl g 0 _ 90 hB (fun h => absurd h (by omega)) (by simp) ?_
        intro w1 hf1 hz1 hB1
        simp only [List.take_zero, List.replicate_zero, List.flatten_nil, List.append_nil, List.nil_append, Nat.zero_mul, Nat.add_zero, List.drop_zero] at hB1
        obtain ⟨c0, f0, l0⟩ := blk1 hB1
        go_wp2
        go_ret
        exact ⟨rfl, ⟨_, hB1.setSame 0 _, hF, by simpa [flatT] using Sl.nil⟩, ((Frm.refl F w).then hf1 (fun i h _ => by subst h; exact hF)).set g 0 _ (fun _ => hF)⟩
      | @at_ b _ _ _ rest hF2 hb2 hx2 hr2 hn2 hm2 =>
        refine op_clearB rfl _ _ rfl 56 (.agg #[.int .i64 0, .string ⟨#[]⟩]) 2 Try.underlying57 zeroTh rfl (by intro u hu; simp [Value.cells] at hu; rcases hu with rfl | rfl <;> rfl) ao (l - m) _ rfl b (m * 2) _ 56 hb2 (fun h => by rw [hao (by omega)]; simp [addr0]) (by simp; omega) ?_
        intro w1 hf1 hz1 hb1
        have hB1 := hB.frm hf1 (fun h => hF2.2 h.symm)
        obtain ⟨c0, f0, l0⟩ := blk1 hB1
        go_wp2
        go_ret
        refine ⟨rfl, ⟨_, hB1.setSame 0 _, hF, ?_⟩, ((Frm.refl F w).then hf1 (fun i h _ => by subst h; exact hF2.1)).set g 0 _ (fun _ => hF)⟩
        have hb3 := hb1.setOther g 0 (.slice (some ⟨b, 0, none⟩) m c) hF2.2
        rw [htl, ← htk]
        rw [List.take_append_of_le_length (by omega)] at hb3
        refine .at_ (rest := (List.replicate (l - m) (Value.agg #[.int .i64 0, .string ⟨#[]⟩]).cells.toList).flatten ++ (q ++ rest).drop (m * 2 + (l - m) * 2)) hF2 ?_ (by simp; omega) ?_ (by omega) hm2
        · rw [← List.append_assoc]; exact hb3
        · have := hr2
          simp [Value.cells] at this ⊢
          omega
end Go.Proofs.Ythlefnajbfkdbaa
