import Derived.Test.YthlefnajbfkdbaaTrail
set_option linter.unusedVariables false
set_option linter.unusedSimpArgs false
namespace Go.Proofs.Ythlefnajbfkdbaa
open Go.RowKit

set_option maxHeartbeats 400000 in
theorem lenW (F : Nat → Prop) (g : Nat) (v u : Value) (tr : List (Int × Int)) (w : World) (hB : Blk w g [v, u] 80) (hS : Sl w F 85 2 u tr.length (flatW tr)) :
    Calls Try.prog 39 #[.pointer (some ⟨g, 1, none⟩)] w fun e w' => e = .returned (.int .i64 tr.length) ∧ w = w' := by
  obtain ⟨A, c, rfl⟩ := hS.form
  obtain ⟨c0, c1, f0, f1, l0⟩ := blk2 hB
  go_enter Try.func39, Try.ntmps39
  go_wp2
  go_ret
  exact ⟨rfl, rfl⟩

set_option maxHeartbeats 800000 in
theorem atW (F : Nat → Prop) (g : Nat) (v u : Value) (tr : List (Int × Int)) (k : Nat) (p : Int × Int) (hp : tr[k]? = some p) (w : World) (hB : Blk w g [v, u] 80) (hS : Sl w F 85 2 u tr.length (flatW tr)) (hb : tr.length ≤ 1073741824) :
    Calls Try.prog 47 #[.pointer (some ⟨g, 1, none⟩), .int .i64 k] w fun e w' => e = .returned (.tuple #[.agg #[.int .i64 p.1, .int .i64 p.2], .bool true]) ∧ Frm (fun _ => False) w w' := by
  have hk : k < tr.length := (List.getElem?_eq_some_iff.1 hp).1
  obtain ⟨A, c, rfl⟩ := hS.form
  have hBx := hB.alloc (.cells #[.int .i64 0, .int .i64 0] 85)
  have hSx := hS.alloc (.cells #[.int .i64 0, .int .i64 0] 85)
  have hX := Blk.new w [.int .i64 0, .int .i64 0] 85
  have hFx : Frm (fun _ => False) w (w.alloc (.cells #[.int .i64 0, .int .i64 0] 85)) := (Frm.refl _ w).alloc _
  obtain ⟨b, off, hA, lb, p0, p1⟩ := hS.rd.was k p hp
  cases hA
  clear hp
  go_enter Try.func47, Try.ntmps47
  obtain ⟨c0, c1, f0, f1, l0⟩ := blk2 hB
  have hkb : decide (tr.length ≤ k) = false := decide_eq_false (by omega)
  have hki : (k : Int) < tr.length := by omega
  go_wp2
  refine bodyPost_ret (results_two rfl (RV.cell rfl (Blk.new w [.int .i64 p.1, .int .i64 p.2] 85) Try.underlying85 rfl (by kernel_rfl)) (RV.tmp rfl)) rfl ⟨rfl, ?_⟩
  exact (Frm.refl _ w).alloc _

set_option maxHeartbeats 800000 in
theorem topW (F : Nat → Prop) (g : Nat) (v u : Value) (tr : List (Int × Int)) (p : Int × Int) (w : World) (hB : Blk w g [v, u] 80) (hS : Sl w F 85 2 u (tr ++ [p]).length (flatW (tr ++ [p]))) (hb : (tr ++ [p]).length ≤ 1073741824) :
    Calls Try.prog 46 #[.pointer (some ⟨g, 1, none⟩)] w fun e w' => e = .returned (.tuple #[.agg #[.int .i64 p.1, .int .i64 p.2], .bool true]) ∧ Frm (fun _ => False) w w' := by
  have hS' := hS
  have hB' := hB
  obtain ⟨A, c, rfl⟩ := hS.form
  have hBx := hB.alloc (.cells #[.int .i64 0, .int .i64 0] 85)
  have hSx := hS.alloc (.cells #[.int .i64 0, .int .i64 0] 85)
  have hX := Blk.new w [.int .i64 0, .int .i64 0] 85
  have hFx : Frm (fun _ => False) w (w.alloc (.cells #[.int .i64 0, .int .i64 0] 85)) := (Frm.refl _ w).alloc _
  obtain ⟨c0, c1, f0, f1, l0⟩ := blk2 hBx
  have hl : (tr ++ [p]).length = tr.length + 1 := by simp
  have hlast : (tr ++ [p])[tr.length]? = some p := by simp
  have hbt : tr.length + 1 ≤ 1073741824 := by rw [← hl]; exact hb
  generalize tr ++ [p] = t2 at *
  have HL := Lib.hid hl
  rw [hl] at c1 hSx hBx
  have HLa := Lib.hid hlast
  clear hl hlast
  have hw : w.heap.size < (w.alloc (.cells #[.int .i64 0, .int .i64 0] 85)).heap.size := by simp
  go_enter Try.func46, Try.ntmps46
  go_wp2_with fail
  refine (atW F g v _ t2 tr.length p HLa.out _ hBx (by rw [HL.out]; exact hSx) hb).mono ?_
  rintro e w1 ⟨rfl, hf1⟩
  have hX1 := hX.frm hf1 (fun f => f)
  obtain ⟨d0, d1, e0, e1, l1⟩ := blk2 hX1
  go_wp2
  refine bodyPost_ret (results_two rfl (RV.cell rfl (hX1.setSame 0 (.int .i64 p.1) |>.setSame 1 (.int .i64 p.2)) Try.underlying85 rfl (by kernel_rfl)) (RV.tmp rfl)) rfl ⟨rfl, ?_⟩
  exact ((hFx.trans hf1).set _ 0 _ (fun h => absurd h (Nat.lt_irrefl _))).set _ 1 _ (fun h => absurd h (Nat.lt_irrefl _))

def PopPost (F : Nat → Prop) (g : Nat) (v : Value) (w : World) (tr : List (Int × Int)) (p : Int × Int) (e : Ending) (w' : World) : Prop :=
  ∃ u, e = .returned (.tuple #[.agg #[.int .i64 p.1, .int .i64 p.2], .bool true]) ∧ Blk w' g [v, u] 80 ∧ Sl w' F 85 2 u tr.length (flatW tr) ∧ Frm (fun k => k = g) w w'

set_option maxHeartbeats 1600000 in
theorem popW (F : Nat → Prop) (g : Nat) (v u : Value) (tr : List (Int × Int)) (p : Int × Int) (w : World) (hB : Blk w g [v, u] 80) (hS : Sl w F 85 2 u (tr ++ [p]).length (flatW (tr ++ [p]))) (hg : ¬ F g) (hb : (tr ++ [p]).length ≤ 1073741824) :
    Calls Try.prog 40 #[.pointer (some ⟨g, 1, none⟩)] w (PopPost F g v w tr p) := by
  have hlt := hB.lt
  have hSl := hS.low
  obtain ⟨A, c, rfl⟩ := hS.form
  have hBx := hB.alloc (.cells #[.int .i64 0, .int .i64 0] 85)
  have hSx := hSl.alloc (.cells #[.int .i64 0, .int .i64 0] 85)
  have hX := Blk.new w [.int .i64 0, .int .i64 0] 85
  have hFx : Frm (fun k => k = g) w (w.alloc (.cells #[.int .i64 0, .int .i64 0] 85)) := (Frm.refl _ w).alloc _
  have hwz : w.heap.size < (w.alloc (.cells #[.int .i64 0, .int .i64 0] 85)).heap.size := by simp
  have hl : (tr ++ [p]).length = tr.length + 1 := by simp
  have hbt : tr.length + 1 ≤ 1073741824 := by rw [← hl]; exact hb
  have hcap := hS.rd.cap
  rw [hl] at hcap
  have HL := Lib.hid hl
  clear hl
  go_enter Try.func40, Try.ntmps40
  go_wp2_with fail
  refine (topW _ g v _ tr p _ hBx hSx hb).mono ?_
  rintro e w1 ⟨rfl, hf1⟩
  have hB1 := hBx.frm hf1 (fun f => f)
  have hS1 := hSx.frm hf1 (fun _ _ f => f)
  have hX1 := hX.frm hf1 (fun f => f)
  have hF1 := hFx.then hf1 (fun _ h _ => h.elim)
  have hw1 := hf1.size
  rw [HL.out] at hB1 hS1
  have hB2 := hB1.alloc (.cells #[.int .i64 p.1, .int .i64 p.2] 85)
  have hS2 := hS1.alloc (.cells #[.int .i64 p.1, .int .i64 p.2] 85)
  have hX2 := hX1.alloc (.cells #[.int .i64 p.1, .int .i64 p.2] 85)
  have hY2 := Blk.new w1 [.int .i64 p.1, .int .i64 p.2] 85
  have hF2 := hF1.alloc (.cells #[.int .i64 p.1, .int .i64 p.2] 85)
  have hny : w.heap.size < w1.heap.size := by omega
  have hw2 : w1.heap.size < (w1.alloc (.cells #[.int .i64 p.1, .int .i64 p.2] 85)).heap.size := by simp
  have hgw : g ≠ w.heap.size := by omega
  obtain ⟨c0, c1, f0, f1, l0⟩ := blk2 hB1
  go_wp2
  have hwr : IntKind.i64.wrap ((tr.length : Int) + 1 - 1) = tr.length := by rw [show (tr.length : Int) + 1 - 1 = tr.length by omega]; exact IntWalk.i64_in _ (by omega)
  generalize w1.alloc (.cells #[.int .i64 p.1, .int .i64 p.2] 85) = w2 at *
  obtain ⟨c0, c1, f0, f1, l0⟩ := blk2 hB2
  go_region
  all_goals
    have hcut := hS2.cut (k := tr.length) (by omega)
    rw [flatW_take, List.take_left' rfl] at hcut
    have hB3 := (hB2.setSame 1 (.slice A tr.length c)).drew
    have hX3 := (hX2.setOther g 1 (.slice A tr.length c) hgw.symm).drew
    have hY3 := (hY2.setOther g 1 (.slice A tr.length c) (by omega)).drew
    have hS3 := (hcut.set g 1 (.slice A tr.length c) (fun h => hg h.1)).drew
    have hF3 := (hF2.set g 1 (.slice A tr.length c) (fun _ => rfl)).drew
    generalize (w2.setCell ⟨g, 1, none⟩ (.slice A tr.length c)).drew = w3 at *
    obtain ⟨x0, x1, y0, y1, z0⟩ := blk2 hX3
    obtain ⟨x0', x1', y0', y1', z0'⟩ := blk2 hY3
    go_wp2
    refine bodyPost_ret (results_two rfl (RV.cell rfl ((hX3.setSame 0 (.int .i64 p.1)).setSame 1 (.int .i64 p.2)) Try.underlying85 rfl (by kernel_rfl)) (RV.tmp rfl)) rfl ?_
    refine ⟨_, rfl, (hB3.setOther _ 0 _ hgw).setOther _ 1 _ hgw, ?_, (hF3.set _ 0 _ (fun h => absurd h (Nat.lt_irrefl _))).set _ 1 _ (fun h => absurd h (Nat.lt_irrefl _))⟩
    exact ((hS3.set _ 0 _ (fun h => absurd h.2 (Nat.lt_irrefl _))).set _ 1 _ (fun h => absurd h.2 (Nat.lt_irrefl _))).mono (fun k h _ => h.1)
end Go.Proofs.Ythlefnajbfkdbaa
