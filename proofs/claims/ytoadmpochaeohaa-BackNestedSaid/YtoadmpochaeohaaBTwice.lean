/-
  Layer 20: the chapter's first program.
-/
import Derived.Test.YtoadmpochaeohaaBNewP
import Derived.Test.YtoadmpochaeohaaBLong
set_option linter.unusedVariables false
set_option linter.unusedSimpArgs false
set_option maxRecDepth 100000
namespace Go.Proofs.Ytoadmpochaeohaa
open Go.RowKit

def I0 (op x y : Int) : Ins := ⟨op, x, y, 0, 0, 0, 0, 0, 0, 0⟩
def twiceL : List Ins := [I0 6 0 0, I0 2 2 4, ⟨1, 0, 0, 0, 0, 0, 0, 8589934592, 0, 0⟩, I0 3 1 0, I0 7 0 0, I0 8 0 0, I0 11 0 0]
theorem Blk.rdA {w : World} {F : Nat → Prop} {g : Nat} {cur : List Value} {t : TypeId} {n size : Nat} (h : Blk w g cur t) (hF : F g) (hn : cur.length = n * size) : Rd w F size (some ⟨g, 0, none⟩) n n cur :=
  ⟨hn, Nat.le_refl _, fun h => (by cases h), fun _ => ⟨g, 0, rfl, hF, h.lt, fun j u hj => by rw [h.cell, Nat.zero_add]; exact hj⟩⟩
theorem three3 (w : World) (x y z : List Value) (a b c : TypeId) :
    Blk (((w.alloc (.cells x.toArray a)).alloc (.cells y.toArray b)).alloc (.cells z.toArray c)) w.heap.size x a ∧ Blk (((w.alloc (.cells x.toArray a)).alloc (.cells y.toArray b)).alloc (.cells z.toArray c)) (w.heap.size + 1) y b ∧
    Blk (((w.alloc (.cells x.toArray a)).alloc (.cells y.toArray b)).alloc (.cells z.toArray c)) (w.heap.size + 1 + 1) z c ∧ Frm (fun _ => False) w (((w.alloc (.cells x.toArray a)).alloc (.cells y.toArray b)).alloc (.cells z.toArray c)) := by
  have e1 : (w.alloc (.cells x.toArray a)).heap.size = w.heap.size + 1 := by unfold World.alloc; exact Array.size_push _
  have e2 : ((w.alloc (.cells x.toArray a)).alloc (.cells y.toArray b)).heap.size = w.heap.size + 1 + 1 := by rw [← e1]; unfold World.alloc; exact Array.size_push _
  refine ⟨((Blk.new w x a).alloc _).alloc _, ?_, ?_, ((((Frm.refl _ _).alloc _).alloc _).alloc _)⟩
  · rw [← e1]; exact ((Blk.new _ y b).alloc _)
  · rw [← e2]; exact (Blk.new _ z c)
set_option maxHeartbeats 4000000 in
theorem twiceB (w : World) : Calls Try.prog 30 #[] w fun e w' => ∃ A, e = .returned (.agg #[.slice A 7 7, .int .i64 1, .int .i64 0, .bool false]) ∧ Rd w' (fun q => w.heap.size ≤ q) 10 A 7 7 (flatI twiceL) ∧ Frm (fun _ => False) w w' := by
  go_enter Try.func30, Try.ntmps30
  go_wp2_with fail
  have T := three3 w [.slice (some ⟨w.heap.size + 1 + 1, 0, none⟩) 7 7, .int .i64 1, .int .i64 0, .bool false] [.int .u64 0, .int .u64 8589934592, .int .u64 0, .int .u64 0] (flatI twiceL) 24 37 39
  obtain ⟨t1, _, t3, t4⟩ := T
  refine bodyPost_ret (results_one rfl (RV.cell rfl t1 Try.underlying24 rfl (by kernel_rfl))) rfl ?_
  exact ⟨_, rfl, t3.rdA (by omega) rfl, t4⟩
end Go.Proofs.Ytoadmpochaeohaa
