import Derived.Test.YthlefnajbfkdbaaTPile3
import Derived.RangeFuncNested
import Derived.RangeFuncBound
import Derived.RangeFuncCalls
import Derived.RangeFuncLeaves
import Derived.Shelf.Abstract
import Derived.Shelf.RegionOpen
import Derived.WalkKit
import Derived.OwnWalkIn
import Derived.TacticsInMore
import Derived.LoopNIn
import Derived.LoopIn
set_option linter.unusedVariables false
set_option linter.unusedSimpArgs false
namespace Go.Proofs.Ythlefnajbfkdbaa
open Go.RowKit Go.Shelf

def CloneTPost (w : World) (n : Nat) (xs : List Th) (e : Ending) (w' : World) : Prop :=
  ∃ v, e = .returned v ∧ Sl w' (fun k => w.heap.size ≤ k) 56 2 v n (flatT xs) ∧ Frm (fun _ => False) w w'

set_option maxHeartbeats 400000 in
theorem cloneT {F : Nat → Prop} {A : Option Addr} {n c : Nat} {xs : List Th} (w : World) (h : Rd w F 2 A n c (flatT xs)) (hb : n ≤ 1073741824) :
    Calls Try.prog 43 #[.slice A n c] w (CloneTPost w n xs) := by
  have hl : xs.length = n := by have := h.len; rw [flatT_len] at this; omega
  rcases A with _ | a
  · obtain ⟨rfl, rfl⟩ := h.none_ rfl
    obtain rfl : xs = [] := List.eq_nil_of_length_eq_zero hl
    have hq := fun w => Lib.run_eql_slice_nil (P := Try.prog) w 57 56 none 0 0 0 0 Try.underlying57
    go_enter Try.func43, Try.ntmps43
    go_wp2
    go_ret
    exact ⟨_, rfl, by simpa [flatT] using Sl.nil, Frm.refl _ _⟩
  · have hq := fun w => Lib.run_eql_slice_nil (P := Try.prog) w 57 56 (some a) n c 0 0 Try.underlying57
    obtain ⟨b, off, q⟩ := a
    have hS : Sl (w.alloc (.cells #[] 56)) (fun k => k = w.heap.size) 56 2 (.slice (some ⟨w.heap.size, 0, none⟩) 0 0) 0 [] := .at_ (rest := []) rfl (Blk.new w [] 56) rfl rfl (Nat.le_refl _) (by simp only [maxLen]; omega)
    have h2 := h.alloc (.cells #[] 56)
    go_enter Try.func43, Try.ntmps43
    go_wp2_with (with_reducible refine stop_at 7 rfl ?_)
    unfold Stop
    refine op_appendRd rfl _ _ _ rfl 56 _ 2 24 Try.underlying57 infoTh rfl (by omega) hS rfl h2 rfl (flatT_one xs) (by simp only [maxLen]; omega) (by omega) ?_
    intro v' w1 hf1 hs1
    go_wp2
    go_ret
    refine ⟨_, rfl, ?_, ((Frm.refl (fun _ => False) w).alloc _).then hf1 (fun i h hi => by omega)⟩
    have := hs1.mono (G := fun k => w.heap.size ≤ k) (by rintro k (h | h) _; omega; simp at h; omega)
    simpa using this

/-- What a round keeps: cells that lie at or behind B. -/
structure KpB (B : Nat) (W W' : World) : Prop where
  size : W.heap.size ≤ W'.heap.size
  same : ∀ (k : Nat) (o : Obj), B ≤ k → W.heap[k]? = some o → o.isCells = true → W'.heap[k]? = some o
theorem KpB.refl (B : Nat) (W : World) : KpB B W W := ⟨Nat.le_refl _, fun _ _ _ h _ => h⟩
theorem KpB.trans {B : Nat} {X Y Z : World} (h : KpB B X Y) (k : KpB B Y Z) : KpB B X Z := ⟨Nat.le_trans h.size k.size, fun i o hB hi ho => k.same i o hB (h.same i o hB hi ho) ho⟩
theorem KpB.of_frm {B : Nat} {W W' : World} {S : Nat → Prop} (h : Frm S W W') (hS : ∀ k, S k → k < W.heap.size → k < B) : KpB B W W' :=
  ⟨h.size, fun k o hB hk _ => by
    have hlt := (Array.getElem?_eq_some_iff.1 hk).1
    exact (h.block k hlt (fun hs => by have := hS k hs hlt; omega)).trans hk⟩
theorem KpB.turn {B : Nat} (W : World) (l : Nat) (o o' : Obj) (_ : B ≤ l) (h : W.heap[l]? = some o) (hc : o.isCells = false) (_ : o.isWalk = false) : KpB B W (W.putObj l o') :=
  ⟨(grownBy_putObj' W l o').size, fun k o2 hB hk ho => by
    have hne : some k ≠ some l := fun e => by cases e; rw [h] at hk; cases hk; rw [hc] at ho; cases ho
    exact ((grownBy_putObj' W l o').block k (Array.getElem?_eq_some_iff.1 hk).1 hne).trans hk⟩
theorem Blk.kp {B : Nat} {w w' : World} {g : Nat} {cur : List Value} {t : TypeId} (h : Blk w g cur t) (k : KpB B w w') (hB : B ≤ g) : Blk w' g cur t := ⟨k.same g _ hB h.out rfl⟩
theorem Sl.kp {B : Nat} {w w' : World} {F : Nat → Prop} {e : TypeId} {size : Nat} {v : Value} {n : Nat} {xs : List Value} (h : Sl w F e size v n xs) (k : KpB B w w') (hB : ∀ i, F i → B ≤ i) : Sl w' F e size v n xs := by
  cases h with
  | nil => exact .nil
  | at_ hF hb hx hr hn hm => exact .at_ hF (hb.kp k (hB _ hF)) hx hr hn hm

theorem allT (g : Nat) (w : World) : Calls Try.prog 28 #[.pointer (some ⟨g, 0, none⟩)] w fun e w' => e = .returned (.func (.func 42) #[] #[.pointer (some ⟨w.heap.size, 0, none⟩)]) ∧ w' = w.alloc (.cells #[.pointer (some ⟨g, 0, none⟩)] 53) := by
  go_enter Try.func28, Try.ntmps28
  go_wp2
  go_ret
  exact ⟨rfl, rfl⟩

attribute [local go_sem] Oper.semAt_some

set_option maxHeartbeats 2000000 in
set_option maxRecDepth 100000 in
/-- The iterator over a pile: the top one first. -/
theorem all1_stops (n : Nat) (hn : 2 ≤ n) (F : Nat → Prop) (g bx B : Nat) (xs : List Th) (w : World) (h : TP w F g xs) (hbx : w.cell? ⟨bx, 0, none⟩ = some (.pointer (some ⟨g, 0, none⟩))) (hbl : bx < w.heap.size) (hb : xs.length ≤ 1073741824) (hB : B ≤ w.heap.size) :
    SeqStopsK Fence.wide n Try.prog 42 #[.pointer (some ⟨bx, 0, none⟩)] (fun x : Th => #[x.val]) (KpB B) (fun ys => ys = xs.reverse) (fun pre => pre <+: xs.reverse) xs.length w := by
  intro l J Jx W hW hJ hJx hY h0
  have hF : Frm (fun _ => False) w W := Frm.of_below hW
  obtain ⟨v, hBl, hFg, hS⟩ := h.low.frm hF (fun _ _ h => h)
  obtain ⟨A, c, rfl⟩ := hS.form
  obtain ⟨c0, f0, l0⟩ := blk1 hBl
  have hbx2 := (hW.cell (p := ⟨bx, 0, none⟩) hbl).trans hbx
  have hbB : B ≤ W.heap.size := Nat.le_trans hB hW.size
  have h1 : 1 ≤ n - 1 := by omega
  refine callsIn_of_wp Try.func42 rfl trivial ?_ rfl
  simp only [Try.ntmps42, List.size_toArray, List.length_cons, List.length_nil, Nat.reduceAdd, Nat.reduceSub, Array.replicate_succ, Array.replicate_zero, List.push_toArray, List.append_toArray, List.nil_append, List.cons_append]
  gi_wp2
  refine ⟨trivial, fun _ => by omega, ?_⟩
  refine (callsIn_wide.2 (cloneT W hS.rd hb)).mono ?_
  rintro e w1 ⟨v1, rfl, hs1, hf1⟩
  have h01 : J [] w1 := hJ [] W w1 none h0 ((hf1.mono (fun _ h _ => h.elim)).grown) (fun r e => by cases e)
  have hz1 := hf1.size
  obtain ⟨A1, c1, rfl⟩ := hs1.form
  gi_wp2
  gi_loopw [4] (fun i wr => ∃ (rest : List Th) (pre : List Th), i = .int .i64 ((rest.length : Int) - 1) ∧ Hid (xs = rest ++ pre.reverse) ∧ J pre wr ∧ Sl wr (fun k => W.heap.size ≤ k) 56 2 (.slice A1 xs.length c1) xs.length (flatT xs)) (fun i _ => (intOf i + 1).toNat)
  case atStart => exact ⟨xs, [], rfl, by show xs = xs ++ []; simp, h01, hs1⟩
  case round =>
    obtain ⟨rest, pre, rfl, HX, hJs, hs⟩ := hrel
    rcases List.eq_nil_or_concat rest with rfl | ⟨r, x, rfl⟩
    · have hi : (([] : List Th).length : Int) - 1 = -1 := by simp
      rw [hi]
      clear hi
      have hpre : pre = xs.reverse := by rw [HX.out]; simp
      have HP := Lib.hid hpre
      clear hpre
      gi_wp2
      go_end0
      exact ⟨⟨_, rfl⟩, .inl ⟨pre, HP.out, hJs⟩⟩
    · have hlen : xs.length = r.length + 1 + pre.length := by rw [HX.out]; simp; omega
      have hxr : xs[r.length]? = some x := by rw [HX.out]; simp
      obtain ⟨b, off, rfl, hbl2, d0, d1⟩ := hs.rd.th r.length x hxr
      have hi : ((r ++ [x]).length : Int) - 1 = (r.length : Int) := by simp
      simp only [List.concat_eq_append] at *
      rw [hi]
      have hlp : pre.length < xs.length := by omega
      have hrl : r.length < xs.length := by omega
      have HLN := Lib.hid hlen
      obtain ⟨fn, tmps, assign, body, hy, hR⟩ := hY pre x _ hJs hlp
      simp only [Th.val] at hy
      clear hi hxr hlen
      gi_wp2
      refine ⟨fun _ => by omega, ?_⟩
      refine hR.mono ?_
      rintro e W3 (⟨rfl, hJ3, hk3⟩ | ⟨rfl, hJx3⟩)
      · gi_wp2
        go_roundw
        case rel =>
          refine ⟨r, pre ++ [x], rfl, ?_, hJ3, hs.kp hk3 (fun i hi => Nat.le_trans hbB hi)⟩
          show xs = r ++ (pre ++ [x]).reverse
          rw [HX.out]; simp
        case measure => simp [intOf] <;> omega
      · gi_wp2
        refine bodyPost_ret (results_none rfl _ _ _) rfl ?_
        refine ⟨⟨_, rfl⟩, .inr ⟨pre ++ [x], ⟨r.reverse, ?_⟩, hJx3⟩⟩
        rw [HX.out]; simp
end Go.Proofs.Ythlefnajbfkdbaa
