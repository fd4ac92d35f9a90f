/-
  The iterator over a set, where the rounds may turn rows that were laid since the loop began: what none of certain cells points to stays.
-/
import Derived.Test.YtamiliccnbkipaaNIter
set_option linter.unusedVariables false
set_option linter.unusedSimpArgs false
namespace Go.Proofs.Ytamiliccnbkipaa
open Go.RowKit Go.Shelf

/-- One of these cells holds a slice over block k. -/
def Own (ps : List Addr) (W : World) (k : Nat) : Prop := ∃ a ∈ ps, ∃ o n c, W.cell? a = some (.slice (some ⟨k, o, none⟩) n c)
theorem Own.same {ps : List Addr} {W W' : World} (h : ∀ a ∈ ps, W'.cell? a = W.cell? a) (k : Nat) : Own ps W' k ↔ Own ps W k := by
  constructor
  · rintro ⟨a, ha, o, n, c, hc⟩
    exact ⟨a, ha, o, n, c, by rw [← h a ha]; exact hc⟩
  · rintro ⟨a, ha, o, n, c, hc⟩
    exact ⟨a, ha, o, n, c, by rw [h a ha]; exact hc⟩

/-- What a round keeps. -/
structure KpO (ps : List Addr) (B : Nat) (W W' : World) : Prop where
  size : W.heap.size ≤ W'.heap.size
  same : ∀ (k : Nat) (o : Obj), B ≤ k → W.heap[k]? = some o → o.isCells = true → ¬ Own ps W k → W'.heap[k]? = some o ∧ ¬ Own ps W' k
theorem KpO.trans {ps : List Addr} {B : Nat} {X Y Z : World} (h : KpO ps B X Y) (k : KpO ps B Y Z) : KpO ps B X Z :=
  ⟨Nat.le_trans h.size k.size, fun i o hB hi ho hn => by
    obtain ⟨h1, h2⟩ := h.same i o hB hi ho hn
    exact k.same i o hB h1 ho h2⟩
theorem cells_frm {S : Nat → Prop} {ps : List Addr} {W W' : World} (f : Frm S W W') (h : ∀ a ∈ ps, a.block < W.heap.size ∧ ¬ S a.block) : ∀ a ∈ ps, W'.cell? a = W.cell? a :=
  fun a ha => World.cell?_of_block (w := W) (a := a) (f.block a.block (h a ha).1 (h a ha).2)
theorem KpO.of_frm {ps : List Addr} {B : Nat} {W W' : World} {S : Nat → Prop} (f : Frm S W W') (hS : ∀ k, S k → k < W.heap.size → k < B ∨ Own ps W k) (hO : ∀ k, B ≤ k → k < W.heap.size → Own ps W' k → Own ps W k) : KpO ps B W W' :=
  ⟨f.size, fun k o hB hk _ hn => by
    have hlt := (Array.getElem?_eq_some_iff.1 hk).1
    exact ⟨(f.block k hlt (fun hs => by rcases hS k hs hlt with h1 | h1; omega; exact hn h1)).trans hk, fun ho => hn (hO k hB hlt ho)⟩⟩
theorem KpO.turn {ps : List Addr} {B : Nat} (has : ∀ a ∈ ps, a.block < B) (W : World) (l : Nat) (o o' : Obj) (hl : B ≤ l) (h : W.heap[l]? = some o) (hc : o.isCells = false) (_ : o.isWalk = false) : KpO ps B W (W.putObj l o') := by
  have hg := grownBy_putObj' W l o'
  have hlt := (Array.getElem?_eq_some_iff.1 h).1
  have hcell : ∀ a ∈ ps, (W.putObj l o').cell? a = W.cell? a := fun a ha =>
    World.cell?_of_block (w := W) (a := a) (hg.block a.block (by have := has a ha; omega) (fun e => by cases e; have := has a ha; omega))
  refine ⟨hg.size, fun k o2 hB hk ho hn => ⟨?_, fun hO => hn ((Own.same hcell k).1 hO)⟩⟩
  have hne : some k ≠ some l := fun e => by cases e; rw [h] at hk; cases hk; rw [hc] at ho; cases ho
  exact (hg.block k (Array.getElem?_eq_some_iff.1 hk).1 hne).trans hk
theorem Sl.kpo {ps : List Addr} {B : Nat} {w w' : World} {F : Nat → Prop} {e : TypeId} {size : Nat} {v : Value} {n : Nat} {xs : List Value} (h : Sl w F e size v n xs) (k : KpO ps B w w') (hF : ∀ i, F i → B ≤ i ∧ ¬ Own ps w i) : Sl w' (fun i => F i ∧ ¬ Own ps w' i) e size v n xs := by
  cases h with
  | nil => exact .nil
  | @at_ g n cap xs rest hFg hb hx hr hn hm =>
    obtain ⟨h1, h2⟩ := k.same g _ (hF g hFg).1 hb.out rfl (hF g hFg).2
    exact .at_ ⟨hFg, h2⟩ ⟨h1⟩ hx hr hn hm

attribute [local go_sem] Oper.semAt_some

set_option maxHeartbeats 2000000 in
set_option maxRecDepth 100000 in
/-- The iterator over a set: its numbers in the order of their coming. -/
theorem allM_stopsO (ps : List Addr) (n : Nat) (hn : 2 ≤ n) (F : Nat → Prop) (g bx B room : Nat) (l : List (Fin room)) (w : World) (h : MK w F g room (l.map Fin.val)) (hbx : w.cell? ⟨bx, 0, none⟩ = some (.pointer (some ⟨g, 0, none⟩))) (hbl : bx < w.heap.size) (hB : B ≤ w.heap.size) (has : ∀ a ∈ ps, a.block < B) (hown : ∀ k, Own ps w k → k < w.heap.size) :
    SeqStopsK Fence.wide n Try.prog 41 #[.pointer (some ⟨bx, 0, none⟩)] (fun x : Fin room => #[.int .i64 x.val]) (KpO ps B) (fun ys => ys = l) (fun pre => pre <+: l) l.length w := by
  intro lo J Jx W hW hJ hJx hY h0
  have hF : Frm (fun _ => False) w W := Frm.of_below hW
  have hroom := h.room
  have hlen := h.nodup.2.2
  rw [List.length_map] at hlen
  obtain ⟨vw, vl, Fw, Fl, wh, hBl, hFg, hSw, hS, _⟩ := h.low.frm hF (fun _ _ h => h)
  obtain ⟨A, c, rfl⟩ := hS.form
  obtain ⟨c0, c1, f0, f1, l0⟩ := blk2 hBl
  have hbx2 := (hW.cell (p := ⟨bx, 0, none⟩) hbl).trans hbx
  have hbB : B ≤ W.heap.size := Nat.le_trans hB hW.size
  have h1 : 1 ≤ n - 1 := by omega
  rw [List.length_map] at hS c1
  refine callsIn_of_wp Try.func41 rfl trivial ?_ rfl
  simp only [Try.ntmps41, List.size_toArray, List.length_cons, List.length_nil, Nat.reduceAdd, Nat.reduceSub, Array.replicate_succ, Array.replicate_zero, List.push_toArray, List.append_toArray, List.nil_append, List.cons_append]
  gi_wp2
  refine ⟨trivial, fun _ => by omega, ?_⟩
  refine (callsIn_wide.2 (cloneM W hS.rd (by omega))).mono ?_
  rintro e w1 ⟨v1, rfl, hs1, hf1⟩
  have hownW : ∀ k, Own ps w1 k → k < w.heap.size := fun k hk => by
    have h1 : Own ps W k := (Own.same (cells_frm hf1 (fun a ha => ⟨by have := has a ha; omega, fun h => h⟩)) k).1 hk
    exact hown k ((Own.same (cells_frm hF (fun a ha => ⟨by have := has a ha; omega, fun h => h⟩)) k).1 h1)
  have hwW := hW.size
  have hs1 := hs1.mono (G := fun k => W.heap.size ≤ k ∧ ¬ Own ps w1 k) (fun k h _ => ⟨h, fun ho => by have := hownW k ho; omega⟩)
  have h01 : J [] w1 := hJ [] W w1 none h0 ((hf1.mono (fun _ h _ => h.elim)).grown) (fun r e => by cases e)
  have hz1 := hf1.size
  obtain ⟨A1, c1', rfl⟩ := hs1.form
  gi_wp2
  gi_loopw [11] (fun i wr => ∃ (pre rest : List (Fin room)), i = .int .i64 (pre.length : Int) ∧ Hid (l = pre ++ rest) ∧ J pre wr ∧ Sl wr (fun k => W.heap.size ≤ k ∧ ¬ Own ps wr k) 21 1 (.slice A1 l.length c1') l.length ((l.map Fin.val).map N32)) (fun i _ => l.length - (intOf i).toNat)
  case atStart => exact ⟨[], l, rfl, rfl, h01, hs1⟩
  case round =>
    obtain ⟨pre, rest, rfl, HX, hJs, hs⟩ := hrel
    rcases rest with _ | ⟨x, rest⟩
    · have hpl : pre = l := by have := HX.out; simpa using this.symm
      subst hpl
      gi_wp2
      go_end0
      exact ⟨⟨_, rfl⟩, .inl ⟨pre, rfl, hJs⟩⟩
    · have hlp : pre.length < l.length := by rw [HX.out]; simp
      have hxr : l[pre.length]? = some x := by rw [HX.out]; simp
      obtain ⟨b, off, rfl, hbl2, d0⟩ : ∃ b off, A1 = some ⟨b, off, none⟩ ∧ b < wr.heap.size ∧ wr.cell? ⟨b, off + pre.length, none⟩ = some (.int .i32 (x.val : Int)) := by
        obtain ⟨b, off, e, hb, hc⟩ := hs.rd.elem pre.length hlp
        exact ⟨b, off, e, hb, by simpa [N32, hxr] using hc 0 (N32 x.val) (by simp [hxr])⟩
      have hxl := x.isLt
      have hwx : IntKind.i64.wrap (x.val : Int) = (x.val : Int) := IntWalk.i64_in _ (by omega)
      obtain ⟨fn, tmps, assign, body, hy, hR⟩ := hY pre x _ hJs hlp
      clear hxr
      gi_wp2
      refine ⟨fun _ => by omega, ?_⟩
      refine hR.mono ?_
      rintro e W3 (⟨rfl, hJ3, hk3⟩ | ⟨rfl, hJx3⟩)
      · gi_wp2
        go_roundw
        case rel =>
          refine ⟨pre ++ [x], rest, by simp, ?_, hJ3, (hs.kpo hk3 (fun i hi => ⟨Nat.le_trans hbB hi.1, hi.2⟩)).mono (fun i hi _ => ⟨hi.1.1, hi.2⟩)⟩
          show l = pre ++ [x] ++ rest
          rw [HX.out]; simp
        case measure => simp [intOf] <;> omega
      · gi_wp2
        refine bodyPost_ret (results_none rfl _ _ _) rfl ?_
        refine ⟨⟨_, rfl⟩, .inr ⟨pre ++ [x], ⟨rest, ?_⟩, hJx3⟩⟩
        rw [HX.out]; simp
end Go.Proofs.Ytamiliccnbkipaa
