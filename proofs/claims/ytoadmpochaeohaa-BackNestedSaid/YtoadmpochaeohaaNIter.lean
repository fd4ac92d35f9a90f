/-
  The iterator over a set (marks' All).
-/
import Derived.Test.YtoadmpochaeohaaNMarks
set_option linter.unusedVariables false
set_option linter.unusedSimpArgs false
set_option maxRecDepth 100000
namespace Go.Proofs.Ytoadmpochaeohaa
open Go.RowKit Go.Shelf

def CloneMPost (w : World) (n : Nat) (l : List Nat) (e : Ending) (w' : World) : Prop :=
  ∃ v, e = .returned v ∧ Sl w' (fun k => w.heap.size ≤ k) 21 1 v n (l.map N32) ∧ Frm (fun _ => False) w w'

set_option maxHeartbeats 400000 in
theorem cloneM {F : Nat → Prop} {A : Option Addr} {n c : Nat} {l : List Nat} (w : World) (h : Rd w F 1 A n c (l.map N32)) (hb : n ≤ 1073741824) :
    Calls Try.prog 83 #[.slice A n c] w (CloneMPost w n l) := by
  have hl : l.length = n := by have := h.len; simpa using this
  rcases A with _ | a
  · obtain ⟨rfl, rfl⟩ := h.none_ rfl
    obtain rfl : l = [] := List.eq_nil_of_length_eq_zero hl
    have hq := fun w => Lib.run_eql_slice_nil (P := Try.prog) w 172 21 none 0 0 0 0 Try.underlying172
    go_enter Try.func83, Try.ntmps83
    go_wp2
    go_ret
    exact ⟨_, rfl, by simpa using Sl.nil, Frm.refl _ _⟩
  · have hq := fun w => Lib.run_eql_slice_nil (P := Try.prog) w 172 21 (some a) n c 0 0 Try.underlying172
    obtain ⟨b, off, q⟩ := a
    have hS : Sl (w.alloc (.cells #[] 21)) (fun k => k = w.heap.size) 21 1 (.slice (some ⟨w.heap.size, 0, none⟩) 0 0) 0 [] := .at_ (rest := []) rfl (Blk.new w [] 21) rfl rfl (Nat.le_refl _) (by simp only [maxLen]; omega)
    have h2 := h.alloc (.cells #[] 21)
    go_enter Try.func83, Try.ntmps83
    go_wp2_with (with_reducible refine stop_at 7 rfl ?_)
    unfold Stop
    refine op_appendRd rfl _ _ _ rfl 21 _ 1 4 Try.underlying172 infoI32 rfl (by omega) hS rfl h2 rfl (n32_one l) (by simp only [maxLen]; omega) (by omega) ?_
    intro v' w1 hf1 hs1
    go_wp2
    go_ret
    refine ⟨_, rfl, ?_, ((Frm.refl (fun _ => False) w).alloc _).then hf1 (fun i h hi => by omega)⟩
    have := hs1.mono (G := fun k => w.heap.size ≤ k) (by rintro k (h | h) _; omega; simp at h; omega)
    simpa using this

theorem allM (g : Nat) (w : World) : Calls Try.prog 61 #[.pointer (some ⟨g, 0, none⟩)] w fun e w' => e = .returned (.func (.func 82) #[] #[.pointer (some ⟨w.heap.size, 0, none⟩)]) ∧ w' = w.alloc (.cells #[.pointer (some ⟨g, 0, none⟩)] 97) := by
  go_enter Try.func61, Try.ntmps61
  go_wp2
  go_ret
  exact ⟨rfl, rfl⟩

attribute [local go_sem] Oper.semAt_some

set_option maxHeartbeats 2000000 in
set_option maxRecDepth 100000 in
/-- The iterator over a set: its numbers in the order of their coming. -/
theorem allM_stops (n : Nat) (hn : 2 ≤ n) (F : Nat → Prop) (g bx B room : Nat) (l : List (Fin room)) (w : World) (h : MK w F g room (l.map Fin.val)) (hbx : w.cell? ⟨bx, 0, none⟩ = some (.pointer (some ⟨g, 0, none⟩))) (hbl : bx < w.heap.size) (hB : B ≤ w.heap.size) :
    SeqStopsK Fence.wide n Try.prog 82 #[.pointer (some ⟨bx, 0, none⟩)] (fun x : Fin room => #[.int .i64 x.val]) (KpB B) (fun ys => ys = l) (fun pre => pre <+: l) l.length w := by
  intro lo J Jx W hW hJ hJx hY h0
  have hF : Frm (fun _ => False) w W := Frm.of_below hW
  have hroom := h.room
  have hlen := h.nodup.2.2
  rw [List.length_map] at hlen
  obtain ⟨vw, vl, Fw, Fl, wh, hBl, hFg, hSw, hS, _⟩ := h.low.frm hF (fun _ _ h => h)
  obtain ⟨A, c, rfl⟩ := hS.form
  obtain ⟨c0, c1, f0, f1, l0⟩ := blk2 hBl
  have hbx2 := (hW.cell (p := ⟨bx, 0, none⟩) hbl).trans hbx
  have hbB : B ≤ W.heap.size := Nat.le_trans hB hW.size
  have h1 : 1 ≤ n - 1 := by omega
  rw [List.length_map] at hS c1
  refine callsIn_of_wp Try.func82 rfl trivial ?_ rfl
  simp only [Try.ntmps82, List.size_toArray, List.length_cons, List.length_nil, Nat.reduceAdd, Nat.reduceSub, Array.replicate_succ, Array.replicate_zero, List.push_toArray, List.append_toArray, List.nil_append, List.cons_append]
  gi_wp2
  refine ⟨trivial, fun _ => by omega, ?_⟩
  refine (callsIn_wide.2 (cloneM W hS.rd (by omega))).mono ?_
  rintro e w1 ⟨v1, rfl, hs1, hf1⟩
  have h01 : J [] w1 := hJ [] W w1 none h0 ((hf1.mono (fun _ h _ => h.elim)).grown) (fun r e => by cases e)
  have hz1 := hf1.size
  obtain ⟨A1, c1', rfl⟩ := hs1.form
  gi_wp2
  gi_loopw [11] (fun i wr => ∃ (pre rest : List (Fin room)), i = .int .i64 (pre.length : Int) ∧ Hid (l = pre ++ rest) ∧ J pre wr ∧ Sl wr (fun k => W.heap.size ≤ k) 21 1 (.slice A1 l.length c1') l.length ((l.map Fin.val).map N32)) (fun i _ => l.length - (intOf i).toNat)
  case atStart => exact ⟨[], l, rfl, rfl, h01, hs1⟩
  case round =>
    obtain ⟨pre, rest, rfl, HX, hJs, hs⟩ := hrel
    rcases rest with _ | ⟨x, rest⟩
    · have hpl : pre = l := by have := HX.out; simpa using this.symm
      subst hpl
      gi_wp2
      go_end0
      exact ⟨⟨_, rfl⟩, .inl ⟨pre, rfl, hJs⟩⟩
    · have hlp : pre.length < l.length := by rw [HX.out]; simp
      have hxr : l[pre.length]? = some x := by rw [HX.out]; simp
      obtain ⟨b, off, rfl, hbl2, d0⟩ : ∃ b off, A1 = some ⟨b, off, none⟩ ∧ b < wr.heap.size ∧ wr.cell? ⟨b, off + pre.length, none⟩ = some (.int .i32 (x.val : Int)) := by
        obtain ⟨b, off, e, hb, hc⟩ := hs.rd.elem pre.length hlp
        exact ⟨b, off, e, hb, by simpa [N32, hxr] using hc 0 (N32 x.val) (by simp [hxr])⟩
      have hxl := x.isLt
      have hwx : IntKind.i64.wrap (x.val : Int) = (x.val : Int) := IntWalk.i64_in _ (by omega)
      obtain ⟨fn, tmps, assign, body, hy, hR⟩ := hY pre x _ hJs hlp
      clear hxr
      gi_wp2
      refine ⟨fun _ => by omega, ?_⟩
      refine hR.mono ?_
      rintro e W3 (⟨rfl, hJ3, hk3⟩ | ⟨rfl, hJx3⟩)
      · gi_wp2
        go_roundw
        case rel =>
          refine ⟨pre ++ [x], rest, by simp, ?_, hJ3, hs.kp hk3 (fun i hi => Nat.le_trans hbB hi)⟩
          show l = pre ++ [x] ++ rest
          rw [HX.out]; simp
        case measure => simp [intOf] <;> omega
      · gi_wp2
        refine bodyPost_ret (results_none rfl _ _ _) rfl ?_
        refine ⟨⟨_, rfl⟩, .inr ⟨pre ++ [x], ⟨rest, ?_⟩, hJx3⟩⟩
        rw [HX.out]; simp
end Go.Proofs.Ytoadmpochaeohaa
