import Derived.Test.YthlefnajbfkdbaaLawTwice
set_option linter.unusedVariables false
set_option linter.unusedSimpArgs false
namespace Go.Proofs.Ythlefnajbfkdbaa
open Go.RowKit

theorem infoLay : (Try.prog.info? 82).map (fun i => (i.zero, i.size, i.bytes)) = some (some (.agg #[.int .i64 0, .int .i64 0]), 2, 16) := by kernel_rfl

/-- The document's cells at block h. -/
def RC (w : World) (G : Nat → Prop) (h : Nat) (N : Nat) (l : List (Int × Int)) : Prop :=
  ∃ v, Blk w h [.int .i64 N, v] 40 ∧ G h ∧ Sl w (fun k => G k ∧ k ≠ h) 82 2 v l.length (flatW l)
theorem RC.low {w : World} {G : Nat → Prop} {h N : Nat} {l : List (Int × Int)} (H : RC w G h N l) : RC w (fun k => G k ∧ k < w.heap.size) h N l := by
  obtain ⟨v, hB, hG, hS⟩ := H
  exact ⟨v, hB, ⟨hG, hB.lt⟩, hS.mono fun k h l => ⟨⟨h.1, l⟩, h.2⟩⟩
theorem RC.frm {S : Nat → Prop} {w w' : World} {G : Nat → Prop} {h N : Nat} {l : List (Int × Int)} (H : RC w G h N l) (f : Frm S w w') (hd : ∀ k, G k → ¬ S k) : RC w' G h N l := by
  obtain ⟨v, hB, hG, hS⟩ := H
  exact ⟨v, hB.frm f (hd _ hG), hG, hS.frm f (fun k h => hd k h.1)⟩
theorem RC.mono {w : World} {F G : Nat → Prop} {h N : Nat} {l : List (Int × Int)} (H : RC w F h N l) (hG : ∀ k, F k → k < w.heap.size → G k) : RC w G h N l := by
  obtain ⟨v, hB, hF, hS⟩ := H
  exact ⟨v, hB, hG _ hF hB.lt, hS.mono fun k h l => ⟨hG _ h.1 l, h.2⟩⟩

set_option maxHeartbeats 800000 in
theorem setRNo (G : Nat → Prop) (h N : Nat) (l : List (Int × Int)) (i x : Int) (w : World) (H : RC w G h N l) (hi : i < 0 ∨ (N : Int) ≤ i) :
    Calls Try.prog 17 #[.pointer (some ⟨h, 0, none⟩), .int .i64 i, .int .i64 x] w fun e w' => e = .returned (.bool false) ∧ w = w' := by
  obtain ⟨v, hB, hG, hS⟩ := H
  obtain ⟨c0, c1, f0, f1, l0⟩ := blk2 hB
  by_cases h1 : i < 0
  · go_enter Try.func17, Try.ntmps17
    go_wp2
    go_ret
    exact ⟨rfl, rfl⟩
  · have h2 : (N : Int) ≤ i := hi.resolve_left h1
    clear hi
    go_enter Try.func17, Try.ntmps17
    go_wp2
    go_ret
    exact ⟨rfl, rfl⟩

set_option maxHeartbeats 800000 in
theorem setRYes (G : Nat → Prop) (h N : Nat) (l : List (Int × Int)) (i x : Int) (w : World) (H : RC w G h N l) (h1 : ¬ i < 0) (h2 : ¬ (N : Int) ≤ i) (hb : l.length ≤ 1073741824) :
    Calls Try.prog 17 #[.pointer (some ⟨h, 0, none⟩), .int .i64 i, .int .i64 x] w fun e w' => e = .returned (.bool true) ∧ RC w' (fun k => G k ∨ w.heap.size ≤ k) h N (l ++ [(i, x)]) ∧ Frm G w w' := by
  obtain ⟨v, hB, hG, hS⟩ := H
  obtain ⟨c0, c1, f0, f1, l0⟩ := blk2 hB
  obtain ⟨A, c, rfl⟩ := hS.form
  go_enter Try.func17, Try.ntmps17
  go_wp2_with (with_reducible refine stop_at 26 rfl ?_)
  unfold Stop
  refine op_append rfl _ _ _ rfl 82 _ 2 16 Try.underlying38 infoLay rfl (by omega) (hS.alloc _) rfl ⟨w.heap.size, 0, none⟩ 1 1 [.int .i64 i, .int .i64 x] rfl rfl (fun j u hu => by rw [(Blk.new w _ 82).cellAdd 0 j, Nat.zero_add]; exact hu) (by intro u hu; simp at hu; rcases hu with rfl | rfl <;> rfl) (by simp only [maxLen]; omega) (by omega) ?_
  intro v' w1 hf1 hs1
  have hB1 := (hB.alloc (.cells #[.int .i64 i, .int .i64 x] 82)).frm hf1 (fun h => h.2 rfl)
  obtain ⟨A1, q1, rfl⟩ := hs1.form
  obtain ⟨c0, c1, f0, f1, l0⟩ := blk2 hB1
  go_wp2
  go_ret
  refine ⟨rfl, ⟨_, hB1.setSame 1 _, .inl hG, ?_⟩, (((Frm.refl G w).alloc _).then hf1 (fun i h _ => h.1)).set h 1 _ (fun _ => hG)⟩
  have hlt := hB.lt
  have := (hs1.set h 1 (.slice A1 (l.length + 1) q1) (by rintro (h | h); exact h.2 rfl; simp at h; omega)).mono (G := fun k => (G k ∨ w.heap.size ≤ k) ∧ k ≠ h) (by rintro k (h | h) _; exact ⟨.inl h.1, h.2⟩; exact ⟨.inr (by simp at h; omega), by simp at h; omega⟩)
  rw [List.length_append, flatW_append]
  exact this

/-- Every Set on cells, one behind the other. -/
def vsOf (N : Nat) (l : List (Int × Int)) : List Int := l.foldl (fun vs p => vs.set p.1.toNat p.2) (List.replicate N (-1))
theorem vsOf_append (N : Nat) (l : List (Int × Int)) (p : Int × Int) : vsOf N (l ++ [p]) = (vsOf N l).set p.1.toNat p.2 := by simp [vsOf]
theorem vsOf_len (N : Nat) (l : List (Int × Int)) : (vsOf N l).length = N := by
  have : ∀ (l : List (Int × Int)) (v : List Int), (l.foldl (fun vs p => vs.set p.1.toNat p.2) v).length = v.length := by
    intro l; induction l with
    | nil => intro v; rfl
    | cons x l ih => intro v; rw [List.foldl_cons, ih, List.length_set]
  rw [vsOf, this, List.length_replicate]

set_option maxHeartbeats 1600000 in
theorem backR (G : Nat → Prop) (h N : Nat) (l : List (Int × Int)) (m : Nat) (w : World) (H : RC w G h N l) (hm : m ≤ l.length) (hb : l.length ≤ 1073741824) :
    Calls Try.prog 21 #[.pointer (some ⟨h, 0, none⟩), .int .i64 m] w fun e w' => e = .returned (.bool true) ∧ RC w' (fun k => G k ∨ w.heap.size ≤ k) h N (l.take m) ∧ Frm G w w' := by
  obtain ⟨v, hB, hG, hS⟩ := H
  obtain ⟨c0, c1, f0, f1, l0⟩ := blk2 hB
  obtain ⟨A, c, rfl⟩ := hS.form
  have hcap := hS.rd.cap
  have hup := hS.rd.upto hm
  rw [flatW_take] at hup
  have hll : (l.take m).length = m := by rw [List.length_take]; omega
  have HLL := Lib.hid hll
  clear hll
  have hmm : ¬ (m : Int) < 0 := by omega
  go_enter Try.func21, Try.ntmps21
  go_wp2_with (with_reducible refine stop_at 23 rfl ?_)
  unfold Stop
  refine op_appendRd rfl _ _ _ rfl 82 _ 2 16 Try.underlying38 infoLay rfl (by omega) (Sl.nil (F := fun _ => False)) rfl hup rfl (by intro u hu; obtain ⟨p, _, hu⟩ := List.mem_flatMap.1 hu; simp at hu; rcases hu with rfl | rfl <;> rfl) (by simp only [maxLen]; omega) (by omega) ?_
  intro v' w1 hf1 hs1
  have hB1 := hB.frm hf1 (fun h => h)
  obtain ⟨A1, q1, rfl⟩ := hs1.form
  obtain ⟨c0, c1, f0, f1, l0⟩ := blk2 hB1
  go_wp2
  go_ret
  refine ⟨rfl, ⟨_, hB1.setSame 1 _, .inl hG, ?_⟩, (((Frm.refl G w)).then hf1 (fun i h _ => h.elim)).set h 1 _ (fun _ => hG)⟩
  have hlt := hB.lt
  have := (hs1.set h 1 (.slice A1 (0 + m) q1) (by rintro (h | h); exact h; omega)).mono (G := fun k => (G k ∨ w.heap.size ≤ k) ∧ k ≠ h) (by rintro k (h | h) _; exact h.elim; exact ⟨.inr h, by omega⟩)
  rw [HLL.out]
  simpa using this

set_option maxHeartbeats 800000 in
theorem backRNo (G : Nat → Prop) (h N : Nat) (l : List (Int × Int)) (m : Int) (w : World) (H : RC w G h N l) (hm : m < 0 ∨ (l.length : Int) < m) :
    Calls Try.prog 21 #[.pointer (some ⟨h, 0, none⟩), .int .i64 m] w fun e w' => e = .returned (.bool false) ∧ w = w' := by
  obtain ⟨v, hB, hG, hS⟩ := H
  obtain ⟨c0, c1, f0, f1, l0⟩ := blk2 hB
  obtain ⟨A, c, rfl⟩ := hS.form
  by_cases h1 : m < 0
  · go_enter Try.func21, Try.ntmps21
    go_wp2
    go_ret
    exact ⟨rfl, rfl⟩
  · have h2 : (l.length : Int) < m := hm.resolve_left h1
    clear hm
    go_enter Try.func21, Try.ntmps21
    go_wp2
    go_ret
    exact ⟨rfl, rfl⟩
end Go.Proofs.Ythlefnajbfkdbaa
