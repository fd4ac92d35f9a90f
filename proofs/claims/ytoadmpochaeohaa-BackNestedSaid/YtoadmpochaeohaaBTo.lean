/-
  Layer 20: to, counted, the clones.
-/
import Derived.Test.YtoadmpochaeohaaBPile
import Derived.Test.YtoadmpochaeohaaBSpec
set_option linter.unusedVariables false
set_option linter.unusedSimpArgs false
set_option maxRecDepth 100000
namespace Go.Proofs.Ytoadmpochaeohaa
open Go.RowKit

set_option maxHeartbeats 800000 in
theorem toB (F : Nat → Prop) (b g : Nat) (cs : List Value) (xs : List Value) (pc at_ q : Int) (A B : Option Addr) (n c m d : Nat) (w : World) (h : PS w F g xs) (hB : Blk w b cs 78) (hc : cs[9]? = some (.pointer (some ⟨g, 0, none⟩))) (hb : xs.length ≤ 1073741824) :
    Calls Try.prog 75 #[.pointer (some ⟨b, 0, none⟩), .agg #[.int .i64 pc, .int .i64 at_, .slice A n c, .slice B m d], .int .i64 q] w (PushPost F g w (xs ++ [.iface 136 (.agg #[.int .i64 q, .int .i64 at_, .slice A n c, .slice B m d])])) := by
  have hX := Blk.new w [.int .i64 q, .int .i64 at_, .slice A n c, .slice B m d] 129
  have hf0 : Frm (fun _ => False) w (w.alloc (.cells #[.int .i64 q, .int .i64 at_, .slice A n c, .slice B m d] 129)) := (Frm.refl _ w).alloc _
  have hP1 := h.low.frm hf0 (fun _ _ h => h)
  have hB1 := hB.frm hf0 (fun h => h)
  go_enter Try.func75, Try.ntmps75
  go_upto_region 2 with fail
  generalize w.alloc (.cells #[.int .i64 q, .int .i64 at_, .slice A n c, .slice B m d] 129) = w1 at *
  obtain ⟨bx, hbx⟩ : ∃ bx, w.heap.size = bx := ⟨_, rfl⟩
  rw [hbx] at hX hP1
  have HBX := Lib.hid hbx
  simp only [hbx]
  clear hbx
  have HPU := Lib.hid (pushB _ g xs 136 (.agg #[.int .i64 q, .int .i64 at_, .slice A n c, .slice B m d]) w1.drew (hP1.frm (S := fun _ => False) ((Frm.refl _ w1).drew) (fun _ _ h => h)) hb)
  obtain ⟨x0, x1, x2, x3, y0, y1, y2, y3, lx⟩ := blk4 hX
  have b9 := hB1.cell 9
  rw [hc] at b9
  have lb := hB1.lt
  go_region_with (go_at_call 53; refine HPU.out.mono ?_; rintro e w2 ⟨rfl, hp2, hf2⟩)
  all_goals
    go_wp2_with fail
    go_end0
    have hz := HBX.out
    have hz1 := hf0.size
    refine ⟨rfl, hp2.mono (fun k h l => ?_), (hf0.drew.mono (fun _ h _ => h.elim)).then hf2 (fun i h _ => h.1)⟩
    rcases h with h | h
    · exact .inl h.1
    · have : w1.heap.size ≤ k := h
      exact .inr (by omega)

/-- Is a byte in a set? -/
theorem hasB_ (i : Ins) (c : UInt8) (w : World) : Calls Try.prog 74 #[.agg #[.int .u64 i.s0, .int .u64 i.s1, .int .u64 i.s2, .int .u64 i.s3], .int .u8 c.toNat] w fun e w' => e = .returned (.bool (inB i c)) ∧ w' = w.alloc (.cells #[.int .u64 i.s0, .int .u64 i.s1, .int .u64 i.s2, .int .u64 i.s3] 37) := by
  have hc := c.toNat_lt
  have hB := Blk.new w [.int .u64 i.s0, .int .u64 i.s1, .int .u64 i.s2, .int .u64 i.s3] 37
  have b0 := hB.cell 0
  have b1 := hB.cell 1
  have b2 := hB.cell 2
  have b3 := hB.cell 3
  simp only [List.getElem?_cons_zero, List.getElem?_cons_succ] at b0 b1 b2 b3
  go_enter Try.func74, Try.ntmps74
  go_upto_region 1 with fail
  generalize hw : w.alloc (.cells #[.int .u64 i.s0, .int .u64 i.s1, .int .u64 i.s2, .int .u64 i.s3] 37) = w1 at *
  have HW := Lib.hid hw
  clear hw
  generalize w.heap.size = b at *
  have hq : c.toNat / 64 = 0 ∨ c.toNat / 64 = 1 ∨ c.toNat / 64 = 2 ∨ c.toNat / 64 = 3 := by omega
  rcases hq with hq | hq | hq | hq
  all_goals
    go_wp2_with fail
    go_ret
    exact ⟨by simp [inB, hq], HW.out.symm⟩

theorem infoPt : (Try.prog.info? 131).map (fun i => (i.zero, i.size, i.bytes)) = some (some (.agg #[.int .i64 0, .int .i64 0, .int .i64 0]), 3, 24) := by kernel_rfl
theorem infoTn : (Try.prog.info? 133).map (fun i => (i.zero, i.size, i.bytes)) = some (some (.agg #[.int .i64 0, .int .i64 0]), 2, 16) := by kernel_rfl
def flatP (l : List Pt) : List Value := l.flatMap fun p => [.int .i64 p.began, .int .i64 p.frm, .int .i64 p.til]
def flatN (l : List Tn) : List Value := l.flatMap fun t => [.int .i64 t.many, .int .i64 t.began]
theorem flatP_len (l : List Pt) : (flatP l).length = l.length * 3 := by
  induction l with
  | nil => rfl
  | cons x l ih => simp only [flatP, List.flatMap_cons, List.length_append, List.length_cons, List.length_nil] at *; rw [ih]; omega
theorem flatN_len (l : List Tn) : (flatN l).length = l.length * 2 := by
  induction l with
  | nil => rfl
  | cons x l ih => simp only [flatN, List.flatMap_cons, List.length_append, List.length_cons, List.length_nil] at *; rw [ih]; omega
theorem flatP_one (l : List Pt) : ∀ u ∈ flatP l, u.oneCell' = true := by
  intro u hu
  obtain ⟨p, _, hu⟩ := List.mem_flatMap.1 hu
  simp at hu
  rcases hu with rfl | rfl | rfl <;> rfl
theorem flatN_one (l : List Tn) : ∀ u ∈ flatN l, u.oneCell' = true := by
  intro u hu
  obtain ⟨p, _, hu⟩ := List.mem_flatMap.1 hu
  simp at hu
  rcases hu with rfl | rfl <;> rfl

/-- The clone of the parts: memory of its own. -/
theorem cloneP (A : Option Addr) (n c : Nat) (l : List Pt) (G : Nat → Prop) (w : World) (h : Rd w G 3 A n c (flatP l)) (hn : n ≤ 1048576) :
    Calls Try.prog 87 #[.slice A n c] w fun e w' => ∃ B d, e = .returned (.slice B n d) ∧ Sl w' (fun k => w.heap.size ≤ k) 131 3 (.slice B n d) n (flatP l) ∧ Frm (fun _ => False) w w' := by
  have hl : l.length = n := by have := h.len; rw [flatP_len] at this; omega
  rcases A with _ | a
  · obtain ⟨rfl, rfl⟩ := h.none_ rfl
    obtain rfl : l = [] := List.eq_nil_of_length_eq_zero hl
    have hq := fun w => Lib.run_eql_slice_nil (P := Try.prog) w 126 131 none 0 0 0 0 Try.underlying126
    go_enter Try.func87, Try.ntmps87
    go_wp2
    go_ret
    exact ⟨_, _, rfl, by simpa [flatP] using Sl.nil, Frm.refl _ _⟩
  · have hq := fun w => Lib.run_eql_slice_nil (P := Try.prog) w 126 131 (some a) n c 0 0 Try.underlying126
    obtain ⟨b, off, q⟩ := a
    have hS : Sl (w.alloc (.cells #[] 131)) (fun k => k = w.heap.size) 131 3 (.slice (some ⟨w.heap.size, 0, none⟩) 0 0) 0 [] := .at_ (rest := []) rfl (Blk.new w [] 131) rfl rfl (Nat.le_refl _) (by simp only [maxLen]; omega)
    have h2 := h.alloc (.cells #[] 131)
    go_enter Try.func87, Try.ntmps87
    go_wp2_with (with_reducible refine stop_at 7 rfl ?_)
    unfold Stop
    refine op_appendRd rfl _ _ _ rfl 131 _ 3 24 Try.underlying126 infoPt rfl (by omega) hS rfl h2 rfl (flatP_one l) (by simp only [maxLen]; omega) (by omega) ?_
    intro v' w1 hf1 hs1
    rw [Nat.zero_add, List.nil_append] at hs1
    obtain ⟨A1, c1, rfl⟩ := hs1.form
    go_wp2
    go_ret
    refine ⟨_, _, rfl, ?_, ((Frm.refl (fun _ => False) w).alloc _).then hf1 (fun i h hi => by omega)⟩
    exact hs1.mono (G := fun k => w.heap.size ≤ k) (by rintro k (h | h) _; omega; simp at h; omega)
/-- The clone of the counters. -/
theorem cloneN (A : Option Addr) (n c : Nat) (l : List Tn) (G : Nat → Prop) (w : World) (h : Rd w G 2 A n c (flatN l)) (hn : n ≤ 1048576) :
    Calls Try.prog 89 #[.slice A n c] w fun e w' => ∃ B d, e = .returned (.slice B n d) ∧ Sl w' (fun k => w.heap.size ≤ k) 133 2 (.slice B n d) n (flatN l) ∧ Frm (fun _ => False) w w' := by
  have hl : l.length = n := by have := h.len; rw [flatN_len] at this; omega
  rcases A with _ | a
  · obtain ⟨rfl, rfl⟩ := h.none_ rfl
    obtain rfl : l = [] := List.eq_nil_of_length_eq_zero hl
    have hq := fun w => Lib.run_eql_slice_nil (P := Try.prog) w 127 133 none 0 0 0 0 Try.underlying127
    go_enter Try.func89, Try.ntmps89
    go_wp2
    go_ret
    exact ⟨_, _, rfl, by simpa [flatN] using Sl.nil, Frm.refl _ _⟩
  · have hq := fun w => Lib.run_eql_slice_nil (P := Try.prog) w 127 133 (some a) n c 0 0 Try.underlying127
    obtain ⟨b, off, q⟩ := a
    have hS : Sl (w.alloc (.cells #[] 133)) (fun k => k = w.heap.size) 133 2 (.slice (some ⟨w.heap.size, 0, none⟩) 0 0) 0 [] := .at_ (rest := []) rfl (Blk.new w [] 133) rfl rfl (Nat.le_refl _) (by simp only [maxLen]; omega)
    have h2 := h.alloc (.cells #[] 133)
    go_enter Try.func89, Try.ntmps89
    go_wp2_with (with_reducible refine stop_at 7 rfl ?_)
    unfold Stop
    refine op_appendRd rfl _ _ _ rfl 133 _ 2 16 Try.underlying127 infoTn rfl (by omega) hS rfl h2 rfl (flatN_one l) (by simp only [maxLen]; omega) (by omega) ?_
    intro v' w1 hf1 hs1
    rw [Nat.zero_add, List.nil_append] at hs1
    obtain ⟨A1, c1, rfl⟩ := hs1.form
    go_wp2
    go_ret
    refine ⟨_, _, rfl, ?_, ((Frm.refl (fun _ => False) w).alloc _).then hf1 (fun i h hi => by omega)⟩
    exact hs1.mono (G := fun k => w.heap.size ≤ k) (by rintro k (h | h) _; omega; simp at h; omega)
theorem infoIns : (Try.prog.info? 39).map (fun i => (i.zero, i.size, i.bytes)) = some (some (.agg #[.int .i64 0, .int .i64 0, .int .i64 0, .int .i64 0, .int .i64 0, .int .i64 0, .int .u64 0, .int .u64 0, .int .u64 0, .int .u64 0]), 10, 80) := by kernel_rfl
theorem flatI_one (l : List Ins) : ∀ u ∈ flatI l, u.oneCell' = true := by
  intro u hu
  obtain ⟨p, _, hu⟩ := List.mem_flatMap.1 hu
  simp [Ins.cells] at hu
  rcases hu with rfl | rfl | rfl | rfl | rfl | rfl | rfl | rfl | rfl | rfl <;> rfl
/-- The clone of a program. -/
theorem cloneI (A : Option Addr) (n c : Nat) (l : List Ins) (G : Nat → Prop) (w : World) (h : Rd w G 10 A n c (flatI l)) (hn : n ≤ 1048576) :
    Calls Try.prog 32 #[.slice A n c] w fun e w' => ∃ B d, e = .returned (.slice B n d) ∧ Sl w' (fun k => w.heap.size ≤ k) 39 10 (.slice B n d) n (flatI l) ∧ Frm (fun _ => False) w w' := by
  have hl : l.length = n := by have := h.len; rw [flatI_len] at this; omega
  rcases A with _ | a
  · obtain ⟨rfl, rfl⟩ := h.none_ rfl
    obtain rfl : l = [] := List.eq_nil_of_length_eq_zero hl
    have hq := fun w => Lib.run_eql_slice_nil (P := Try.prog) w 22 39 none 0 0 0 0 Try.underlying22
    go_enter Try.func32, Try.ntmps32
    go_wp2
    go_ret
    exact ⟨_, _, rfl, by simpa [flatI] using Sl.nil, Frm.refl _ _⟩
  · have hq := fun w => Lib.run_eql_slice_nil (P := Try.prog) w 22 39 (some a) n c 0 0 Try.underlying22
    obtain ⟨b, off, q⟩ := a
    have hS : Sl (w.alloc (.cells #[] 39)) (fun k => k = w.heap.size) 39 10 (.slice (some ⟨w.heap.size, 0, none⟩) 0 0) 0 [] := .at_ (rest := []) rfl (Blk.new w [] 39) rfl rfl (Nat.le_refl _) (by simp only [maxLen]; omega)
    have h2 := h.alloc (.cells #[] 39)
    go_enter Try.func32, Try.ntmps32
    go_wp2_with (with_reducible refine stop_at 7 rfl ?_)
    unfold Stop
    refine op_appendRd rfl _ _ _ rfl 39 _ 10 80 Try.underlying22 infoIns rfl (by omega) hS rfl h2 rfl (flatI_one l) (by simp only [maxLen]; omega) (by omega) ?_
    intro v' w1 hf1 hs1
    rw [Nat.zero_add, List.nil_append] at hs1
    obtain ⟨A1, c1, rfl⟩ := hs1.form
    go_wp2
    go_ret
    refine ⟨_, _, rfl, ?_, ((Frm.refl (fun _ => False) w).alloc _).then hf1 (fun i h hi => by omega)⟩
    exact hs1.mono (G := fun k => w.heap.size ≤ k) (by rintro k (h | h) _; omega; simp at h; omega)
end Go.Proofs.Ytoadmpochaeohaa
