import Derived.Test.YtmibmblebhpdfaaOps
set_option linter.unusedVariables false
set_option linter.unusedSimpArgs false
namespace Go.Proofs.Ytmibmblebhpdfaa
open Go.RowKit

/-- The splitter at block g: what is held, how much has been told, the line's number. -/
def Spl (w : World) (F : Nat → Prop) (g : Nat) (held : List UInt8) (at_ num : Int) : Prop :=
  ∃ v, Blk w g [v, .int .i64 at_, .int .i64 num] 45 ∧ F g ∧ Sl w (fun k => F k ∧ k ≠ g) 5 1 v held.length (held.map B8)

theorem infoU8 : (Try.prog.info? 5).map (fun i => (i.zero, i.size, i.bytes)) = some (some (.int .u8 0), 1, 1) := by kernel_rfl
theorem sizeU8 : (Try.prog.info? 5).map (·.size) = some 1 := by kernel_rfl
theorem zeroU8 (w : World) : (zeroValue 5).run Try.prog w = .ok (.int .u8 0) w := by kernel_rfl
theorem b8_one (l : List UInt8) : ∀ v ∈ l.map B8, v.oneCell' = true := by
  intro v hv; obtain ⟨x, _, rfl⟩ := List.mem_map.1 hv; rfl

set_option maxHeartbeats 400000 in
theorem line_calls (F : Nat → Prop) (g : Nat) (held : List UInt8) (at_ num begin_ : Int) (more : ByteArray) (ended : Bool) (w : World) (h : Spl w F g held at_ num)
    (hb : held.length + more.size ≤ 140737488355328) (hn0 : 0 ≤ num) (hn : num ≤ 4611686018427387904) :
    Calls Try.prog 21 #[.pointer (some ⟨g, 0, none⟩), .int .i64 begin_, .string more, .bool ended] w fun e w' =>
      e = .returned (.agg #[.int .i64 num, .int .i64 begin_, .string (bs (held ++ more.data.toList)), .bool ended]) ∧ Spl w' F g [] at_ (num + 1) ∧ Frm F w w' := by
  obtain ⟨v, hB, hF, hS⟩ := h
  have hS := hS.low
  obtain ⟨A, c, rfl⟩ := hS.form
  obtain ⟨c0, c1, c2, f0, f1, f2, l0⟩ := blk3 hB
  have hlt := hB.lt
  have hS' := hS.len
  go_enter Try.func21, Try.ntmps21
  go_wp2_with (with_reducible refine stop_at 19 rfl ?_)
  unfold Stop
  refine op_make rfl _ _ _ rfl 5 (.int .u8 0) 1 Try.underlying43 infoU8 rfl (held.length + more.size) rfl rfl (held.length + more.size) (by push_cast; rfl) (by omega) (by omega) ?_
  intro bb w1 hN hb1
  have hR := (Blk.new w [.int .i64 0, .int .i64 0, .string ⟨#[]⟩, .bool false] 31).past hN
  have hB1 := (hB.alloc (.cells #[.int .i64 0, .int .i64 0, .string ⟨#[]⟩, .bool false] 31)).past hN
  have hS1 := (hS.alloc (.cells #[.int .i64 0, .int .i64 0, .string ⟨#[]⟩, .bool false] 31)).past hN
  have hle : w.heap.size < bb := by have := hN.le; simp at this; omega
  obtain ⟨c0, c1, c2, f0, f1, f2, l0⟩ := blk3 hB1
  clear hB
  go_wp2_with (with_reducible refine stop_at 25 rfl ?_)
  unfold Stop
  refine op_copy rfl _ _ _ _ rfl 5 Try.underlying43 sizeU8 _ _ _ _ _ _ rfl rfl bb 0 _ _ hb1 (held.map B8) (by simp) (fun hp => ⟨rfl, hS1.reads hp⟩) (by simp) (b8_one _) ?_
  intro w2 hw2 hs2 hb2
  simp only [List.take_zero, List.nil_append, List.length_map, List.drop_replicate, Nat.zero_add, Nat.add_sub_cancel_left] at hb2
  have hR2 := hR.frm hw2 (by omega)
  have hB2 := hB1.frm hw2 (by omega)
  have hS2 := hS1.frm hw2 (by rintro k ⟨⟨_, _⟩, hk⟩ rfl; omega)
  obtain ⟨c0, c1, c2, f0, f1, f2, l0⟩ := blk3 hB2
  clear hB1 hR hS1 hb1
  go_wp2_with (with_reducible refine stop_at 32 rfl ?_)
  unfold Stop
  refine op_from rfl _ _ _ rfl 5 1 Try.underlying43 sizeU8 _ _ _ rfl _ rfl held.length rfl (by omega) (Nat.le_refl _) ?_
  intro ao hao
  go_wp2_with (with_reducible refine stop_at 34 rfl ?_)
  unfold Stop
  refine op_copyS rfl _ _ _ _ rfl 5 Try.underlying43 sizeU8 _ _ _ more rfl rfl bb held.length _ _ hb2 (by omega) (fun hp => by rw [hao (by omega)]; simp [addr0]) (by simp) ?_
  intro w3 hw3 hs3 hb3
  have hb3 : Blk w3 bb ((held ++ more.data.toList).map B8) 5 := by
    rw [List.take_left' (by simp), List.drop_eq_nil_of_le (by simp), List.append_nil, ← List.map_append] at hb3
    exact hb3
  have hR3 := hR2.frm hw3 (by omega)
  have hB3 := hB2.frm hw3 (by omega)
  have hS3 := hS2.frm hw3 (by rintro k ⟨⟨_, _⟩, hk⟩ rfl; omega)
  obtain ⟨c0, c1, c2, f0, f1, f2, l0⟩ := blk3 hB3
  clear hB2 hR2 hS2 hb2 hao
  go_wp2_with (with_reducible refine stop_clear (.tmp 38) 43 rfl ?_)
  unfold Stop
  refine op_clear rfl _ _ rfl 5 (.int .u8 0) Try.underlying43 zeroU8 rfl rfl hS3 rfl ?_
  intro w4 hw4 hs4 hS4
  have hR4 := hR3.frm hw4 (by rintro ⟨_, h⟩; omega)
  have hB4 := hB3.frm hw4 (by rintro ⟨⟨_, h⟩, _⟩; exact h rfl)
  have hb4 := hb3.frm hw4 (by rintro ⟨_, h⟩; omega)
  obtain ⟨c0, c1, c2, f0, f1, f2, l0⟩ := blk3 hB4
  clear hB3 hR3 hS3 hb3
  have hS5 := hS4.cut0
  go_wp2
  have hgb : g ≠ bb := by omega
  have hgr : g ≠ w.heap.size := by omega
  have hB5 := hB4.setSame 0 (.slice A 0 c)
  have hb5 := hb4.setOther g 0 (.slice A 0 c) hgb.symm
  have hR5 := hR4.setOther g 0 (.slice A 0 c) hgr.symm
  have hS6 := hS5.set g 0 (.slice A 0 c) (fun h => h.1.2 rfl)
  simp only [List.set_cons_zero] at hB5
  have FW : Frm F w (w4.setCell ⟨g, 0, none⟩ (.slice A 0 c)) := (((((Frm.refl F w).alloc _).then hN.frm (fun _ f => f.elim)).then hw2 (fun i e hi => absurd hi (by omega))).then hw3 (fun i e hi => absurd hi (by omega))).then hw4 (fun i h _ => h.1.1) |>.set g 0 _ (fun _ => hF)
  generalize w4.setCell ⟨g, 0, none⟩ (.slice A 0 c) = w5 at *
  obtain ⟨c0, c1, c2, f0, f1, f2, l0⟩ := blk3 hB5
  have hcv : ∀ (W : World), Blk W bb ((held ++ more.data.toList).map B8) 5 → (convert 43 9 (.slice (some ⟨bb, 0, none⟩) (held.length + more.size) (held.length + more.size))).run Try.prog W = .ok (.string (bs (held ++ more.data.toList))) W :=
    fun W h => run_bytes_str 43 5 9 Try.underlying43 Try.underlying5 Try.underlying9 (rest := []) (by simpa using h) (by simp)
  have hcv1 := hcv w5.drew hb5.drew
  have hcv2 := hcv (w5.alloc (.cells #[.int .i64 0, .int .i64 0, .string ⟨#[]⟩, .bool false] 31)).drew (hb5.alloc _).drew
  clear hcv
  obtain ⟨d0, d1, d2, d3, e0, e1, e2, e3, l1⟩ := blk4 hR5
  go_region
  go_wp2
  all_goals
    have hBf := (((((((hB5.setSame 2 (.int .i64 (num + 1))).setOther w.heap.size 0 (.int .i64 num) hgr).setOther w.heap.size 1 (.int .i64 begin_) hgr).setOther w.heap.size 2 (.string (bs (held ++ more.data.toList))) hgr).setOther w.heap.size 3 (.bool ended) hgr).alloc (.cells #[.int .i64 num, .int .i64 begin_, .string (bs (held ++ more.data.toList)), .bool ended] 31)).drew)
    have hRf := (((((((hR5.setOther g 2 (.int .i64 (num + 1)) hgr.symm).setSame 0 (.int .i64 num)).setSame 1 (.int .i64 begin_)).setSame 2 (.string (bs (held ++ more.data.toList)))).setSame 3 (.bool ended)).alloc (.cells #[.int .i64 num, .int .i64 begin_, .string (bs (held ++ more.data.toList)), .bool ended] 31)).drew)
    refine bodyPost_ret (results_one rfl (RV.cell rfl hRf Try.underlying31 rfl (by kernel_rfl))) rfl ⟨rfl, ⟨_, hBf, hF, ?_⟩, ?_⟩
    · refine (Sl.drew (Sl.alloc (Sl.set (Sl.set (Sl.set (Sl.set (Sl.set hS6 _ _ _ ?_) _ _ _ ?_) _ _ _ ?_) _ _ _ ?_) _ _ _ ?_) _)).mono (fun k h _ => h.1)
      · exact fun h => h.1.2 rfl
      all_goals exact fun h => absurd h.2 (Nat.lt_irrefl _)
    · exact (((((FW.set g 2 _ (fun _ => hF)).set _ 0 _ (fun h => absurd h (Nat.lt_irrefl _))).set _ 1 _ (fun h => absurd h (Nat.lt_irrefl _))).set _ 2 _ (fun h => absurd h (Nat.lt_irrefl _))).set _ 3 _ (fun h => absurd h (Nat.lt_irrefl _))).alloc _ |>.drew
end Go.Proofs.Ytmibmblebhpdfaa
