/-
  The law's own 'known': the chapter's two examples.
-/
import Derived.Test.YtamiliccnbkipaaNLong
import Derived.ArgAppend
set_option linter.unusedVariables false
set_option linter.unusedSimpArgs false
namespace Go.Proofs.Ytamiliccnbkipaa
open Go.RowKit

theorem Blk.sets {g : Nat} {t : TypeId} : ∀ (vs : List Value) (o : Nat) (w : World) (cur : List Value), Blk w g cur t → o + vs.length ≤ cur.length → Blk (w.setCells g o vs) g (cur.take o ++ vs ++ cur.drop (o + vs.length)) t
  | [], o, w, cur, h, hl => by simpa [World.setCells] using h
  | v :: vs, o, w, cur, h, hl => by
    rw [List.length_cons] at hl
    have := Blk.sets vs (o + 1) _ _ (h.setSame o v) (by rw [List.length_set]; omega)
    rw [World.setCells]
    have e : (cur.set o v).take (o + 1) ++ vs ++ (cur.set o v).drop (o + 1 + vs.length) = cur.take o ++ (v :: vs) ++ cur.drop (o + (v :: vs).length) := by
      rw [List.take_add_one, List.take_set_of_le (Nat.le_refl _), List.getElem?_set_self (by omega), List.drop_set_of_lt (by omega), List.length_cons, show o + 1 + vs.length = o + (vs.length + 1) by omega]
      simp
    rw [← e]
    exact this
theorem Frm.sets {S : Nat → Prop} {g : Nat} : ∀ (vs : List Value) (o : Nat) (a w : World), Frm S a w → (g < a.heap.size → S g) → Frm S a (w.setCells g o vs)
  | [], _, _, _, h, _ => h
  | v :: vs, o, a, w, h, hg => Frm.sets vs (o + 1) a _ (h.set g o v hg) hg
section
variable {P : Program} {ops : Array Oper} {rest : List Oper} {o : Oper} {a : Act} {w : World} {Q : Exit → Act → World → Prop}
/-- append(v, x...) with room: v lies in a block that is known whole. -/
theorem op_appendRoom (hgd : o.guard = none) (s x : Operand) (t : TypeId) (ho : o.op = .call { callee := .builtin .append, args := #[s, x], argTypes := #[t, t] })
    (e : TypeId) (z : Value) (size bytes : Nat) (ht : P.underlying t = some (.slice e)) (hinfo : (P.info? e).map (fun i => (i.zero, i.size, i.bytes)) = some (some z, size, bytes))
    (g off n cap : Nat) (cur : List Value) (e' : TypeId) (hg : Blk w g cur e') (hs : a.eval s = .slice (some ⟨g, off, none⟩) n cap)
    (ad : Addr) (m c : Nat) (news : List Value) (hx : a.eval x = .slice (some ad) m c) (hl : news.length = m * size) (hnews : ∀ j u, news[j]? = some u → w.cell? (ad.add j) = some u) (h1 : ∀ u ∈ news, u.oneCell' = true)
    (hroom : n + m ≤ cap) (hfit : off + n * size + news.length ≤ cur.length)
    (h : ∀ w', Frm (fun k => k = g) w w' → Blk w' g (cur.take (off + n * size) ++ news ++ cur.drop (off + n * size + news.length)) e' → wpList P ops Q rest (a.put o.dst (.slice (some ⟨g, off, none⟩) (n + m) cap)) w') : wpList P ops Q (o :: rest) a w := by
  obtain ⟨i, hi, hz0, hz1, hz2⟩ := info_parts hinfo
  refine wpList_plain hgd fun K hK => ?_
  have hr := run_append_room_cells (P := P) w t o.type e i ht hi g off n cap ad m c news (by rw [hz1]; exact hl) hnews h1 hroom
    (fun j hj => by
      rw [hz1, hg.cell]
      simp only [List.getElem?_eq_getElem (show off + n * size + j < cur.length by omega), Option.isSome_some])
    (fun j _ => hg.frozen _)
  unfold Oper.wp execOp
  simp only [ho, resolve, invoke, builtin, Sem.run_bind, Sem.run_pure, Result.andThen_ok, List.map_toArray, List.map_cons, List.map_nil, hs, hx, hr]
  rw [hz1]
  exact hK _ _ (h _ (Frm.sets _ _ _ _ (Frm.refl _ _) (fun _ => rfl)) (Blk.sets news _ w cur hg hfit))
end

def insSplit : Ins := ⟨2, 1, 3, 0, 0, 0, 0, 0, 0, 0⟩
def insA : Ins := ⟨1, 0, 0, 0, 0, 0, 0, 8589934592, 0, 0⟩
def insJump : Ins := ⟨3, 0, 0, 0, 0, 0, 0, 0, 0, 0⟩
def insMatch : Ins := ⟨11, 0, 0, 0, 0, 0, 0, 0, 0, 0⟩
theorem loopC (w : World) : Calls Try.prog 19 #[] w fun e w' => ∃ b, e = .returned (.agg #[.slice (some ⟨b, 0, none⟩) 4 4, .int .i64 0, .int .i64 0, .bool false]) ∧ Blk w' b (flatI [insSplit, insA, insJump, insMatch]) 50 ∧ w.heap.size ≤ b ∧ Frm (fun _ => False) w w' := by
  go_enter Try.func19, Try.ntmps19
  go_wp2_with fail
  refine bodyPost_ret (results_one rfl (RV.cell rfl (((Blk.new w [.slice (some ⟨w.heap.size + 1 + 1, 0, none⟩) 4 4, .int .i64 0, .int .i64 0, .bool false] 24).alloc _).alloc _) Try.underlying24 rfl (by kernel_rfl))) rfl ?_
  refine ⟨w.heap.size + 1 + 1, rfl, ?_, by omega, (((Frm.refl _ w).alloc _).alloc _).alloc _⟩
  exact Blk.newAt (flatI [insSplit, insA, insJump, insMatch]) 50 (by simp)

theorem infoIns : (Try.prog.info? 50).map (fun i => (i.zero, i.size, i.bytes)) = some (some (.agg #[.int .i64 0, .int .i64 0, .int .i64 0, .int .i64 0, .int .i64 0, .int .i64 0, .int .u64 0, .int .u64 0, .int .u64 0, .int .u64 0]), 10, 80) := by kernel_rfl
theorem ins_one (l : List Ins) : ∀ v ∈ flatI l, v.oneCell' = true := by
  intro v hv
  obtain ⟨i, _, hv⟩ := List.mem_flatMap.1 hv
  simp only [Ins.cells, List.mem_cons, List.not_mem_nil, or_false] at hv
  rcases hv with rfl | rfl | rfl | rfl | rfl | rfl | rfl | rfl | rfl | rfl <;> rfl
theorem begin_loop : beginE [insSplit, insA, insJump, insMatch] 0 0 ⟨#[97, 97, 98]⟩ 0 = 0 := by decide +kernel
theorem find_loop : findS [insSplit, insA, insJump, insMatch] [97, 97, 98] 0 false = some (0, 2) := by decide +kernel
theorem begin_a0 : beginE [insA, insMatch] 0 0 ⟨#[98, 97, 98]⟩ 0 = 0 := by decide +kernel
theorem find_a0 : findS [insA, insMatch] [98, 97, 98] 0 true = some (1, 2) := by decide +kernel
theorem begin_a2 : beginE [insA, insMatch] 0 0 ⟨#[98, 97, 98]⟩ 2 = 0 := by decide +kernel
theorem find_a2 : findS [insA, insMatch] [98, 97, 98] 2 true = none := by decide +kernel

set_option maxHeartbeats 4000000 in
set_option maxRecDepth 100000 in
theorem knownC (w : World) : Calls Try.prog 9 #[] w fun e w' => e = .returned (.bool true) ∧ Frm (fun _ => False) w w' := by
  go_enter Try.func9, Try.ntmps9
  go_wp2_with fail
  refine (loopC w).mono ?_
  rintro e w1 ⟨b, rfl, hB, hb, hf1⟩
  have hrd : Rd w1 (fun _ => True) 10 (some ⟨b, 0, none⟩) 4 4 (flatI [insSplit, insA, insJump, insMatch]) := ⟨rfl, Nat.le_refl _, fun h => (by cases h), fun _ => ⟨b, 0, rfl, trivial, hB.lt, fun j u hj => by rw [hB.cell, Nat.zero_add]; exact hj⟩⟩
  have HL := Lib.hid (longC (some ⟨b, 0, none⟩) 4 4 0 0 false [insSplit, insA, insJump, insMatch] (fun _ => True) ⟨#[97, 97, 98]⟩ 0 w1 hrd (by decide))
  go_wp2_with fail
  refine HL.out.mono ?_
  rintro e w2 ⟨hf2, ⟨hn, _⟩ | ⟨_, st, rfl, _⟩⟩
  · exact absurd begin_loop hn
  · rw [show ByteArray.toList ⟨#[97, 97, 98]⟩ = [97, 97, 98] by rw [ByteArray.toList_eq], show (0 : Int).toNat = 0 from rfl, find_loop]
    clear hrd HL hB
    simp only [bestT, Option.isSome_some]
    go_wp2_with fail
    refine (loopC w2).mono ?_
    rintro e w3 ⟨b2, rfl, hB2, hb2, hf3⟩
    have hf4 := (hf1.trans hf2).trans hf3
    have hP := (Blk.new w3 [.slice (some ⟨b2, 10, none⟩) 1 3, .int .i64 0, .int .i64 0, .bool false] 24).alloc (.cells #[.int .i64 11, .int .i64 0, .int .i64 0, .int .i64 0, .int .i64 0, .int .i64 0, .int .u64 0, .int .u64 0, .int .u64 0, .int .u64 0] 50)
    have hB3 := (hB2.alloc (.cells #[.slice (some ⟨b2, 10, none⟩) 1 3, .int .i64 0, .int .i64 0, .bool false] 24)).alloc (.cells #[.int .i64 11, .int .i64 0, .int .i64 0, .int .i64 0, .int .i64 0, .int .i64 0, .int .u64 0, .int .u64 0, .int .u64 0, .int .u64 0] 50)
    have hM := Blk.new (w3.alloc (.cells #[.slice (some ⟨b2, 10, none⟩) 1 3, .int .i64 0, .int .i64 0, .bool false] 24)) [.int .i64 11, .int .i64 0, .int .i64 0, .int .i64 0, .int .i64 0, .int .i64 0, .int .u64 0, .int .u64 0, .int .u64 0, .int .u64 0] 50
    rw [World.size_alloc] at hM
    have hf5 : Frm (fun _ => False) w ((w3.alloc (.cells #[.slice (some ⟨b2, 10, none⟩) 1 3, .int .i64 0, .int .i64 0, .bool false] 24)).alloc (.cells #[.int .i64 11, .int .i64 0, .int .i64 0, .int .i64 0, .int .i64 0, .int .i64 0, .int .u64 0, .int .u64 0, .int .u64 0, .int .u64 0] 50)) := (hf4.alloc _).alloc _
    have hbp : b2 < w3.heap.size := hB2.lt
    have hwp : w.heap.size ≤ w3.heap.size ∧ w.heap.size ≤ b2 := by have := hf1.size; have := hf2.size; have := hf3.size; omega
    go_wp2_with (with_reducible refine stop_at 30 rfl ?_)
    unfold Stop
    refine op_appendRoom rfl _ _ _ rfl 50 _ 10 80 Try.underlying22 infoIns b2 10 1 3 _ 50 hB3 rfl ⟨w3.heap.size + 1, 0, none⟩ 1 1 (flatI [insMatch]) rfl rfl (fun j u hu => (hM.cellAdd 0 j).trans (by rw [Nat.zero_add]; exact hu)) (ins_one _) (by omega) (by simp [flatI, Ins.cells]) ?_
    intro w4 hf6 hB4
    generalize hp : w3.heap.size = bp at *
    have hP4 := hP.frm hf6 (by omega)
    have hf7 : Frm (fun _ => False) w w4 := hf5.then hf6 (fun i e hi => by omega)
    obtain ⟨k0, k1, k2, k3, g0, g1, g2, g3, lk⟩ := blk4 hP4
    have hP5 := hP4.setSame 0 (.slice (some ⟨b2, 10, none⟩) 2 3)
    have hB5 := hB4.setOther bp 0 (.slice (some ⟨b2, 10, none⟩) 2 3) (by omega)
    have hf8 := hf7.set bp 0 (.slice (some ⟨b2, 10, none⟩) 2 3) (fun h => by omega)
    clear hP hB3 hM hf5
    go_upto_region 5 with fail
    generalize w4.setCell ⟨bp, 0, none⟩ (.slice (some ⟨b2, 10, none⟩) 2 3) = w5 at *
    clear k0 k1 k2 k3 g0 g1 g2 g3 lk hP4 hB4
    have hrd2 : Rd w5 (fun _ => True) 10 (some ⟨b2, 10, none⟩) 2 3 (flatI [insA, insMatch]) := ⟨rfl, by omega, fun h => (by cases h), fun _ => ⟨b2, 10, rfl, trivial, hB5.lt, fun j u hj => by
      rw [hB5.cell, ← hj]
      have hj2 := (List.getElem?_eq_some_iff.1 hj).1
      simp only [flatI_len, List.length_cons, List.length_nil] at hj2
      have hd : ((flatI [insSplit, insA, insJump, insMatch]).take (10 + 1 * 10) ++ flatI [insMatch] ++ (flatI [insSplit, insA, insJump, insMatch]).drop (10 + 1 * 10 + (flatI [insMatch]).length)).drop 10 = flatI [insA, insMatch] ++ flatI [insMatch] := rfl
      rw [← List.getElem?_drop, hd, List.getElem?_append_left (by simp [flatI_len]; omega)]⟩⟩
    obtain ⟨k0, k1, k2, k3, g0, g1, g2, g3, lk⟩ := blk4 hP5
    try simp only [List.set_cons_zero] at k0 k1 k2 k3
    have HF := Lib.hid (findC (some ⟨b2, 10, none⟩) 2 3 0 0 false [insA, insMatch] (fun _ => True) ⟨#[98, 97, 98]⟩ 0 w5 hrd2 (by decide))
    go_wp2_with fail
    refine HF.out.mono ?_
    rintro e w6 ⟨hf9, ⟨hn, _⟩ | ⟨_, st2, rfl, _⟩⟩
    · exact absurd begin_a0 hn
    · rw [show ByteArray.toList ⟨#[98, 97, 98]⟩ = [98, 97, 98] by rw [ByteArray.toList_eq], show (0 : Int).toNat = 0 from rfl, find_a0]
      simp only [bestT, bestF, Option.isSome_some]
      have hrd3 := (hrd2.frm hf9 (fun _ _ h => h)).alloc (.cells #[.int .i64 1, .int .i64 2] 37)
      have hP6 := (hP5.frm hf9 (fun h => h)).alloc (.cells #[.int .i64 1, .int .i64 2] 37)
      have hS6 := Blk.new w6 [.int .i64 1, .int .i64 2] 37
      have hf10 := (hf8.trans hf9).alloc (.cells #[.int .i64 1, .int .i64 2] 37)
      clear k0 k1 k2 k3 g0 g1 g2 g3 lk hP5 hB5 hrd2 HF
      go_upto_region 6 with fail
      generalize w6.alloc (.cells #[.int .i64 1, .int .i64 2] 37) = w7 at *
      obtain ⟨k0, k1, k2, k3, g0, g1, g2, g3, lk⟩ := blk4 hP6
      try simp only [List.set_cons_zero] at k0 k1 k2 k3
      have HF := Lib.hid (findC (some ⟨b2, 10, none⟩) 2 3 0 0 false [insA, insMatch] (fun _ => True) ⟨#[98, 97, 98]⟩ 2 w7 hrd3 (by decide))
      go_wp2_with fail
      refine HF.out.mono ?_
      rintro e w8 ⟨hf11, ⟨hn, _⟩ | ⟨_, st3, rfl, _⟩⟩
      · exact absurd begin_a2 hn
      · rw [show ByteArray.toList ⟨#[98, 97, 98]⟩ = [98, 97, 98] by rw [ByteArray.toList_eq], show (2 : Int).toNat = 2 from rfl, find_a2]
        simp only [bestT, bestF, Option.isSome_none]
        have hS8 := hS6.frm hf11 (fun h => h)
        obtain ⟨s0, s1, z0, z1, ls⟩ := blk2 hS8
        have hf12 := (hf10.trans hf11).alloc (.cells #[.int .i64 0, .int .i64 0] 37)
        clear k0 k1 k2 k3 g0 g1 g2 g3 lk
        go_wp2_with fail
        go_ret
        exact ⟨rfl, hf12⟩
end Go.Proofs.Ytamiliccnbkipaa
