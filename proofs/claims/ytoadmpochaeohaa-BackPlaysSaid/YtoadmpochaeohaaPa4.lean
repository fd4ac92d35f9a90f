/-
  Layer 20: what a configuration is told apart by.
-/
import Derived.Test.YtoadmpochaeohaaPa3
import Derived.Test.YtoadmpochaeohaaPa1
import Derived.Laws.MakeOwn
section
set_option linter.unusedVariables false
set_option linter.unusedSimpArgs false
set_option maxRecDepth 100000
namespace Go.Proofs.Ytoadmpochaeohaa
open Go.RowKit

def U8 (c : UInt8) : Value := .int .u8 c.toNat
theorem infoU8 : (Try.prog.info? 5).map (fun i => (i.zero, i.size, i.bytes)) = some (some (.int .u8 0), 1, 1) := by kernel_rfl

theorem put4_U8 (n : Int) : (put4 n).map U8 = [.int .u8 (n % 256), .int .u8 (n / 256 % 256), .int .u8 (n / 65536 % 256), .int .u8 (n / 16777216 % 256)] := by
  have h : ∀ z : Int, U8 (UInt8.ofNat (z % 256).toNat) = .int .u8 (z % 256) := fun z => by
    have h0 : 0 ≤ z % 256 := Int.emod_nonneg _ (by omega)
    have h1 : z % 256 < 256 := Int.emod_lt_of_pos _ (by omega)
    unfold U8
    congr 1
    rw [UInt8.toNat_ofNat', Nat.mod_eq_of_lt (by omega)]
    omega
  simp only [put4, List.map_cons, List.map_nil, h]
/-- The bytes so far: in a box. -/
def KB (w : World) (F : Nat → Prop) (b : Nat) (l : List UInt8) : Prop := ∃ v, Blk w b [v] 158 ∧ F b ∧ Sl w (fun k => F k ∧ k ≠ b) 5 1 v l.length (l.map U8)
theorem KB.frm {S : Nat → Prop} {w w' : World} {F : Nat → Prop} {b : Nat} {l : List UInt8} (h : KB w F b l) (f : Frm S w w') (hd : ∀ k, F k → ¬ S k) : KB w' F b l := by
  obtain ⟨v, hB, hF, hS⟩ := h
  exact ⟨v, hB.frm f (hd _ hF), hF, hS.frm f (fun k h => hd k h.1)⟩

set_option maxHeartbeats 800000 in
theorem putB (F : Nat → Prop) (b : Nat) (l : List UInt8) (n : Int) (w : World) (h : KB w F b l) (hl : l.length ≤ 100000) (hn : -9223372036854775808 ≤ n ∧ n ≤ 9223372036854775807) :
    Calls Try.prog 86 #[.int .i64 n, .pointer (some ⟨b, 0, none⟩)] w fun e w' => e = .returned (.tuple #[]) ∧ KB w' (fun k => F k ∨ w.heap.size ≤ k) b (l ++ put4 n) ∧ Frm F w w' := by
  obtain ⟨v, hB, hF, hS⟩ := h
  obtain ⟨A, c, rfl⟩ := hS.form
  have hlt := hB.lt
  obtain ⟨c0, f0, l0⟩ := blk1 hB
  go_enter Try.func86, Try.ntmps86
  go_wp2_with (with_reducible refine stop_at 16 rfl ?_)
  unfold Stop
  have hX := Blk.new w [.int .u8 (n % 256), .int .u8 (n / 256 % 256), .int .u8 (n / 65536 % 256), .int .u8 (n / 16777216 % 256)] 5
  have hf0 : Frm F w (w.alloc (.cells #[.int .u8 (n % 256), .int .u8 (n / 256 % 256), .int .u8 (n / 65536 % 256), .int .u8 (n / 16777216 % 256)] 5)) := (Frm.refl _ w).alloc _
  refine op_append rfl _ _ _ rfl 5 _ 1 1 Try.underlying158 infoU8 rfl (by omega) (hS.low.alloc _) rfl ⟨w.heap.size, 0, none⟩ 4 4 [.int .u8 (n % 256), .int .u8 (n / 256 % 256), .int .u8 (n / 65536 % 256), .int .u8 (n / 16777216 % 256)] rfl rfl (fun j u hu => by rw [hX.cellAdd 0 j, Nat.zero_add]; exact hu) (by intro u hu; simp at hu; rcases hu with rfl | rfl | rfl | rfl <;> rfl) (by simp only [maxLen]; omega) (by omega) ?_
  intro v3 w3 hf3 hs3
  obtain ⟨A1, e1, rfl⟩ := hs3.form
  have hB3 := (hB.alloc (.cells #[.int .u8 (n % 256), .int .u8 (n / 256 % 256), .int .u8 (n / 65536 % 256), .int .u8 (n / 16777216 % 256)] 5)).frm hf3 (fun h => h.1.2 rfl)
  have hz := (hf0.then hf3 (fun i h _ => h.1.1)).size
  have hff := hf0.then hf3 (fun i h _ => h.1.1)
  generalize w.alloc (.cells #[.int .u8 (n % 256), .int .u8 (n / 256 % 256), .int .u8 (n / 65536 % 256), .int .u8 (n / 16777216 % 256)] 5) = w1 at *
  have hz1 := hf0.size
  clear c0 f0 l0
  obtain ⟨c0, f0, l0⟩ := blk1 hB3
  go_wp2_with fail
  go_end0
  refine ⟨rfl, ⟨_, hB3.setSame 0 _, .inl hF, ?_⟩, hff.set b 0 _ (fun _ => hF)⟩
  have e : (l ++ put4 n).map U8 = l.map U8 ++ [.int .u8 (n % 256), .int .u8 (n / 256 % 256), .int .u8 (n / 65536 % 256), .int .u8 (n / 16777216 % 256)] := by rw [List.map_append, put4_U8]
  rw [e, List.length_append, show (put4 n).length = 4 from rfl]
  exact (hs3.set b 0 (.slice A1 (l.length + 4) e1) (by rintro (h | h); exact h.1.2 rfl; omega)).mono (G := fun k => (F k ∨ w.heap.size ≤ k) ∧ k ≠ b) (by rintro k (h | h) _; exact ⟨.inl h.1.1, h.1.2⟩; exact ⟨.inr (by omega), by omega⟩)
end Go.Proofs.Ytoadmpochaeohaa
end

section
set_option linter.unusedVariables false
set_option linter.unusedSimpArgs false
namespace Go.Proofs.Ytoadmpochaeohaa
open Go.RowKit

theorem op_makeOwn {P : Program} {w : World} {ops : Array Oper} {rest : List Oper} {o : Oper} {a : Act} {Q : Exit → Act → World → Prop} (hg : o.guard = none) (l c : Operand) (t : TypeId) (hop : o.op = .makeSlice t l c) (e : TypeId) (z : Value) (size bytes : Nat) (ht : P.underlying t = some (.slice e))
    (hinfo : (P.info? e).map (fun i => (i.zero, i.size, i.bytes)) = some (some z, size, bytes)) (hl : a.eval l = .int .i64 0) (L : Int) (hc : a.eval c = .int .i64 L) (n : Nat) (hL : L = n)
    (hb : bytes * n ≤ 281474976710656) (h63 : n ≤ maxLen)
    (h : ∀ w', Frm (fun _ => False) w w' → Sl w' (fun k => w.heap.size ≤ k) e size (.slice (some ⟨w.heap.size, 0, none⟩) 0 n) 0 [] → wpList P ops Q rest (a.put o.dst (.slice (some ⟨w.heap.size, 0, none⟩) 0 n)) w') : wpList P ops Q (o :: rest) a w := by
  obtain ⟨i, hi, hz0, hz1, hz2⟩ := info_parts hinfo
  refine wpList_plain hg fun K hK => ?_
  subst hL
  obtain ⟨w', hrun, h2, h3⟩ := run_make_own (P := P) (w := w) 0 t e i z size ht hi hz0 hz1 .i64 .i64 n (by rw [hz2]; exact hb) h63 (Nat.zero_le _)
  unfold Oper.wp
  simp only [execOp, hop, hl, hc, Sem.run_bind, hrun, Result.andThen_ok, Sem.run_pure, Oper.upon_value]
  refine hK _ _ (h _ ((Frm.of_grown h3).mono fun k hk _ => by cases hk) (Sl.of_owns h2 fun g hg => ?_))
  simp [Value.ownBlock] at hg
  omega
end Go.Proofs.Ytoadmpochaeohaa
end

section
set_option linter.unusedVariables false
set_option linter.unusedSimpArgs false
set_option maxRecDepth 100000
namespace Go.Proofs.Ytoadmpochaeohaa
open Go.RowKit

theorem Sl.putAt {w : World} {F : Nat → Prop} {e : TypeId} {size b n c j : Nat} {xs : List Value} (h : Sl w F e size (.slice (some ⟨b, 0, none⟩) n c) n xs) (hj : j < xs.length) (x : Value) : Sl (w.setCell ⟨b, j, none⟩ x) F e size (.slice (some ⟨b, 0, none⟩) n c) n (xs.set j x) := by
  cases h with
  | @at_ g _ cap _ rest hF hb hx hr hn hm =>
    refine .at_ (rest := rest) hF ?_ (by rw [List.length_set]; exact hx) (by rw [List.length_append, List.length_set, ← List.length_append]; exact hr) hn hm
    have := Blk.setSame hb j x
    rwa [List.set_append_left _ _ hj] at this

theorem flatN_set : ∀ (l : List Tn) (k : Nat) (t : Tn), ((flatN l).set (k * 2) (.int .i64 t.many)).set (k * 2 + 1) (.int .i64 t.began) = flatN (l.set k t)
  | [], k, t => by simp [flatN]
  | x :: l, 0, t => rfl
  | x :: l, k + 1, t => by
    have ih := flatN_set l k t
    show ((.int .i64 x.many :: .int .i64 x.began :: flatN l).set ((k + 1) * 2) _).set ((k + 1) * 2 + 1) _ = .int .i64 x.many :: .int .i64 x.began :: flatN (l.set k t)
    rw [show (k + 1) * 2 + 1 = ((k * 2 + 1) + 1) + 1 by omega, show (k + 1) * 2 = (k * 2 + 1) + 1 by omega, List.set_cons_succ, List.set_cons_succ, List.set_cons_succ, List.set_cons_succ, ih]

set_option maxHeartbeats 1600000 in
theorem countedC (pc at_ : Int) (A B : Option Addr) (n cA m d : Nat) (l : List Tn) (k : Nat) (t : Tn) (G : Nat → Prop) (w : World) (hN : Rd w G 2 B m d (flatN l)) (hk : k < m) (hm : m ≤ 1048576) :
    Calls Try.prog 78 #[.agg #[.int .i64 pc, .int .i64 at_, .slice A n cA, .slice B m d], .int .i64 k, .agg #[.int .i64 t.many, .int .i64 t.began]] w fun e w' => ∃ B' d', e = .returned (.agg #[.int .i64 pc, .int .i64 at_, .slice A n cA, .slice B' m d']) ∧ Rd w' (fun k => w.heap.size ≤ k) 2 B' m d' (flatN (l.set k t)) ∧ Frm (fun _ => False) w w' := by
  have hX := ((Blk.new w [.int .i64 pc, .int .i64 at_, .slice A n cA, .slice B m d] 129).alloc (.cells #[.int .i64 t.many, .int .i64 t.began] 133)).alloc (.cells #[.int .i64 0, .int .i64 0, .slice none 0 0, .slice none 0 0] 129)
  have hT := (Blk.new (w.alloc (.cells #[.int .i64 pc, .int .i64 at_, .slice A n cA, .slice B m d] 129)) [.int .i64 t.many, .int .i64 t.began] 133).alloc (.cells #[.int .i64 0, .int .i64 0, .slice none 0 0, .slice none 0 0] 129)
  have hR := Blk.new ((w.alloc (.cells #[.int .i64 pc, .int .i64 at_, .slice A n cA, .slice B m d] 129)).alloc (.cells #[.int .i64 t.many, .int .i64 t.began] 133)) [.int .i64 0, .int .i64 0, .slice none 0 0, .slice none 0 0] 129
  have hf0 : Frm (fun _ => False) w (((w.alloc (.cells #[.int .i64 pc, .int .i64 at_, .slice A n cA, .slice B m d] 129)).alloc (.cells #[.int .i64 t.many, .int .i64 t.began] 133)).alloc (.cells #[.int .i64 0, .int .i64 0, .slice none 0 0, .slice none 0 0] 129)) := (((Frm.refl _ w).alloc _).alloc _).alloc _
  go_enter Try.func78, Try.ntmps78
  go_upto_region 1 with fail
  simp only [World.size_alloc] at hT hR
  generalize ((w.alloc (.cells #[.int .i64 pc, .int .i64 at_, .slice A n cA, .slice B m d] 129)).alloc (.cells #[.int .i64 t.many, .int .i64 t.began] 133)).alloc (.cells #[.int .i64 0, .int .i64 0, .slice none 0 0, .slice none 0 0] 129) = w1 at *
  have hz0 := hf0.size
  have hr1 := hR.lt
  obtain ⟨bX, hbX⟩ : ∃ bX, w.heap.size = bX := ⟨_, rfl⟩
  obtain ⟨bT, hbT⟩ : ∃ bT, bX + 1 = bT := ⟨_, rfl⟩
  obtain ⟨bR, hbR⟩ : ∃ bR, bT + 1 = bR := ⟨_, rfl⟩
  simp only [hbX, hbT, hbR] at hX hT hR hr1 ⊢
  have HB := Lib.hid (⟨hbX, hbT, hbR, hr1⟩ : w.heap.size = bX ∧ bX + 1 = bT ∧ bT + 1 = bR ∧ bR < w1.heap.size)
  clear hbX hbT hbR hz0 hr1
  have hml : l.length = m := by have := hN.len; rw [flatN_len] at this; omega
  have HCL := Lib.hid (cloneN B m d l G w1 (hN.frm hf0 (fun _ _ h => h)) hm)
  obtain ⟨x0, x1, x2, x3, y0, y1, y2, y3, lx⟩ := blk4 hX
  go_wp2_with fail
  refine HCL.out.mono ?_
  rintro e w2 ⟨B', d', rfl, hs2, hf2⟩
  have hX2 := hX.frm hf2 (fun h => h)
  have hT2 := hT.frm hf2 (fun h => h)
  have hR2 := hR.frm hf2 (fun h => h)
  clear x0 x1 x2 x3 y0 y1 y2 y3 lx HCL
  obtain ⟨b', rfl, hFb, hlb, cur, hcur, hget⟩ := hs2.head (by omega)
  obtain ⟨x0, x1, x2, x3, y0, y1, y2, y3, lx⟩ := blk4 hX2
  have hbne : bX < b' ∧ bT < b' ∧ bR < b' := by have := HB.out; omega
  have hX3 := hX2.setSame 3 (.slice (some ⟨b', 0, none⟩) m d')
  have hT3 := hT2.setOther bX 3 (.slice (some ⟨b', 0, none⟩) m d') (by have := HB.out; omega)
  have hR3 := hR2.setOther bX 3 (.slice (some ⟨b', 0, none⟩) m d') (by have := HB.out; omega)
  have hs3 := hs2.set bX 3 (.slice (some ⟨b', 0, none⟩) m d') (by have := HB.out; omega)
  have hcur3 := hcur.setOther bX 3 (.slice (some ⟨b', 0, none⟩) m d') (by omega)
  have hf3 := (hf0.trans hf2).set bX 3 (.slice (some ⟨b', 0, none⟩) m d') (fun h => by have := HB.out; omega)
  go_upto_region 2 with fail
  generalize w2.setCell ⟨bX, 3, none⟩ (.slice (some ⟨b', 0, none⟩) m d') = w3 at *
  clear x0 x1 x2 x3 y0 y1 y2 y3 lx
  simp only [List.set_cons_succ, List.set_cons_zero] at hX3
  obtain ⟨x0, x1, x2, x3, y0, y1, y2, y3, lx⟩ := blk4 hX3
  obtain ⟨t0, t1, u0, u1, lt⟩ := blk2 hT3
  obtain ⟨v0, v1, v2, v3, z0, z1, z2, z3, lv⟩ := blk4 hR3
  have hfl : (flatN l).length = m * 2 := by rw [flatN_len, hml]
  have p0 : w3.cell? ⟨b', k * 2, none⟩ = some ((flatN l)[k * 2]'(by omega)) := by rw [hcur3.cell, hget _ (by omega), List.getElem?_eq_getElem (by omega)]
  have p1 : w3.cell? ⟨b', k * 2 + 1, none⟩ = some ((flatN l)[k * 2 + 1]'(by omega)) := by rw [hcur3.cell, hget _ (by omega), List.getElem?_eq_getElem (by omega)]
  have q0 := hcur3.frozen (k * 2)
  have q1 := hcur3.frozen (k * 2 + 1)
  have hlb3 := hcur3.lt
  go_wp2_with fail
  have hs5 := (hs3.putAt (j := k * 2) (by omega) (.int .i64 t.many)).putAt (j := k * 2 + 1) (by rw [List.length_set]; omega) (.int .i64 t.began)
  rw [flatN_set] at hs5
  have hR5 := (((((hR3.setOther b' (k * 2) (.int .i64 t.many) (by omega)).setOther b' (k * 2 + 1) (.int .i64 t.began) (by omega)).setSame 0 (.int .i64 pc)).setSame 1 (.int .i64 at_)).setSame 2 (.slice A n cA)).setSame 3 (.slice (some ⟨b', 0, none⟩) m d')
  refine bodyPost_ret (results_one rfl (RV.cell rfl hR5 Try.underlying129 rfl (by kernel_rfl))) rfl ?_
  have hB := HB.out
  refine ⟨some ⟨b', 0, none⟩, d', rfl, ?_, ?_⟩
  · exact ((((hs5.set bR 0 _ (by omega)).set bR 1 _ (by omega)).set bR 2 _ (by omega)).set bR 3 _ (by omega)).rd.mono (fun i h _ => by omega)
  · exact (((((hf3.set b' (k * 2) _ (fun h => by omega)).set b' (k * 2 + 1) _ (fun h => by omega)).set bR 0 _ (fun h => by omega)).set bR 1 _ (fun h => by omega)).set bR 2 _ (fun h => by omega)).set bR 3 _ (fun h => by omega)
end Go.Proofs.Ytoadmpochaeohaa
end

section
set_option linter.unusedVariables false
set_option linter.unusedSimpArgs false
set_option maxRecDepth 100000
namespace Go.Proofs.Ytoadmpochaeohaa
open Go.RowKit

/-- Which fields an operation uses. -/
structure Us where
  set : Bool
  x : Bool
  y : Bool
  group : Bool
  counter : Bool
  next : Bool
  ok : Bool
def Us.val (u : Us) : Value := .agg #[.bool u.set, .bool u.x, .bool u.y, .bool u.group, .bool u.counter, .bool u.next]
def ofV (op : Int) : Us :=
  if op = 1 then ⟨true, false, false, false, false, true, true⟩ else
  if op = 2 then ⟨false, true, true, false, false, false, true⟩ else
  if op = 3 then ⟨false, true, false, false, false, false, true⟩ else
  if op = 4 then ⟨false, false, false, false, false, true, true⟩ else
  if op = 5 then ⟨false, false, false, false, false, true, true⟩ else
  if op = 6 then ⟨false, false, false, true, false, true, true⟩ else
  if op = 7 then ⟨false, false, false, true, false, true, true⟩ else
  if op = 8 then ⟨false, false, false, true, false, true, true⟩ else
  if op = 9 then ⟨false, false, false, false, true, true, true⟩ else
  if op = 10 then ⟨false, true, true, false, true, false, true⟩ else
  if op = 11 then ⟨false, false, false, false, false, false, true⟩ else
  ⟨false, false, false, false, false, false, false⟩

set_option maxHeartbeats 1600000 in
theorem ofC (op : Int) (w : World) : Calls Try.prog 64 #[.int .i64 op] w fun e w' => e = .returned (.tuple #[(ofV op).val, .bool (ofV op).ok]) ∧ Frm (fun _ => False) w w' := by
  by_cases h1 : op = 1
  · subst h1
    go_enter Try.func64, Try.ntmps64
    go_wp2
    exact bodyPost_ret (results_two rfl (RV.cell rfl (Blk.new w [.bool true, .bool false, .bool false, .bool false, .bool false, .bool true] 151) Try.underlying151 rfl (by kernel_rfl)) (RV.tmp rfl)) rfl ⟨rfl, (Frm.refl _ w).alloc _⟩
  by_cases h2 : op = 2
  · subst h2
    go_enter Try.func64, Try.ntmps64
    go_wp2
    exact bodyPost_ret (results_two rfl (RV.cell rfl (Blk.new w [.bool false, .bool true, .bool true, .bool false, .bool false, .bool false] 151) Try.underlying151 rfl (by kernel_rfl)) (RV.tmp rfl)) rfl ⟨rfl, (Frm.refl _ w).alloc _⟩
  by_cases h3 : op = 3
  · subst h3
    go_enter Try.func64, Try.ntmps64
    go_wp2
    exact bodyPost_ret (results_two rfl (RV.cell rfl (Blk.new w [.bool false, .bool true, .bool false, .bool false, .bool false, .bool false] 151) Try.underlying151 rfl (by kernel_rfl)) (RV.tmp rfl)) rfl ⟨rfl, (Frm.refl _ w).alloc _⟩
  by_cases h4 : op = 4
  · subst h4
    go_enter Try.func64, Try.ntmps64
    go_wp2
    exact bodyPost_ret (results_two rfl (RV.cell rfl (Blk.new w [.bool false, .bool false, .bool false, .bool false, .bool false, .bool true] 151) Try.underlying151 rfl (by kernel_rfl)) (RV.tmp rfl)) rfl ⟨rfl, (Frm.refl _ w).alloc _⟩
  by_cases h5 : op = 5
  · subst h5
    go_enter Try.func64, Try.ntmps64
    go_wp2
    exact bodyPost_ret (results_two rfl (RV.cell rfl (Blk.new w [.bool false, .bool false, .bool false, .bool false, .bool false, .bool true] 151) Try.underlying151 rfl (by kernel_rfl)) (RV.tmp rfl)) rfl ⟨rfl, (Frm.refl _ w).alloc _⟩
  by_cases h6 : op = 6
  · subst h6
    go_enter Try.func64, Try.ntmps64
    go_wp2
    exact bodyPost_ret (results_two rfl (RV.cell rfl (Blk.new w [.bool false, .bool false, .bool false, .bool true, .bool false, .bool true] 151) Try.underlying151 rfl (by kernel_rfl)) (RV.tmp rfl)) rfl ⟨rfl, (Frm.refl _ w).alloc _⟩
  by_cases h7 : op = 7
  · subst h7
    go_enter Try.func64, Try.ntmps64
    go_wp2
    exact bodyPost_ret (results_two rfl (RV.cell rfl (Blk.new w [.bool false, .bool false, .bool false, .bool true, .bool false, .bool true] 151) Try.underlying151 rfl (by kernel_rfl)) (RV.tmp rfl)) rfl ⟨rfl, (Frm.refl _ w).alloc _⟩
  by_cases h8 : op = 8
  · subst h8
    go_enter Try.func64, Try.ntmps64
    go_wp2
    exact bodyPost_ret (results_two rfl (RV.cell rfl (Blk.new w [.bool false, .bool false, .bool false, .bool true, .bool false, .bool true] 151) Try.underlying151 rfl (by kernel_rfl)) (RV.tmp rfl)) rfl ⟨rfl, (Frm.refl _ w).alloc _⟩
  by_cases h9 : op = 9
  · subst h9
    go_enter Try.func64, Try.ntmps64
    go_wp2
    exact bodyPost_ret (results_two rfl (RV.cell rfl (Blk.new w [.bool false, .bool false, .bool false, .bool false, .bool true, .bool true] 151) Try.underlying151 rfl (by kernel_rfl)) (RV.tmp rfl)) rfl ⟨rfl, (Frm.refl _ w).alloc _⟩
  by_cases h10 : op = 10
  · subst h10
    go_enter Try.func64, Try.ntmps64
    go_wp2
    exact bodyPost_ret (results_two rfl (RV.cell rfl (Blk.new w [.bool false, .bool true, .bool true, .bool false, .bool true, .bool false] 151) Try.underlying151 rfl (by kernel_rfl)) (RV.tmp rfl)) rfl ⟨rfl, (Frm.refl _ w).alloc _⟩
  by_cases h11 : op = 11
  · subst h11
    go_enter Try.func64, Try.ntmps64
    go_wp2
    exact bodyPost_ret (results_two rfl (RV.cell rfl (Blk.new w [.bool false, .bool false, .bool false, .bool false, .bool false, .bool false] 151) Try.underlying151 rfl (by kernel_rfl)) (RV.tmp rfl)) rfl ⟨rfl, (Frm.refl _ w).alloc _⟩
  have hu : ofV op = ⟨false, false, false, false, false, false, false⟩ := by simp [ofV, h1, h2, h3, h4, h5, h6, h7, h8, h9, h10, h11]
  rw [hu]
  have t1 : (op == 1) = false := by simpa using h1
  have t2 : (op == 2) = false := by simpa using h2
  have t3 : (op == 3) = false := by simpa using h3
  have t4 : (op == 4) = false := by simpa using h4
  have t5 : (op == 5) = false := by simpa using h5
  have t6 : (op == 6) = false := by simpa using h6
  have t7 : (op == 7) = false := by simpa using h7
  have t8 : (op == 8) = false := by simpa using h8
  have t9 : (op == 9) = false := by simpa using h9
  have t10 : (op == 10) = false := by simpa using h10
  have t11 : (op == 11) = false := by simpa using h11
  go_enter Try.func64, Try.ntmps64
  go_wp2
  exact bodyPost_ret (results_two rfl (RV.cell rfl (Blk.new w [.bool false, .bool false, .bool false, .bool false, .bool false, .bool false] 151) Try.underlying151 rfl (by kernel_rfl)) (RV.tmp rfl)) rfl ⟨rfl, (Frm.refl _ w).alloc _⟩

def withinB (u : Bool) (n b : Int) : Bool := if u then decide (0 ≤ n ∧ n < b) else n == 0
theorem withinC (u : Bool) (n b : Int) (w : World) : Calls Try.prog 65 #[.bool u, .int .i64 n, .int .i64 b] w fun e w' => e = .returned (.bool (withinB u n b)) ∧ w = w' := by
  cases u with
  | true =>
    by_cases h1 : 0 ≤ n
    · have t1 : decide (0 ≤ n) = true := decide_eq_true h1
      go_enter Try.func65, Try.ntmps65
      go_wp2
      go_ret
      exact ⟨by simp [withinB, h1], rfl⟩
    · have t1 : decide (0 ≤ n) = false := decide_eq_false h1
      go_enter Try.func65, Try.ntmps65
      go_wp2
      go_ret
      exact ⟨by simp [withinB]; omega, rfl⟩
  | false =>
    go_enter Try.func65, Try.ntmps65
    go_wp2
    go_ret
    exact ⟨by simp [withinB], rfl⟩

def Ins.val (i : Ins) : Value := .agg #[.int .i64 i.op, .int .i64 i.x, .int .i64 i.y, .int .i64 i.n, .int .i64 i.mn, .int .i64 i.mx, .int .u64 i.s0, .int .u64 i.s1, .int .u64 i.s2, .int .u64 i.s3]
def boundsB (i : Ins) : Bool := if i.op = 10 then decide (0 ≤ i.mn ∧ i.mn ≤ 255 ∧ (i.mx = -1 ∨ (i.mn ≤ i.mx ∧ i.mx ≤ 255))) else decide (i.mn = 0 ∧ i.mx = 0)

set_option maxHeartbeats 1600000 in
theorem boundsC (i : Ins) (w : World) : Calls Try.prog 66 #[i.val] w fun e w' => e = .returned (.bool (boundsB i)) ∧ Frm (fun _ => False) w w' := by
  obtain ⟨op, x, y, n, mn, mx, s0, s1, s2, s3⟩ := i
  have hB := Blk.new w [.int .i64 op, .int .i64 x, .int .i64 y, .int .i64 n, .int .i64 mn, .int .i64 mx, .int .u64 s0, .int .u64 s1, .int .u64 s2, .int .u64 s3] 39
  have b0 := hB.cell 0
  have b4 := hB.cell 4
  have b5 := hB.cell 5
  simp only [List.getElem?_cons_zero, List.getElem?_cons_succ] at b0 b4 b5
  dsimp only [Ins.val]
  have hf : Frm (fun _ => False) w (w.alloc (.cells #[.int .i64 op, .int .i64 x, .int .i64 y, .int .i64 n, .int .i64 mn, .int .i64 mx, .int .u64 s0, .int .u64 s1, .int .u64 s2, .int .u64 s3] 39)) := (Frm.refl _ w).alloc _
  by_cases h1 : op = 10
  · subst h1
    by_cases h2 : 0 ≤ mn
    · have t2 : decide (0 ≤ mn) = true := decide_eq_true h2
      by_cases h3 : mn ≤ 255
      · have t3 : decide (mn ≤ 255) = true := decide_eq_true h3
        by_cases h4 : mx = -1
        · subst h4
          go_enter Try.func66, Try.ntmps66
          go_wp2
          go_ret
          exact ⟨by simp [boundsB, h2, h3], hf⟩
        · have t4 : (mx == -1) = false := by simpa using h4
          by_cases h5 : mn ≤ mx
          · have t5 : decide (mn ≤ mx) = true := decide_eq_true h5
            go_enter Try.func66, Try.ntmps66
            go_wp2
            go_ret
            exact ⟨by simp [boundsB, h2, h3, h4, h5], hf⟩
          · have t5 : decide (mn ≤ mx) = false := decide_eq_false h5
            go_enter Try.func66, Try.ntmps66
            go_wp2
            go_ret
            exact ⟨by simp [boundsB, h2, h3, h4] <;> omega, hf⟩
      · have t3 : decide (mn ≤ 255) = false := decide_eq_false h3
        go_enter Try.func66, Try.ntmps66
        go_wp2
        go_ret
        exact ⟨by simp [boundsB] <;> omega, hf⟩
    · have t2 : decide (0 ≤ mn) = false := decide_eq_false h2
      go_enter Try.func66, Try.ntmps66
      go_wp2
      go_ret
      exact ⟨by simp [boundsB] <;> omega, hf⟩
  · have t1 : (op != 10) = true := by simpa using h1
    by_cases h2 : mn = 0
    · subst h2
      go_enter Try.func66, Try.ntmps66
      go_wp2
      go_ret
      exact ⟨by by_cases h3 : mx = 0 <;> simp [boundsB, h1, h3], hf⟩
    · have t2 : (mn == 0) = false := by simpa using h2
      go_enter Try.func66, Try.ntmps66
      go_wp2
      go_ret
      exact ⟨by simp [boundsB, h1, h2], hf⟩
end Go.Proofs.Ytoadmpochaeohaa
end
