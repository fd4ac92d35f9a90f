import Derived.Test.YthlefnajbfkdbaaWDoes2
import Derived.Test.YthlefnajbfkdbaaKnown
import Derived.Test.YthlefnajbfkdbaaLawPF
import Derived.Sort.CutIn
set_option linter.unusedVariables false
set_option linter.unusedSimpArgs false
namespace Go.Proofs.Ythlefnajbfkdbaa
open Go.RowKit Go.Shelf

/-- A step of a script. -/
structure Stp where
  kind : Int
  n : Int
  leave : Int
  s : ByteArray
  turn : Int
  in_ : Int
def Stp.cells (o : Stp) : List Value := [.int .i64 o.kind, .int .i64 o.n, .int .i64 o.leave, .string o.s, .int .i64 o.turn, .int .i64 o.in_]
def Stp.val (o : Stp) : Value := .agg #[.int .i64 o.kind, .int .i64 o.n, .int .i64 o.leave, .string o.s, .int .i64 o.turn, .int .i64 o.in_]
structure Stp.ok (o : Stp) : Prop where
  l0 : -9223372036854775808 ≤ o.leave
  l1 : o.leave ≤ 9223372036854775807
  t0 : -9223372036854775808 ≤ o.turn
  t1 : o.turn ≤ 9223372036854775807

theorem blk6 {w : World} {g : Nat} {a b c d e f : Value} {t : TypeId} (h : Blk w g [a, b, c, d, e, f] t) :
    w.cell? ⟨g, 0, none⟩ = some a ∧ w.cell? ⟨g, 1, none⟩ = some b ∧ w.cell? ⟨g, 2, none⟩ = some c ∧ w.cell? ⟨g, 3, none⟩ = some d ∧ w.cell? ⟨g, 4, none⟩ = some e ∧ w.cell? ⟨g, 5, none⟩ = some f ∧ g < w.heap.size :=
  ⟨h.cell 0, h.cell 1, h.cell 2, h.cell 3, h.cell 4, h.cell 5, h.lt⟩

/-- What 'over' holds between its rounds. -/
structure OVI (w : World) (F : Nat → Prop) (bE bO bR q bW bN B b g : Nat) (fv : Value) (o : Stp) (A2 : Option Addr) (c2 : Nat) (xs : List Th) (rb : Bool) (k : Nat) (ys : List Th) (G : Nat → Prop) (wr : World) : Prop where
  ord : bE = w.heap.size ∧ bO = bE + 1 ∧ bR = bO + 1 ∧ bR < q ∧ q ≤ bW ∧ bN = bW + 1 ∧ B = bN + 1
  e : Blk wr bE [.pointer (some ⟨b, 0, none⟩)] 52
  o : Blk wr bO [.int .i64 o.kind, .int .i64 o.n, .int .i64 o.leave, .string o.s, .int .i64 o.turn, .int .i64 o.in_] 64
  r : Blk wr bR [.bool rb] 4
  wz : Blk wr bW [.slice A2 xs.length c2] 57
  sl : Sl wr (fun k => q ≤ k ∧ k < bW) 56 2 (.slice A2 xs.length c2) xs.length (flatT xs)
  n : Blk wr bN [.int .i64 (k : Int)] 3
  pw : PW wr G b g fv ys
  G : ∀ k, G k → (F k ∧ k < w.heap.size) ∨ B ≤ k
  frm : Frm (fun k => F k ∧ k < w.heap.size) w wr
  sz : B ≤ wr.heap.size

section
variable {w : World} {F : Nat → Prop} {bE bO bR q bW bN B b g : Nat} {fv : Value} {o : Stp} {A2 : Option Addr} {c2 : Nat} {xs : List Th} {rb : Bool} {k : Nat} {ys : List Th} {G : Nat → Prop} {wr w1 : World}
theorem OVI.kept {row : Option Nat} (h : OVI w F bE bO bR q bW bN B b g fv o A2 c2 xs rb k ys G wr) (hg : wr.grownBy w1 row) (hr : ∀ r, row = some r → B ≤ r ∧ ∃ o : Obj, wr.heap[r]? = some o ∧ o.isCells = false) :
    OVI w F bE bO bR q bW bN B b g fv o A2 c2 xs rb k ys G w1 :=
  have hr2 : ∀ r, row = some r → ∃ o : Obj, wr.heap[r]? = some o ∧ o.isCells = false := fun r e => (hr r e).2
  have ho := h.ord
  ⟨h.ord, h.e.kept hg hr2, h.o.kept hg hr2, h.r.kept hg hr2, h.wz.kept hg hr2, h.sl.kept hg hr2, h.n.kept hg hr2, h.pw.kept hg hr2, h.G, h.frm.then (Frm.of_grown hg) (fun i e hi => by have := (hr i e.symm).1; omega), Nat.le_trans h.sz hg.size⟩
theorem OVI.world (h : OVI w F bE bO bR q bW bN B b g fv o A2 c2 xs rb k ys G wr) (f : Frm (fun _ => False) wr w1) : OVI w F bE bO bR q bW bN B b g fv o A2 c2 xs rb k ys G w1 :=
  ⟨h.ord, h.e.frm f (fun h => h), h.o.frm f (fun h => h), h.r.frm f (fun h => h), h.wz.frm f (fun h => h), h.sl.frm f (fun _ _ h => h), h.n.frm f (fun h => h), h.pw.frm f (fun _ _ h => h), h.G, h.frm.then f (fun _ h _ => h.elim), Nat.le_trans h.sz f.size⟩
theorem OVI.count (h : OVI w F bE bO bR q bW bN B b g fv o A2 c2 xs rb k ys G wr) (k' : Nat) : OVI w F bE bO bR q bW bN B b g fv o A2 c2 xs rb k' ys G (wr.setCell ⟨bN, 0, none⟩ (.int .i64 (k' : Int))) :=
  have ho := h.ord
  have f : Frm (fun i => i = bN) wr (wr.setCell ⟨bN, 0, none⟩ (.int .i64 (k' : Int))) := (Frm.refl (fun i => i = bN) _).set bN 0 _ (fun _ => rfl)
  ⟨h.ord, h.e.frm f (by omega), h.o.frm f (by omega), h.r.frm f (by omega), h.wz.frm f (by omega), h.sl.frm f (by rintro i hi rfl; omega), h.n.setSame 0 _, h.pw.frm f (by rintro i hi rfl; rcases h.G _ hi with h1 | h1 <;> omega), h.G, h.frm.then f (by rintro i rfl hi; omega), Nat.le_trans h.sz f.size⟩
theorem OVI.res (h : OVI w F bE bO bR q bW bN B b g fv o A2 c2 xs rb k ys G wr) (rb' : Bool) : OVI w F bE bO bR q bW bN B b g fv o A2 c2 xs rb' k ys G (wr.setCell ⟨bR, 0, none⟩ (.bool rb')) :=
  have ho := h.ord
  have f : Frm (fun i => i = bR) wr (wr.setCell ⟨bR, 0, none⟩ (.bool rb')) := (Frm.refl (fun i => i = bR) _).set bR 0 _ (fun _ => rfl)
  ⟨h.ord, h.e.frm f (by omega), h.o.frm f (by omega), h.r.setSame 0 _, h.wz.frm f (by omega), h.sl.frm f (by rintro i hi rfl; omega), h.n.frm f (by omega), h.pw.frm f (by rintro i hi rfl; rcases h.G _ hi with h1 | h1 <;> omega), h.G, h.frm.then f (by rintro i rfl hi; omega), Nat.le_trans h.sz f.size⟩
theorem OVI.mid {G' : Nat → Prop} {ys' : List Th} (h : OVI w F bE bO bR q bW bN B b g fv o A2 c2 xs rb k ys G wr) (f : Frm G wr w1) (hp : PW w1 G' b g fv ys') (hG : ∀ k, G' k → G k ∨ wr.heap.size ≤ k) : OVI w F bE bO bR q bW bN B b g fv o A2 c2 xs rb k ys' G' w1 :=
  have ho := h.ord
  have hs := h.sz
  have no : ∀ i, bE ≤ i → i < B → ¬ G i := fun i h1 h2 hi => by rcases h.G _ hi with h3 | h3 <;> omega
  ⟨h.ord, h.e.frm f (no _ (by omega) (by omega)), h.o.frm f (no _ (by omega) (by omega)), h.r.frm f (no _ (by omega) (by omega)), h.wz.frm f (no _ (by omega) (by omega)), h.sl.frm f (fun i hi => no _ (by omega) (by omega)), h.n.frm f (no _ (by omega) (by omega)), hp,
    fun i hi => by rcases hG i hi with h1 | h1; exact h.G i h1; exact .inr (by omega), h.frm.then f (fun i hi hl => by rcases h.G i hi with h1 | h1; exact h1; omega), Nat.le_trans h.sz f.size⟩
end

def OverPost (F : Nat → Prop) (b g : Nat) (fv : Value) (w : World) (n : Nat) (e : Ending) (w' : World) : Prop :=
  e = .returned (.bool true) ∧ ∃ ys, ys.length ≤ n ∧ PW w' (fun k => F k ∨ w.heap.size ≤ k) b g fv ys ∧ Frm F w w'

theorem equalIn_func_nil (d : Nat) (w : World) (f : Fn) (a b : Array Value) : (Op.equalIn (d + 1) 59 (.func f a b) .nilFunc).run Try.prog w = .ok false w := by
  simp [Op.equalIn, run_underlying Try.underlying59]
theorem run_func_nil (w : World) (f : Fn) (a b : Array Value) : (binOp .eql 59 (.func f a b) .nilFunc).run Try.prog w = .ok (.bool false) w := by
  simp only [binOp]
  simp [Op.equal, Op.maxDepth, equalIn_func_nil 9999 w f a b]

theorem over_end {w : World} {F : Nat → Prop} {bE bO bR q bW bN B b g : Nat} {fv : Value} {o : Stp} {A2 : Option Addr} {c2 : Nat} {xs ys : List Th} {k D : Nat} {G : Nat → Prop} {wr : World}
    (hI : OVI w F bE bO bR q bW bN B b g fv o A2 c2 xs true k ys G wr) (hyl : ys.length ≤ xs.length + 1) (hD : B ≤ D) (hdf : wr.heap[D]? = some (.deferred (some []))) :
    Blk (wr.putObj D (.deferred none)) bR [.bool true] 4 ∧ OverPost F b g fv w (xs.length + 1) (.returned (.bool true)) (wr.putObj D (.deferred none)) := by
  have hk := hI.kept (grownBy_putObj' wr D (.deferred none)) (fun r e => by cases e; exact ⟨hD, _, hdf, rfl⟩)
  have ho := hI.ord
  exact ⟨hk.r, rfl, ys, hyl, hk.pw.mono (fun i h _ => by rcases hk.G i h with h1 | h1; exact .inl h1.1; exact .inr (by omega)), hk.frm.mono (fun _ h _ => h.1)⟩

theorem wide_fn (f : FuncId) : Fence.wide.fn f = True := rfl
attribute [local go_sem high] run_eqTh
attribute [local go_sem high] run_func_nil
attribute [local simp] wide_fn
attribute [local go_sem] Oper.semAt_some

set_option maxHeartbeats 8000000 in
set_option maxRecDepth 100000 in
theorem over_gen (o : Stp) (ho : o.ok)
    (hin : o.in_ ≠ 0 → ∀ (F : Nat → Prop) (b g bx : Nat) (fv : Value) (xs : List Th) (w : World), PW w F b g fv xs → Blk w bx [.pointer (some ⟨g, 0, none⟩)] 53 → xs.length + 2 ≤ 1000000 →
      Calls Try.prog 29 #[.pointer (some ⟨b, 0, none⟩), .func (.func 42) #[] #[.pointer (some ⟨bx, 0, none⟩)], .agg #[.int .i64 0, .int .i64 0, .int .i64 o.leave, .string ⟨#[]⟩, .int .i64 0, .int .i64 0]] w (OverPost F b g fv w (xs.length + 1)))
    (F : Nat → Prop) (b g bx : Nat) (fv : Value) (xs : List Th) (w : World) (h : PW w F b g fv xs) (hbx : Blk w bx [.pointer (some ⟨g, 0, none⟩)] 53) (hb : xs.length + 2 ≤ 1000000) :
    Calls Try.prog 29 #[.pointer (some ⟨b, 0, none⟩), .func (.func 42) #[] #[.pointer (some ⟨bx, 0, none⟩)], o.val] w (OverPost F b g fv w (xs.length + 1)) := by
  have h0 := h.low
  have hz0 : b < w.heap.size := h.lt
  refine calls_marks (n := 9) Try.func29 rfl ?_
  simp only [Try.ntmps29, List.size_toArray, List.length_cons, List.length_nil, Nat.reduceAdd, Nat.reduceSub, Array.replicate_succ, Array.replicate_zero, List.push_toArray, List.append_toArray, List.nil_append, List.cons_append]
  dsimp only [Stp.val]
  go_upto_region 3 with fail
  have hE := Blk.new w [.pointer (some ⟨b, 0, none⟩)] 52
  have hO := Blk.new (w.alloc (.cells #[.pointer (some ⟨b, 0, none⟩)] 52)) [.int .i64 o.kind, .int .i64 o.n, .int .i64 o.leave, .string o.s, .int .i64 o.turn, .int .i64 o.in_] 64
  have hR := Blk.new ((w.alloc (.cells #[.pointer (some ⟨b, 0, none⟩)] 52)).alloc (.cells #[.int .i64 o.kind, .int .i64 o.n, .int .i64 o.leave, .string o.s, .int .i64 o.turn, .int .i64 o.in_] 64)) [.bool false] 4
  have hE := (hE.alloc (.cells #[.int .i64 o.kind, .int .i64 o.n, .int .i64 o.leave, .string o.s, .int .i64 o.turn, .int .i64 o.in_] 64)).alloc (.cells #[.bool false] 4)
  have hO := hO.alloc (.cells #[.bool false] 4)
  have hf1 : Frm (fun _ => False) w (((w.alloc (.cells #[.pointer (some ⟨b, 0, none⟩)] 52)).alloc (.cells #[.int .i64 o.kind, .int .i64 o.n, .int .i64 o.leave, .string o.s, .int .i64 o.turn, .int .i64 o.in_] 64)).alloc (.cells #[.bool false] 4)) := (((Frm.refl _ w).alloc _).alloc _).alloc _
  simp only [World.size_alloc] at hO hR
  generalize ((w.alloc (.cells #[.pointer (some ⟨b, 0, none⟩)] 52)).alloc (.cells #[.int .i64 o.kind, .int .i64 o.n, .int .i64 o.leave, .string o.s, .int .i64 o.turn, .int .i64 o.in_] 64)).alloc (.cells #[.bool false] 4) = w1 at *
  have hz1 : w.heap.size + 3 ≤ w1.heap.size := by have := hR.lt; omega
  generalize hbE : w.heap.size = bE at *
  generalize hbO : bE + 1 = bO at *
  generalize hbR : bO + 1 = bR at *
  obtain ⟨v, Fp, Fl, hB, hFb, hT, hp, hS, hl⟩ := id h0
  obtain ⟨A, c, rfl⟩ := hS.form
  have hB1 := hB.frm hf1 (fun h => h)
  have hS1 := hS.frm hf1 (fun _ _ h => h)
  obtain ⟨e0, e1, e2⟩ := blk1 hE
  obtain ⟨c0, c1, c2, f0, f1, f2, l1⟩ := blk3 hB1
  have hrd := hS1.rd
  have hon := flatT_one xs
  go_wp2_with (with_reducible refine stop_at 17 rfl ?_)
  unfold Stop
  refine op_appendRd (F := fun _ => False) rfl _ _ _ rfl 56 _ 2 24 Try.underlying57 infoTh rfl (by omega) Sl.nil rfl hrd rfl hon (by simp only [maxLen]; omega) (by omega) ?_
  intro v' w2 hf2 hs2
  rw [Nat.zero_add, List.nil_append] at hs2
  obtain ⟨A2, c2', rfl⟩ := hs2.form
  clear e0 e1 c0 c1 c2 f0 f1 f2
  go_upto_region 5 with fail
  have hz2 := hf2.size
  have hEN : Blk w2 bE [.pointer (some ⟨b, 0, none⟩)] 52 := hE.frm hf2 (fun h => h)
  have hW3 := (Blk.new w2 [.slice A2 xs.length c2'] 57).alloc (.cells #[.int .i64 0] 3)
  have hN3 := Blk.new (w2.alloc (.cells #[.slice A2 xs.length c2'] 57)) [.int .i64 0] 3
  rw [World.size_alloc] at hN3
  have hf3 : Frm (fun _ => False) w2 ((w2.alloc (.cells #[.slice A2 xs.length c2'] 57)).alloc (.cells #[.int .i64 0] 3)) := ((Frm.refl _ w2).alloc _).alloc _
  have hz3 : ((w2.alloc (.cells #[.slice A2 xs.length c2'] 57)).alloc (.cells #[.int .i64 0] 3)).heap.size = w2.heap.size + 2 := by simp
  have hfw : Frm (fun _ => False) w ((w2.alloc (.cells #[.slice A2 xs.length c2'] 57)).alloc (.cells #[.int .i64 0] 3)) := (hf1.trans hf2).trans hf3
  have hsl3 := (hs2.mono (G := fun k => w1.heap.size ≤ k ∧ k < w2.heap.size) (by rintro k (h | h) hk; exact h.elim; exact ⟨h, hk⟩)).frm hf3 (fun _ _ h => h)
  have hI : OVI w F bE bO bR w1.heap.size w2.heap.size (w2.heap.size + 1) (w2.heap.size + 2) b g fv o A2 c2' xs false 0 xs (fun k => F k ∧ k < bE) ((w2.alloc (.cells #[.slice A2 xs.length c2'] 57)).alloc (.cells #[.int .i64 0] 3)) := by
    refine ⟨⟨hbE.symm, hbO.symm, hbR.symm, by omega, hz2, rfl, rfl⟩, hEN.frm hf3 (fun h => h), (hO.frm hf2 (fun h => h)).frm hf3 (fun h => h), (hR.frm hf2 (fun h => h)).frm hf3 (fun h => h), hW3, hsl3, hN3, h0.frm hfw (fun _ _ h => h), fun k hk => .inl (by rw [hbE]; exact hk), hfw.mono (fun _ h _ => h.elim), by omega⟩
  have hT3 := hT.frm hfw (fun _ _ h => h)
  have hx3 := hbx.frm hfw (fun h => h)
  have hxl := hbx.lt
  clear hW3 hN3 hf3 hfw hsl3 hEN hE hO hR hB hS hB1 hS1 hrd hon hs2 e2 l1 hf1 hf2 hT
  generalize (w2.alloc (.cells #[.slice A2 xs.length c2'] 57)).alloc (.cells #[.int .i64 0] 3) = w3 at *
  generalize w1.heap.size = q at *
  generalize hbW : w2.heap.size = bW at *
  generalize hbN : bW + 1 = bN at *
  generalize hBB : bW + 2 = B at *
  go_wp2_with fail
  obtain ⟨y0, y1, y2⟩ := blk1 hx3
  have hG0 : Hid (∀ k, (F k ∧ k < bE) → k < bE) := fun k h => h.2
  generalize hGG : (fun k => F k ∧ k < bE) = G0 at *
  have HG0 : Hid (∀ k, G0 k → k < bE) := by subst hGG; exact fun k h => h.2
  obtain ⟨pk, hpk⟩ : ∃ pk, pickN o.turn 4 = pk := ⟨_, rfl⟩
  obtain ⟨pl, hpl⟩ : ∃ pl, pickN o.leave 9 = pl := ⟨_, rfl⟩
  have HPK := Lib.hid (fun w => hpk ▸ pick_calls o.turn 4 w ho.t0 ho.t1 (by omega) (by omega))
  have HPL := Lib.hid (fun w => hpl ▸ pick_calls o.leave 9 w ho.l0 ho.l1 (by omega) (by omega))
  clear hpk hpl
  have hI3 := hI
  clear hI
  refine (wpIn_wide (n := 9)).1 ?_
  refine capture ?_
  intro fr hfr
  refine wpIn_rangeFunc_ownH (F := Fence.wide) (n := 9) rfl (by omega) (gf := 42) (lb := #[.pointer (some ⟨bx, 0, none⟩)]) (by subst hfr; rfl) trivial (enters_of Try.func42 (by kernel_rfl) rfl)
    (all1_stops 8 (by omega) Fp g bx w3.heap.size xs w3 hT3 y0 y2 (by omega) (Nat.le_refl _)) (fun h k => KpB.trans h k) (fun W l o o' => KpB.turn W l o o') (Below.refl _ _) (fun _ => rfl)
    (fun pre w' => (pre <+: xs.reverse) ∧ ∃ ys G, OVI w F bE bO bR q bW bN B b g fv o A2 c2' xs false pre.length ys G w' ∧ ys.length ≤ xs.length + 1 ∧ (pre.length ≤ pk → ys = xs ∧ G = G0))
    (fun c pre w' => c = .ret ∧ (pre <+: xs.reverse → ∃ k ys G, OVI w F bE bO bR q bW bN B b g fv o A2 c2' xs true k ys G w' ∧ ys.length ≤ xs.length + 1))
    ?own ?ownx ⟨List.nil_prefix, xs, G0, hI3, by omega, fun _ => ⟨rfl, rfl⟩⟩
    (fun x a' w' => ∃ Bx, B ≤ Bx ∧ Blk w' Bx x.cells 56 ∧ a' = ⟨(fr.setIfInBounds 19 x.val).setIfInBounds 9 (.pointer (some ⟨Bx, 0, none⟩)), []⟩) ?ownA ?assign ?body ?done ?stop
  case own =>
    rintro pre w' W' row ⟨h1, ys, G, h2, h3⟩ hg hr
    exact ⟨h1, ys, G, h2.kept hg (fun r e => ⟨by rw [← hz3]; exact (hr r e).1, (hr r e).2⟩), h3⟩
  case ownx =>
    rintro cc pre w' W' row ⟨h1, h2⟩ hg hr
    refine ⟨h1, fun hp => ?_⟩
    obtain ⟨k, ys, G, h3, h4⟩ := h2 hp
    exact ⟨k, ys, G, h3.kept hg (fun r e => ⟨by rw [← hz3]; exact (hr r e).1, (hr r e).2⟩), h4⟩
  case ownA =>
    rintro x a' s A B row ⟨Bx, h1, h2, h3⟩ hg hr
    exact ⟨Bx, h1, h2.kept hg (fun r e => (hr r e).2), h3⟩
  case assign =>
    rintro l pre ⟨xn, xt⟩ w' K ⟨hp, ys, G, hI, h3⟩ hK
    subst hfr
    have hs := hI.sz
    dsimp only [Th.val]
    gi_wp2
    refine hK _ _ ((KeepsOthers.alloc _ _).from _) (KpB.of_frm (S := fun _ => False) ((Frm.refl _ _).alloc _) (fun _ h _ => h.elim)) ⟨hp, ys, G, hI.world ((Frm.refl _ _).alloc _), h3⟩ ⟨w'.heap.size, by omega, Blk.new _ _ _, rfl⟩
  case body =>
    rintro l pre ⟨xn, xt⟩ a' w' hl hr ⟨hp, ys, G, hI, hyl, hmid⟩ ⟨Bx, hBx, hX, rfl⟩ hlt
    subst hfr
    have HORD := Lib.hid hI.ord
    have HMID := Lib.hid hmid
    have hsz := hI.sz
    clear hmid y0 y1
    obtain ⟨n0, n1, n2⟩ := blk1 hI.n
    obtain ⟨w0, w1', w2'⟩ := blk1 hI.wz
    obtain ⟨r0, r1, r2⟩ := blk1 hI.r
    obtain ⟨x0, x1, _, _, x2⟩ := blk2 hX
    obtain ⟨e0, e1, e2⟩ := blk1 hI.e
    obtain ⟨o0, o1, o2, o3, o4, o5, o6⟩ := blk6 hI.o
    dsimp only [Th.val]
    have hkl : xs.length - 1 - pre.length < xs.length := by omega
    have hk1 : (xs.length : Int) - 1 - (pre.length : Int) = ((xs.length - 1 - pre.length : Nat) : Int) := by omega
    have hw1 : IntKind.i64.wrap ((xs.length : Int) - 1) = (xs.length : Int) - 1 := IntWalk.i64_in _ (by omega)
    have hw2 : IntKind.i64.wrap ((xs.length : Int) - 1 - (pre.length : Int)) = ((xs.length - 1 - pre.length : Nat) : Int) := by rw [IntWalk.i64_in _ (by omega)]; exact hk1
    have hge : decide ((xs.length : Int) ≤ (pre.length : Int)) = false := decide_eq_false (by omega)
    have hge2 : decide (xs.length ≤ pre.length) = false := decide_eq_false (by omega)
    generalize hkk : xs.length - 1 - pre.length = kk at *
    have HKK := Lib.hid hkk
    clear hkk
    obtain ⟨⟨yn, yt⟩, hy⟩ : ∃ y, xs[kk]? = some y := ⟨_, List.getElem?_eq_getElem hkl⟩
    obtain ⟨bq, oq, rfl, hbl, d0, d1⟩ := hI.sl.rd.th kk _ hy
    simp only at d0 d1
    have HY := Lib.hid hy
    clear hy
    have hmix : Try.prog.follows .mixedOrders = true := by kernel_rfl
    gi_wp2
    by_cases he : (xn == yn && (xt.toList == yt.toList)) = true
    · refine region_quiet_round (F := Fence.wide) rfl (by kernel_rfl) (by kernel_rfl) (by rfl) ?_
      repeat (gi_big_quiet_step (fail))
      refine wpQuietIn_nil ?_
      rintro _ ⟨nq, rfl⟩
      have he' := he
      simp only [Bool.and_eq_true, beq_iff_eq] at he'
      have HE := Lib.hid he'
      clear he he'
      gi_wp2
      by_cases hi : o.in_ = 0
      · rw [hi] at o5
        refine region_quiet_round (F := Fence.wide) rfl (by kernel_rfl) (by kernel_rfl) (by rfl) ?_
        repeat (gi_big_quiet_step ((refine (callsIn_wide.2 (HPK.out _)).mono ?_; rintro e w7 ⟨rfl, rfl⟩; exact ⟨rfl, _, rfl⟩)))
        refine wpQuietIn_nil ?_
        rintro _ ⟨nq4, rfl⟩
        have hI5 := (hI.world ((Frm.refl _ w').drewN nq)).world ((Frm.refl _ _).drewN nq4)
        have hf5 : Frm (fun k => k < B) w' ((w'.drewN nq).drewN nq4) := ((Frm.refl _ w').drewN _).drewN _
        clear n0 n1 r0 r1 o0 o1 o2 o3 o4 o5 w0 w1' e0 e1 x0 x1 d0 d1
        generalize (w'.drewN nq).drewN nq4 = w5 at *
        have hyl5 := hyl
        have hmid5 : pre.length + 1 ≤ pk → ys = xs ∧ G = G0 := fun h => HMID.out (by omega)
        obtain ⟨n0, n1, n2⟩ := blk1 hI5.n
        obtain ⟨r0, r1, r2⟩ := blk1 hI5.r
        obtain ⟨_, _, o2, _, _, _, _⟩ := blk6 hI5.o
        have hI6 := hI5.count (pre.length + 1)
        rw [show ((pre.length + 1 : Nat) : Int) = (pre.length : Int) + 1 by omega] at hI6
        have hf6 : Frm (fun k => k < B) w' (w5.setCell ⟨bN, 0, none⟩ (.int .i64 ((pre.length : Int) + 1))) := hf5.set bN 0 _ (fun _ => by have := HORD.out; omega)
        gi_wp2
        clear n0 n1 r0 r1 o2
        generalize w5.setCell ⟨bN, 0, none⟩ (.int .i64 ((pre.length : Int) + 1)) = w6 at *
        obtain ⟨n0, n1, n2⟩ := blk1 hI6.n
        obtain ⟨r0, r1, r2⟩ := blk1 hI6.r
        obtain ⟨_, _, o2, _, _, _, _⟩ := blk6 hI6.o
        refine region_quiet_round (F := Fence.wide) rfl (by kernel_rfl) (by kernel_rfl) (by rfl) ?_
        repeat (gi_big_quiet_step ((refine (callsIn_wide.2 (HPL.out _)).mono ?_; rintro e w7 ⟨rfl, rfl⟩; exact ⟨rfl, _, rfl⟩)))
        refine wpQuietIn_nil ?_
        rintro _ ⟨nq5, rfl⟩
        by_cases hpl : (pre.length : Int) + 1 = (pl : Int)
        · gi_wp2
          have hf7 : Frm (fun k => k < B) w' ((w6.drewN nq5).setCell ⟨bR, 0, none⟩ (.bool true)) := (hf6.drewN _).set bR 0 _ (fun _ => by have := HORD.out; omega)
          exact ⟨keepsFrom_of hf7 (fun k e _ => by omega), rfl, fun hpre => ⟨_, _, _, (hI6.world ((Frm.refl _ w6).drewN nq5)).res true, hyl5⟩⟩
        · gi_wp2
          have hf7 : Frm (fun k => k < B) w' (w6.drewN nq5) := hf6.drewN _
          refine ⟨keepsFrom_of hf7 (fun k e _ => by omega), KpB.of_frm hf7 (fun k e _ => by omega), prefix_snoc hp ?_, _, _, by rw [List.length_append, List.length_singleton]; exact hI6.world ((Frm.refl _ w6).drewN nq5), hyl5, by rw [List.length_append, List.length_singleton]; exact hmid5⟩
          rw [rev_at rfl hlt HKK.out, HE.out.1, bytes_eq HE.out.2]; exact HY.out
      · have hi1 : (o.in_ != 0) = true := by simpa using hi
        by_cases hn : pre.length = pk
        · have hn1 : ((pre.length : Int) == (pk : Int)) = true := by simp [hn]
          have hn2 : (pre.length : Int) = (pk : Int) := by omega
          have HNK := Lib.hid hn
          obtain ⟨rfl, rfl⟩ := HMID.out (by omega)
          have hmid5 : pre.length + 1 ≤ pk → ys = ys ∧ G = G := fun h => by omega
          clear hn
          refine region_quiet_round (F := Fence.wide) rfl (by kernel_rfl) (by kernel_rfl) (by rfl) ?_
          repeat (gi_big_quiet_step ((refine (callsIn_wide.2 (HPK.out _)).mono ?_; rintro e w7 ⟨rfl, rfl⟩; exact ⟨rfl, _, rfl⟩)))
          refine wpQuietIn_nil ?_
          rintro _ ⟨nq4, rfl⟩
          have hI5 := (hI.world ((Frm.refl _ w').drewN nq)).world ((Frm.refl _ _).drewN nq4)
          have hf5 : Frm (fun k => k < B) w' ((w'.drewN nq).drewN nq4) := ((Frm.refl _ w').drewN _).drewN _
          clear n0 n1 r0 r1 o0 o1 o2 o3 o4 o5 w0 w1' e0 e1 x0 x1 d0 d1
          generalize (w'.drewN nq).drewN nq4 = w5 at *
          clear hn1 hn2
          by_cases h6 : o.in_ = 6
          · obtain ⟨e0, e1, e2⟩ := blk1 hI5.e
            obtain ⟨o0, o1, o2, o3, o4, o5, o6⟩ := blk6 hI5.o
            rw [h6] at o5
            obtain ⟨v5, Fp5, Fl5, hB5, _⟩ := id hI5.pw
            obtain ⟨p0, _, _, _, _, _, p5⟩ := blk3 hB5
            have HIN := Lib.hid (hin hi)
            obtain ⟨Post, HPo⟩ : ∃ Post : World → Prop, Hid (Post = fun w' => ∃ ys9 G9, ys9.length ≤ ys.length + 1 ∧ OVI w F bE bO bR q bW bN B b g fv o (some ⟨bq, oq, none⟩) c2' ys false pre.length ys9 G9 w' ∧ Frm (fun k => k < B) w5 w') := ⟨_, rfl⟩
            have HINX : Hid (∀ (w1 : World) (bz : Nat), Frm (fun _ => False) w5 w1 → Blk w1 bz [.pointer (some ⟨g, 0, none⟩)] 53 →
                Calls Try.prog 29 #[.pointer (some ⟨b, 0, none⟩), .func (.func 42) #[] #[.pointer (some ⟨bz, 0, none⟩)], .agg #[.int .i64 0, .int .i64 0, .int .i64 o.leave, .string ⟨#[]⟩, .int .i64 0, .int .i64 0]] w1 fun e w' => e = .returned (.bool true) ∧ Post w') := by
              intro w1 bz hf hbz
              refine (HIN.out G b g bz fv ys w1 (hI5.pw.frm hf (fun _ _ h => h)) hbz (by omega)).mono ?_
              rintro e w' ⟨rfl, ys9, hyl9, hpw9, hf9⟩
              refine ⟨rfl, ?_⟩
              rw [HPo.out]
              exact ⟨ys9, _, hyl9, (hI5.world hf).mid hf9 hpw9 (fun k h => h), (hf.mono (fun _ h _ => h.elim)).then hf9 (fun k hk _ => by have := HG0.out k hk; have := HORD.out; omega)⟩
            clear h6 hi1 hi HIN
            gi_wp2
            gi_cut [10] from 49 (fun c wx => c = .bool true ∧ Post wx)
            case first =>
              clear ho hin hbx hO hbE hz0 hE hbO hbR hFb hxl hx3 hz1 hbW hz2 hbN hBB hz3 y2 hG0 HPK HPL hl hr hX HORD hsz n2 w2' r2 x2 hbl HE h hb hT3 hp hyl hlt hw1 hge hge2 hkl hk1 hw2 HKK hI HY hGG HG0 h0 hI3 hI5 hf5 e1 o0 o1 o3 o4 o5 hB5 HMID hmid5 HPo
              refine wpIn_region_any hmix (wpAnyIn_round rfl (fun o ho => by revert o ho; decide) _ _ _ _ ?_)
              change wpAnyIn _ _ _ _ _ _ _ _ _ (World.drew _)
              refine wpAnyIn_take (i := 6) (v := ?_) rfl rfl (by kernel_rfl) (by kernel_rfl) (by kernel_rfl) (fun _ _ _ h => h) ⟨Or.inl ⟨by rfl, ?_⟩, fun _ => rfl⟩ ?_
              rotate_left
              · intro w; go_simp; try with_reducible rfl
              refine wpAnyIn_ready (rs := [0, 1, 7]) (by kernel_rfl) (by simp) ?_
              refine AllReadyIn.cons rfl (fun K hK => ?_) ?_
              · go_simp
                try (refine hK _ _ ?_)
                try clear hK K
                refine wpAnyIn_ready (rs := [1, 7]) (by kernel_rfl) (by simp) ?_
                refine AllReadyIn.cons rfl (fun K hK => ?_) ?_
                · go_simp
                  try (refine hK _ _ ?_)
                  try clear hK K
                  refine wpAnyIn_take (i := 2) (v := ?_) rfl rfl (by kernel_rfl) (by kernel_rfl) (by kernel_rfl) (fun _ _ _ h => h) ⟨Or.inl ⟨by rfl, ?_⟩, fun _ => rfl⟩ ?_
                  rotate_left
                  · intro w; go_simp; try with_reducible rfl
                  refine wpAnyIn_take (i := 3) (v := ?_) rfl rfl (by kernel_rfl) (by kernel_rfl) (by kernel_rfl) (fun _ _ _ h => h) ⟨Or.inl ⟨by rfl, ?_⟩, fun _ => rfl⟩ ?_
                  rotate_left
                  · intro w; go_simp; try with_reducible rfl
                  refine wpAnyIn_ready (rs := [4, 7]) (by kernel_rfl) (by simp) ?_
                  refine AllReadyIn.cons rfl (fun K hK => ?_) ?_
                  · go_simp
                    try (refine hK _ _ ?_)
                    try clear hK K
                    refine wpAnyIn_ready (rs := [5, 7]) (by kernel_rfl) (by simp) ?_
                    refine AllReadyIn.cons rfl (fun K hK => ?_) ?_
                    · go_simp
                      gi_wp2_with ((gi_at_call 28; refine (callsIn_wide.2 (allT g _)).mono ?_; rintro e w8 ⟨rfl, rfl⟩))
                      try (refine hK _ _ ?_)
                      try clear hK K
                      refine wpAnyIn_ready (rs := [7]) (by kernel_rfl) (by simp) ?_
                      refine AllReadyIn.cons rfl (fun K hK => ?_) ?_
                      · go_simp
                        try (refine hK _ _ ?_)
                        try clear hK K
                        refine wpAnyIn_take (i := 8) (v := ?_) rfl rfl (by kernel_rfl) (by kernel_rfl) (by kernel_rfl) (fun _ _ _ h => h) ⟨Or.inl ⟨by rfl, ?_⟩, fun _ => rfl⟩ ?_
                        rotate_left
                        · intro w; go_simp; try with_reducible rfl
                        refine wpAnyIn_ready (rs := [9]) (by kernel_rfl) (by simp) ?_
                        refine AllReadyIn.cons rfl (fun K hK => ?_) ?_
                        · go_simp
                          gi_wp2_with ((gi_at_call 29; refine (callsIn_wide.2 (HINX.out _ _ (((Frm.refl _ _).drew).alloc _) (Blk.new w5.drew [.pointer (some ⟨g, 0, none⟩)] 53))).mono ?_; rintro e w9 ⟨rfl, hPo⟩))
                          try (refine hK _ _ ?_)
                          try clear hK K
                          refine wpAnyIn_take (i := 10) (v := ?_) rfl rfl (by kernel_rfl) (by kernel_rfl) (by kernel_rfl) (fun _ _ _ h => h) ⟨Or.inl ⟨by rfl, ?_⟩, fun _ => rfl⟩ ?_
                          rotate_left
                          · intro w; go_simp; try with_reducible rfl
                          refine wpAnyIn_done (by kernel_rfl) ?_ _
                          gi_wp2
                          gi_meet
                          exact ⟨rfl, hPo⟩
                        exact AllReadyIn.nil
                      exact AllReadyIn.nil
                    refine AllReadyIn.cons rfl (fun K hK => ?_) ?_
                    · go_simp
                      try (refine hK _ _ ?_)
                      try clear hK K
                      refine wpAnyIn_take (i := 8) (v := ?_) rfl rfl (by kernel_rfl) (by kernel_rfl) (by kernel_rfl) (fun _ _ _ h => h) ⟨Or.inl ⟨by rfl, ?_⟩, fun _ => rfl⟩ ?_
                      rotate_left
                      · intro w; go_simp; try with_reducible rfl
                      refine wpAnyIn_ready (rs := [5]) (by kernel_rfl) (by simp) ?_
                      refine AllReadyIn.cons rfl (fun K hK => ?_) ?_
                      · go_simp
                        gi_wp2_with ((gi_at_call 28; refine (callsIn_wide.2 (allT g _)).mono ?_; rintro e w8 ⟨rfl, rfl⟩))
                        try (refine hK _ _ ?_)
                        try clear hK K
                        refine wpAnyIn_ready (rs := [9]) (by kernel_rfl) (by simp) ?_
                        refine AllReadyIn.cons rfl (fun K hK => ?_) ?_
                        · go_simp
                          gi_wp2_with ((gi_at_call 29; refine (callsIn_wide.2 (HINX.out _ _ (((Frm.refl _ _).drew).alloc _) (Blk.new w5.drew [.pointer (some ⟨g, 0, none⟩)] 53))).mono ?_; rintro e w9 ⟨rfl, hPo⟩))
                          try (refine hK _ _ ?_)
                          try clear hK K
                          refine wpAnyIn_take (i := 10) (v := ?_) rfl rfl (by kernel_rfl) (by kernel_rfl) (by kernel_rfl) (fun _ _ _ h => h) ⟨Or.inl ⟨by rfl, ?_⟩, fun _ => rfl⟩ ?_
                          rotate_left
                          · intro w; go_simp; try with_reducible rfl
                          refine wpAnyIn_done (by kernel_rfl) ?_ _
                          gi_wp2
                          gi_meet
                          exact ⟨rfl, hPo⟩
                        exact AllReadyIn.nil
                      exact AllReadyIn.nil
                    exact AllReadyIn.nil
                  refine AllReadyIn.cons rfl (fun K hK => ?_) ?_
                  · go_simp
                    try (refine hK _ _ ?_)
                    try clear hK K
                    refine wpAnyIn_take (i := 8) (v := ?_) rfl rfl (by kernel_rfl) (by kernel_rfl) (by kernel_rfl) (fun _ _ _ h => h) ⟨Or.inl ⟨by rfl, ?_⟩, fun _ => rfl⟩ ?_
                    rotate_left
                    · intro w; go_simp; try with_reducible rfl
                    refine wpAnyIn_ready (rs := [4]) (by kernel_rfl) (by simp) ?_
                    refine AllReadyIn.cons rfl (fun K hK => ?_) ?_
                    · go_simp
                      try (refine hK _ _ ?_)
                      try clear hK K
                      refine wpAnyIn_ready (rs := [5]) (by kernel_rfl) (by simp) ?_
                      refine AllReadyIn.cons rfl (fun K hK => ?_) ?_
                      · go_simp
                        gi_wp2_with ((gi_at_call 28; refine (callsIn_wide.2 (allT g _)).mono ?_; rintro e w8 ⟨rfl, rfl⟩))
                        try (refine hK _ _ ?_)
                        try clear hK K
                        refine wpAnyIn_ready (rs := [9]) (by kernel_rfl) (by simp) ?_
                        refine AllReadyIn.cons rfl (fun K hK => ?_) ?_
                        · go_simp
                          gi_wp2_with ((gi_at_call 29; refine (callsIn_wide.2 (HINX.out _ _ (((Frm.refl _ _).drew).alloc _) (Blk.new w5.drew [.pointer (some ⟨g, 0, none⟩)] 53))).mono ?_; rintro e w9 ⟨rfl, hPo⟩))
                          try (refine hK _ _ ?_)
                          try clear hK K
                          refine wpAnyIn_take (i := 10) (v := ?_) rfl rfl (by kernel_rfl) (by kernel_rfl) (by kernel_rfl) (fun _ _ _ h => h) ⟨Or.inl ⟨by rfl, ?_⟩, fun _ => rfl⟩ ?_
                          rotate_left
                          · intro w; go_simp; try with_reducible rfl
                          refine wpAnyIn_done (by kernel_rfl) ?_ _
                          gi_wp2
                          gi_meet
                          exact ⟨rfl, hPo⟩
                        exact AllReadyIn.nil
                      exact AllReadyIn.nil
                    exact AllReadyIn.nil
                  exact AllReadyIn.nil
                refine AllReadyIn.cons rfl (fun K hK => ?_) ?_
                · go_simp
                  try (refine hK _ _ ?_)
                  try clear hK K
                  refine wpAnyIn_take (i := 8) (v := ?_) rfl rfl (by kernel_rfl) (by kernel_rfl) (by kernel_rfl) (fun _ _ _ h => h) ⟨Or.inl ⟨by rfl, ?_⟩, fun _ => rfl⟩ ?_
                  rotate_left
                  · intro w; go_simp; try with_reducible rfl
                  refine wpAnyIn_ready (rs := [1]) (by kernel_rfl) (by simp) ?_
                  refine AllReadyIn.cons rfl (fun K hK => ?_) ?_
                  · go_simp
                    try (refine hK _ _ ?_)
                    try clear hK K
                    refine wpAnyIn_take (i := 2) (v := ?_) rfl rfl (by kernel_rfl) (by kernel_rfl) (by kernel_rfl) (fun _ _ _ h => h) ⟨Or.inl ⟨by rfl, ?_⟩, fun _ => rfl⟩ ?_
                    rotate_left
                    · intro w; go_simp; try with_reducible rfl
                    refine wpAnyIn_take (i := 3) (v := ?_) rfl rfl (by kernel_rfl) (by kernel_rfl) (by kernel_rfl) (fun _ _ _ h => h) ⟨Or.inl ⟨by rfl, ?_⟩, fun _ => rfl⟩ ?_
                    rotate_left
                    · intro w; go_simp; try with_reducible rfl
                    refine wpAnyIn_ready (rs := [4]) (by kernel_rfl) (by simp) ?_
                    refine AllReadyIn.cons rfl (fun K hK => ?_) ?_
                    · go_simp
                      try (refine hK _ _ ?_)
                      try clear hK K
                      refine wpAnyIn_ready (rs := [5]) (by kernel_rfl) (by simp) ?_
                      refine AllReadyIn.cons rfl (fun K hK => ?_) ?_
                      · go_simp
                        gi_wp2_with ((gi_at_call 28; refine (callsIn_wide.2 (allT g _)).mono ?_; rintro e w8 ⟨rfl, rfl⟩))
                        try (refine hK _ _ ?_)
                        try clear hK K
                        refine wpAnyIn_ready (rs := [9]) (by kernel_rfl) (by simp) ?_
                        refine AllReadyIn.cons rfl (fun K hK => ?_) ?_
                        · go_simp
                          gi_wp2_with ((gi_at_call 29; refine (callsIn_wide.2 (HINX.out _ _ (((Frm.refl _ _).drew).alloc _) (Blk.new w5.drew [.pointer (some ⟨g, 0, none⟩)] 53))).mono ?_; rintro e w9 ⟨rfl, hPo⟩))
                          try (refine hK _ _ ?_)
                          try clear hK K
                          refine wpAnyIn_take (i := 10) (v := ?_) rfl rfl (by kernel_rfl) (by kernel_rfl) (by kernel_rfl) (fun _ _ _ h => h) ⟨Or.inl ⟨by rfl, ?_⟩, fun _ => rfl⟩ ?_
                          rotate_left
                          · intro w; go_simp; try with_reducible rfl
                          refine wpAnyIn_done (by kernel_rfl) ?_ _
                          gi_wp2
                          gi_meet
                          exact ⟨rfl, hPo⟩
                        exact AllReadyIn.nil
                      exact AllReadyIn.nil
                    exact AllReadyIn.nil
                  exact AllReadyIn.nil
                exact AllReadyIn.nil
              refine AllReadyIn.cons rfl (fun K hK => ?_) ?_
              · go_simp
                try (refine hK _ _ ?_)
                try clear hK K
                refine wpAnyIn_take (i := 2) (v := ?_) rfl rfl (by kernel_rfl) (by kernel_rfl) (by kernel_rfl) (fun _ _ _ h => h) ⟨Or.inl ⟨by rfl, ?_⟩, fun _ => rfl⟩ ?_
                rotate_left
                · intro w; go_simp; try with_reducible rfl
                refine wpAnyIn_take (i := 3) (v := ?_) rfl rfl (by kernel_rfl) (by kernel_rfl) (by kernel_rfl) (fun _ _ _ h => h) ⟨Or.inl ⟨by rfl, ?_⟩, fun _ => rfl⟩ ?_
                rotate_left
                · intro w; go_simp; try with_reducible rfl
                refine wpAnyIn_ready (rs := [0, 4, 7]) (by kernel_rfl) (by simp) ?_
                refine AllReadyIn.cons rfl (fun K hK => ?_) ?_
                · go_simp
                  try (refine hK _ _ ?_)
                  try clear hK K
                  refine wpAnyIn_ready (rs := [4, 7]) (by kernel_rfl) (by simp) ?_
                  refine AllReadyIn.cons rfl (fun K hK => ?_) ?_
                  · go_simp
                    try (refine hK _ _ ?_)
                    try clear hK K
                    refine wpAnyIn_ready (rs := [5, 7]) (by kernel_rfl) (by simp) ?_
                    refine AllReadyIn.cons rfl (fun K hK => ?_) ?_
                    · go_simp
                      gi_wp2_with ((gi_at_call 28; refine (callsIn_wide.2 (allT g _)).mono ?_; rintro e w8 ⟨rfl, rfl⟩))
                      try (refine hK _ _ ?_)
                      try clear hK K
                      refine wpAnyIn_ready (rs := [7]) (by kernel_rfl) (by simp) ?_
                      refine AllReadyIn.cons rfl (fun K hK => ?_) ?_
                      · go_simp
                        try (refine hK _ _ ?_)
                        try clear hK K
                        refine wpAnyIn_take (i := 8) (v := ?_) rfl rfl (by kernel_rfl) (by kernel_rfl) (by kernel_rfl) (fun _ _ _ h => h) ⟨Or.inl ⟨by rfl, ?_⟩, fun _ => rfl⟩ ?_
                        rotate_left
                        · intro w; go_simp; try with_reducible rfl
                        refine wpAnyIn_ready (rs := [9]) (by kernel_rfl) (by simp) ?_
                        refine AllReadyIn.cons rfl (fun K hK => ?_) ?_
                        · go_simp
                          gi_wp2_with ((gi_at_call 29; refine (callsIn_wide.2 (HINX.out _ _ (((Frm.refl _ _).drew).alloc _) (Blk.new w5.drew [.pointer (some ⟨g, 0, none⟩)] 53))).mono ?_; rintro e w9 ⟨rfl, hPo⟩))
                          try (refine hK _ _ ?_)
                          try clear hK K
                          refine wpAnyIn_take (i := 10) (v := ?_) rfl rfl (by kernel_rfl) (by kernel_rfl) (by kernel_rfl) (fun _ _ _ h => h) ⟨Or.inl ⟨by rfl, ?_⟩, fun _ => rfl⟩ ?_
                          rotate_left
                          · intro w; go_simp; try with_reducible rfl
                          refine wpAnyIn_done (by kernel_rfl) ?_ _
                          gi_wp2
                          gi_meet
                          exact ⟨rfl, hPo⟩
                        exact AllReadyIn.nil
                      exact AllReadyIn.nil
                    refine AllReadyIn.cons rfl (fun K hK => ?_) ?_
                    · go_simp
                      try (refine hK _ _ ?_)
                      try clear hK K
                      refine wpAnyIn_take (i := 8) (v := ?_) rfl rfl (by kernel_rfl) (by kernel_rfl) (by kernel_rfl) (fun _ _ _ h => h) ⟨Or.inl ⟨by rfl, ?_⟩, fun _ => rfl⟩ ?_
                      rotate_left
                      · intro w; go_simp; try with_reducible rfl
                      refine wpAnyIn_ready (rs := [5]) (by kernel_rfl) (by simp) ?_
                      refine AllReadyIn.cons rfl (fun K hK => ?_) ?_
                      · go_simp
                        gi_wp2_with ((gi_at_call 28; refine (callsIn_wide.2 (allT g _)).mono ?_; rintro e w8 ⟨rfl, rfl⟩))
                        try (refine hK _ _ ?_)
                        try clear hK K
                        refine wpAnyIn_ready (rs := [9]) (by kernel_rfl) (by simp) ?_
                        refine AllReadyIn.cons rfl (fun K hK => ?_) ?_
                        · go_simp
                          gi_wp2_with ((gi_at_call 29; refine (callsIn_wide.2 (HINX.out _ _ (((Frm.refl _ _).drew).alloc _) (Blk.new w5.drew [.pointer (some ⟨g, 0, none⟩)] 53))).mono ?_; rintro e w9 ⟨rfl, hPo⟩))
                          try (refine hK _ _ ?_)
                          try clear hK K
                          refine wpAnyIn_take (i := 10) (v := ?_) rfl rfl (by kernel_rfl) (by kernel_rfl) (by kernel_rfl) (fun _ _ _ h => h) ⟨Or.inl ⟨by rfl, ?_⟩, fun _ => rfl⟩ ?_
                          rotate_left
                          · intro w; go_simp; try with_reducible rfl
                          refine wpAnyIn_done (by kernel_rfl) ?_ _
                          gi_wp2
                          gi_meet
                          exact ⟨rfl, hPo⟩
                        exact AllReadyIn.nil
                      exact AllReadyIn.nil
                    exact AllReadyIn.nil
                  refine AllReadyIn.cons rfl (fun K hK => ?_) ?_
                  · go_simp
                    try (refine hK _ _ ?_)
                    try clear hK K
                    refine wpAnyIn_take (i := 8) (v := ?_) rfl rfl (by kernel_rfl) (by kernel_rfl) (by kernel_rfl) (fun _ _ _ h => h) ⟨Or.inl ⟨by rfl, ?_⟩, fun _ => rfl⟩ ?_
                    rotate_left
                    · intro w; go_simp; try with_reducible rfl
                    refine wpAnyIn_ready (rs := [4]) (by kernel_rfl) (by simp) ?_
                    refine AllReadyIn.cons rfl (fun K hK => ?_) ?_
                    · go_simp
                      try (refine hK _ _ ?_)
                      try clear hK K
                      refine wpAnyIn_ready (rs := [5]) (by kernel_rfl) (by simp) ?_
                      refine AllReadyIn.cons rfl (fun K hK => ?_) ?_
                      · go_simp
                        gi_wp2_with ((gi_at_call 28; refine (callsIn_wide.2 (allT g _)).mono ?_; rintro e w8 ⟨rfl, rfl⟩))
                        try (refine hK _ _ ?_)
                        try clear hK K
                        refine wpAnyIn_ready (rs := [9]) (by kernel_rfl) (by simp) ?_
                        refine AllReadyIn.cons rfl (fun K hK => ?_) ?_
                        · go_simp
                          gi_wp2_with ((gi_at_call 29; refine (callsIn_wide.2 (HINX.out _ _ (((Frm.refl _ _).drew).alloc _) (Blk.new w5.drew [.pointer (some ⟨g, 0, none⟩)] 53))).mono ?_; rintro e w9 ⟨rfl, hPo⟩))
                          try (refine hK _ _ ?_)
                          try clear hK K
                          refine wpAnyIn_take (i := 10) (v := ?_) rfl rfl (by kernel_rfl) (by kernel_rfl) (by kernel_rfl) (fun _ _ _ h => h) ⟨Or.inl ⟨by rfl, ?_⟩, fun _ => rfl⟩ ?_
                          rotate_left
                          · intro w; go_simp; try with_reducible rfl
                          refine wpAnyIn_done (by kernel_rfl) ?_ _
                          gi_wp2
                          gi_meet
                          exact ⟨rfl, hPo⟩
                        exact AllReadyIn.nil
                      exact AllReadyIn.nil
                    exact AllReadyIn.nil
                  exact AllReadyIn.nil
                refine AllReadyIn.cons rfl (fun K hK => ?_) ?_
                · go_simp
                  try (refine hK _ _ ?_)
                  try clear hK K
                  refine wpAnyIn_ready (rs := [0, 5, 7]) (by kernel_rfl) (by simp) ?_
                  refine AllReadyIn.cons rfl (fun K hK => ?_) ?_
                  · go_simp
                    try (refine hK _ _ ?_)
                    try clear hK K
                    refine wpAnyIn_ready (rs := [5, 7]) (by kernel_rfl) (by simp) ?_
                    refine AllReadyIn.cons rfl (fun K hK => ?_) ?_
                    · go_simp
                      gi_wp2_with ((gi_at_call 28; refine (callsIn_wide.2 (allT g _)).mono ?_; rintro e w8 ⟨rfl, rfl⟩))
                      try (refine hK _ _ ?_)
                      try clear hK K
                      refine wpAnyIn_ready (rs := [7]) (by kernel_rfl) (by simp) ?_
                      refine AllReadyIn.cons rfl (fun K hK => ?_) ?_
                      · go_simp
                        try (refine hK _ _ ?_)
                        try clear hK K
                        refine wpAnyIn_take (i := 8) (v := ?_) rfl rfl (by kernel_rfl) (by kernel_rfl) (by kernel_rfl) (fun _ _ _ h => h) ⟨Or.inl ⟨by rfl, ?_⟩, fun _ => rfl⟩ ?_
                        rotate_left
                        · intro w; go_simp; try with_reducible rfl
                        refine wpAnyIn_ready (rs := [9]) (by kernel_rfl) (by simp) ?_
                        refine AllReadyIn.cons rfl (fun K hK => ?_) ?_
                        · go_simp
                          gi_wp2_with ((gi_at_call 29; refine (callsIn_wide.2 (HINX.out _ _ (((Frm.refl _ _).drew).alloc _) (Blk.new w5.drew [.pointer (some ⟨g, 0, none⟩)] 53))).mono ?_; rintro e w9 ⟨rfl, hPo⟩))
                          try (refine hK _ _ ?_)
                          try clear hK K
                          refine wpAnyIn_take (i := 10) (v := ?_) rfl rfl (by kernel_rfl) (by kernel_rfl) (by kernel_rfl) (fun _ _ _ h => h) ⟨Or.inl ⟨by rfl, ?_⟩, fun _ => rfl⟩ ?_
                          rotate_left
                          · intro w; go_simp; try with_reducible rfl
                          refine wpAnyIn_done (by kernel_rfl) ?_ _
                          gi_wp2
                          gi_meet
                          exact ⟨rfl, hPo⟩
                        exact AllReadyIn.nil
                      exact AllReadyIn.nil
                    refine AllReadyIn.cons rfl (fun K hK => ?_) ?_
                    · go_simp
                      try (refine hK _ _ ?_)
                      try clear hK K
                      refine wpAnyIn_take (i := 8) (v := ?_) rfl rfl (by kernel_rfl) (by kernel_rfl) (by kernel_rfl) (fun _ _ _ h => h) ⟨Or.inl ⟨by rfl, ?_⟩, fun _ => rfl⟩ ?_
                      rotate_left
                      · intro w; go_simp; try with_reducible rfl
                      refine wpAnyIn_ready (rs := [5]) (by kernel_rfl) (by simp) ?_
                      refine AllReadyIn.cons rfl (fun K hK => ?_) ?_
                      · go_simp
                        gi_wp2_with ((gi_at_call 28; refine (callsIn_wide.2 (allT g _)).mono ?_; rintro e w8 ⟨rfl, rfl⟩))
                        try (refine hK _ _ ?_)
                        try clear hK K
                        refine wpAnyIn_ready (rs := [9]) (by kernel_rfl) (by simp) ?_
                        refine AllReadyIn.cons rfl (fun K hK => ?_) ?_
                        · go_simp
                          gi_wp2_with ((gi_at_call 29; refine (callsIn_wide.2 (HINX.out _ _ (((Frm.refl _ _).drew).alloc _) (Blk.new w5.drew [.pointer (some ⟨g, 0, none⟩)] 53))).mono ?_; rintro e w9 ⟨rfl, hPo⟩))
                          try (refine hK _ _ ?_)
                          try clear hK K
                          refine wpAnyIn_take (i := 10) (v := ?_) rfl rfl (by kernel_rfl) (by kernel_rfl) (by kernel_rfl) (fun _ _ _ h => h) ⟨Or.inl ⟨by rfl, ?_⟩, fun _ => rfl⟩ ?_
                          rotate_left
                          · intro w; go_simp; try with_reducible rfl
                          refine wpAnyIn_done (by kernel_rfl) ?_ _
                          gi_wp2
                          gi_meet
                          exact ⟨rfl, hPo⟩
                        exact AllReadyIn.nil
                      exact AllReadyIn.nil
                    exact AllReadyIn.nil
                  refine AllReadyIn.cons rfl (fun K hK => ?_) ?_
                  · go_simp
                    gi_wp2_with ((gi_at_call 28; refine (callsIn_wide.2 (allT g _)).mono ?_; rintro e w8 ⟨rfl, rfl⟩))
                    try (refine hK _ _ ?_)
                    try clear hK K
                    refine wpAnyIn_ready (rs := [0, 7]) (by kernel_rfl) (by simp) ?_
                    refine AllReadyIn.cons rfl (fun K hK => ?_) ?_
                    · go_simp
                      try (refine hK _ _ ?_)
                      try clear hK K
                      refine wpAnyIn_ready (rs := [7]) (by kernel_rfl) (by simp) ?_
                      refine AllReadyIn.cons rfl (fun K hK => ?_) ?_
                      · go_simp
                        try (refine hK _ _ ?_)
                        try clear hK K
                        refine wpAnyIn_take (i := 8) (v := ?_) rfl rfl (by kernel_rfl) (by kernel_rfl) (by kernel_rfl) (fun _ _ _ h => h) ⟨Or.inl ⟨by rfl, ?_⟩, fun _ => rfl⟩ ?_
                        rotate_left
                        · intro w; go_simp; try with_reducible rfl
                        refine wpAnyIn_ready (rs := [9]) (by kernel_rfl) (by simp) ?_
                        refine AllReadyIn.cons rfl (fun K hK => ?_) ?_
                        · go_simp
                          gi_wp2_with ((gi_at_call 29; refine (callsIn_wide.2 (HINX.out _ _ (((Frm.refl _ _).drew).alloc _) (Blk.new w5.drew [.pointer (some ⟨g, 0, none⟩)] 53))).mono ?_; rintro e w9 ⟨rfl, hPo⟩))
                          try (refine hK _ _ ?_)
                          try clear hK K
                          refine wpAnyIn_take (i := 10) (v := ?_) rfl rfl (by kernel_rfl) (by kernel_rfl) (by kernel_rfl) (fun _ _ _ h => h) ⟨Or.inl ⟨by rfl, ?_⟩, fun _ => rfl⟩ ?_
                          rotate_left
                          · intro w; go_simp; try with_reducible rfl
                          refine wpAnyIn_done (by kernel_rfl) ?_ _
                          gi_wp2
                          gi_meet
                          exact ⟨rfl, hPo⟩
                        exact AllReadyIn.nil
                      exact AllReadyIn.nil
                    refine AllReadyIn.cons rfl (fun K hK => ?_) ?_
                    · go_simp
                      try (refine hK _ _ ?_)
                      try clear hK K
                      refine wpAnyIn_take (i := 8) (v := ?_) rfl rfl (by kernel_rfl) (by kernel_rfl) (by kernel_rfl) (fun _ _ _ h => h) ⟨Or.inl ⟨by rfl, ?_⟩, fun _ => rfl⟩ ?_
                      rotate_left
                      · intro w; go_simp; try with_reducible rfl
                      refine wpAnyIn_ready (rs := [0]) (by kernel_rfl) (by simp) ?_
                      refine AllReadyIn.cons rfl (fun K hK => ?_) ?_
                      · go_simp
                        try (refine hK _ _ ?_)
                        try clear hK K
                        refine wpAnyIn_ready (rs := [9]) (by kernel_rfl) (by simp) ?_
                        refine AllReadyIn.cons rfl (fun K hK => ?_) ?_
                        · go_simp
                          gi_wp2_with ((gi_at_call 29; refine (callsIn_wide.2 (HINX.out _ _ (((Frm.refl _ _).drew).alloc _) (Blk.new w5.drew [.pointer (some ⟨g, 0, none⟩)] 53))).mono ?_; rintro e w9 ⟨rfl, hPo⟩))
                          try (refine hK _ _ ?_)
                          try clear hK K
                          refine wpAnyIn_take (i := 10) (v := ?_) rfl rfl (by kernel_rfl) (by kernel_rfl) (by kernel_rfl) (fun _ _ _ h => h) ⟨Or.inl ⟨by rfl, ?_⟩, fun _ => rfl⟩ ?_
                          rotate_left
                          · intro w; go_simp; try with_reducible rfl
                          refine wpAnyIn_done (by kernel_rfl) ?_ _
                          gi_wp2
                          gi_meet
                          exact ⟨rfl, hPo⟩
                        exact AllReadyIn.nil
                      exact AllReadyIn.nil
                    exact AllReadyIn.nil
                  refine AllReadyIn.cons rfl (fun K hK => ?_) ?_
                  · go_simp
                    try (refine hK _ _ ?_)
                    try clear hK K
                    refine wpAnyIn_take (i := 8) (v := ?_) rfl rfl (by kernel_rfl) (by kernel_rfl) (by kernel_rfl) (fun _ _ _ h => h) ⟨Or.inl ⟨by rfl, ?_⟩, fun _ => rfl⟩ ?_
                    rotate_left
                    · intro w; go_simp; try with_reducible rfl
                    refine wpAnyIn_ready (rs := [0, 5]) (by kernel_rfl) (by simp) ?_
                    refine AllReadyIn.cons rfl (fun K hK => ?_) ?_
                    · go_simp
                      try (refine hK _ _ ?_)
                      try clear hK K
                      refine wpAnyIn_ready (rs := [5]) (by kernel_rfl) (by simp) ?_
                      refine AllReadyIn.cons rfl (fun K hK => ?_) ?_
                      · go_simp
                        gi_wp2_with ((gi_at_call 28; refine (callsIn_wide.2 (allT g _)).mono ?_; rintro e w8 ⟨rfl, rfl⟩))
                        try (refine hK _ _ ?_)
                        try clear hK K
                        refine wpAnyIn_ready (rs := [9]) (by kernel_rfl) (by simp) ?_
                        refine AllReadyIn.cons rfl (fun K hK => ?_) ?_
                        · go_simp
                          gi_wp2_with ((gi_at_call 29; refine (callsIn_wide.2 (HINX.out _ _ (((Frm.refl _ _).drew).alloc _) (Blk.new w5.drew [.pointer (some ⟨g, 0, none⟩)] 53))).mono ?_; rintro e w9 ⟨rfl, hPo⟩))
                          try (refine hK _ _ ?_)
                          try clear hK K
                          refine wpAnyIn_take (i := 10) (v := ?_) rfl rfl (by kernel_rfl) (by kernel_rfl) (by kernel_rfl) (fun _ _ _ h => h) ⟨Or.inl ⟨by rfl, ?_⟩, fun _ => rfl⟩ ?_
                          rotate_left
                          · intro w; go_simp; try with_reducible rfl
                          refine wpAnyIn_done (by kernel_rfl) ?_ _
                          gi_wp2
                          gi_meet
                          exact ⟨rfl, hPo⟩
                        exact AllReadyIn.nil
                      exact AllReadyIn.nil
                    refine AllReadyIn.cons rfl (fun K hK => ?_) ?_
                    · go_simp
                      gi_wp2_with ((gi_at_call 28; refine (callsIn_wide.2 (allT g _)).mono ?_; rintro e w8 ⟨rfl, rfl⟩))
                      try (refine hK _ _ ?_)
                      try clear hK K
                      refine wpAnyIn_ready (rs := [0]) (by kernel_rfl) (by simp) ?_
                      refine AllReadyIn.cons rfl (fun K hK => ?_) ?_
                      · go_simp
                        try (refine hK _ _ ?_)
                        try clear hK K
                        refine wpAnyIn_ready (rs := [9]) (by kernel_rfl) (by simp) ?_
                        refine AllReadyIn.cons rfl (fun K hK => ?_) ?_
                        · go_simp
                          gi_wp2_with ((gi_at_call 29; refine (callsIn_wide.2 (HINX.out _ _ (((Frm.refl _ _).drew).alloc _) (Blk.new w5.drew [.pointer (some ⟨g, 0, none⟩)] 53))).mono ?_; rintro e w9 ⟨rfl, hPo⟩))
                          try (refine hK _ _ ?_)
                          try clear hK K
                          refine wpAnyIn_take (i := 10) (v := ?_) rfl rfl (by kernel_rfl) (by kernel_rfl) (by kernel_rfl) (fun _ _ _ h => h) ⟨Or.inl ⟨by rfl, ?_⟩, fun _ => rfl⟩ ?_
                          rotate_left
                          · intro w; go_simp; try with_reducible rfl
                          refine wpAnyIn_done (by kernel_rfl) ?_ _
                          gi_wp2
                          gi_meet
                          exact ⟨rfl, hPo⟩
                        exact AllReadyIn.nil
                      exact AllReadyIn.nil
                    exact AllReadyIn.nil
                  exact AllReadyIn.nil
                refine AllReadyIn.cons rfl (fun K hK => ?_) ?_
                · go_simp
                  try (refine hK _ _ ?_)
                  try clear hK K
                  refine wpAnyIn_take (i := 8) (v := ?_) rfl rfl (by kernel_rfl) (by kernel_rfl) (by kernel_rfl) (fun _ _ _ h => h) ⟨Or.inl ⟨by rfl, ?_⟩, fun _ => rfl⟩ ?_
                  rotate_left
                  · intro w; go_simp; try with_reducible rfl
                  refine wpAnyIn_ready (rs := [0, 4]) (by kernel_rfl) (by simp) ?_
                  refine AllReadyIn.cons rfl (fun K hK => ?_) ?_
                  · go_simp
                    try (refine hK _ _ ?_)
                    try clear hK K
                    refine wpAnyIn_ready (rs := [4]) (by kernel_rfl) (by simp) ?_
                    refine AllReadyIn.cons rfl (fun K hK => ?_) ?_
                    · go_simp
                      try (refine hK _ _ ?_)
                      try clear hK K
                      refine wpAnyIn_ready (rs := [5]) (by kernel_rfl) (by simp) ?_
                      refine AllReadyIn.cons rfl (fun K hK => ?_) ?_
                      · go_simp
                        gi_wp2_with ((gi_at_call 28; refine (callsIn_wide.2 (allT g _)).mono ?_; rintro e w8 ⟨rfl, rfl⟩))
                        try (refine hK _ _ ?_)
                        try clear hK K
                        refine wpAnyIn_ready (rs := [9]) (by kernel_rfl) (by simp) ?_
                        refine AllReadyIn.cons rfl (fun K hK => ?_) ?_
                        · go_simp
                          gi_wp2_with ((gi_at_call 29; refine (callsIn_wide.2 (HINX.out _ _ (((Frm.refl _ _).drew).alloc _) (Blk.new w5.drew [.pointer (some ⟨g, 0, none⟩)] 53))).mono ?_; rintro e w9 ⟨rfl, hPo⟩))
                          try (refine hK _ _ ?_)
                          try clear hK K
                          refine wpAnyIn_take (i := 10) (v := ?_) rfl rfl (by kernel_rfl) (by kernel_rfl) (by kernel_rfl) (fun _ _ _ h => h) ⟨Or.inl ⟨by rfl, ?_⟩, fun _ => rfl⟩ ?_
                          rotate_left
                          · intro w; go_simp; try with_reducible rfl
                          refine wpAnyIn_done (by kernel_rfl) ?_ _
                          gi_wp2
                          gi_meet
                          exact ⟨rfl, hPo⟩
                        exact AllReadyIn.nil
                      exact AllReadyIn.nil
                    exact AllReadyIn.nil
                  refine AllReadyIn.cons rfl (fun K hK => ?_) ?_
                  · go_simp
                    try (refine hK _ _ ?_)
                    try clear hK K
                    refine wpAnyIn_ready (rs := [0, 5]) (by kernel_rfl) (by simp) ?_
                    refine AllReadyIn.cons rfl (fun K hK => ?_) ?_
                    · go_simp
                      try (refine hK _ _ ?_)
                      try clear hK K
                      refine wpAnyIn_ready (rs := [5]) (by kernel_rfl) (by simp) ?_
                      refine AllReadyIn.cons rfl (fun K hK => ?_) ?_
                      · go_simp
                        gi_wp2_with ((gi_at_call 28; refine (callsIn_wide.2 (allT g _)).mono ?_; rintro e w8 ⟨rfl, rfl⟩))
                        try (refine hK _ _ ?_)
                        try clear hK K
                        refine wpAnyIn_ready (rs := [9]) (by kernel_rfl) (by simp) ?_
                        refine AllReadyIn.cons rfl (fun K hK => ?_) ?_
                        · go_simp
                          gi_wp2_with ((gi_at_call 29; refine (callsIn_wide.2 (HINX.out _ _ (((Frm.refl _ _).drew).alloc _) (Blk.new w5.drew [.pointer (some ⟨g, 0, none⟩)] 53))).mono ?_; rintro e w9 ⟨rfl, hPo⟩))
                          try (refine hK _ _ ?_)
                          try clear hK K
                          refine wpAnyIn_take (i := 10) (v := ?_) rfl rfl (by kernel_rfl) (by kernel_rfl) (by kernel_rfl) (fun _ _ _ h => h) ⟨Or.inl ⟨by rfl, ?_⟩, fun _ => rfl⟩ ?_
                          rotate_left
                          · intro w; go_simp; try with_reducible rfl
                          refine wpAnyIn_done (by kernel_rfl) ?_ _
                          gi_wp2
                          gi_meet
                          exact ⟨rfl, hPo⟩
                        exact AllReadyIn.nil
                      exact AllReadyIn.nil
                    refine AllReadyIn.cons rfl (fun K hK => ?_) ?_
                    · go_simp
                      gi_wp2_with ((gi_at_call 28; refine (callsIn_wide.2 (allT g _)).mono ?_; rintro e w8 ⟨rfl, rfl⟩))
                      try (refine hK _ _ ?_)
                      try clear hK K
                      refine wpAnyIn_ready (rs := [0]) (by kernel_rfl) (by simp) ?_
                      refine AllReadyIn.cons rfl (fun K hK => ?_) ?_
                      · go_simp
                        try (refine hK _ _ ?_)
                        try clear hK K
                        refine wpAnyIn_ready (rs := [9]) (by kernel_rfl) (by simp) ?_
                        refine AllReadyIn.cons rfl (fun K hK => ?_) ?_
                        · go_simp
                          gi_wp2_with ((gi_at_call 29; refine (callsIn_wide.2 (HINX.out _ _ (((Frm.refl _ _).drew).alloc _) (Blk.new w5.drew [.pointer (some ⟨g, 0, none⟩)] 53))).mono ?_; rintro e w9 ⟨rfl, hPo⟩))
                          try (refine hK _ _ ?_)
                          try clear hK K
                          refine wpAnyIn_take (i := 10) (v := ?_) rfl rfl (by kernel_rfl) (by kernel_rfl) (by kernel_rfl) (fun _ _ _ h => h) ⟨Or.inl ⟨by rfl, ?_⟩, fun _ => rfl⟩ ?_
                          rotate_left
                          · intro w; go_simp; try with_reducible rfl
                          refine wpAnyIn_done (by kernel_rfl) ?_ _
                          gi_wp2
                          gi_meet
                          exact ⟨rfl, hPo⟩
                        exact AllReadyIn.nil
                      exact AllReadyIn.nil
                    exact AllReadyIn.nil
                  exact AllReadyIn.nil
                exact AllReadyIn.nil
              refine AllReadyIn.cons rfl (fun K hK => ?_) ?_
              · go_simp
                try (refine hK _ _ ?_)
                try clear hK K
                refine wpAnyIn_take (i := 8) (v := ?_) rfl rfl (by kernel_rfl) (by kernel_rfl) (by kernel_rfl) (fun _ _ _ h => h) ⟨Or.inl ⟨by rfl, ?_⟩, fun _ => rfl⟩ ?_
                rotate_left
                · intro w; go_simp; try with_reducible rfl
                refine wpAnyIn_ready (rs := [0, 1]) (by kernel_rfl) (by simp) ?_
                refine AllReadyIn.cons rfl (fun K hK => ?_) ?_
                · go_simp
                  try (refine hK _ _ ?_)
                  try clear hK K
                  refine wpAnyIn_ready (rs := [1]) (by kernel_rfl) (by simp) ?_
                  refine AllReadyIn.cons rfl (fun K hK => ?_) ?_
                  · go_simp
                    try (refine hK _ _ ?_)
                    try clear hK K
                    refine wpAnyIn_take (i := 2) (v := ?_) rfl rfl (by kernel_rfl) (by kernel_rfl) (by kernel_rfl) (fun _ _ _ h => h) ⟨Or.inl ⟨by rfl, ?_⟩, fun _ => rfl⟩ ?_
                    rotate_left
                    · intro w; go_simp; try with_reducible rfl
                    refine wpAnyIn_take (i := 3) (v := ?_) rfl rfl (by kernel_rfl) (by kernel_rfl) (by kernel_rfl) (fun _ _ _ h => h) ⟨Or.inl ⟨by rfl, ?_⟩, fun _ => rfl⟩ ?_
                    rotate_left
                    · intro w; go_simp; try with_reducible rfl
                    refine wpAnyIn_ready (rs := [4]) (by kernel_rfl) (by simp) ?_
                    refine AllReadyIn.cons rfl (fun K hK => ?_) ?_
                    · go_simp
                      try (refine hK _ _ ?_)
                      try clear hK K
                      refine wpAnyIn_ready (rs := [5]) (by kernel_rfl) (by simp) ?_
                      refine AllReadyIn.cons rfl (fun K hK => ?_) ?_
                      · go_simp
                        gi_wp2_with ((gi_at_call 28; refine (callsIn_wide.2 (allT g _)).mono ?_; rintro e w8 ⟨rfl, rfl⟩))
                        try (refine hK _ _ ?_)
                        try clear hK K
                        refine wpAnyIn_ready (rs := [9]) (by kernel_rfl) (by simp) ?_
                        refine AllReadyIn.cons rfl (fun K hK => ?_) ?_
                        · go_simp
                          gi_wp2_with ((gi_at_call 29; refine (callsIn_wide.2 (HINX.out _ _ (((Frm.refl _ _).drew).alloc _) (Blk.new w5.drew [.pointer (some ⟨g, 0, none⟩)] 53))).mono ?_; rintro e w9 ⟨rfl, hPo⟩))
                          try (refine hK _ _ ?_)
                          try clear hK K
                          refine wpAnyIn_take (i := 10) (v := ?_) rfl rfl (by kernel_rfl) (by kernel_rfl) (by kernel_rfl) (fun _ _ _ h => h) ⟨Or.inl ⟨by rfl, ?_⟩, fun _ => rfl⟩ ?_
                          rotate_left
                          · intro w; go_simp; try with_reducible rfl
                          refine wpAnyIn_done (by kernel_rfl) ?_ _
                          gi_wp2
                          gi_meet
                          exact ⟨rfl, hPo⟩
                        exact AllReadyIn.nil
                      exact AllReadyIn.nil
                    exact AllReadyIn.nil
                  exact AllReadyIn.nil
                refine AllReadyIn.cons rfl (fun K hK => ?_) ?_
                · go_simp
                  try (refine hK _ _ ?_)
                  try clear hK K
                  refine wpAnyIn_take (i := 2) (v := ?_) rfl rfl (by kernel_rfl) (by kernel_rfl) (by kernel_rfl) (fun _ _ _ h => h) ⟨Or.inl ⟨by rfl, ?_⟩, fun _ => rfl⟩ ?_
                  rotate_left
                  · intro w; go_simp; try with_reducible rfl
                  refine wpAnyIn_take (i := 3) (v := ?_) rfl rfl (by kernel_rfl) (by kernel_rfl) (by kernel_rfl) (fun _ _ _ h => h) ⟨Or.inl ⟨by rfl, ?_⟩, fun _ => rfl⟩ ?_
                  rotate_left
                  · intro w; go_simp; try with_reducible rfl
                  refine wpAnyIn_ready (rs := [0, 4]) (by kernel_rfl) (by simp) ?_
                  refine AllReadyIn.cons rfl (fun K hK => ?_) ?_
                  · go_simp
                    try (refine hK _ _ ?_)
                    try clear hK K
                    refine wpAnyIn_ready (rs := [4]) (by kernel_rfl) (by simp) ?_
                    refine AllReadyIn.cons rfl (fun K hK => ?_) ?_
                    · go_simp
                      try (refine hK _ _ ?_)
                      try clear hK K
                      refine wpAnyIn_ready (rs := [5]) (by kernel_rfl) (by simp) ?_
                      refine AllReadyIn.cons rfl (fun K hK => ?_) ?_
                      · go_simp
                        gi_wp2_with ((gi_at_call 28; refine (callsIn_wide.2 (allT g _)).mono ?_; rintro e w8 ⟨rfl, rfl⟩))
                        try (refine hK _ _ ?_)
                        try clear hK K
                        refine wpAnyIn_ready (rs := [9]) (by kernel_rfl) (by simp) ?_
                        refine AllReadyIn.cons rfl (fun K hK => ?_) ?_
                        · go_simp
                          gi_wp2_with ((gi_at_call 29; refine (callsIn_wide.2 (HINX.out _ _ (((Frm.refl _ _).drew).alloc _) (Blk.new w5.drew [.pointer (some ⟨g, 0, none⟩)] 53))).mono ?_; rintro e w9 ⟨rfl, hPo⟩))
                          try (refine hK _ _ ?_)
                          try clear hK K
                          refine wpAnyIn_take (i := 10) (v := ?_) rfl rfl (by kernel_rfl) (by kernel_rfl) (by kernel_rfl) (fun _ _ _ h => h) ⟨Or.inl ⟨by rfl, ?_⟩, fun _ => rfl⟩ ?_
                          rotate_left
                          · intro w; go_simp; try with_reducible rfl
                          refine wpAnyIn_done (by kernel_rfl) ?_ _
                          gi_wp2
                          gi_meet
                          exact ⟨rfl, hPo⟩
                        exact AllReadyIn.nil
                      exact AllReadyIn.nil
                    exact AllReadyIn.nil
                  refine AllReadyIn.cons rfl (fun K hK => ?_) ?_
                  · go_simp
                    try (refine hK _ _ ?_)
                    try clear hK K
                    refine wpAnyIn_ready (rs := [0, 5]) (by kernel_rfl) (by simp) ?_
                    refine AllReadyIn.cons rfl (fun K hK => ?_) ?_
                    · go_simp
                      try (refine hK _ _ ?_)
                      try clear hK K
                      refine wpAnyIn_ready (rs := [5]) (by kernel_rfl) (by simp) ?_
                      refine AllReadyIn.cons rfl (fun K hK => ?_) ?_
                      · go_simp
                        gi_wp2_with ((gi_at_call 28; refine (callsIn_wide.2 (allT g _)).mono ?_; rintro e w8 ⟨rfl, rfl⟩))
                        try (refine hK _ _ ?_)
                        try clear hK K
                        refine wpAnyIn_ready (rs := [9]) (by kernel_rfl) (by simp) ?_
                        refine AllReadyIn.cons rfl (fun K hK => ?_) ?_
                        · go_simp
                          gi_wp2_with ((gi_at_call 29; refine (callsIn_wide.2 (HINX.out _ _ (((Frm.refl _ _).drew).alloc _) (Blk.new w5.drew [.pointer (some ⟨g, 0, none⟩)] 53))).mono ?_; rintro e w9 ⟨rfl, hPo⟩))
                          try (refine hK _ _ ?_)
                          try clear hK K
                          refine wpAnyIn_take (i := 10) (v := ?_) rfl rfl (by kernel_rfl) (by kernel_rfl) (by kernel_rfl) (fun _ _ _ h => h) ⟨Or.inl ⟨by rfl, ?_⟩, fun _ => rfl⟩ ?_
                          rotate_left
                          · intro w; go_simp; try with_reducible rfl
                          refine wpAnyIn_done (by kernel_rfl) ?_ _
                          gi_wp2
                          gi_meet
                          exact ⟨rfl, hPo⟩
                        exact AllReadyIn.nil
                      exact AllReadyIn.nil
                    refine AllReadyIn.cons rfl (fun K hK => ?_) ?_
                    · go_simp
                      gi_wp2_with ((gi_at_call 28; refine (callsIn_wide.2 (allT g _)).mono ?_; rintro e w8 ⟨rfl, rfl⟩))
                      try (refine hK _ _ ?_)
                      try clear hK K
                      refine wpAnyIn_ready (rs := [0]) (by kernel_rfl) (by simp) ?_
                      refine AllReadyIn.cons rfl (fun K hK => ?_) ?_
                      · go_simp
                        try (refine hK _ _ ?_)
                        try clear hK K
                        refine wpAnyIn_ready (rs := [9]) (by kernel_rfl) (by simp) ?_
                        refine AllReadyIn.cons rfl (fun K hK => ?_) ?_
                        · go_simp
                          gi_wp2_with ((gi_at_call 29; refine (callsIn_wide.2 (HINX.out _ _ (((Frm.refl _ _).drew).alloc _) (Blk.new w5.drew [.pointer (some ⟨g, 0, none⟩)] 53))).mono ?_; rintro e w9 ⟨rfl, hPo⟩))
                          try (refine hK _ _ ?_)
                          try clear hK K
                          refine wpAnyIn_take (i := 10) (v := ?_) rfl rfl (by kernel_rfl) (by kernel_rfl) (by kernel_rfl) (fun _ _ _ h => h) ⟨Or.inl ⟨by rfl, ?_⟩, fun _ => rfl⟩ ?_
                          rotate_left
                          · intro w; go_simp; try with_reducible rfl
                          refine wpAnyIn_done (by kernel_rfl) ?_ _
                          gi_wp2
                          gi_meet
                          exact ⟨rfl, hPo⟩
                        exact AllReadyIn.nil
                      exact AllReadyIn.nil
                    exact AllReadyIn.nil
                  exact AllReadyIn.nil
                exact AllReadyIn.nil
              exact AllReadyIn.nil
            case rest =>
              obtain ⟨rfl, hPo⟩ := hcut
              rw [HPo.out] at hPo
              obtain ⟨ys9, G9, hyl5, hI9, hf9⟩ := hPo
              generalize wc = w8 at *
              have hI5 := hI9
              have hf5 := hf5.trans hf9
              have hmid5 : pre.length + 1 ≤ pk → ys9 = ys ∧ G9 = G := fun h => by have := HNK.out; omega
              clear e0 e1 o0 o1 o2 o3 o4 o5 p0
              obtain ⟨n0, n1, n2⟩ := blk1 hI5.n
              obtain ⟨r0, r1, r2⟩ := blk1 hI5.r
              obtain ⟨_, _, o2, _, _, _, _⟩ := blk6 hI5.o
              have hI6 := hI5.count (pre.length + 1)
              rw [show ((pre.length + 1 : Nat) : Int) = (pre.length : Int) + 1 by omega] at hI6
              have hf6 : Frm (fun k => k < B) w' (w8.setCell ⟨bN, 0, none⟩ (.int .i64 ((pre.length : Int) + 1))) := hf5.set bN 0 _ (fun _ => by have := HORD.out; omega)
              gi_wp2
              clear n0 n1 r0 r1 o2
              generalize w8.setCell ⟨bN, 0, none⟩ (.int .i64 ((pre.length : Int) + 1)) = w6 at *
              obtain ⟨n0, n1, n2⟩ := blk1 hI6.n
              obtain ⟨r0, r1, r2⟩ := blk1 hI6.r
              obtain ⟨_, _, o2, _, _, _, _⟩ := blk6 hI6.o
              refine region_quiet_round (F := Fence.wide) rfl (by kernel_rfl) (by kernel_rfl) (by rfl) ?_
              repeat (gi_big_quiet_step ((refine (callsIn_wide.2 (HPL.out _)).mono ?_; rintro e w7 ⟨rfl, rfl⟩; exact ⟨rfl, _, rfl⟩)))
              refine wpQuietIn_nil ?_
              rintro _ ⟨nq5, rfl⟩
              by_cases hpl : (pre.length : Int) + 1 = (pl : Int)
              · gi_wp2
                have hf7 : Frm (fun k => k < B) w' ((w6.drewN nq5).setCell ⟨bR, 0, none⟩ (.bool true)) := (hf6.drewN _).set bR 0 _ (fun _ => by have := HORD.out; omega)
                exact ⟨keepsFrom_of hf7 (fun k e _ => by omega), rfl, fun hpre => ⟨_, _, _, (hI6.world ((Frm.refl _ w6).drewN nq5)).res true, hyl5⟩⟩
              · gi_wp2
                have hf7 : Frm (fun k => k < B) w' (w6.drewN nq5) := hf6.drewN _
                refine ⟨keepsFrom_of hf7 (fun k e _ => by omega), KpB.of_frm hf7 (fun k e _ => by omega), prefix_snoc hp ?_, _, _, by rw [List.length_append, List.length_singleton]; exact hI6.world ((Frm.refl _ w6).drewN nq5), hyl5, by rw [List.length_append, List.length_singleton]; exact hmid5⟩
                rw [rev_at rfl hlt HKK.out, HE.out.1, bytes_eq HE.out.2]; exact HY.out
          · have h61 : (o.in_ == 6) = false := by simpa using h6
            obtain ⟨e0, e1, e2⟩ := blk1 hI5.e
            obtain ⟨o0, o1, o2, o3, o4, o5, o6⟩ := blk6 hI5.o
            gi_wp2
            refine (CallsIn.inRound l (callsIn_wide.2 (does G b g fv ys o.in_ o.n o.s w5 hI5.pw (by omega)))).mono ?_
            rintro e w8 ⟨ys8, hyl5, rfl, hpw8, hf8⟩
            have hI5 := hI5.mid hf8 hpw8 (fun k h => h)
            have hf5 := hf5.then hf8 (fun k hk _ => by have := HG0.out k hk; have := HORD.out; omega)
            have hmid5 : pre.length + 1 ≤ pk → ys8 = ys ∧ (fun k => G k ∨ w5.heap.size ≤ k) = G := fun h => by have := HNK.out; omega
            clear e0 e1 o0 o1 o2 o3 o4 o5
            obtain ⟨n0, n1, n2⟩ := blk1 hI5.n
            obtain ⟨r0, r1, r2⟩ := blk1 hI5.r
            obtain ⟨_, _, o2, _, _, _, _⟩ := blk6 hI5.o
            have hI6 := hI5.count (pre.length + 1)
            rw [show ((pre.length + 1 : Nat) : Int) = (pre.length : Int) + 1 by omega] at hI6
            have hf6 : Frm (fun k => k < B) w' (w8.setCell ⟨bN, 0, none⟩ (.int .i64 ((pre.length : Int) + 1))) := hf5.set bN 0 _ (fun _ => by have := HORD.out; omega)
            gi_wp2
            clear n0 n1 r0 r1 o2
            generalize w8.setCell ⟨bN, 0, none⟩ (.int .i64 ((pre.length : Int) + 1)) = w6 at *
            obtain ⟨n0, n1, n2⟩ := blk1 hI6.n
            obtain ⟨r0, r1, r2⟩ := blk1 hI6.r
            obtain ⟨_, _, o2, _, _, _, _⟩ := blk6 hI6.o
            refine region_quiet_round (F := Fence.wide) rfl (by kernel_rfl) (by kernel_rfl) (by rfl) ?_
            repeat (gi_big_quiet_step ((refine (callsIn_wide.2 (HPL.out _)).mono ?_; rintro e w7 ⟨rfl, rfl⟩; exact ⟨rfl, _, rfl⟩)))
            refine wpQuietIn_nil ?_
            rintro _ ⟨nq5, rfl⟩
            by_cases hpl : (pre.length : Int) + 1 = (pl : Int)
            · gi_wp2
              have hf7 : Frm (fun k => k < B) w' ((w6.drewN nq5).setCell ⟨bR, 0, none⟩ (.bool true)) := (hf6.drewN _).set bR 0 _ (fun _ => by have := HORD.out; omega)
              exact ⟨keepsFrom_of hf7 (fun k e _ => by omega), rfl, fun hpre => ⟨_, _, _, (hI6.world ((Frm.refl _ w6).drewN nq5)).res true, hyl5⟩⟩
            · gi_wp2
              have hf7 : Frm (fun k => k < B) w' (w6.drewN nq5) := hf6.drewN _
              refine ⟨keepsFrom_of hf7 (fun k e _ => by omega), KpB.of_frm hf7 (fun k e _ => by omega), prefix_snoc hp ?_, _, _, by rw [List.length_append, List.length_singleton]; exact hI6.world ((Frm.refl _ w6).drewN nq5), hyl5, by rw [List.length_append, List.length_singleton]; exact hmid5⟩
              rw [rev_at rfl hlt HKK.out, HE.out.1, bytes_eq HE.out.2]; exact HY.out
        · have hn1 : ((pre.length : Int) == (pk : Int)) = false := by simp; omega
          have hn2 : ¬ ((pre.length : Int) = (pk : Int)) := by omega
          have hyl5 := hyl
          have hmid5 : pre.length + 1 ≤ pk → ys = xs ∧ G = G0 := fun h => HMID.out (by omega)
          refine region_quiet_round (F := Fence.wide) rfl (by kernel_rfl) (by kernel_rfl) (by rfl) ?_
          repeat (gi_big_quiet_step ((refine (callsIn_wide.2 (HPK.out _)).mono ?_; rintro e w7 ⟨rfl, rfl⟩; exact ⟨rfl, _, rfl⟩)))
          refine wpQuietIn_nil ?_
          rintro _ ⟨nq4, rfl⟩
          have hI5 := (hI.world ((Frm.refl _ w').drewN nq)).world ((Frm.refl _ _).drewN nq4)
          have hf5 : Frm (fun k => k < B) w' ((w'.drewN nq).drewN nq4) := ((Frm.refl _ w').drewN _).drewN _
          clear n0 n1 r0 r1 o0 o1 o2 o3 o4 o5 w0 w1' e0 e1 x0 x1 d0 d1
          generalize (w'.drewN nq).drewN nq4 = w5 at *
          obtain ⟨n0, n1, n2⟩ := blk1 hI5.n
          obtain ⟨r0, r1, r2⟩ := blk1 hI5.r
          obtain ⟨_, _, o2, _, _, _, _⟩ := blk6 hI5.o
          have hI6 := hI5.count (pre.length + 1)
          rw [show ((pre.length + 1 : Nat) : Int) = (pre.length : Int) + 1 by omega] at hI6
          have hf6 : Frm (fun k => k < B) w' (w5.setCell ⟨bN, 0, none⟩ (.int .i64 ((pre.length : Int) + 1))) := hf5.set bN 0 _ (fun _ => by have := HORD.out; omega)
          gi_wp2
          clear n0 n1 r0 r1 o2
          generalize w5.setCell ⟨bN, 0, none⟩ (.int .i64 ((pre.length : Int) + 1)) = w6 at *
          obtain ⟨n0, n1, n2⟩ := blk1 hI6.n
          obtain ⟨r0, r1, r2⟩ := blk1 hI6.r
          obtain ⟨_, _, o2, _, _, _, _⟩ := blk6 hI6.o
          refine region_quiet_round (F := Fence.wide) rfl (by kernel_rfl) (by kernel_rfl) (by rfl) ?_
          repeat (gi_big_quiet_step ((refine (callsIn_wide.2 (HPL.out _)).mono ?_; rintro e w7 ⟨rfl, rfl⟩; exact ⟨rfl, _, rfl⟩)))
          refine wpQuietIn_nil ?_
          rintro _ ⟨nq5, rfl⟩
          by_cases hpl : (pre.length : Int) + 1 = (pl : Int)
          · gi_wp2
            have hf7 : Frm (fun k => k < B) w' ((w6.drewN nq5).setCell ⟨bR, 0, none⟩ (.bool true)) := (hf6.drewN _).set bR 0 _ (fun _ => by have := HORD.out; omega)
            exact ⟨keepsFrom_of hf7 (fun k e _ => by omega), rfl, fun hpre => ⟨_, _, _, (hI6.world ((Frm.refl _ w6).drewN nq5)).res true, hyl5⟩⟩
          · gi_wp2
            have hf7 : Frm (fun k => k < B) w' (w6.drewN nq5) := hf6.drewN _
            refine ⟨keepsFrom_of hf7 (fun k e _ => by omega), KpB.of_frm hf7 (fun k e _ => by omega), prefix_snoc hp ?_, _, _, by rw [List.length_append, List.length_singleton]; exact hI6.world ((Frm.refl _ w6).drewN nq5), hyl5, by rw [List.length_append, List.length_singleton]; exact hmid5⟩
            rw [rev_at rfl hlt HKK.out, HE.out.1, bytes_eq HE.out.2]; exact HY.out
    · have he2 : (xn == yn && (xt.toList == yt.toList)) = false := by simpa using he
      clear he
      refine region_quiet_round (F := Fence.wide) rfl (by kernel_rfl) (by kernel_rfl) (by rfl) ?_
      repeat (gi_big_quiet_step (fail))
      refine wpQuietIn_nil ?_
      rintro _ ⟨nq, rfl⟩
      gi_wp2
      have ho := HORD.out
      have hfin : Frm (fun k => k = bR) w' ((w'.drewN nq).setCell ⟨bR, 0, none⟩ (.bool false)) := ((Frm.refl (fun k => k = bR) w').drewN nq).set bR 0 _ (fun _ => rfl)
      refine ⟨keepsFrom_of hfin (fun i e _ => by omega), rfl, fun hpre => ?_⟩
      have h1 := of_prefix_snoc hpre
      rw [rev_at rfl hlt HKK.out, HY.out] at h1
      cases h1
      simp at he2
  case done =>
    rintro D xs' W3 hD rfl ⟨_, ys, G, hI, hyl, _⟩ hdf
    subst hfr
    rw [List.length_reverse] at hI
    have hDl := (Array.getElem?_eq_some_iff.1 hdf).1
    obtain ⟨n0, n1, n2⟩ := blk1 hI.n
    obtain ⟨w0, w1', w2'⟩ := blk1 hI.wz
    obtain ⟨r0, r1, r2⟩ := blk1 hI.r
    have hll : ((xs.length : Int) == (xs.length : Int)) = true := by simp
    clear y0 y1
    go_wp2_with fail
    have ho := hI.ord
    have hI2 := hI.res true
    have hf := (Frm.refl (fun i => i = bR) W3).set bR 0 (.bool true) (fun _ => rfl)
    have hdf2 := (hf.block D hDl (by omega)).trans hdf
    have hend := over_end hI2 hyl (by omega) hdf2
    refine ⟨by simp, .inl ⟨_, _, rfl, run_takeDeferred hdf2, ?_⟩⟩
    exact ⟨_, results_one rfl (RV.boolCell rfl hend.1), hend.2⟩
  case stop =>
    rintro D cc pre W3 hD hp ⟨rfl, h2⟩ hdf
    subst hfr
    obtain ⟨k, ys, G, hI, hyl⟩ := h2 hp
    gi_wp2
    have hend := over_end hI hyl (by omega) hdf
    refine ⟨by simp, .inl ⟨_, _, rfl, run_takeDeferred hdf, ?_⟩⟩
    exact ⟨_, results_one rfl (RV.boolCell rfl hend.1), hend.2⟩
end Go.Proofs.Ythlefnajbfkdbaa
