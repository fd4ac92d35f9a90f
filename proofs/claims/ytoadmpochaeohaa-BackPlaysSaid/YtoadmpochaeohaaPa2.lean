/-
  Words for the walks of layer 16: over blocks that are known whole; a region within a round; the entry of a function that ranges over a function.
-/
import Derived.Test.YtoadmpochaeohaaPa1
import Derived.BigQuiet
import Derived.Deep.QuietTactic
import Derived.Deep.CutBlock
import Derived.Deep.DeepCutAuto
import Derived.Deep.RegionWith
import Derived.WalkSpells
import Derived.RangeFuncNested
import Derived.RangeFuncBound
import Derived.RangeFuncCalls
import Derived.RangeFuncLeaves
import Derived.RangeFuncWrites
import Derived.RangeFuncFrom
import Derived.Shelf.Abstract
import Derived.Shelf.RegionOpen
import Derived.OwnWalkIn
import Derived.TacticsInMore
import Derived.LoopNIn
import Derived.LoopIn
import Derived.Sort.QuietIn
import Derived.Sort.CutIn
import Derived.Laws.EntriesVeiled
section
set_option linter.unusedVariables false
set_option linter.unusedSimpArgs false
set_option maxRecDepth 100000
namespace Go.Proofs.Ytoadmpochaeohaa
open Go.RowKit

def I64 (z : Int) : Value := .int .i64 z
theorem infoInt : (Try.prog.info? 3).map (fun i => (i.zero, i.size, i.bytes)) = some (some (.int .i64 0), 1, 8) := by kernel_rfl
theorem sizeInt : (Try.prog.info? 3).map (·.size) = some 1 := by kernel_rfl
theorem zeroInt (w : World) : (zeroValue 3).run Try.prog w = .ok (.int .i64 0) w := by kernel_rfl
theorem i64_one (l : List Int) : ∀ v ∈ l.map I64, v.oneCell' = true := by
  intro v hv; obtain ⟨x, _, rfl⟩ := List.mem_map.1 hv; rfl
theorem blk1 {w : World} {g : Nat} {a : Value} {t : TypeId} (h : Blk w g [a] t) : w.cell? ⟨g, 0, none⟩ = some a ∧ w.frozen? ⟨g, 0, none⟩ = false ∧ g < w.heap.size := ⟨h.cell 0, h.frozen 0, h.lt⟩
theorem blk2 {w : World} {g : Nat} {a b : Value} {t : TypeId} (h : Blk w g [a, b] t) : w.cell? ⟨g, 0, none⟩ = some a ∧ w.cell? ⟨g, 1, none⟩ = some b ∧ w.frozen? ⟨g, 0, none⟩ = false ∧ w.frozen? ⟨g, 1, none⟩ = false ∧ g < w.heap.size := ⟨h.cell 0, h.cell 1, h.frozen 0, h.frozen 1, h.lt⟩
/-- A part of an owned slice: its first k elements. -/
theorem Sl.cut {w : World} {F : Nat → Prop} {e : TypeId} {size : Nat} {A : Option Addr} {n c k : Nat} {xs : List Value} (h : Sl w F e size (.slice A n c) n xs) (hk : k ≤ n) : Sl w F e size (.slice A k c) k (xs.take (k * size)) := by
  cases h with
  | nil =>
    have hk0 : k = 0 := Nat.le_zero.1 hk
    rw [hk0, Nat.zero_mul, List.take_zero]
    exact .nil
  | @at_ g _ cap _ rest hF hb hx hr hn hm =>
    have hle : k * size ≤ xs.length := by rw [hx]; exact Nat.mul_le_mul_right _ hk
    refine .at_ (rest := xs.drop (k * size) ++ rest) hF ?_ (by rw [List.length_take, Nat.min_eq_left hle]) ?_ (by omega) hm
    · rw [← List.append_assoc, List.take_append_drop]; exact hb
    · rw [← List.append_assoc, List.take_append_drop]; exact hr
/-- Store into an owned slice of one-cell elements. -/
theorem Sl.put {w : World} {F : Nat → Prop} {e : TypeId} {b n c k : Nat} {xs : List Value} (h : Sl w F e 1 (.slice (some ⟨b, 0, none⟩) n c) n xs) (hk : k < n) (x : Value) : Sl (w.setCell ⟨b, k, none⟩ x) F e 1 (.slice (some ⟨b, 0, none⟩) n c) n (xs.set k x) := by
  cases h with
  | @at_ g _ cap _ rest hF hb hx hr hn hm =>
    have hl : k < xs.length := by rw [hx]; omega
    refine .at_ (rest := rest) hF ?_ (by simpa using hx) (by simpa using hr) hn hm
    have := hb.setSame k x
    rwa [List.set_append_left _ _ hl] at this
theorem Sl.head {w : World} {F : Nat → Prop} {e : TypeId} {size : Nat} {A : Option Addr} {n c : Nat} {xs : List Value} (h : Sl w F e size (.slice A n c) n xs) (hn : 0 < n) : ∃ b, A = some ⟨b, 0, none⟩ ∧ F b ∧ b < w.heap.size ∧ ∃ cur, Blk w b cur e ∧ ∀ j, j < xs.length → cur[j]? = xs[j]? := by
  cases h with
  | nil => omega
  | at_ hF hb hx hr hn hm => exact ⟨_, rfl, hF, hb.lt, _, hb, fun j hj => List.getElem?_append_left hj⟩
theorem Rd.cell1 {w : World} {F : Nat → Prop} {A : Option Addr} {n c : Nat} {xs : List Int} (h : Rd w F 1 A n c (xs.map I64)) (k : Nat) (hk : k < n) : ∃ b off z, A = some ⟨b, off, none⟩ ∧ b < w.heap.size ∧ xs[k]? = some z ∧ w.cell? ⟨b, off + k, none⟩ = some (.int .i64 z) := by
  have hl : xs.length = n := by simpa using h.len
  obtain ⟨b, off, rfl, hb, hc⟩ := h.elem k hk
  have hz : xs[k]? = some xs[k] := List.getElem?_eq_getElem (by omega)
  refine ⟨b, off, _, rfl, hb, hz, ?_⟩
  have := hc 0 (.int .i64 xs[k]) (by rw [Nat.mul_one, Nat.add_zero, List.getElem?_map, hz]; rfl)
  simpa using this
theorem Rd.cell2 {w : World} {F : Nat → Prop} {b off n c : Nat} {xs : List Int} (h : Rd w F 1 (some ⟨b, off, none⟩) n c (xs.map I64)) (k : Nat) (hk : k < n) (z : Int) (hz : xs[k]? = some z) : w.cell? ⟨b, off + k, none⟩ = some (.int .i64 z) := by
  obtain ⟨b', off', z', e, hb, hz', hc⟩ := h.cell1 k hk
  cases e
  rw [hz] at hz'; cases hz'
  exact hc
theorem Rd.one {w : World} {F : Nat → Prop} {A : Option Addr} {n c : Nat} {xs : List Value} (h : Rd w F 1 A n c xs) {k : Nat} {x : Value} (hk : xs[k]? = some x) : ∃ b off, A = some ⟨b, off, none⟩ ∧ w.cell? ⟨b, off + k, none⟩ = some x := by
  have hl : xs.length = n := by simpa using h.len
  have hkl := (List.getElem?_eq_some_iff.1 hk).1
  obtain ⟨b, off, hA, _, hc⟩ := h.elem k (by omega)
  exact ⟨b, off, hA, by have := hc 0 x (by simpa using hk); simpa using this⟩
theorem Rd.oneAt {w : World} {F : Nat → Prop} {b off : Nat} {n c : Nat} {xs : List Value} (h : Rd w F 1 (some ⟨b, off, none⟩) n c xs) {k : Nat} {x : Value} (hk : xs[k]? = some x) : w.cell? ⟨b, off + k, none⟩ = some x := by
  obtain ⟨b', o', hA, hc⟩ := h.one hk
  cases hA
  exact hc
/-- What a round keeps: cells that lie at or behind B. -/
structure KpB (B : Nat) (W W' : World) : Prop where
  size : W.heap.size ≤ W'.heap.size
  same : ∀ (k : Nat) (o : Obj), B ≤ k → W.heap[k]? = some o → o.isCells = true → W'.heap[k]? = some o
theorem KpB.refl (B : Nat) (W : World) : KpB B W W := ⟨Nat.le_refl _, fun _ _ _ h _ => h⟩
theorem KpB.trans {B : Nat} {X Y Z : World} (h : KpB B X Y) (k : KpB B Y Z) : KpB B X Z := ⟨Nat.le_trans h.size k.size, fun i o hB hi ho => k.same i o hB (h.same i o hB hi ho) ho⟩
theorem KpB.of_frm {B : Nat} {W W' : World} {S : Nat → Prop} (h : Frm S W W') (hS : ∀ k, S k → k < W.heap.size → k < B) : KpB B W W' :=
  ⟨h.size, fun k o hB hk _ => by
    have hlt := (Array.getElem?_eq_some_iff.1 hk).1
    exact (h.block k hlt (fun hs => by have := hS k hs hlt; omega)).trans hk⟩
theorem KpB.turn {B : Nat} (W : World) (l : Nat) (o o' : Obj) (_ : B ≤ l) (h : W.heap[l]? = some o) (hc : o.isCells = false) (_ : o.isWalk = false) : KpB B W (W.putObj l o') :=
  ⟨(grownBy_putObj' W l o').size, fun k o2 hB hk ho => by
    have hne : some k ≠ some l := fun e => by cases e; rw [h] at hk; cases hk; rw [hc] at ho; cases ho
    exact ((grownBy_putObj' W l o').block k (Array.getElem?_eq_some_iff.1 hk).1 hne).trans hk⟩
theorem Blk.kp {B : Nat} {w w' : World} {g : Nat} {cur : List Value} {t : TypeId} (h : Blk w g cur t) (k : KpB B w w') (hB : B ≤ g) : Blk w' g cur t := ⟨k.same g _ hB h.out rfl⟩
theorem Sl.kp {B : Nat} {w w' : World} {F : Nat → Prop} {e : TypeId} {size : Nat} {v : Value} {n : Nat} {xs : List Value} (h : Sl w F e size v n xs) (k : KpB B w w') (hB : ∀ i, F i → B ≤ i) : Sl w' F e size v n xs := by
  cases h with
  | nil => exact .nil
  | at_ hF hb hx hr hn hm => exact .at_ hF (hb.kp k (hB _ hF)) hx hr hn hm
theorem Blk.kept {w w' : World} {row : Option Nat} {g : Nat} {cur : List Value} {t : TypeId} (h : Blk w g cur t) (hg : w.grownBy w' row) (hr : ∀ r, row = some r → ∃ o : Obj, w.heap[r]? = some o ∧ o.isCells = false) : Blk w' g cur t :=
  h.frm (Frm.of_grown hg) (fun e => by
    obtain ⟨o, ho, hc⟩ := hr g e.symm
    rw [h.out] at ho; cases ho; cases hc)
theorem Sl.kept {w w' : World} {row : Option Nat} {F : Nat → Prop} {e : TypeId} {size : Nat} {v : Value} {n : Nat} {xs : List Value} (h : Sl w F e size v n xs) (hg : w.grownBy w' row) (hr : ∀ r, row = some r → ∃ o : Obj, w.heap[r]? = some o ∧ o.isCells = false) : Sl w' F e size v n xs := by
  cases h with
  | nil => exact .nil
  | at_ hF hb hx hr2 hn hm => exact .at_ hF (hb.kept hg hr) hx hr2 hn hm
/-- Whatever is no cells stays, where a walk has turned cells alone. -/
theorem keepsFrom_of {B : Nat} {W W' : World} {S : Nat → Prop} (h : Frm S W W') (hS : ∀ k, S k → k < W.heap.size → k < B) : KeepsFrom B W W' :=
  ⟨h.size, fun k o hB hk _ => (h.block k (Array.getElem?_eq_some_iff.1 hk).1 (fun hs => by have := hS k hs (Array.getElem?_eq_some_iff.1 hk).1; omega)).trans hk⟩
/-- No defer statement. -/
def noDefer (o : Oper) : Bool := match o.op with | .defer _ => false | _ => true
theorem noDefer_spec {o : Oper} (h : noDefer o = true) (c) : o.op ≠ .defer c := by
  intro e
  simp [noDefer, e] at h
theorem Oper.wpIn_round {F : Fence} {n : Nat} {P : Program} {o : Oper} {a : Act} {w : World} {K : Act → World → Prop} {Q : Exit → Act → World → Prop} {l0 : Nat} (hro : F.round = none) (hd : noDefer o = true)
    (hh : o.wpIn F n P a w K Q) : o.wpIn (F.inRound l0) n P a w K Q := by
  unfold Oper.wpIn at *
  refine ⟨hh.1, ?_⟩
  have hh := hh.2
  rw [Oper.semAt_plain F _ _ (noDefer_spec hd)] at hh
  rw [Oper.semAt_plain (F.inRound l0) _ _ (noDefer_spec hd)]
  generalize (execOp a.eval o).run P w = r at *
  cases r with
  | ok x w' => cases x <;> exact hh
  | halt x w' => cases x <;> exact hh
theorem wpAnyIn_round {F : Fence} {n : Nat} {P : Program} {md : Region.Mode} {ops : Array Oper} {Q : Exit → Act → World → Prop} {l0 : Nat} (hro : F.round = none) (hd : ∀ o, o ∈ ops.toList → noDefer o = true) :
    ∀ (fuel : Nat) (listed : Array Bool) (a : Act) (w : World), wpAnyIn F n P md ops Q fuel listed a w → wpAnyIn (F.inRound l0) n P md ops Q fuel listed a w
  | 0, listed, a, w, h => h
  | fuel + 1, listed, a, w, h => by
    refine ⟨h.1, fun i hi => ?_⟩
    have h := h.2 i hi
    unfold wpOpIn at *
    split
    · rename_i ho
      simp only [ho] at h
      exact wpAnyIn_round hro hd _ _ _ _ h
    · rename_i o ho
      simp only [ho] at h
      split
      · rename_i hw
        simp only [hw, if_true] at h
        refine Oper.wpIn_round hro (hd o ?_) (Oper.wpIn_mono (fun a w => wpAnyIn_round hro hd _ _ _ _) h)
        obtain ⟨hi, rfl⟩ := Array.getElem?_eq_some_iff.1 ho
        simp
      · rename_i hw
        simp only [hw] at h
        exact ⟨h.1, wpAnyIn_round hro hd _ _ _ _ h.2⟩
theorem region_quiet_round {F : Fence} {n : Nat} {P : Program} {l0 : Nat} {id : Nat} {Q : Exit → Act → World → Prop} {a : Act} {w : World} {l : List Oper} (hro : F.round = none) (hm : P.follows .mixedOrders = true) (hB : Region.lexB .any l.toArray = true) (hd : l.all noDefer = true)
    (h : wpQuietIn F n P l.toArray (fun w' => ∃ n, w' = w.drewN n) (fun a' => ∀ w', (∃ n, w' = w.drewN n) → Q .normal a' w') l a) : (Code.region id l.toArray true).wpIn (F.inRound l0) n P Q a w := by
  simp only [Region.lexB, Bool.and_eq_true] at hB
  refine wpIn_region_any hm (wpAnyIn_round hro (by simpa using hd) _ _ _ _ (wpAnyIn_of_quiet (C := fun w' => ∃ n, w' = w.drewN n) (Q := fun a' => ∀ w', (∃ n, w' = w.drewN n) → Q .normal a' w') hro (fun _ w' hw' h => h w' hw') _ _ _ _ ⟨1, rfl⟩ ?_))
  have := wpAnyQIn_lex (F := F) (n := n) (C := fun w' => ∃ n, w' = w.drewN n) (md := .any) hB.1 l 0 (Array.replicate l.toArray.size false) a (by simp) (by simpa using hB.2) h
  simpa using this
theorem capture {F : Fence} {n : Nat} {P : Program} {c : Code} {Q : Exit → Act → World → Prop} {tmps : Array Value} {w : World} (h : ∀ fr, fr = tmps → c.wpIn F n P Q ⟨fr, []⟩ w) : c.wpIn F n P Q ⟨tmps, []⟩ w := h _ rfl
theorem prefix_snoc {α : Type} {pre ys : List α} {x : α} (h : pre <+: ys) (hx : ys[pre.length]? = some x) : pre ++ [x] <+: ys := by
  obtain ⟨t, rfl⟩ := h
  rw [List.getElem?_append_right (Nat.le_refl _), Nat.sub_self] at hx
  cases t with
  | nil => simp at hx
  | cons y t =>
    simp only [List.getElem?_cons_zero, Option.some.injEq] at hx
    subst hx
    exact ⟨t, by simp⟩
theorem of_prefix_snoc {α : Type} {pre ys : List α} {x : α} (h : pre ++ [x] <+: ys) : ys[pre.length]? = some x := by
  obtain ⟨t, rfl⟩ := h
  simp
theorem bytes_eq {a b : ByteArray} (h : a.toList = b.toList) : a = b := by
  rw [ByteArray.toList_eq, ByteArray.toList_eq] at h
  exact ByteArray.ext (Array.toList_inj.1 h)
/-- What a body that holds a range over a function comes to: it never panics. -/
def postM (n : Nat) (fn : Func) (R : Ending → World → Prop) : Exit → Act → World → Prop
  | .normal, a, w => bodyPostM Fence.wide n Try.prog fn R .normal a w
  | .ret, a, w => bodyPostM Fence.wide n Try.prog fn R .ret a w
  | _, _, _ => False
theorem calls_marks {n : Nat} {f : FuncId} {fn : Func} {c : Code} {args : Array Value} {w : World} {R : Ending → World → Prop} (hf : Try.prog.funcs[f]? = some fn) (hb : fn.body = some c)
    (h : c.wp Try.prog (postM n fn R) { tmps := args ++ Array.replicate (fn.ntmps - args.size) undef, defers := [] } w) : Calls Try.prog f args w R :=
  callsIn_wide.1 (callsIn_of_wp_marks (n := n) hf hb trivial (wpIn_wide.2 (Code.wp_mono (fun e a w h => by cases e <;> first | exact h | exact h.elim) h)) rfl)
theorem RV.boolCell {tmps : Array Value} {p : Tmp} {g : Nat} {b : Bool} {w : World} (hp : tmps.getD p undef = .pointer (some ⟨g, 0, none⟩)) (hg : Blk w g [.bool b] 4) : RV Try.prog tmps w (.cell p 4) (.bool b) := by
  obtain ⟨c0, f0, l0⟩ := blk1 hg
  simp only [RV, hp, asAddr, Sem.run_bind, Sem.run_pure, Result.andThen_ok]
  go_simp
theorem wide_fn (f : FuncId) : Fence.wide.fn f = True := rfl
theorem blk6 {w : World} {g : Nat} {a b c d e f : Value} {t : TypeId} (h : Blk w g [a, b, c, d, e, f] t) :
    w.cell? ⟨g, 0, none⟩ = some a ∧ w.cell? ⟨g, 1, none⟩ = some b ∧ w.cell? ⟨g, 2, none⟩ = some c ∧ w.cell? ⟨g, 3, none⟩ = some d ∧ w.cell? ⟨g, 4, none⟩ = some e ∧ w.cell? ⟨g, 5, none⟩ = some f ∧ g < w.heap.size :=
  ⟨h.cell 0, h.cell 1, h.cell 2, h.cell 3, h.cell 4, h.cell 5, h.lt⟩
end Go.Proofs.Ytoadmpochaeohaa
end

section
set_option linter.unusedVariables false
set_option linter.unusedSimpArgs false
set_option maxRecDepth 100000
namespace Go.Proofs.Ytoadmpochaeohaa
open Go.RowKit

theorem infoFr : (Try.prog.info? 125).map (fun i => (i.zero, i.size, i.bytes)) = some (some .nilIface, 1, 16) := by kernel_rfl
/-- A pile of interface values at block g. -/
def PS (w : World) (F : Nat → Prop) (g : Nat) (xs : List Value) : Prop :=
  ∃ v, Blk w g [v] 165 ∧ F g ∧ Sl w (fun k => F k ∧ k ≠ g) 125 1 v xs.length xs
theorem PS.low {w : World} {F : Nat → Prop} {g : Nat} {xs : List Value} (h : PS w F g xs) : PS w (fun k => F k ∧ k < w.heap.size) g xs := by
  obtain ⟨v, hB, hF, hS⟩ := h
  exact ⟨v, hB, ⟨hF, hB.lt⟩, hS.mono fun k h l => ⟨⟨h.1, l⟩, h.2⟩⟩
theorem PS.frm {S : Nat → Prop} {w w' : World} {F : Nat → Prop} {g : Nat} {xs : List Value} (h : PS w F g xs) (f : Frm S w w') (hd : ∀ k, F k → ¬ S k) : PS w' F g xs := by
  obtain ⟨v, hB, hF, hS⟩ := h
  exact ⟨v, hB.frm f (hd _ hF), hF, hS.frm f (fun k h => hd k h.1)⟩
theorem PS.mono {w : World} {F G : Nat → Prop} {g : Nat} {xs : List Value} (h : PS w F g xs) (hG : ∀ k, F k → k < w.heap.size → G k) : PS w G g xs := by
  obtain ⟨v, hB, hF, hS⟩ := h
  exact ⟨v, hB, hG _ hF hB.lt, hS.mono fun k h l => ⟨hG _ h.1 l, h.2⟩⟩
theorem PS.lt {w : World} {F : Nat → Prop} {g : Nat} {xs : List Value} (h : PS w F g xs) : g < w.heap.size := by
  obtain ⟨v, hB, _⟩ := h; exact hB.lt

theorem newB (w : World) : Calls Try.prog 52 #[] w fun e w' => e = .returned (.pointer (some ⟨w.heap.size, 0, none⟩)) ∧ w' = w.alloc (.cells #[.slice none 0 0] 165) := by
  go_enter Try.func52, Try.ntmps52
  go_wp2
  go_ret
  exact ⟨rfl, rfl⟩
theorem newPS (w : World) : PS (w.alloc (.cells #[.slice none 0 0] 165)) (fun k => k = w.heap.size) w.heap.size [] := ⟨_, Blk.new w [_] 165, rfl, Sl.nil⟩

def PushPost (F : Nat → Prop) (g : Nat) (w : World) (xs : List Value) (e : Ending) (w' : World) : Prop :=
  e = .returned (.tuple #[]) ∧ PS w' (fun k => F k ∨ w.heap.size ≤ k) g xs ∧ Frm F w w'

set_option maxHeartbeats 800000 in
theorem pushB (F : Nat → Prop) (g : Nat) (xs : List Value) (ty : TypeId) (xv : Value) (w : World) (h : PS w F g xs) (hb : xs.length ≤ 1073741824) :
    Calls Try.prog 53 #[.pointer (some ⟨g, 0, none⟩), .iface ty xv] w (PushPost F g w (xs ++ [.iface ty xv])) := by
  obtain ⟨v, hB, hF, hS⟩ := h
  obtain ⟨A, c, rfl⟩ := hS.form
  have hlt := hB.lt
  have hBx := hB.alloc (.cells #[.iface ty xv] 125)
  have hSx := hS.low.alloc (.cells #[.iface ty xv] 125)
  have hX := Blk.new w [.iface ty xv] 125
  have hFx : Frm F w (w.alloc (.cells #[.iface ty xv] 125)) := (Frm.refl _ w).alloc _
  obtain ⟨c0, f0, l0⟩ := blk1 hB
  go_enter Try.func53, Try.ntmps53
  go_wp2_with (with_reducible refine stop_at 11 rfl ?_)
  unfold Stop
  refine op_append rfl _ _ _ rfl 125 _ 1 16 Try.underlying163 infoFr rfl (by omega) hSx rfl ⟨w.heap.size, 0, none⟩ 1 1 [.iface ty xv] rfl rfl (fun j u hu => by rw [hX.cellAdd 0 j, Nat.zero_add]; exact hu) (by intro u hu; simp at hu; subst hu; rfl) (by simp only [maxLen]; omega) (by omega) ?_
  intro v3 w3 hf3 hs3
  obtain ⟨A1, e1, rfl⟩ := hs3.form
  have hB3 := hBx.frm hf3 (fun h => h.1.2 rfl)
  have hz := (hFx.then hf3 (fun i h _ => h.1.1)).size
  clear c0 f0 l0
  obtain ⟨c0, f0, l0⟩ := blk1 hB3
  go_wp2_with fail
  go_end0
  refine ⟨rfl, ⟨_, hB3.setSame 0 _, .inl hF, ?_⟩, ((hFx.then hf3 (fun j h _ => h.1.1)).set g 0 _ (fun _ => hF))⟩
  rw [List.length_append]
  exact (hs3.set g 0 (.slice A1 (xs.length + 1) e1) (by rintro (h | h); exact h.1.2 rfl; simp at h; omega)).mono (G := fun k => (F k ∨ w.heap.size ≤ k) ∧ k ≠ g) (by rintro k (h | h) _; exact ⟨.inl h.1.1, h.1.2⟩; exact ⟨.inr (by simp at h; omega), by simp at h; omega⟩)

/-- The k-th of a pile, and whether there is one. -/
def getB (xs : List Value) (k : Int) : Value × Bool := if k < 0 then (.nilIface, false) else match xs[k.toNat]? with | some x => (x, true) | none => (.nilIface, false)

set_option maxHeartbeats 1600000 in
theorem atB (F : Nat → Prop) (g : Nat) (xs : List Value) (k : Int) (w : World) (h : PS w F g xs) (r : Value × Bool) (hr : getB xs k = r) :
    Calls Try.prog 85 #[.pointer (some ⟨g, 0, none⟩), .int .i64 k] w fun e w' => e = .returned (.tuple #[r.1, .bool r.2]) ∧ w = w' := by
  obtain ⟨v, hB, hF, hS⟩ := h
  obtain ⟨A, c, rfl⟩ := hS.form
  obtain ⟨c0, f0, l0⟩ := blk1 hB
  by_cases hk : k < 0
  · obtain rfl : r = (.nilIface, false) := by rw [← hr, getB, if_pos hk]
    clear hr
    go_enter Try.func85, Try.ntmps85
    go_wp2
    go_ret2
    exact ⟨rfl, rfl⟩
  · by_cases hk2 : k < xs.length
    · obtain ⟨m, rfl⟩ := Int.eq_ofNat_of_zero_le (Int.not_lt.1 hk)
      have hm : m < xs.length := by omega
      obtain rfl : r = (xs[m], true) := by rw [← hr, getB, if_neg hk, Int.toNat_natCast, List.getElem?_eq_getElem hm]
      obtain ⟨b, off, hA, lb, hc⟩ := hS.rd.elem m hm
      cases hA
      have p0 := hc 0 xs[m] (by simp [List.getElem?_eq_getElem hm])
      simp only [Nat.mul_one, Nat.add_zero] at p0
      clear hr hc
      generalize xs[m] = p at *
      have hkb : decide (xs.length ≤ m) = false := decide_eq_false (by omega)
      go_enter Try.func85, Try.ntmps85
      go_wp2
      go_ret2
      exact ⟨rfl, rfl⟩
    · have hn : xs[k.toNat]? = none := List.getElem?_eq_none (by omega)
      obtain rfl : r = (.nilIface, false) := by rw [← hr, getB, if_neg hk, hn]
      clear hr hn
      go_enter Try.func85, Try.ntmps85
      go_wp2
      go_ret2
      exact ⟨rfl, rfl⟩
theorem topB_ (F : Nat → Prop) (g : Nat) (xs : List Value) (w : World) (h : PS w F g xs) (hb : xs.length ≤ 1073741824) (r : Value × Bool) (hr : getB xs (xs.length - 1) = r) :
    Calls Try.prog 72 #[.pointer (some ⟨g, 0, none⟩)] w fun e w' => e = .returned (.tuple #[r.1, .bool r.2]) ∧ w = w' := by
  have hAT := Lib.hid (atB F g xs ((xs.length : Int) - 1) w h r hr)
  obtain ⟨v, hB, hF, hS⟩ := h
  obtain ⟨A, c, rfl⟩ := hS.form
  obtain ⟨c0, f0, l0⟩ := blk1 hB
  clear hr
  go_enter Try.func72, Try.ntmps72
  go_wp2_with fail
  refine hAT.out.mono ?_
  rintro e w' ⟨rfl, rfl⟩
  go_wp2
  go_ret2
  exact ⟨rfl, rfl⟩

/-- What lies on top is taken off. -/
theorem popB0 (F : Nat → Prop) (g : Nat) (w : World) (h : PS w F g []) : Calls Try.prog 54 #[.pointer (some ⟨g, 0, none⟩)] w fun e w' => e = .returned (.tuple #[.nilIface, .bool false]) ∧ w = w' := by
  have hT := Lib.hid (topB_ F g [] w h (by simp) (.nilIface, false) rfl)
  go_enter Try.func54, Try.ntmps54
  go_wp2_with fail
  refine hT.out.mono ?_
  rintro e w' ⟨rfl, rfl⟩
  go_wp2
  go_ret2
  exact ⟨rfl, rfl⟩
set_option maxHeartbeats 1600000 in
theorem popB1 (F : Nat → Prop) (g : Nat) (xs : List Value) (x : Value) (w : World) (h : PS w F g (xs ++ [x])) (hb : xs.length ≤ 1073741820) : Calls Try.prog 54 #[.pointer (some ⟨g, 0, none⟩)] w fun e w' => e = .returned (.tuple #[x, .bool true]) ∧ PS w' F g xs ∧ Frm F w w' := by
  have hT := Lib.hid (topB_ F g (xs ++ [x]) w h (by simp; omega) (x, true) (by
    rw [getB, List.length_append, List.length_singleton, if_neg (by omega), show (((xs.length + 1 : Nat) : Int) - 1).toNat = xs.length by omega, List.getElem?_append_right (Nat.le_refl _), Nat.sub_self]
    rfl))
  obtain ⟨v, hB, hF, hS⟩ := h
  obtain ⟨A, c, rfl⟩ := hS.form
  have hcap := hS.rd.cap
  obtain ⟨c0, f0, l0⟩ := blk1 hB
  simp only [List.length_append, List.length_singleton] at hcap c0 hB hS
  have hcut := hS.cut (k := xs.length) (by omega)
  rw [Nat.mul_one, List.take_left] at hcut
  have hwr : IntKind.i64.wrap (((xs.length + 1 : Nat) : Int) - 1) = (xs.length : Int) := by rw [IntWalk.i64_in _ (by omega)]; omega
  have hS2 := Lib.hid hS
  clear hS
  go_enter Try.func54, Try.ntmps54
  go_wp2_with fail
  refine hT.out.mono ?_
  rintro e w' ⟨rfl, rfl⟩
  go_wp2_with fail
  go_region
  all_goals
    go_wp2_with fail
    go_ret2
    refine ⟨rfl, ⟨_, (hB.setSame 0 (.slice A xs.length c)).drew, hF, (hcut.set g 0 (.slice A xs.length c) (fun h => h.2 rfl)).drew⟩, ((Frm.refl _ w).set g 0 _ (fun _ => hF)).drew⟩
end Go.Proofs.Ytoadmpochaeohaa
end

section
set_option linter.unusedVariables false
set_option linter.unusedSimpArgs false
set_option maxRecDepth 100000
namespace Go.Proofs.Ytoadmpochaeohaa
open Go.RowKit

def I32 (z : Int) : Value := .int .i32 z
def N32 (n : Nat) : Value := .int .i32 n
theorem infoI32 : (Try.prog.info? 21).map (fun i => (i.zero, i.size, i.bytes)) = some (some (.int .i32 0), 1, 4) := by kernel_rfl
theorem i32_one (l : List Int) : ∀ v ∈ l.map I32, v.oneCell' = true := by
  intro v hv; obtain ⟨x, _, rfl⟩ := List.mem_map.1 hv; rfl
theorem n32_one (l : List Nat) : ∀ v ∈ l.map N32, v.oneCell' = true := by
  intro v hv; obtain ⟨x, _, rfl⟩ := List.mem_map.1 hv; rfl

/-- A set at block b with room for the numbers below 'room': the numbers l, in the order of their coming. -/
def MK (w : World) (F : Nat → Prop) (b room : Nat) (l : List Nat) : Prop :=
  ∃ vw vl Fw Fl wh, Blk w b [vw, vl] 174 ∧ F b ∧ Sl w Fw 21 1 vw room ((wh : List Int).map I32) ∧ Sl w Fl 21 1 vl l.length (l.map N32) ∧ (∀ k, Fw k → F k ∧ k ≠ b ∧ ¬ Fl k) ∧ (∀ k, Fl k → F k ∧ k ≠ b) ∧
    wh.length = room ∧ room ≤ 100000 ∧ (∀ x ∈ wh, 0 ≤ x ∧ x ≤ 2147483647) ∧ ∀ (j n : Nat), l[j]? = some n → n < room ∧ wh[n]? = some (j : Int)
theorem MK.low {w : World} {F : Nat → Prop} {b room : Nat} {l : List Nat} (h : MK w F b room l) : MK w (fun k => F k ∧ k < w.heap.size) b room l := by
  obtain ⟨vw, vl, Fw, Fl, wh, hB, hF, hW, hL, h1, h2, h3⟩ := h
  exact ⟨vw, vl, _, _, wh, hB, ⟨hF, hB.lt⟩, hW.low, hL.low, fun k hk => ⟨⟨(h1 k hk.1).1, hk.2⟩, (h1 k hk.1).2.1, fun h => (h1 k hk.1).2.2 h.1⟩, fun k hk => ⟨⟨(h2 k hk.1).1, hk.2⟩, (h2 k hk.1).2⟩, h3⟩
theorem MK.frm {S : Nat → Prop} {w w' : World} {F : Nat → Prop} {b room : Nat} {l : List Nat} (h : MK w F b room l) (f : Frm S w w') (hd : ∀ k, F k → ¬ S k) : MK w' F b room l := by
  obtain ⟨vw, vl, Fw, Fl, wh, hB, hF, hW, hL, h1, h2, h3⟩ := h
  exact ⟨vw, vl, Fw, Fl, wh, hB.frm f (hd _ hF), hF, hW.frm f (fun k hk => hd k (h1 k hk).1), hL.frm f (fun k hk => hd k (h2 k hk).1), h1, h2, h3⟩
theorem MK.mono {w : World} {F G : Nat → Prop} {b room : Nat} {l : List Nat} (h : MK w F b room l) (hG : ∀ k, F k → k < w.heap.size → G k) : MK w G b room l := by
  obtain ⟨vw, vl, Fw, Fl, wh, hB, hF, hW, hL, h1, h2, h3⟩ := h.low
  exact ⟨vw, vl, Fw, Fl, wh, hB, hG _ hF.1 hF.2, hW, hL, fun k hk => ⟨hG k (h1 k hk).1.1 (h1 k hk).1.2, (h1 k hk).2⟩, fun k hk => ⟨hG k (h2 k hk).1.1 (h2 k hk).1.2, (h2 k hk).2⟩, h3⟩
theorem MK.kept {w w' : World} {row : Option Nat} {F : Nat → Prop} {b room : Nat} {l : List Nat} (h : MK w F b room l) (hg : w.grownBy w' row) (hr : ∀ r, row = some r → ∃ o : Obj, w.heap[r]? = some o ∧ o.isCells = false) : MK w' F b room l := by
  obtain ⟨vw, vl, Fw, Fl, wh, hB, hF, hW, hL, h3⟩ := h
  exact ⟨vw, vl, Fw, Fl, wh, hB.kept hg hr, hF, hW.kept hg hr, hL.kept hg hr, h3⟩
theorem MK.lt {w : World} {F : Nat → Prop} {b room : Nat} {l : List Nat} (h : MK w F b room l) : b < w.heap.size := by
  obtain ⟨vw, vl, Fw, Fl, wh, hB, _⟩ := h
  exact hB.lt
theorem MK.room {w : World} {F : Nat → Prop} {b room : Nat} {l : List Nat} (h : MK w F b room l) : room ≤ 100000 := by
  obtain ⟨vw, vl, Fw, Fl, wh, hB, hF, hW, hL, h1, h2, h3, h4, h5, h6⟩ := h
  exact h4
theorem pigeon : ∀ (n : Nat) (l : List Nat), l.Nodup → (∀ x ∈ l, x < n) → l.length ≤ n
  | 0, l, _, h => by
    cases l with
    | nil => simp
    | cons x l => exact absurd (h x List.mem_cons_self) (by omega)
  | n + 1, l, hd, h => by
    by_cases hm : n ∈ l
    · have := pigeon n (l.erase n) (hd.erase n) (fun x hx => by have h1 := (List.Nodup.mem_erase_iff hd).1 hx; have := h x h1.2; omega)
      rw [List.length_erase_of_mem hm] at this; omega
    · have := pigeon n l hd (fun x hx => by have := h x hx; have : x ≠ n := fun e => hm (e ▸ hx); omega)
      omega
theorem MK.nodup {w : World} {F : Nat → Prop} {b room : Nat} {l : List Nat} (h : MK w F b room l) : l.Nodup ∧ (∀ n ∈ l, n < room) ∧ l.length ≤ room := by
  obtain ⟨vw, vl, Fw, Fl, wh, hB, hF, hW, hL, h1, h2, h3, h4, h5, h6⟩ := h
  have hn : l.Nodup := by
    refine List.pairwise_iff_getElem.2 fun i j hi hj hij e => ?_
    have e1 := (h6 i l[i] (List.getElem?_eq_getElem hi)).2
    have e2 := (h6 j l[i] (by rw [e]; exact List.getElem?_eq_getElem hj)).2
    rw [e1] at e2
    cases e2
    omega
  have hm : ∀ n ∈ l, n < room := fun n hx => by
    obtain ⟨j, hj⟩ := List.getElem?_of_mem hx
    exact (h6 j n hj).1
  exact ⟨hn, hm, pigeon _ _ hn hm⟩

theorem newM (room : Nat) (w : World) (hr : room ≤ 100000) : Calls Try.prog 58 #[.int .i64 room] w fun e w' => ∃ b, e = .returned (.tuple #[.pointer (some ⟨b, 0, none⟩), .int .i64 0]) ∧ MK w' (fun k => w.heap.size ≤ k) b room [] ∧ Frm (fun _ => False) w w' := by
  go_enter Try.func58, Try.ntmps58
  go_wp2_with (with_reducible refine stop_at 11 rfl ?_)
  unfold Stop
  refine op_make rfl _ _ _ rfl 21 (.int .i32 0) 4 Try.underlying172 infoI32 rfl room rfl rfl room rfl (by omega) (by omega) ?_
  intro b w1 hn hB
  go_wp2
  go_ret2
  have hne := hn.lt
  have hge := hn.le
  refine ⟨_, rfl, ⟨_, _, fun k => k = b, fun _ => False, List.replicate room 0, Blk.new w1 _ 174, by have := hn.size; omega, ?_, Sl.nil, fun k h => ⟨by omega, by omega, fun h => h⟩, fun _ h => h.elim, by simp, hr, fun x hx => by rw [(List.mem_replicate.1 hx).2]; omega, fun j n h => by simp at h⟩, hn.frm.alloc _⟩
  have := hB.alloc (.cells #[.slice (some ⟨b, 0, none⟩) room room, .slice none 0 0] 174)
  rw [List.map_replicate]
  exact .at_ (rest := []) rfl (by simpa [I32] using this) (by simp) (by simp) (Nat.le_refl _) (by simp only [maxLen]; omega)

theorem lenM (F : Nat → Prop) (b room : Nat) (l : List Nat) (w : World) (h : MK w F b room l) : Calls Try.prog 63 #[.pointer (some ⟨b, 0, none⟩)] w fun e w' => e = .returned (.int .i64 l.length) ∧ w = w' := by
  obtain ⟨vw, vl, Fw, Fl, wh, hB, hF, hW, hL, h3⟩ := h
  obtain ⟨A, c, rfl⟩ := hL.form
  obtain ⟨c0, c1, f0, f1, l0⟩ := blk2 hB
  go_enter Try.func63, Try.ntmps63
  go_wp2
  go_ret
  exact ⟨rfl, rfl⟩

theorem clearM (F : Nat → Prop) (b room : Nat) (l : List Nat) (w : World) (h : MK w F b room l) : Calls Try.prog 81 #[.pointer (some ⟨b, 0, none⟩)] w fun e w' => e = .returned (.tuple #[]) ∧ MK w' F b room [] ∧ Frm (fun k => k = b) w w' := by
  obtain ⟨vw, vl, Fw, Fl, wh, hB, hF, hW, hL, h1, h2, h3, h4, h5, h6⟩ := h
  obtain ⟨A, c, rfl⟩ := hL.form
  obtain ⟨c0, c1, f0, f1, l0⟩ := blk2 hB
  have hcap := hL.rd.cap
  have hz : (0 : Int) ≤ (c : Int) := by omega
  go_enter Try.func81, Try.ntmps81
  go_wp2
  go_end0
  have hf := (Frm.refl (fun k => k = b) w).set b 1 (.slice A 0 c) (fun _ => rfl)
  exact ⟨rfl, ⟨_, _, Fw, Fl, wh, hB.setSame 1 _, hF, hW.frm hf (fun k hk => (h1 k hk).2.1), by simpa using (hL.cut0).frm hf (fun k hk => (h2 k hk).2), h1, h2, h3, h4, h5, fun j n h => by simp at h⟩, hf⟩

theorem has_iff {wh : List Int} {l : List Nat} {room n : Nat} {x : Int} (h6 : ∀ (j n : Nat), l[j]? = some n → n < room ∧ wh[n]? = some (j : Int)) (hx : wh[n]? = some x) (k : Nat) (hk : x = (k : Int)) (y : Nat) (hy : l[k]? = some y) : (y = n ↔ n ∈ l) := by
  constructor
  · rintro rfl; exact List.mem_of_getElem? hy
  · intro hm
    obtain ⟨j, hj⟩ := List.getElem?_of_mem hm
    have h7 := (h6 j n hj).2
    rw [hx] at h7
    cases h7
    have : j = k := by omega
    subst this
    rw [hy] at hj
    exact Option.some.inj hj
theorem has_not {wh : List Int} {l : List Nat} {room n : Nat} {x : Int} (h6 : ∀ (j n : Nat), l[j]? = some n → n < room ∧ wh[n]? = some (j : Int)) (hx : wh[n]? = some x) (k : Nat) (hk : x = (k : Int)) (hy : l.length ≤ k) : n ∉ l := by
  intro hm
  obtain ⟨j, hj⟩ := List.getElem?_of_mem hm
  have h7 := (h6 j n hj).2
  rw [hx] at h7
  cases h7
  have := (List.getElem?_eq_some_iff.1 hj).1
  omega

set_option maxHeartbeats 800000 in
theorem hasM (F : Nat → Prop) (b room n : Nat) (l : List Nat) (w : World) (h : MK w F b room l) (hn : n < room) (r : Bool) (hr : decide (n ∈ l) = r) : Calls Try.prog 90 #[.pointer (some ⟨b, 0, none⟩), .int .i64 n] w fun e w' => e = .returned (.bool r) ∧ w = w' := by
  obtain ⟨vw, vl, Fw, Fl, wh, hB, hF, hW, hL, h1, h2, h3, h4, h5, h6⟩ := h
  obtain ⟨A, c, rfl⟩ := hL.form
  obtain ⟨Aw, cw, rfl⟩ := hW.form
  obtain ⟨c0, c1, f0, f1, l0⟩ := blk2 hB
  obtain ⟨x, hx⟩ : ∃ x, wh[n]? = some x := ⟨_, List.getElem?_eq_getElem (by omega)⟩
  have hx0 := h5 x (List.mem_of_getElem? hx)
  obtain ⟨k, rfl⟩ := Int.eq_ofNat_of_zero_le hx0.1
  obtain ⟨bw, ow, rfl, hbw, d0⟩ : ∃ bw ow, Aw = some ⟨bw, ow, none⟩ ∧ bw < w.heap.size ∧ w.cell? ⟨bw, ow + n, none⟩ = some (.int .i32 (k : Int)) := by
    obtain ⟨bw, ow, e, hb, hc⟩ := hW.rd.elem n hn
    exact ⟨bw, ow, e, hb, by simpa [I32, hx] using hc 0 (I32 k) (by simp [hx])⟩
  have hwr : IntKind.i64.wrap (k : Int) = (k : Int) := IntWalk.i64_in _ (by omega)
  have HR := Lib.hid hr
  by_cases hk : k < l.length
  · obtain ⟨y, hy⟩ : ∃ y, l[k]? = some y := ⟨_, List.getElem?_eq_getElem hk⟩
    have hyb := (h6 k y hy).1
    have hiff := has_iff h6 hx k rfl y hy
    obtain ⟨bl, ol, rfl, hbl, d1⟩ : ∃ bl ol, A = some ⟨bl, ol, none⟩ ∧ bl < w.heap.size ∧ w.cell? ⟨bl, ol + k, none⟩ = some (.int .i32 (y : Int)) := by
      obtain ⟨bl, ol, e, hb, hc⟩ := hL.rd.elem k hk
      exact ⟨bl, ol, e, hb, by simpa [N32, hy] using hc 0 (N32 y) (by simp [hy])⟩
    have hwy : IntKind.i64.wrap (y : Int) = (y : Int) := IntWalk.i64_in _ (by omega)
    have HIF := Lib.hid hiff
    clear hx hy h6 h5 hiff hr h1 h2
    go_enter Try.func90, Try.ntmps90
    go_wp2
    go_ret
    refine ⟨?_, rfl⟩
    rw [← HR.out]
    by_cases hyn : y = n
    · rw [decide_eq_true (HIF.out.1 hyn)]; simp [hyn]
    · rw [decide_eq_false (fun hm => hyn (HIF.out.2 hm))]; simp; omega
  · have hno := has_not h6 hx k rfl (by omega)
    have HNO := Lib.hid hno
    clear hx h6 h5 hno hr h1 h2
    go_enter Try.func90, Try.ntmps90
    go_wp2
    go_ret
    refine ⟨?_, rfl⟩
    rw [← HR.out, decide_eq_false HNO.out]
    simp <;> omega

def PutPost (F : Nat → Prop) (b room : Nat) (w : World) (l : List Nat) (r : Bool) (e : Ending) (w' : World) : Prop :=
  e = .returned (.bool r) ∧ MK w' (fun k => F k ∨ w.heap.size ≤ k) b room l ∧ Frm F w w'

theorem where_put {wh : List Int} {l : List Nat} {room n : Nat} (h6 : ∀ (j n : Nat), l[j]? = some n → n < room ∧ wh[n]? = some (j : Int)) (hw : wh.length = room) (hn : n < room) (hno : n ∉ l) :
    ∀ (j m : Nat), (l ++ [n])[j]? = some m → m < room ∧ (wh.set n (l.length : Int))[m]? = some (j : Int) := by
  intro j m hj
  by_cases hjl : j < l.length
  · rw [List.getElem?_append_left hjl] at hj
    have h7 := h6 j m hj
    have hne : n ≠ m := fun e => hno (e ▸ List.mem_of_getElem? hj)
    exact ⟨h7.1, by rw [List.getElem?_set_ne hne]; exact h7.2⟩
  · have hj2 : j = l.length := by
      have := (List.getElem?_eq_some_iff.1 hj).1
      simp at this
      omega
    subst hj2
    simp at hj
    subst hj
    exact ⟨hn, by rw [List.getElem?_set_self (by omega)]⟩

set_option maxHeartbeats 1600000 in
theorem putM (F : Nat → Prop) (b room n : Nat) (l : List Nat) (w : World) (h : MK w F b room l) (hn : n < room) : Calls Try.prog 80 #[.pointer (some ⟨b, 0, none⟩), .int .i64 n] w (PutPost F b room w (if n ∈ l then l else l ++ [n]) (decide (n ∉ l))) := by
  have hlen := h.nodup.2.2
  have hroom := h.room
  have h0 := h
  obtain ⟨vw, vl, Fw, Fl, wh, hB, hF, hW, hL, h1, h2, h3, h4, h5, h6⟩ := h.low
  obtain ⟨A, c, rfl⟩ := hL.form
  obtain ⟨Aw, cw, rfl⟩ := hW.form
  obtain ⟨c0, c1, f0, f1, l0⟩ := blk2 hB
  by_cases hm : n ∈ l
  · rw [if_pos hm, decide_eq_false (by simpa using hm)]
    have HH := Lib.hid (hasM F b room n l w h0 hn true (decide_eq_true hm))
    clear h5 h6 h1 h2 hm
    go_enter Try.func80, Try.ntmps80
    go_wp2_with (go_at_call 90; refine HH.out.mono ?_; rintro e w' ⟨rfl, rfl⟩)
    go_ret
    exact ⟨rfl, h0.mono (fun k h _ => .inl h), Frm.refl _ _⟩
  · rw [if_neg hm, decide_eq_true (by simpa using hm)]
    have HH := Lib.hid (hasM F b room n l w h0 hn false (decide_eq_false hm))
    have HWP := Lib.hid (where_put h6 h3 hn hm)
    obtain ⟨bw, rfl, hFw, hbw, cur, hbc, hcur⟩ := hW.head (by omega)
    have hbne : b ≠ bw := fun e => (h1 bw hFw).2.1 e.symm
    obtain ⟨yo, hyo⟩ : ∃ yo, w.cell? ⟨bw, n, none⟩ = some yo := by
      rw [hbc.cell, hcur n (by simp [h3]; omega)]
      exact ⟨_, List.getElem?_eq_getElem (by simp [h3]; omega)⟩
    have hfz := hbc.frozen n
    have hwl : IntKind.i32.wrap (l.length : Int) = (l.length : Int) := IntWalk.i32_in _ (by omega)
    have hwn : IntKind.i32.wrap (n : Int) = (n : Int) := IntWalk.i32_in _ (by omega)
    have HI := Lib.hid (⟨h1, h2, h5⟩ : (∀ k, Fw k → (F k ∧ k < w.heap.size) ∧ k ≠ b ∧ ¬ Fl k) ∧ (∀ k, Fl k → (F k ∧ k < w.heap.size) ∧ k ≠ b) ∧ ∀ x ∈ wh, 0 ≤ x ∧ x ≤ 2147483647)
    clear h5 h6 h1 h2 hm
    go_enter Try.func80, Try.ntmps80
    go_upto_region 1 with fail
    go_wp2_with (first | (go_at_call 90; refine HH.out.mono ?_; rintro e w' ⟨rfl, rfl⟩) | fail)
    go_region
    all_goals
      have hf1 : Frm (fun k => k = bw) w ((w.setCell ⟨bw, n, none⟩ (.int .i32 (l.length : Int))).drew) := ((Frm.refl (fun k => k = bw) w).set bw n _ (fun _ => rfl)).drew
      have hB1 := hB.frm hf1 hbne
      have hL1 := hL.frm hf1 (fun k hk e => (HI.out.1 bw hFw).2.2 (e ▸ hk))
      have hW1 := (hW.put hn (.int .i32 (l.length : Int))).drew
      rw [show (List.map I32 wh).set n (.int .i32 (l.length : Int)) = (wh.set n (l.length : Int)).map I32 by rw [List.map_set]; rfl] at hW1
      clear c0 c1 f0 f1 hyo hfz hbc hcur
      generalize (w.setCell ⟨bw, n, none⟩ (.int .i32 (l.length : Int))).drew = w1 at *
      obtain ⟨c0, c1, f0, f1, l1⟩ := blk2 hB1
      have hX := Blk.new w1 [.int .i32 (n : Int)] 21
      have hL2 := hL1.alloc (.cells #[.int .i32 (n : Int)] 21)
      go_wp2_with (with_reducible refine stop_at 41 rfl ?_)
      unfold Stop
      refine op_append rfl _ _ _ rfl 21 _ 1 4 Try.underlying172 infoI32 rfl (by omega) hL2 rfl ⟨w1.heap.size, 0, none⟩ 1 1 [.int .i32 (n : Int)] rfl rfl (fun j u hu => (hX.cellAdd 0 j).trans (by rw [Nat.zero_add]; exact hu)) (by intro u hu; simp at hu; subst hu; rfl) (by simp only [maxLen]; omega) (by omega) ?_
      intro v' w3 hf3 hL3
      obtain ⟨A3, e3, rfl⟩ := hL3.form
      have hz1 := hf1.size
      have hz3 : w1.heap.size + 1 ≤ w3.heap.size := by have := hf3.size; simpa using this
      have hB3 := (hB1.alloc (.cells #[.int .i32 (n : Int)] 21)).frm hf3 (fun h => (HI.out.2.1 b h).2 rfl)
      have hW3 := (hW1.alloc (.cells #[.int .i32 (n : Int)] 21)).frm hf3 (fun k h1 h2 => (HI.out.1 k h1).2.2 h2)
      clear c0 c1 f0 f1
      obtain ⟨c0, c1, f0, f1, l3⟩ := blk2 hB3
      go_wp2
      go_ret
      have hf4 : Frm (fun k => k = b) w3 (w3.setCell ⟨b, 1, none⟩ (.slice A3 (l.length + 1) e3)) := (Frm.refl (fun k => k = b) w3).set b 1 _ (fun _ => rfl)
      have hbF : F bw ∧ bw < w.heap.size := (HI.out.1 bw hFw).1
      refine ⟨rfl, ⟨_, _, Fw, fun k => Fl k ∨ w1.heap.size ≤ k, _, hB3.setSame 1 _, .inl hF.1, hW3.frm hf4 (fun k hk => (HI.out.1 k hk).2.1), ?_, fun k hk => ⟨.inl (HI.out.1 k hk).1.1, (HI.out.1 k hk).2.1, ?_⟩, ?_, by rw [List.length_set]; exact h3, h4, ?_, HWP.out⟩, ?_⟩
      · rw [List.length_append, List.map_append]
        exact (hL3.frm hf4 (fun k hk e => by rcases hk with h1 | h1; exact (HI.out.2.1 k h1).2 e; simp at h1; omega)).mono (fun k hk _ => by rcases hk with h1 | h1; exact .inl h1; simp at h1; exact .inr (by omega))
      · rintro (h1 | h1)
        · exact (HI.out.1 k hk).2.2 h1
        · have := (HI.out.1 k hk).1.2; omega
      · rintro k (h1 | h1)
        · exact ⟨.inl (HI.out.2.1 k h1).1.1, (HI.out.2.1 k h1).2⟩
        · exact ⟨.inr (by omega), by omega⟩
      · intro x hx
        rcases List.mem_or_eq_of_mem_set hx with h1 | h1
        · exact HI.out.2.2 x h1
        · omega
      · exact (((hf1.mono (fun i e _ => e ▸ hbF.1)).alloc (.cells #[.int .i32 (n : Int)] 21)).then hf3 (fun i h _ => (HI.out.2.1 i h).1.1)).then hf4 (fun i e _ => e ▸ hF.1)
end Go.Proofs.Ytoadmpochaeohaa
end
