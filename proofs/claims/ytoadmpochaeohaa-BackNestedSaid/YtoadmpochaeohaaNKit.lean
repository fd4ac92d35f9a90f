/-
  Words for the walks of layer 16: over blocks that are known whole; a region within a round; the entry of a function that ranges over a function.
-/
import Derived.Test.YtoadmpochaeohaaOps
import Derived.BigQuiet
import Derived.Deep.QuietTactic
import Derived.Deep.CutBlock
import Derived.Deep.DeepCutAuto
import Derived.Deep.RegionWith
import Derived.WalkSpells
import Derived.RangeFuncNested
import Derived.RangeFuncBound
import Derived.RangeFuncCalls
import Derived.RangeFuncLeaves
import Derived.RangeFuncWrites
import Derived.RangeFuncFrom
import Derived.Shelf.Abstract
import Derived.Shelf.RegionOpen
import Derived.OwnWalkIn
import Derived.TacticsInMore
import Derived.LoopNIn
import Derived.LoopIn
import Derived.Sort.QuietIn
import Derived.Sort.CutIn
import Derived.Laws.EntriesVeiled
set_option linter.unusedVariables false
set_option linter.unusedSimpArgs false
set_option maxRecDepth 100000
namespace Go.Proofs.Ytoadmpochaeohaa
open Go.RowKit

def I64 (z : Int) : Value := .int .i64 z
theorem infoInt : (Try.prog.info? 3).map (fun i => (i.zero, i.size, i.bytes)) = some (some (.int .i64 0), 1, 8) := by kernel_rfl
theorem sizeInt : (Try.prog.info? 3).map (·.size) = some 1 := by kernel_rfl
theorem zeroInt (w : World) : (zeroValue 3).run Try.prog w = .ok (.int .i64 0) w := by kernel_rfl
theorem i64_one (l : List Int) : ∀ v ∈ l.map I64, v.oneCell' = true := by
  intro v hv; obtain ⟨x, _, rfl⟩ := List.mem_map.1 hv; rfl
theorem blk1 {w : World} {g : Nat} {a : Value} {t : TypeId} (h : Blk w g [a] t) : w.cell? ⟨g, 0, none⟩ = some a ∧ w.frozen? ⟨g, 0, none⟩ = false ∧ g < w.heap.size := ⟨h.cell 0, h.frozen 0, h.lt⟩
theorem blk2 {w : World} {g : Nat} {a b : Value} {t : TypeId} (h : Blk w g [a, b] t) : w.cell? ⟨g, 0, none⟩ = some a ∧ w.cell? ⟨g, 1, none⟩ = some b ∧ w.frozen? ⟨g, 0, none⟩ = false ∧ w.frozen? ⟨g, 1, none⟩ = false ∧ g < w.heap.size := ⟨h.cell 0, h.cell 1, h.frozen 0, h.frozen 1, h.lt⟩
/-- A part of an owned slice: its first k elements. -/
theorem Sl.cut {w : World} {F : Nat → Prop} {e : TypeId} {size : Nat} {A : Option Addr} {n c k : Nat} {xs : List Value} (h : Sl w F e size (.slice A n c) n xs) (hk : k ≤ n) : Sl w F e size (.slice A k c) k (xs.take (k * size)) := by
  cases h with
  | nil =>
    have hk0 : k = 0 := Nat.le_zero.1 hk
    rw [hk0, Nat.zero_mul, List.take_zero]
    exact .nil
  | @at_ g _ cap _ rest hF hb hx hr hn hm =>
    have hle : k * size ≤ xs.length := by rw [hx]; exact Nat.mul_le_mul_right _ hk
    refine .at_ (rest := xs.drop (k * size) ++ rest) hF ?_ (by rw [List.length_take, Nat.min_eq_left hle]) ?_ (by omega) hm
    · rw [← List.append_assoc, List.take_append_drop]; exact hb
    · rw [← List.append_assoc, List.take_append_drop]; exact hr
/-- Store into an owned slice of one-cell elements. -/
theorem Sl.put {w : World} {F : Nat → Prop} {e : TypeId} {b n c k : Nat} {xs : List Value} (h : Sl w F e 1 (.slice (some ⟨b, 0, none⟩) n c) n xs) (hk : k < n) (x : Value) : Sl (w.setCell ⟨b, k, none⟩ x) F e 1 (.slice (some ⟨b, 0, none⟩) n c) n (xs.set k x) := by
  cases h with
  | @at_ g _ cap _ rest hF hb hx hr hn hm =>
    have hl : k < xs.length := by rw [hx]; omega
    refine .at_ (rest := rest) hF ?_ (by simpa using hx) (by simpa using hr) hn hm
    have := hb.setSame k x
    rwa [List.set_append_left _ _ hl] at this
theorem Sl.head {w : World} {F : Nat → Prop} {e : TypeId} {size : Nat} {A : Option Addr} {n c : Nat} {xs : List Value} (h : Sl w F e size (.slice A n c) n xs) (hn : 0 < n) : ∃ b, A = some ⟨b, 0, none⟩ ∧ F b ∧ b < w.heap.size ∧ ∃ cur, Blk w b cur e ∧ ∀ j, j < xs.length → cur[j]? = xs[j]? := by
  cases h with
  | nil => omega
  | at_ hF hb hx hr hn hm => exact ⟨_, rfl, hF, hb.lt, _, hb, fun j hj => List.getElem?_append_left hj⟩
theorem Rd.cell1 {w : World} {F : Nat → Prop} {A : Option Addr} {n c : Nat} {xs : List Int} (h : Rd w F 1 A n c (xs.map I64)) (k : Nat) (hk : k < n) : ∃ b off z, A = some ⟨b, off, none⟩ ∧ b < w.heap.size ∧ xs[k]? = some z ∧ w.cell? ⟨b, off + k, none⟩ = some (.int .i64 z) := by
  have hl : xs.length = n := by simpa using h.len
  obtain ⟨b, off, rfl, hb, hc⟩ := h.elem k hk
  have hz : xs[k]? = some xs[k] := List.getElem?_eq_getElem (by omega)
  refine ⟨b, off, _, rfl, hb, hz, ?_⟩
  have := hc 0 (.int .i64 xs[k]) (by rw [Nat.mul_one, Nat.add_zero, List.getElem?_map, hz]; rfl)
  simpa using this
theorem Rd.cell2 {w : World} {F : Nat → Prop} {b off n c : Nat} {xs : List Int} (h : Rd w F 1 (some ⟨b, off, none⟩) n c (xs.map I64)) (k : Nat) (hk : k < n) (z : Int) (hz : xs[k]? = some z) : w.cell? ⟨b, off + k, none⟩ = some (.int .i64 z) := by
  obtain ⟨b', off', z', e, hb, hz', hc⟩ := h.cell1 k hk
  cases e
  rw [hz] at hz'; cases hz'
  exact hc
theorem Rd.one {w : World} {F : Nat → Prop} {A : Option Addr} {n c : Nat} {xs : List Value} (h : Rd w F 1 A n c xs) {k : Nat} {x : Value} (hk : xs[k]? = some x) : ∃ b off, A = some ⟨b, off, none⟩ ∧ w.cell? ⟨b, off + k, none⟩ = some x := by
  have hl : xs.length = n := by simpa using h.len
  have hkl := (List.getElem?_eq_some_iff.1 hk).1
  obtain ⟨b, off, hA, _, hc⟩ := h.elem k (by omega)
  exact ⟨b, off, hA, by have := hc 0 x (by simpa using hk); simpa using this⟩
theorem Rd.oneAt {w : World} {F : Nat → Prop} {b off : Nat} {n c : Nat} {xs : List Value} (h : Rd w F 1 (some ⟨b, off, none⟩) n c xs) {k : Nat} {x : Value} (hk : xs[k]? = some x) : w.cell? ⟨b, off + k, none⟩ = some x := by
  obtain ⟨b', o', hA, hc⟩ := h.one hk
  cases hA
  exact hc
/-- What a round keeps: cells that lie at or behind B. -/
structure KpB (B : Nat) (W W' : World) : Prop where
  size : W.heap.size ≤ W'.heap.size
  same : ∀ (k : Nat) (o : Obj), B ≤ k → W.heap[k]? = some o → o.isCells = true → W'.heap[k]? = some o
theorem KpB.refl (B : Nat) (W : World) : KpB B W W := ⟨Nat.le_refl _, fun _ _ _ h _ => h⟩
theorem KpB.trans {B : Nat} {X Y Z : World} (h : KpB B X Y) (k : KpB B Y Z) : KpB B X Z := ⟨Nat.le_trans h.size k.size, fun i o hB hi ho => k.same i o hB (h.same i o hB hi ho) ho⟩
theorem KpB.of_frm {B : Nat} {W W' : World} {S : Nat → Prop} (h : Frm S W W') (hS : ∀ k, S k → k < W.heap.size → k < B) : KpB B W W' :=
  ⟨h.size, fun k o hB hk _ => by
    have hlt := (Array.getElem?_eq_some_iff.1 hk).1
    exact (h.block k hlt (fun hs => by have := hS k hs hlt; omega)).trans hk⟩
theorem KpB.turn {B : Nat} (W : World) (l : Nat) (o o' : Obj) (_ : B ≤ l) (h : W.heap[l]? = some o) (hc : o.isCells = false) (_ : o.isWalk = false) : KpB B W (W.putObj l o') :=
  ⟨(grownBy_putObj' W l o').size, fun k o2 hB hk ho => by
    have hne : some k ≠ some l := fun e => by cases e; rw [h] at hk; cases hk; rw [hc] at ho; cases ho
    exact ((grownBy_putObj' W l o').block k (Array.getElem?_eq_some_iff.1 hk).1 hne).trans hk⟩
theorem Blk.kp {B : Nat} {w w' : World} {g : Nat} {cur : List Value} {t : TypeId} (h : Blk w g cur t) (k : KpB B w w') (hB : B ≤ g) : Blk w' g cur t := ⟨k.same g _ hB h.out rfl⟩
theorem Sl.kp {B : Nat} {w w' : World} {F : Nat → Prop} {e : TypeId} {size : Nat} {v : Value} {n : Nat} {xs : List Value} (h : Sl w F e size v n xs) (k : KpB B w w') (hB : ∀ i, F i → B ≤ i) : Sl w' F e size v n xs := by
  cases h with
  | nil => exact .nil
  | at_ hF hb hx hr hn hm => exact .at_ hF (hb.kp k (hB _ hF)) hx hr hn hm
theorem Blk.kept {w w' : World} {row : Option Nat} {g : Nat} {cur : List Value} {t : TypeId} (h : Blk w g cur t) (hg : w.grownBy w' row) (hr : ∀ r, row = some r → ∃ o : Obj, w.heap[r]? = some o ∧ o.isCells = false) : Blk w' g cur t :=
  h.frm (Frm.of_grown hg) (fun e => by
    obtain ⟨o, ho, hc⟩ := hr g e.symm
    rw [h.out] at ho; cases ho; cases hc)
theorem Sl.kept {w w' : World} {row : Option Nat} {F : Nat → Prop} {e : TypeId} {size : Nat} {v : Value} {n : Nat} {xs : List Value} (h : Sl w F e size v n xs) (hg : w.grownBy w' row) (hr : ∀ r, row = some r → ∃ o : Obj, w.heap[r]? = some o ∧ o.isCells = false) : Sl w' F e size v n xs := by
  cases h with
  | nil => exact .nil
  | at_ hF hb hx hr2 hn hm => exact .at_ hF (hb.kept hg hr) hx hr2 hn hm
/-- Whatever is no cells stays, where a walk has turned cells alone. -/
theorem keepsFrom_of {B : Nat} {W W' : World} {S : Nat → Prop} (h : Frm S W W') (hS : ∀ k, S k → k < W.heap.size → k < B) : KeepsFrom B W W' :=
  ⟨h.size, fun k o hB hk _ => (h.block k (Array.getElem?_eq_some_iff.1 hk).1 (fun hs => by have := hS k hs (Array.getElem?_eq_some_iff.1 hk).1; omega)).trans hk⟩
/-- No defer statement. -/
def noDefer (o : Oper) : Bool := match o.op with | .defer _ => false | _ => true
theorem noDefer_spec {o : Oper} (h : noDefer o = true) (c) : o.op ≠ .defer c := by
  intro e
  simp [noDefer, e] at h
theorem Oper.wpIn_round {F : Fence} {n : Nat} {P : Program} {o : Oper} {a : Act} {w : World} {K : Act → World → Prop} {Q : Exit → Act → World → Prop} {l0 : Nat} (hro : F.round = none) (hd : noDefer o = true)
    (hh : o.wpIn F n P a w K Q) : o.wpIn (F.inRound l0) n P a w K Q := by
  unfold Oper.wpIn at *
  refine ⟨hh.1, ?_⟩
  have hh := hh.2
  rw [Oper.semAt_plain F _ _ (noDefer_spec hd)] at hh
  rw [Oper.semAt_plain (F.inRound l0) _ _ (noDefer_spec hd)]
  generalize (execOp a.eval o).run P w = r at *
  cases r with
  | ok x w' => cases x <;> exact hh
  | halt x w' => cases x <;> exact hh
theorem wpAnyIn_round {F : Fence} {n : Nat} {P : Program} {md : Region.Mode} {ops : Array Oper} {Q : Exit → Act → World → Prop} {l0 : Nat} (hro : F.round = none) (hd : ∀ o, o ∈ ops.toList → noDefer o = true) :
    ∀ (fuel : Nat) (listed : Array Bool) (a : Act) (w : World), wpAnyIn F n P md ops Q fuel listed a w → wpAnyIn (F.inRound l0) n P md ops Q fuel listed a w
  | 0, listed, a, w, h => h
  | fuel + 1, listed, a, w, h => by
    refine ⟨h.1, fun i hi => ?_⟩
    have h := h.2 i hi
    unfold wpOpIn at *
    split
    · rename_i ho
      simp only [ho] at h
      exact wpAnyIn_round hro hd _ _ _ _ h
    · rename_i o ho
      simp only [ho] at h
      split
      · rename_i hw
        simp only [hw, if_true] at h
        refine Oper.wpIn_round hro (hd o ?_) (Oper.wpIn_mono (fun a w => wpAnyIn_round hro hd _ _ _ _) h)
        obtain ⟨hi, rfl⟩ := Array.getElem?_eq_some_iff.1 ho
        simp
      · rename_i hw
        simp only [hw] at h
        exact ⟨h.1, wpAnyIn_round hro hd _ _ _ _ h.2⟩
theorem region_quiet_round {F : Fence} {n : Nat} {P : Program} {l0 : Nat} {id : Nat} {Q : Exit → Act → World → Prop} {a : Act} {w : World} {l : List Oper} (hro : F.round = none) (hm : P.follows .mixedOrders = true) (hB : Region.lexB .any l.toArray = true) (hd : l.all noDefer = true)
    (h : wpQuietIn F n P l.toArray (fun w' => ∃ n, w' = w.drewN n) (fun a' => ∀ w', (∃ n, w' = w.drewN n) → Q .normal a' w') l a) : (Code.region id l.toArray true).wpIn (F.inRound l0) n P Q a w := by
  simp only [Region.lexB, Bool.and_eq_true] at hB
  refine wpIn_region_any hm (wpAnyIn_round hro (by simpa using hd) _ _ _ _ (wpAnyIn_of_quiet (C := fun w' => ∃ n, w' = w.drewN n) (Q := fun a' => ∀ w', (∃ n, w' = w.drewN n) → Q .normal a' w') hro (fun _ w' hw' h => h w' hw') _ _ _ _ ⟨1, rfl⟩ ?_))
  have := wpAnyQIn_lex (F := F) (n := n) (C := fun w' => ∃ n, w' = w.drewN n) (md := .any) hB.1 l 0 (Array.replicate l.toArray.size false) a (by simp) (by simpa using hB.2) h
  simpa using this
theorem capture {F : Fence} {n : Nat} {P : Program} {c : Code} {Q : Exit → Act → World → Prop} {tmps : Array Value} {w : World} (h : ∀ fr, fr = tmps → c.wpIn F n P Q ⟨fr, []⟩ w) : c.wpIn F n P Q ⟨tmps, []⟩ w := h _ rfl
theorem prefix_snoc {α : Type} {pre ys : List α} {x : α} (h : pre <+: ys) (hx : ys[pre.length]? = some x) : pre ++ [x] <+: ys := by
  obtain ⟨t, rfl⟩ := h
  rw [List.getElem?_append_right (Nat.le_refl _), Nat.sub_self] at hx
  cases t with
  | nil => simp at hx
  | cons y t =>
    simp only [List.getElem?_cons_zero, Option.some.injEq] at hx
    subst hx
    exact ⟨t, by simp⟩
theorem of_prefix_snoc {α : Type} {pre ys : List α} {x : α} (h : pre ++ [x] <+: ys) : ys[pre.length]? = some x := by
  obtain ⟨t, rfl⟩ := h
  simp
theorem bytes_eq {a b : ByteArray} (h : a.toList = b.toList) : a = b := by
  rw [ByteArray.toList_eq, ByteArray.toList_eq] at h
  exact ByteArray.ext (Array.toList_inj.1 h)
/-- What a body that holds a range over a function comes to: it never panics. -/
def postM (n : Nat) (fn : Func) (R : Ending → World → Prop) : Exit → Act → World → Prop
  | .normal, a, w => bodyPostM Fence.wide n Try.prog fn R .normal a w
  | .ret, a, w => bodyPostM Fence.wide n Try.prog fn R .ret a w
  | _, _, _ => False
theorem calls_marks {n : Nat} {f : FuncId} {fn : Func} {c : Code} {args : Array Value} {w : World} {R : Ending → World → Prop} (hf : Try.prog.funcs[f]? = some fn) (hb : fn.body = some c)
    (h : c.wp Try.prog (postM n fn R) { tmps := args ++ Array.replicate (fn.ntmps - args.size) undef, defers := [] } w) : Calls Try.prog f args w R :=
  callsIn_wide.1 (callsIn_of_wp_marks (n := n) hf hb trivial (wpIn_wide.2 (Code.wp_mono (fun e a w h => by cases e <;> first | exact h | exact h.elim) h)) rfl)
theorem RV.boolCell {tmps : Array Value} {p : Tmp} {g : Nat} {b : Bool} {w : World} (hp : tmps.getD p undef = .pointer (some ⟨g, 0, none⟩)) (hg : Blk w g [.bool b] 4) : RV Try.prog tmps w (.cell p 4) (.bool b) := by
  obtain ⟨c0, f0, l0⟩ := blk1 hg
  simp only [RV, hp, asAddr, Sem.run_bind, Sem.run_pure, Result.andThen_ok]
  go_simp
theorem wide_fn (f : FuncId) : Fence.wide.fn f = True := rfl
theorem blk6 {w : World} {g : Nat} {a b c d e f : Value} {t : TypeId} (h : Blk w g [a, b, c, d, e, f] t) :
    w.cell? ⟨g, 0, none⟩ = some a ∧ w.cell? ⟨g, 1, none⟩ = some b ∧ w.cell? ⟨g, 2, none⟩ = some c ∧ w.cell? ⟨g, 3, none⟩ = some d ∧ w.cell? ⟨g, 4, none⟩ = some e ∧ w.cell? ⟨g, 5, none⟩ = some f ∧ g < w.heap.size :=
  ⟨h.cell 0, h.cell 1, h.cell 2, h.cell 3, h.cell 4, h.cell 5, h.lt⟩
end Go.Proofs.Ytoadmpochaeohaa
