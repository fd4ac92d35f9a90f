/-
  Small words for walks that keep several blocks of their own: a block known whole (Blk), a frame (Frm).
-/
import Derived.Test.YtoadmpochaeohaaRows
import Derived.WalkKit
import Derived.Laws.CopyOwn
import Derived.Lib.Hide
import Derived.Deep.Draws
section
set_option linter.unusedVariables false
set_option linter.unusedSimpArgs false
set_option maxRecDepth 100000
namespace Go.Proofs.Ytoadmpochaeohaa
open Go.RowKit

/-- Block g is a row of exactly these cells, none of them frozen. -/
structure Blk (w : World) (g : Nat) (cur : List Value) (t : TypeId) : Prop where
  out : w.heap[g]? = some (.cells cur.toArray t (0, 0))

/-- What was there stays as it was, but for the blocks in S. -/
structure Frm (S : Nat → Prop) (w w' : World) : Prop where
  os : w'.os = w.os
  tape : w'.tape = w.tape
  output : w'.output = w.output
  size : w.heap.size ≤ w'.heap.size
  block : ∀ k, k < w.heap.size → ¬ S k → w'.heap[k]? = w.heap[k]?

theorem Blk.lt {w : World} {g : Nat} {cur : List Value} {t : TypeId} (h : Blk w g cur t) : g < w.heap.size := (Array.getElem?_eq_some_iff.1 h.out).1
theorem Blk.cell {w : World} {g : Nat} {cur : List Value} {t : TypeId} (h : Blk w g cur t) (j : Nat) : w.cell? ⟨g, j, none⟩ = cur[j]? := by
  simp [World.cell?, h.out]
theorem Blk.frozen {w : World} {g : Nat} {cur : List Value} {t : TypeId} (h : Blk w g cur t) (j : Nat) : w.frozen? ⟨g, j, none⟩ = false := by
  simp [World.frozen?, h.out]
theorem Blk.cellAdd {w : World} {g : Nat} {cur : List Value} {t : TypeId} (h : Blk w g cur t) (o j : Nat) : w.cell? ((⟨g, o, none⟩ : Addr).add j) = cur[o + j]? := by
  have : (⟨g, o, none⟩ : Addr).add j = ⟨g, o + j, none⟩ := by unfold Addr.add; split <;> simp_all
  rw [this]; exact h.cell _
theorem addr0 (b k : Nat) : (⟨b, 0, none⟩ : Addr).add k = ⟨b, k, none⟩ := by unfold Addr.add; split <;> simp_all
theorem Blk.new (w : World) (cur : List Value) (t : TypeId) : Blk (w.alloc (.cells cur.toArray t)) w.heap.size cur t := ⟨heap_alloc_new w _⟩
theorem Blk.newAt {w : World} {n : Nat} (cur : List Value) (t : TypeId) (h : n = w.heap.size) : Blk (w.alloc (.cells cur.toArray t)) n cur t := by subst h; exact Blk.new _ _ _
theorem Blk.alloc {w : World} {g : Nat} {cur : List Value} {t : TypeId} (h : Blk w g cur t) (o : Obj) : Blk (w.alloc o) g cur t := ⟨by rw [Below.heap_alloc w o g h.lt]; exact h.out⟩
theorem Blk.drew {w : World} {g : Nat} {cur : List Value} {t : TypeId} (h : Blk w g cur t) : Blk w.drew g cur t := ⟨h.out⟩
theorem Blk.drewN {w : World} {g : Nat} {cur : List Value} {t : TypeId} (h : Blk w g cur t) (n : Nat) : Blk (w.drewN n) g cur t := ⟨h.out⟩
theorem Blk.setOther {w : World} {g : Nat} {cur : List Value} {t : TypeId} (h : Blk w g cur t) (b o : Nat) (v : Value) (hne : g ≠ b) : Blk (w.setCell ⟨b, o, none⟩ v) g cur t :=
  ⟨by rw [Below.heap_setCell _ _ _ _ hne]; exact h.out⟩
theorem Blk.setSame {w : World} {g : Nat} {cur : List Value} {t : TypeId} (h : Blk w g cur t) (o : Nat) (v : Value) : Blk (w.setCell ⟨g, o, none⟩ v) g (cur.set o v) t := by
  have hlt := h.lt
  have hv : w.heap[g] = .cells cur.toArray t (0, 0) := (Array.getElem?_eq_some_iff.1 h.out).2
  refine ⟨?_⟩
  unfold World.setCell
  rw [Array.getElem?_eq_getElem (by simpa using hlt), Array.getElem_modify]
  simp [hv]
theorem Blk.frm {S : Nat → Prop} {w w' : World} {g : Nat} {cur : List Value} {t : TypeId} (h : Blk w g cur t) (f : Frm S w w') (n : ¬ S g) : Blk w' g cur t := ⟨by rw [f.block g h.lt n]; exact h.out⟩
theorem Blk.row {w : World} {g : Nat} {cur : List Value} {t : TypeId} (h : Blk w g cur t) (cur' : List Value) : Blk (w.setRow g cur'.toArray) g cur' t := ⟨setRow_heap w g _ _ t _ h.out⟩
theorem Blk.ne {w : World} {g g' : Nat} {cur cur' : List Value} {t t' : TypeId} (h : Blk w g cur t) (h' : Blk w g' cur' t') (hne : t ≠ t') : g ≠ g' := by
  rintro rfl
  have := h.out.symm.trans h'.out
  injection this with this
  injection this with _ this _
  exact hne this
theorem Blk.eq {w : World} {g : Nat} {cur cur' : List Value} {t t' : TypeId} (h : Blk w g cur t) (h' : Blk w g cur' t') : cur = cur' ∧ t = t' := by
  have := h.out.symm.trans h'.out
  injection this with this
  injection this with h1 h2 _
  exact ⟨by simpa using h1, h2⟩

theorem Frm.refl (S : Nat → Prop) (w : World) : Frm S w w := ⟨rfl, rfl, rfl, Nat.le_refl _, fun _ _ _ => rfl⟩
theorem Frm.trans {S : Nat → Prop} {a b c : World} (h : Frm S a b) (k : Frm S b c) : Frm S a c :=
  ⟨k.os.trans h.os, k.tape.trans h.tape, k.output.trans h.output, Nat.le_trans h.size k.size, fun i hi hS => (k.block i (Nat.lt_of_lt_of_le hi h.size) hS).trans (h.block i hi hS)⟩
/-- What the second step writes is new, or it is let. -/
theorem Frm.then {S T : Nat → Prop} {a b c : World} (h : Frm S a b) (k : Frm T b c) (hT : ∀ i, T i → i < a.heap.size → S i) : Frm S a c :=
  ⟨k.os.trans h.os, k.tape.trans h.tape, k.output.trans h.output, Nat.le_trans h.size k.size,
    fun i hi hS => (k.block i (Nat.lt_of_lt_of_le hi h.size) (fun t => hS (hT i t hi))).trans (h.block i hi hS)⟩
theorem Frm.mono {S T : Nat → Prop} {a b : World} (h : Frm S a b) (hT : ∀ i, S i → i < a.heap.size → T i) : Frm T a b :=
  ⟨h.os, h.tape, h.output, h.size, fun i hi hn => h.block i hi (fun s => hn (hT i s hi))⟩
theorem Frm.alloc {S : Nat → Prop} {a w : World} (h : Frm S a w) (o : Obj) : Frm S a (w.alloc o) :=
  h.then (T := S) ⟨rfl, rfl, rfl, by simp, fun k hk _ => Below.heap_alloc w o k hk⟩ (fun _ h _ => h)
theorem Frm.drew {S : Nat → Prop} {a w : World} (h : Frm S a w) : Frm S a w.drew := ⟨h.os, h.tape, h.output, h.size, h.block⟩
theorem Frm.drewN {S : Nat → Prop} {a w : World} (h : Frm S a w) (n : Nat) : Frm S a (w.drewN n) := ⟨h.os, h.tape, h.output, h.size, h.block⟩
theorem Frm.set {S : Nat → Prop} {a w : World} (h : Frm S a w) (b o : Nat) (v : Value) (hb : b < a.heap.size → S b) : Frm S a (w.setCell ⟨b, o, none⟩ v) :=
  ⟨h.os, h.tape, h.output, by simpa [World.setCell] using h.size, fun i hi hS => by
    rw [Below.heap_setCell _ _ _ _ (fun e => hS (by subst e; exact hb hi))]; exact h.block i hi hS⟩
theorem Frm.row {S : Nat → Prop} {a w : World} (h : Frm S a w) (b : Nat) (c : Array Value) (hb : b < a.heap.size → S b) : Frm S a (w.setRow b c) :=
  ⟨h.os, h.tape, h.output, by simpa using h.size, fun i hi hS => by
    rw [setRow_other _ _ _ _ (fun e => hS (by subst e; exact hb hi))]; exact h.block i hi hS⟩
theorem Frm.of_grown {w w' : World} {row : Option Nat} (h : w.grownBy w' row) : Frm (fun k => some k = row) w w' := ⟨h.os, h.tape, h.output, h.size, h.block⟩
theorem Frm.of_below {w w' : World} (h : Below w.heap.size w w') : Frm (fun _ => False) w w' := ⟨h.os, h.tape, h.output, h.size, fun k hk _ => h.block k hk⟩
theorem Frm.below {w w' : World} (h : Frm (fun _ => False) w w') : Below w.heap.size w w' := ⟨h.os, h.tape, h.output, h.size, fun k hk => h.block k hk (fun f => f)⟩
theorem Frm.grown {w w' : World} {row : Option Nat} (h : Frm (fun k => some k = row) w w') : w.grownBy w' row := ⟨h.os, h.tape, h.output, h.size, h.block⟩
theorem Frm.extends_ {w w' : World} (h : Frm (fun _ => False) w w') : ∀ k, k < w.heap.size → w'.heap[k]? = w.heap[k]? := fun k hk => h.block k hk (fun f => f)

/-- A byte as a cell. -/
def B8 (b : UInt8) : Value := .int .u8 b.toNat
/-- A string as its bytes. -/
def bs (l : List UInt8) : ByteArray := ⟨l.toArray⟩

/-- A slice value that has n elements (of 'size' cells each) in a row that is its own: nil, or at the head of a block. -/
inductive Sl (w : World) (F : Nat → Prop) (e : TypeId) (size : Nat) : Value → Nat → List Value → Prop where
  | nil : Sl w F e size (.slice none 0 0) 0 []
  | at_ {g n cap : Nat} {xs rest : List Value} (hF : F g) (hb : Blk w g (xs ++ rest) e) (hx : xs.length = n * size) (hr : (xs ++ rest).length = cap * size) (hn : n ≤ cap) (hm : cap ≤ maxLen) : Sl w F e size (.slice (some ⟨g, 0, none⟩) n cap) n xs

theorem Sl.len {w : World} {F : Nat → Prop} {e : TypeId} {size : Nat} {v : Value} {n : Nat} {xs : List Value} (h : Sl w F e size v n xs) : xs.length = n * size := by
  cases h with
  | nil => simp
  | at_ _ _ hx _ _ _ => exact hx
theorem Sl.frm {S : Nat → Prop} {w w' : World} {F : Nat → Prop} {e : TypeId} {size : Nat} {v : Value} {n : Nat} {xs : List Value} (h : Sl w F e size v n xs) (f : Frm S w w') (hd : ∀ k, F k → ¬ S k) : Sl w' F e size v n xs := by
  cases h with
  | nil => exact .nil
  | at_ hF hb hx hr hn hm => exact .at_ hF (hb.frm f (hd _ hF)) hx hr hn hm
theorem Sl.mono {w : World} {F G : Nat → Prop} {e : TypeId} {size : Nat} {v : Value} {n : Nat} {xs : List Value} (h : Sl w F e size v n xs) (hG : ∀ k, F k → k < w.heap.size → G k) : Sl w G e size v n xs := by
  cases h with
  | nil => exact .nil
  | at_ hF hb hx hr hn hm => exact .at_ (hG _ hF hb.lt) hb hx hr hn hm
theorem Sl.owns {w : World} {F : Nat → Prop} {e : TypeId} {size : Nat} {v : Value} {n : Nat} {xs : List Value} (h : Sl w F e size v n xs) : w.ownsRow 0 e size v n xs := by
  refine ⟨h.len, ?_⟩
  cases h with
  | nil => exact .inl ⟨rfl, rfl⟩
  | @at_ g n cap xs rest hF hb hx hr hn hm => exact .inr ⟨g, cap, _, rfl, Nat.zero_le _, hb.out, hn, hm, by simpa using hr, by simp [← hx]⟩
theorem Sl.of_owns {w : World} {F : Nat → Prop} {e : TypeId} {size : Nat} {v : Value} {n : Nat} {xs : List Value} (h : w.ownsRow 0 e size v n xs) (hF : ∀ g, v.ownBlock = some g → F g) : Sl w F e size v n xs := by
  obtain ⟨hl, h | ⟨g, cap, cur, rfl, _, hb, hn, hm, hc, ht⟩⟩ := h
  · obtain ⟨rfl, rfl⟩ := h
    obtain rfl : xs = [] := List.eq_nil_of_length_eq_zero (by simpa using hl)
    exact .nil
  · have e1 : cur.toList = xs ++ cur.toList.drop (n * size) := by rw [← ht]; simp
    refine .at_ (rest := cur.toList.drop (n * size)) (hF g rfl) ⟨?_⟩ hl ?_ hn hm
    · rw [← e1]; simpa using hb
    · rw [← e1]; simpa using hc
theorem Sl.form {w : World} {F : Nat → Prop} {e : TypeId} {size : Nat} {v : Value} {n : Nat} {xs : List Value} (h : Sl w F e size v n xs) : ∃ A c, v = .slice A n c := by
  cases h with
  | nil => exact ⟨_, _, rfl⟩
  | at_ _ _ _ _ _ _ => exact ⟨_, _, rfl⟩
theorem Sl.own {w : World} {F : Nat → Prop} {e : TypeId} {size : Nat} {v : Value} {n : Nat} {xs : List Value} (h : Sl w F e size v n xs) : ∀ g, v.ownBlock = some g → F g ∧ g < w.heap.size := by
  cases h with
  | nil => intro g hg; simp [Value.ownBlock] at hg
  | at_ hF hb _ _ _ _ => intro g hg; simp only [Value.ownBlock, Option.some.injEq] at hg; subst hg; exact ⟨hF, hb.lt⟩

/-- A block that was just made. -/
structure New (w w' : World) (b : Nat) : Prop where
  eq : b = w.heap.size
  size : w'.heap.size = w.heap.size + 1
  frm : Frm (fun _ => False) w w'
theorem New.le {w w' : World} {b : Nat} (h : New w w' b) : w.heap.size ≤ b := by rw [h.eq]; exact Nat.le_refl _
theorem New.lt {w w' : World} {b : Nat} (h : New w w' b) : b < w'.heap.size := by rw [h.eq, h.size]; omega
theorem New.ne {w w' : World} {b g : Nat} {cur : List Value} {t : TypeId} (h : New w w' b) (hb : Blk w g cur t) : g ≠ b := by have := hb.lt; have := h.le; omega
theorem Blk.past {w w' : World} {b g : Nat} {cur : List Value} {t : TypeId} (hb : Blk w g cur t) (h : New w w' b) : Blk w' g cur t := hb.frm h.frm (fun f => f)
theorem Sl.past {w w' : World} {b : Nat} {F : Nat → Prop} {e : TypeId} {size : Nat} {v : Value} {n : Nat} {xs : List Value} (hs : Sl w F e size v n xs) (h : New w w' b) : Sl w' F e size v n xs := hs.frm h.frm (fun _ _ f => f)
theorem Sl.alloc {w : World} {F : Nat → Prop} {e : TypeId} {size : Nat} {v : Value} {n : Nat} {xs : List Value} (hs : Sl w F e size v n xs) (o : Obj) : Sl (w.alloc o) F e size v n xs := hs.frm (S := fun _ => False) ((Frm.refl _ _).alloc o) (fun _ _ f => f)
theorem Sl.drew {w : World} {F : Nat → Prop} {e : TypeId} {size : Nat} {v : Value} {n : Nat} {xs : List Value} (hs : Sl w F e size v n xs) : Sl w.drew F e size v n xs := hs.frm (S := fun _ => False) ((Frm.refl _ _).drew) (fun _ _ f => f)
theorem Sl.set {w : World} {F : Nat → Prop} {e : TypeId} {size : Nat} {v : Value} {n : Nat} {xs : List Value} (hs : Sl w F e size v n xs) (b o : Nat) (u : Value) (hb : ¬ F b) : Sl (w.setCell ⟨b, o, none⟩ u) F e size v n xs :=
  hs.frm (S := fun k => k = b) ((Frm.refl _ _).set b o u (fun _ => rfl)) (fun k hF e => hb (e ▸ hF))
theorem Sl.low {w : World} {F : Nat → Prop} {e : TypeId} {size : Nat} {v : Value} {n : Nat} {xs : List Value} (hs : Sl w F e size v n xs) : Sl w (fun k => F k ∧ k < w.heap.size) e size v n xs := hs.mono (fun _ h l => ⟨h, l⟩)
/-- What a slice's cells are, where it has some. -/
theorem Sl.reads {w : World} {F : Nat → Prop} {e : TypeId} {size : Nat} {A : Option Addr} {n c : Nat} {xs : List Value} (h : Sl w F e size (.slice A n c) n xs) (hp : 0 < xs.length) : ∃ ad, A = some ad ∧ ∀ j v, xs[j]? = some v → w.cell? (ad.add j) = some v := by
  cases h with
  | nil => simp at hp
  | at_ hF hb hx hr hn hm => exact ⟨_, rfl, fun j v hj => by rw [hb.cellAdd 0 j]; simpa [List.getElem?_append_left (List.getElem?_eq_some_iff.1 hj).1] using hj⟩
theorem Sl.cut0 {w : World} {F : Nat → Prop} {e : TypeId} {size : Nat} {A : Option Addr} {n c : Nat} {xs : List Value} (h : Sl w F e size (.slice A n c) n xs) : Sl w F e size (.slice A 0 c) 0 [] := by
  cases h with
  | nil => exact .nil
  | @at_ g _ cap _ rest hF hb hx hr hn hm => exact .at_ (rest := xs ++ rest) hF hb (by simp) hr (Nat.zero_le _) hm

theorem blk3 {w : World} {g : Nat} {a b c : Value} {t : TypeId} (h : Blk w g [a, b, c] t) :
    w.cell? ⟨g, 0, none⟩ = some a ∧ w.cell? ⟨g, 1, none⟩ = some b ∧ w.cell? ⟨g, 2, none⟩ = some c ∧ w.frozen? ⟨g, 0, none⟩ = false ∧ w.frozen? ⟨g, 1, none⟩ = false ∧ w.frozen? ⟨g, 2, none⟩ = false ∧ g < w.heap.size :=
  ⟨h.cell 0, h.cell 1, h.cell 2, h.frozen 0, h.frozen 1, h.frozen 2, h.lt⟩
theorem blk4 {w : World} {g : Nat} {a b c d : Value} {t : TypeId} (h : Blk w g [a, b, c, d] t) :
    w.cell? ⟨g, 0, none⟩ = some a ∧ w.cell? ⟨g, 1, none⟩ = some b ∧ w.cell? ⟨g, 2, none⟩ = some c ∧ w.cell? ⟨g, 3, none⟩ = some d ∧ w.frozen? ⟨g, 0, none⟩ = false ∧ w.frozen? ⟨g, 1, none⟩ = false ∧ w.frozen? ⟨g, 2, none⟩ = false ∧ w.frozen? ⟨g, 3, none⟩ = false ∧ g < w.heap.size :=
  ⟨h.cell 0, h.cell 1, h.cell 2, h.cell 3, h.frozen 0, h.frozen 1, h.frozen 2, h.frozen 3, h.lt⟩
/-- A slice value that is read: n elements of 'size' cells each, wherever they lie. -/
structure Rd (w : World) (F : Nat → Prop) (size : Nat) (A : Option Addr) (n c : Nat) (xs : List Value) : Prop where
  len : xs.length = n * size
  cap : n ≤ c
  none_ : A = none → n = 0 ∧ c = 0
  at_ : 0 < n → ∃ b off, A = some ⟨b, off, none⟩ ∧ F b ∧ b < w.heap.size ∧ ∀ j u, xs[j]? = some u → w.cell? ⟨b, off + j, none⟩ = some u
theorem Rd.frm {S : Nat → Prop} {w w' : World} {F : Nat → Prop} {size : Nat} {A : Option Addr} {n c : Nat} {xs : List Value} (h : Rd w F size A n c xs) (f : Frm S w w') (hd : ∀ k, F k → ¬ S k) : Rd w' F size A n c xs :=
  ⟨h.len, h.cap, h.none_, fun hn => by
    obtain ⟨b, off, hA, hF, hb, hc⟩ := h.at_ hn
    exact ⟨b, off, hA, hF, Nat.lt_of_lt_of_le hb f.size, fun j u hj => by rw [World.cell?_of_block (w := w) (a := ⟨b, off + j, none⟩) (f.block b hb (hd b hF))]; exact hc j u hj⟩⟩
theorem Rd.mono {w : World} {F G : Nat → Prop} {size : Nat} {A : Option Addr} {n c : Nat} {xs : List Value} (h : Rd w F size A n c xs) (hG : ∀ k, F k → k < w.heap.size → G k) : Rd w G size A n c xs :=
  ⟨h.len, h.cap, h.none_, fun hn => by
    obtain ⟨b, off, hA, hF, hb, hc⟩ := h.at_ hn
    exact ⟨b, off, hA, hG b hF hb, hb, hc⟩⟩
theorem Rd.low {w : World} {F : Nat → Prop} {size : Nat} {A : Option Addr} {n c : Nat} {xs : List Value} (h : Rd w F size A n c xs) : Rd w (fun k => F k ∧ k < w.heap.size) size A n c xs := h.mono fun _ h l => ⟨h, l⟩
theorem Rd.alloc {w : World} {F : Nat → Prop} {size : Nat} {A : Option Addr} {n c : Nat} {xs : List Value} (h : Rd w F size A n c xs) (o : Obj) : Rd (w.alloc o) F size A n c xs := h.frm (S := fun _ => False) ((Frm.refl _ _).alloc o) (fun _ _ f => f)
theorem Sl.rd {w : World} {F : Nat → Prop} {e : TypeId} {size : Nat} {A : Option Addr} {n c : Nat} {xs : List Value} (h : Sl w F e size (.slice A n c) n xs) : Rd w F size A n c xs := by
  refine ⟨h.len, ?_, ?_, ?_⟩
  · cases h with
    | nil => exact Nat.le_refl _
    | at_ _ _ _ _ hn _ => exact hn
  · cases h with
    | nil => exact fun _ => ⟨rfl, rfl⟩
    | at_ _ _ _ _ _ _ => intro h; cases h
  · cases h with
    | nil => intro h; omega
    | at_ hF hb hx hr hn hm => exact fun _ => ⟨_, 0, rfl, hF, hb.lt, fun j u hj => by rw [hb.cell]; simpa [List.getElem?_append_left (List.getElem?_eq_some_iff.1 hj).1] using hj⟩
theorem Rd.from {w : World} {F : Nat → Prop} {size : Nat} {A ao : Option Addr} {n c k : Nat} {xs : List Value} (h : Rd w F size A n c xs) (hk : k ≤ n) (hao : k < c → ao = A.map (fun q : Addr => q.add (k * size))) : Rd w F size ao (n - k) (c - k) (xs.drop (k * size)) := by
  have hc := h.cap
  refine ⟨by rw [List.length_drop, h.len, Nat.sub_mul], by omega, fun ha => ?_, fun hn => ?_⟩
  · by_cases hkc : k < c
    · have := hao hkc
      rw [ha] at this
      cases A with
      | none => have := h.none_ rfl; omega
      | some a => simp at this
    · omega
  · obtain ⟨b, off, hA, hF, hb, hcell⟩ := h.at_ (by omega)
    refine ⟨b, off + k * size, ?_, hF, hb, fun j u hj => ?_⟩
    · rw [hao (by omega), hA]
      simp only [Option.map_some]
      congr 1
      unfold Addr.add
      split <;> simp_all
    · rw [Nat.add_assoc]
      exact hcell _ _ (by rw [List.getElem?_drop] at hj; exact hj)
/-- x[:k], k at most the length. -/
theorem Rd.upto {w : World} {F : Nat → Prop} {size : Nat} {A : Option Addr} {n c k : Nat} {xs : List Value} (h : Rd w F size A n c xs) (hk : k ≤ n) : Rd w F size A k c (xs.take (k * size)) := by
  have hc := h.cap
  refine ⟨by rw [List.length_take, h.len]; exact Nat.min_eq_left (Nat.mul_le_mul_right _ hk), by omega, fun ha => ⟨by have := h.none_ ha; omega, (h.none_ ha).2⟩, fun hn => ?_⟩
  obtain ⟨b, off, hA, hF, hb, hcell⟩ := h.at_ (by omega)
  refine ⟨b, off, hA, hF, hb, fun j u hj => hcell _ _ ?_⟩
  rw [List.getElem?_take] at hj
  split at hj
  · exact hj
  · cases hj
/-- The cells of the i-th element. -/
theorem Rd.elem {w : World} {F : Nat → Prop} {size : Nat} {A : Option Addr} {n c : Nat} {xs : List Value} (h : Rd w F size A n c xs) (i : Nat) (hi : i < n) : ∃ b off, A = some ⟨b, off, none⟩ ∧ b < w.heap.size ∧ ∀ j u, xs[i * size + j]? = some u → w.cell? ⟨b, off + i * size + j, none⟩ = some u := by
  obtain ⟨b, off, hA, _, hb, hc⟩ := h.at_ (by omega)
  exact ⟨b, off, hA, hb, fun j u hj => by rw [Nat.add_assoc]; exact hc _ _ hj⟩

/-- string(b) of a block of bytes. -/
theorem run_bytes_str {P : Program} {w : World} {b n c : Nat} {l : List UInt8} (src e dst : TypeId) (hs : P.underlying src = some (.slice e)) (he : P.underlying e = some (.int .u8)) (hd : P.underlying dst = some .string)
    {rest : List Value} (h : Blk w b (l.map B8 ++ rest) e) (hn : l.length = n) : (convert src dst (.slice (some ⟨b, 0, none⟩) n c)).run P w = .ok (.string (bs l)) w := by
  have hx : strOfNums (l.map fun x => (x.toNat : Int)) = bs l := by
    unfold strOfNums bs
    congr 2
    rw [List.map_map]
    conv => rhs; rw [← List.map_id l]
    apply List.map_congr_left
    intro x _
    simp
  rw [← hx]
  refine run_convert_bytes_arg w src e hs he b 0 n c _ (by simpa using hn) (fun i hi => ?_) dst hd
  have hi' : i < l.length := by omega
  have h2 : (l.map B8 ++ rest)[i]? = some (B8 l[i]) := by
    rw [List.getElem?_append_left (by simpa using hi'), List.getElem?_map, List.getElem?_eq_getElem hi']; rfl
  rw [h.cell, Nat.zero_add, h2]
  have h3 : (l.map fun x => (x.toNat : Int))[i]? = some (l[i].toNat : Int) := by rw [List.getElem?_map, List.getElem?_eq_getElem hi']; rfl
  rw [List.getD_eq_getElem?_getD, h3]
  rfl
end Go.Proofs.Ytoadmpochaeohaa
end
