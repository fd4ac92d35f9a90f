/-
  'play', walked.
-/
import Derived.Test.YtoadmpochaeohaaPg40
section
set_option linter.unusedVariables false
set_option linter.unusedSimpArgs false
set_option maxRecDepth 100000
namespace Go.Proofs.Ytoadmpochaeohaa
open Go.RowKit Go.Shelf

def mark (D : Nat) : Deferred := { target := .collected D, args := #[] }
theorem leaves_marks {n : Nat} {fn : Func} {tmps : Array Value} {R : Ending → World → Prop} : ∀ (Ds : List Nat) (w : World), Ds.Nodup → (∀ D ∈ Ds, w.heap[D]? = some (.deferred (some []))) →
    (∀ w', Frm (fun k => k ∈ Ds) w w' → (∀ (g : Nat) (cur : List Value) (t : TypeId), Blk w g cur t → Blk w' g cur t) → LeavesInM Fence.wide n Try.prog fn tmps R [] .returning w') → LeavesInM Fence.wide n Try.prog fn tmps R (Ds.map mark) .returning w
  | [], w, _, _, h => h w (Frm.refl _ _) (fun _ _ _ h => h)
  | D :: Ds, w, hn, hd, h => by
    have h0 := hd D List.mem_cons_self
    obtain ⟨hn1, hn2⟩ := List.nodup_cons.1 hn
    have hg := Frm.of_grown (grownBy_putObj' w D (.deferred none))
    refine ⟨by simp, .inl ⟨D, _, rfl, run_takeDeferred h0, ?_⟩⟩
    refine leaves_marks Ds _ hn2 (fun D' hD' => ?_) (fun w' hf hb => h w' ?_ ?_)
    · have h1 := hd D' (List.mem_cons_of_mem _ hD')
      exact (hg.block D' (Array.getElem?_eq_some_iff.1 h1).1 (fun e => by cases e; exact hn1 hD')).trans h1
    · exact (hg.mono (fun i e _ => by cases e; exact List.mem_cons_self)).trans (hf.mono (fun i e _ => List.mem_cons_of_mem _ e))
    · intro g cur t hB
      exact hb g cur t (hB.frm hg (fun e => by cases e; have := h0; rw [hB.out] at this; cases this))

section
variable {w0 : World} {F0 : Nat → Prop} {B1 b3 b4 bb bf x : Nat} {A : Option Addr} {n cp : Nat} {gr co : Int} {fo : Bool} {line : ByteArray} {bn bx : Nat} {vf : Value} {ln : List Nat} {fr : List Int} {at_ : Nat} {Ds : List Nat} {z : Int} {b : Best} {now : List (Nat × Int)} {W W1 : World}
/-- Behind 'turn'. -/
theorem JP.turned (h : JP w0 F0 B1 b3 b4 bb bf x A n cp gr co fo line bn bx vf ln fr at_ Ds z (b, now) W) {F : Nat → Prop} {col' : Nat → Nat} {vt vd : Value} {st : Int} {th td : List Int}
    (h2 : ∀ k, F k → F0 k ∨ B1 ≤ k) (h4 : ∀ k, F k → IsC W k) (hp : PL W1 F col' x A n cp gr co fo line bx bn vt vf vd st (now.map Prod.fst) [] th fr td) (hf : Frm F W W1) (hn : Cnt z n st now.length) (hz : now.length ≤ n) (hz0 : 0 ≤ z) :
    JP w0 F0 B1 b3 b4 bb bf x A n cp gr co fo line bx bn vt (now.map Prod.fst) th at_ Ds (z + now.length) (b, []) W1 := by
  have ho := h.ord
  have no : ∀ b, w0.heap.size ≤ b → b < B1 → ¬ F b := fun b l1 l2 hb => by
    rcases h2 b hb with h5 | h5
    · have := h.low b h5; omega
    · omega
  have hs0 := h.frm.size
  refine ⟨h.ord, h.low, h.c3.frm hf (no _ (by omega) (by omega)), h.c4.frm hf (no _ (by omega) (by omega)), h.cb.frm hf (no _ (by omega) (by omega)), h.cf.frm hf (no _ (by omega) (by omega)), ⟨_, _, _, _, _, _, _, hp, fun p hp => (by cases hp), h2, fun h1 h5 => ?_⟩, h.frm.then hf (fun i hi hl => ?_), fun D hD => ⟨(hf.block D (Array.getElem?_eq_some_iff.1 (h.ds D hD).1).1 (fun e => (h4 D e).no (h.ds D hD).1)).trans (h.ds D hD).1, (h.ds D hD).2⟩⟩
  · have := hn (by omega) (by omega)
    simp only [List.length_nil]
    omega
  · rcases h2 i hi with h5 | h5
    · exact h5
    · omega
/-- The place moves on. -/
theorem JP.place (h : JP w0 F0 B1 b3 b4 bb bf x A n cp gr co fo line bn bx vf ln fr at_ Ds z (b, now) W) :
    JP w0 F0 B1 b3 b4 bb bf x A n cp gr co fo line bn bx vf ln fr (at_ + 1) Ds z (b, now) (W.setCell ⟨b4, 0, none⟩ (.int .i64 ((at_ : Int) + 1))) := by
  obtain ⟨F, col, vt, vd, st, th, td, hp, h1, h2, h3⟩ := h.ex
  have ho := h.ord
  have hf : Frm (fun k => k = b4) W (W.setCell ⟨b4, 0, none⟩ (.int .i64 ((at_ : Int) + 1))) := (Frm.refl _ W).set b4 0 _ (fun _ => rfl)
  refine ⟨h.ord, h.low, h.c3.frm hf (by omega), ?_, h.cb.frm hf (by omega), h.cf.frm hf (by omega), ⟨F, col, vt, vd, st, th, td, hp.frm hf (fun k hk e => ?_), h1, h2, h3⟩, h.frm.then hf (fun i e hi => by omega), fun D hD => ⟨(hf.block D (Array.getElem?_eq_some_iff.1 (h.ds D hD).1).1 (fun e => ?_)).trans (h.ds D hD).1, (h.ds D hD).2⟩⟩
  · have := h.c4.setSame 0 (.int .i64 ((at_ : Int) + 1))
    rw [show ((at_ + 1 : Nat) : Int) = (at_ : Int) + 1 by omega]
    exact this
  · rcases h2 k hk with h4 | h4
    · have := h.low k h4; omega
    · omega
  · subst e
    exact h.c4.isC.no (h.ds D hD).1
/-- One more mark. -/
theorem JP.marked (h : JP w0 F0 B1 b3 b4 bb bf x A n cp gr co fo line bn bx vf ln fr at_ Ds z (b, now) W) (D : Nat) (hD : W.heap[D]? = some (.deferred (some []))) (hl : w0.heap.size ≤ D) :
    JP w0 F0 B1 b3 b4 bb bf x A n cp gr co fo line bn bx vf ln fr at_ (D :: Ds) z (b, now) W :=
  ⟨h.ord, h.low, h.c3, h.c4, h.cb, h.cf, h.ex, h.frm, fun D' hD' => by
    rcases List.mem_cons.1 hD' with rfl | h5
    · exact ⟨hD, hl⟩
    · exact h.ds D' h5⟩
end

/-- How many steps are told. -/
def cntNS (l : List Ins) (line : List UInt8) (every : Bool) : Nat → Nat → List (Nat × Int) → Best → Nat
  | 0, at_, now, b => now.length + (turnNS l line at_ now (b, [])).2.length
  | m + 1, at_, now, b => now.length +
    (if every && (turnNS l line at_ now (b, [])).1.isNone then cntNS l line every m (at_ + 1) (comeL l false (at_ + 1 == line.length) ((at_ : Int) + 1) 0 (turnNS l line at_ now (b, [])).2) (turnNS l line at_ now (b, [])).1
    else if (turnNS l line at_ now (b, [])).2 = [] then 0 else cntNS l line every m (at_ + 1) (turnNS l line at_ now (b, [])).2 (turnNS l line at_ now (b, [])).1)
def findN (l : List Ins) (line : List UInt8) (at_ : Nat) (every : Bool) : Nat :=
  cntNS l line every (line.length - at_) at_ (comeL l (at_ == 0) (at_ == line.length) at_ 0 []) none
/-- Between two places. -/
structure PIn (w0 : World) (F0 : Nat → Prop) (B1 b3 b4 bb bf x : Nat) (A : Option Addr) (n cp : Nat) (gr co : Int) (fo : Bool) (line : ByteArray) (ins : List Ins) (every : Bool) (r : Best) (N : Nat) (at0 : Nat) (k : Nat) (t : Array Value) (ds : List Deferred) (w : World) : Prop where
  sz : t.size = 124
  t2 : t[2]? = some (.bool every)
  t3 : t[3]? = some (.pointer (some ⟨b3, 0, none⟩))
  t4 : t[4]? = some (.pointer (some ⟨b4, 0, none⟩))
  t6 : t[6]? = some (.pointer (some ⟨bb, 0, none⟩))
  t7 : t[7]? = some (.pointer (some ⟨bf, 0, none⟩))
  ex : ∃ Ds at_ now b bn bx vf ln fr, ∃ z : Int, ds = Ds.map mark ∧ Ds.Nodup ∧ at_ + k = line.size ∧ at0 ≤ at_ ∧ playS ins line.toList every k at_ now b = r ∧ z + ((cntNS ins line.toList every k at_ now b : Nat) : Int) = N ∧ 0 ≤ z ∧ z ≤ n * ((at_ : Int) - at0) ∧ JP w0 F0 B1 b3 b4 bb bf x A n cp gr co fo line bn bx vf ln fr at_ Ds z (b, now) w
/-- Behind the last. -/
def PE (w0 : World) (F0 : Nat → Prop) (B1 b3 b4 bb bf x : Nat) (A : Option Addr) (n cp : Nat) (gr co : Int) (fo : Bool) (line : ByteArray) (r : Best) (N : Nat) (at0 : Nat) (ds : List Deferred) (w : World) : Prop :=
  ∃ Ds at_ nx bn bx vf ln fr z, ds = Ds.map mark ∧ Ds.Nodup ∧ z + (nx.length : Int) = N ∧ 0 ≤ z ∧ z ≤ n * ((line.size : Int) + 1 - at0) ∧ JP w0 F0 B1 b3 b4 bb bf x A n cp gr co fo line bn bx vf ln fr at_ Ds z (r, nx) w

theorem mul_step {z n d m : Int} (h : z ≤ n * d) (hm : m ≤ n) : z + m ≤ n * (d + 1) := by
  rw [Int.mul_add, Int.mul_one]; omega
theorem mul_mono {z n d e : Int} (h : z ≤ n * d) (hn : 0 ≤ n) (hd : d ≤ e) : z ≤ n * e := Int.le_trans h (Int.mul_le_mul_of_nonneg_left hd hn)
/-- The loop ends by a break alone. -/
def PX (E : Act → World → Prop) : Exit → Act → World → Prop
  | .exit id, a, w => id = 0 ∧ E a w
  | _, _, _ => False

set_option maxHeartbeats 8000000 in
set_option maxRecDepth 1000000 in
theorem play (F : Nat → Prop) (col : Nat → Nat) (x : Nat) (A : Option Addr) (n cp : Nat) (gr co : Int) (fo : Bool) (line : ByteArray) (bn bx : Nat) (vf vt vd : Value) (fr th td : List Int) (ins : List Ins) (G : Nat → Prop) (at_ : Nat) (every : Bool) (w : World)
    (hpl : PL w F col x A n cp gr co fo line bn bx vf vt vd 0 [] [] fr th td) (hrd : Rd w G 10 A n cp (flatI ins)) (hG : ∀ k, G k → ¬ F k) (hfi : Fine ins) (hat : at_ ≤ line.size) (hline : line.size ≤ 9223372036854775807) :
    Calls Try.prog 43 #[.pointer (some ⟨x, 0, none⟩), .int .i64 at_, .bool every] w fun e w' =>
      e = .returned (.tuple #[.agg #[.int .i64 (bestF (findS ins line.toList at_ every)), .int .i64 (bestT (findS ins line.toList at_ every))], .bool (findS ins line.toList at_ every).isSome]) ∧ Frm F w w' ∧
      ∃ st, w'.cell? ⟨x, 10, none⟩ = some (.int .i64 st) ∧ x < w'.heap.size ∧ ((n : Int) * (line.size + 2) ≤ 4611686018427387904 → 0 ≤ st ∧ st ≤ n * ((line.size : Int) + 2 - at_) ∧ st = findN ins line.toList at_ every) := by
  have hil : ins.length = n := by have := hrd.len; rw [flatI_len] at this; omega
  have hn0 : 0 < n := by have := hfi.pos; omega
  generalize hr : findS ins line.toList at_ every = r
  generalize hN : findN ins line.toList at_ every = N
  have HR := Lib.hid hr
  have HN := Lib.hid hN
  have HIL := Lib.hid hil
  clear hr hil hN
  have hpl0 := hpl.low
  have c3 := Blk.new w [.pointer (some ⟨x, 0, none⟩)] 92
  refine calls_marks (n := 9) Try.func43 rfl ?_
  simp only [Try.ntmps43, List.size_toArray, List.length_cons, List.length_nil, Nat.reduceAdd, Nat.reduceSub, Array.replicate_succ, Array.replicate_zero, List.push_toArray, List.append_toArray, List.nil_append, List.cons_append]
  go_wp2_with fail
  have hc3 := ((((Blk.new w [.pointer (some ⟨x, 0, none⟩)] 92).alloc (.cells #[.int .i64 (at_ : Int)] 3)).alloc (.cells #[.int .i64 0, .int .i64 0] 50)).alloc (.cells #[.bool false] 4))
  have hc4 := ((Blk.new (w.alloc (.cells #[.pointer (some ⟨x, 0, none⟩)] 92)) [.int .i64 (at_ : Int)] 3).alloc (.cells #[.int .i64 0, .int .i64 0] 50)).alloc (.cells #[.bool false] 4)
  have hcb := (Blk.new ((w.alloc (.cells #[.pointer (some ⟨x, 0, none⟩)] 92)).alloc (.cells #[.int .i64 (at_ : Int)] 3)) [.int .i64 0, .int .i64 0] 50).alloc (.cells #[.bool false] 4)
  have hcf := Blk.new (((w.alloc (.cells #[.pointer (some ⟨x, 0, none⟩)] 92)).alloc (.cells #[.int .i64 (at_ : Int)] 3)).alloc (.cells #[.int .i64 0, .int .i64 0] 50)) [.bool false] 4
  have hf1 : Frm (fun _ => False) w ((((w.alloc (.cells #[.pointer (some ⟨x, 0, none⟩)] 92)).alloc (.cells #[.int .i64 (at_ : Int)] 3)).alloc (.cells #[.int .i64 0, .int .i64 0] 50)).alloc (.cells #[.bool false] 4)) := ((((Frm.refl _ w).alloc _).alloc _).alloc _).alloc _
  simp only [World.size_alloc] at hc4 hcb hcf
  generalize (((w.alloc (.cells #[.pointer (some ⟨x, 0, none⟩)] 92)).alloc (.cells #[.int .i64 (at_ : Int)] 3)).alloc (.cells #[.int .i64 0, .int .i64 0] 50)).alloc (.cells #[.bool false] 4) = w1 at *
  obtain ⟨b3, hb3⟩ : ∃ b3, w.heap.size = b3 := ⟨_, rfl⟩
  obtain ⟨b4, hb4⟩ : ∃ b4, b3 + 1 = b4 := ⟨_, rfl⟩
  obtain ⟨bb, hbb⟩ : ∃ bb, b4 + 1 = bb := ⟨_, rfl⟩
  obtain ⟨bf, hbf⟩ : ∃ bf, bb + 1 = bf := ⟨_, rfl⟩
  have hsz := hf1.size
  rw [hb3] at hc3 hc4 hcb hcf hpl0
  rw [hb4, hbb, hbf] at hcf
  rw [hb4, hbb] at hcb
  rw [hb4] at hc4
  have hJ0 : JP w (fun k => F k ∧ k < w.heap.size) (bf + 1) b3 b4 bb bf x A n cp gr co fo line bn bx vf [] fr at_ [] 0 (none, []) w1 := by
    rw [hb3]
    exact ⟨by omega, fun k hk => by rw [hb3]; exact hk.2, hc3, hc4, hcb, hcf, ⟨_, _, _, _, _, _, _, hpl0.frm hf1 (fun _ _ h => h), fun p hp => (by cases hp), fun k hk => .inl hk, fun _ _ => rfl⟩, hf1.mono (fun _ h _ => h.elim), fun D hD => (by cases hD)⟩
  go_step3
  simp only [hb3, hb4, hbb, hbf]
  have hxl := hpl.b.lt
  have hbnl := hpl.nw.lt
  have hbxl := hpl.nx.lt
  obtain ⟨F2, col2, vt2, vd2, st2, th2, td2, hpl2, hcs2, hcn2, hown2, hown3, hown4⟩ := hJ0.call w.heap.size hxl hbnl hbxl
  have HRD := Lib.hid hrd.low
  have HG := Lib.hid hG
  have hG2 : ∀ k, (G k ∧ k < w.heap.size) → ¬ F2 k := fun k hk hF => by
    rcases hown2 k hF with h5 | h5
    · exact HG.out k hk.1 h5.1
    · omega
  have hC := come F2 col2 x A n cp gr co fo line bn bx _ vt2 vd2 st2 [] fr th2 td2 [] ins (fun k => G k ∧ k < w.heap.size) 0 at_ at_ w1 hpl2 (HRD.out.frm hf1 (fun _ _ h => h)) hG2 hfi hcs2 hn0 (by omega) (by omega)
  have HC := Lib.hid hC
  have HFI := Lib.hid hfi
  have HG2 := Lib.hid hG2
  clear hC hfi hG hrd hG2
  obtain ⟨k3, f3, l3⟩ := blk1 hc3
  obtain ⟨k4, f4, l4⟩ := blk1 hc4
  go_wp2_with fail
  refine HC.out.mono ?_
  rintro e w2 ⟨rfl, F', col', vd', st', th', td', hp', hc', hf', hF', hn'⟩
  have hn2 : Cnt 0 n st' (comeL ins (at_ == 0) (at_ == line.size) at_ 0 []).length := fun h1 h2 => by
    have e1 := hcn2 h1 h2
    have e2 := hn' (by simp at e1 ⊢; omega) (by simp at e1 ⊢; omega)
    simp at e1 e2 ⊢
    omega
  obtain ⟨hJ2, _, _⟩ := hJ0.called (Bl := w.heap.size) hown2 hown3 hown4 hp' hc' hf' hF' hn2
  have HPI : PIn w (fun k => F k ∧ k < w.heap.size) (bf + 1) b3 b4 bb bf x A n cp gr co fo line ins every r N at_ (line.size - at_) = PIn w (fun k => F k ∧ k < w.heap.size) (bf + 1) b3 b4 bb bf x A n cp gr co fo line ins every r N at_ (line.size - at_) := rfl
  clear hJ0 hpl2 hcs2 hcn2 hown2 hown3 hown4 HC hc3 hc4 hcb hcf hp' hc' hn' hf' hF' k3 f3 l3 k4 f4 l4 hpl hpl0 HPI
  go_wp2_with fail
  go_step3
  go_wp2_with fail
  have hlb : line.toList.length = line.size := by rw [ByteArray.toList_eq]; simp
  have HLB := Lib.hid hlb
  clear hlb hn2
  refine Code.wp_mono (Q := PX (fun a w' => a.tmps.size = 124 ∧ a.tmps[6]? = some (.pointer (some ⟨bb, 0, none⟩)) ∧ a.tmps[7]? = some (.pointer (some ⟨bf, 0, none⟩)) ∧ PE w (fun k => F k ∧ k < w.heap.size) (bf + 1) b3 b4 bb bf x A n cp gr co fo line r N at_ a.defers w')) (fun e a w9 hx => ?_) ?_
  · cases e with
    | normal => exact hx.elim
    | ret => exact hx.elim
    | goto l => exact hx.elim
    | panic c => exact hx.elim
    | outgrown => exact hx.elim
    | exit id =>
      obtain ⟨rfl, hsz2, h6, h7, hpe⟩ := hx
      clear hJ2
      obtain ⟨t, ds⟩ := a
      revert h6 h7 hpe
      refine frame124 (p := fun t => t[6]? = some (.pointer (some ⟨bb, 0, none⟩)) → t[7]? = some (.pointer (some ⟨bf, 0, none⟩)) → PE w (fun k => F k ∧ k < w.heap.size) (bf + 1) b3 b4 bb bf x A n cp gr co fo line r N at_ ds w9 → Exit.inBlock 0 (Exit.then _ _) (.exit 0) ⟨t, ds⟩ w9) ?_ t hsz2
      intro l0 l1 l2 l3 l4 l5 l6 l7 l8 l9 l10 l11 l12 l13 l14 l15 l16 l17 l18 l19 l20 l21 l22 l23 l24 l25 l26 l27 l28 l29 l30 l31 l32 l33 l34 l35 l36 l37 l38 l39 l40 l41 l42 l43 l44 l45 l46 l47 l48 l49 l50 l51 l52 l53 l54 l55 l56 l57 l58 l59 l60 l61 l62 l63 l64 l65 l66 l67 l68 l69 l70 l71 l72 l73 l74 l75 l76 l77 l78 l79 l80 l81 l82 l83 l84 l85 l86 l87 l88 l89 l90 l91 l92 l93 l94 l95 l96 l97 l98 l99 l100 l101 l102 l103 l104 l105 l106 l107 l108 l109 l110 l111 l112 l113 l114 l115 l116 l117 l118 l119 l120 l121 l122 l123 h6 h7 hpe
      dsimp only at h6 h7 hpe ⊢
      obtain rfl : _ = l6 := (Option.some.inj h6).symm
      obtain rfl : _ = l7 := (Option.some.inj h7).symm
      clear h6 h7 hsz2 t
      obtain ⟨Ds, at1, nx, bn1, bx1, vf1, ln1, fr1, z, rfl, hnd, hzN, hz0, hz1, hj⟩ := hpe
      obtain ⟨cb0, cb1, fb0, fb1, lb⟩ := blk2 hj.cb
      obtain ⟨cf0, ff0, lf0⟩ := blk1 hj.cf
      have HZ := Lib.hid (⟨hz0, hz1⟩ : _ ∧ _)
      have HZN := Lib.hid hzN
      clear hz0 hz1 hzN
      go_wp2_with fail
      go_region
      all_goals
        go_wp2_with fail
        rw [Exit.noGoto_ret]
        have hfa : Frm (fun k => k = bb ∨ k = bf) w9 ((((w9.setCell ⟨bb, 0, none⟩ (.int .i64 (bestF r))).setCell ⟨bb, 1, none⟩ (.int .i64 (bestT r))).setCell ⟨bf, 0, none⟩ (.bool r.isSome)).drew) :=
          ((((Frm.refl _ w9).set bb 0 _ (fun _ => .inl rfl)).set bb 1 _ (fun _ => .inl rfl)).set bf 0 _ (fun _ => .inr rfl)).drew
        have hba := ((((hj.cb.setSame 0 (.int .i64 (bestF r))).setSame 1 (.int .i64 (bestT r))).setOther bf 0 (.bool r.isSome) (by omega))).drew
        have hfb := (((hj.cf.setOther bb 0 (.int .i64 (bestF r)) (by omega)).setOther bb 1 (.int .i64 (bestT r)) (by omega)).setSame 0 (.bool r.isSome)).drew
        generalize (((w9.setCell ⟨bb, 0, none⟩ (.int .i64 (bestF r))).setCell ⟨bb, 1, none⟩ (.int .i64 (bestT r))).setCell ⟨bf, 0, none⟩ (.bool r.isSome)).drew = w10 at *
        obtain ⟨F3, _, _, _, st, _, _, hq, _, hown, hcn⟩ := hj.ex
        have hx10 : Blk w10 x _ 99 := hq.b.frm hfa (fun e => by
          rcases hown x hq.fx.1 with h5 | h5
          · have := h5.2; omega
          · omega)
        have hds : ∀ D ∈ Ds, w10.heap[D]? = some (.deferred (some [])) := fun D hD => (hfa.block D (Array.getElem?_eq_some_iff.1 (hj.ds D hD).1).1 (fun e => by
          rcases e with rfl | rfl
          · exact hj.cb.isC.no (hj.ds _ hD).1
          · exact hj.cf.isC.no (hj.ds _ hD).1)).trans (hj.ds D hD).1
        have hdl : ∀ D ∈ Ds, w.heap.size ≤ D := fun D hD => (hj.ds D hD).2
        have hnx : nx.length ≤ n := by have := hq.nx.nodup.2.2; simpa using this
        have hfw : Frm (fun k => F k ∧ k < w.heap.size) w w9 := hj.frm
        clear cb0 cb1 fb0 fb1 lb cf0 ff0 lf0
        go_step
        refine leaves_marks Ds w10 hnd hds (fun w11 hf11 hB => ?_)
        have hx11 := hB x _ _ hx10
        refine ⟨_, results_two rfl (RV.cell rfl (hB bb _ _ hba) Try.underlying50 rfl (by kernel_rfl)) (RV.boolCell rfl (hB bf _ _ hfb)), rfl, ?_, st, ?_, hx11.lt, fun hbig => ?_⟩
        · exact ((hfw.mono (fun k h _ => h.1)).then hfa (fun i e hi => by omega)).then hf11 (fun i hi hl => by have := hdl i hi; omega)
        · exact hx11.cell 10
        · have h1 := HZ.out.1
          have h2 := HZ.out.2
          have h3 : (n : Int) * ((line.size : Int) + 1 - at_) ≤ 4611686018427387904 := Int.le_trans (Int.mul_le_mul_of_nonneg_left (by omega) (by omega)) hbig
          have h4 := hcn (by omega) (by omega)
          have h5 : z + (nx.length : Int) ≤ n * ((line.size : Int) + 1 - at_ + 1) := mul_step h2 (by omega)
          rw [show (line.size : Int) + 1 - at_ + 1 = (line.size : Int) + 2 - at_ by omega] at h5
          simp only at h4
          have h6 := HZN.out
          omega
  refine wp_loop_ghost_k (fun k a w' => PIn w (fun k => F k ∧ k < w.heap.size) (bf + 1) b3 b4 bb bf x A n cp gr co fo line ins every r N at_ k a.tmps a.defers w') (line.size - at_) ?_ ?_
  · have hr2 := HR.out
    rw [findS, HLB.out] at hr2
    have hn2 := HN.out
    rw [findN, HLB.out] at hn2
    exact ⟨rfl, rfl, rfl, rfl, rfl, rfl, [], at_, _, none, bn, bx, _, [], fr, 0, rfl, List.nodup_nil, by omega, Nat.le_refl _, hr2, by rw [hn2, Int.zero_add], by omega, by simp, hJ2⟩
  · clear hJ2
    intro k a w3 hI J K hJ hK
    obtain ⟨t, ds⟩ := a
    replace hI : PIn w (fun k => F k ∧ k < w.heap.size) (bf + 1) b3 b4 bb bf x A n cp gr co fo line ins every r N at_ k t ds w3 := hI
    have hsz2 := hI.sz
    revert hI
    refine frame124 (p := fun t => PIn w (fun k => F k ∧ k < w.heap.size) (bf + 1) b3 b4 bb bf x A n cp gr co fo line ins every r N at_ k t ds w3 → Code.wp Try.prog _ (Exit.then K _) ⟨t, ds⟩ w3) ?_ t hsz2
    intro l0 l1 l2 l3 l4 l5 l6 l7 l8 l9 l10 l11 l12 l13 l14 l15 l16 l17 l18 l19 l20 l21 l22 l23 l24 l25 l26 l27 l28 l29 l30 l31 l32 l33 l34 l35 l36 l37 l38 l39 l40 l41 l42 l43 l44 l45 l46 l47 l48 l49 l50 l51 l52 l53 l54 l55 l56 l57 l58 l59 l60 l61 l62 l63 l64 l65 l66 l67 l68 l69 l70 l71 l72 l73 l74 l75 l76 l77 l78 l79 l80 l81 l82 l83 l84 l85 l86 l87 l88 l89 l90 l91 l92 l93 l94 l95 l96 l97 l98 l99 l100 l101 l102 l103 l104 l105 l106 l107 l108 l109 l110 l111 l112 l113 l114 l115 l116 l117 l118 l119 l120 l121 l122 l123 hI
    dsimp only at hI ⊢
    have h2 := hI.t2
    have h3 := hI.t3
    have h4 := hI.t4
    have h6 := hI.t6
    have h7 := hI.t7
    obtain rfl : _ = l2 := (Option.some.inj h2).symm
    obtain rfl : _ = l3 := (Option.some.inj h3).symm
    obtain rfl : _ = l4 := (Option.some.inj h4).symm
    obtain rfl : _ = l6 := (Option.some.inj h6).symm
    obtain rfl : _ = l7 := (Option.some.inj h7).symm
    obtain ⟨Ds, at1, now, b, bn1, bx1, vf1, ln1, fr1, z, rfl, hnd, hk, hle, hplay, hcnt, hz0, hz1, hj⟩ := hI.ex
    clear h2 h3 h4 h6 h7 hI hsz2 t
    obtain ⟨c3, f3, l3'⟩ := blk1 hj.c3
    have hxl3 : x < w3.heap.size ∧ bn1 < w3.heap.size ∧ bx1 < w3.heap.size := by
      obtain ⟨_, _, _, _, _, _, _, hq, _⟩ := hj.ex
      exact ⟨hq.b.lt, hq.nw.lt, hq.nx.lt⟩
    obtain ⟨F2, col2, vt2, vd2, st2, th2, td2, hpl2, hcs2, hcn2, hown2, hown3, hown4⟩ := hj.call w3.heap.size hxl3.1 hxl3.2.1 hxl3.2.2
    have hT := turn F2 col2 x A n cp gr co fo line bn1 bx1 vf1 vt2 vd2 st2 ln1 (now.map Prod.fst) fr1 th2 td2 w3 hpl2
    have hnl : now.length ≤ n := by have := hpl2.nx.nodup.2.2; simpa using this
    have HT := Lib.hid hT
    have HPLAY := Lib.hid hplay
    have HCN := Lib.hid hcnt
    have HZ := Lib.hid (⟨hz0, hz1⟩ : 0 ≤ z ∧ z ≤ n * ((at1 : Int) - at_))
    clear hT hplay hz1 hcnt
    go_wp2_with fail
    refine HT.out.mono ?_
    rintro e w4 ⟨rfl, hp4, hf4⟩
    have hj4 := hj.turned hown2 hown4 hp4 hf4 hcn2 hnl hz0
    clear c3 f3 l3'
    obtain ⟨c3, f3, l3'⟩ := blk1 hj4.c3
    have d5 := hp4.b.cell 5
    simp only [List.getElem?_cons_zero, List.getElem?_cons_succ] at d5
    have hxl4 := hp4.b.lt
    go_wp2_with fail
    refine (allM bx1 w4).mono ?_
    rintro e w5 ⟨rfl, rfl⟩
    go_upto_block 2 with fail
    have hby := (Blk.new w4 [.pointer (some ⟨bx1, 0, none⟩)] 97).cell 0
    have hbyl := (Blk.new w4 [.pointer (some ⟨bx1, 0, none⟩)] 97).lt
    simp only [List.getElem?_cons_zero] at hby
    have hj5 := hj4.world ((Frm.refl _ w4).alloc (.cells #[.pointer (some ⟨bx1, 0, none⟩)] 97))
    have hG3 : ∀ k, (G k ∧ k < w.heap.size) → ¬ (F k ∧ k < w.heap.size) := fun k h1 h2 => HG.out k h1.1 h2.1
    refine Code.wp_mono (fun e a w h => then_mono h) (turnAll w (fun k => F k ∧ k < w.heap.size) (bf + 1) b3 b4 bb bf x A n cp gr co fo line bx1 bn1 w4.heap.size vt2 th2 at1 Ds (z + now.length) b now ins (fun k => G k ∧ k < w.heap.size) _ hj5 HRD.out hG3 HFI.out hcs2 (by omega) hline hby hbyl _ _ (by rfl) _ rfl rfl rfl rfl rfl ?_)
    intro D w6 hD hdf hj6
    obtain ⟨⟨b', nx⟩, htu⟩ : ∃ p, turnNS ins line.toList at1 now (b, []) = p := ⟨_, rfl⟩
    rw [htu] at hj6
    have hnd2 : (D :: Ds).Nodup := List.nodup_cons.2 ⟨fun hm => by have := (Array.getElem?_eq_some_iff.1 (hj5.ds D hm).1).1; omega, hnd⟩
    have hj7 := hj6.marked D hdf (by have := hj5.frm.size; omega)
    have HTU := Lib.hid htu
    have HND := Lib.hid hnd2
    clear htu hnd2 hnd hj6 hj5 hj4 hby hbyl hp4 hf4 hdf c3 f3 l3' d5 hxl4 hpl2 hcs2 hcn2 hown2 hown3 hown4 hj hxl3 hD HT
    obtain ⟨c3, f3, l3'⟩ := blk1 hj7.c3
    obtain ⟨c4, f4, l4'⟩ := blk1 hj7.c4
    obtain ⟨d0, d4, d5, d6, d7, d8, d9, d10, lx⟩ : w6.cell? ⟨x, 0, none⟩ = some (.slice A n cp) ∧ w6.cell? ⟨x, 4, none⟩ = some (.string line) ∧ w6.cell? ⟨x, 5, none⟩ = some (.pointer (some ⟨bx1, 0, none⟩)) ∧ w6.cell? ⟨x, 6, none⟩ = some (.pointer (some ⟨bn1, 0, none⟩)) ∧ True ∧ True ∧ True ∧ True ∧ x < w6.heap.size := by
      obtain ⟨_, _, _, _, _, _, _, hq, _⟩ := hj7.ex
      obtain ⟨d0, d4, d5, d6, d7, d8, d9, d10, lx⟩ := blk11 hq.b
      exact ⟨d0, d4, d5, d6, trivial, trivial, trivial, trivial, lx⟩
    clear d7 d8 d9 d10
    have hzn : 0 ≤ z + (now.length : Int) := by have := HZ.out.1; omega
    have hzb : z + (now.length : Int) ≤ n * ((at1 : Int) - at_ + 1) := mul_step HZ.out.2 (by omega)
    have hzc : z + (now.length : Int) ≤ n * ((line.size : Int) + 1 - at_) := mul_mono hzb (by omega) (by omega)
    have HZ2 := Lib.hid (⟨hzn, hzb, hzc⟩ : _ ∧ _ ∧ _)
    clear hzn hzb hzc hz0
    by_cases hend : at1 = line.size
    · have heq : ((at1 : Int) == (line.size : Int)) = true := by simp [hend]
      obtain rfl : k = 0 := by omega
      have hres : r = b' := by rw [← HPLAY.out, playS, HTU.out]
      have hcn3 := HCN.out
      rw [cntNS, HTU.out] at hcn3
      have HCN3 : Hid (z + (now.length : Int) + (nx.length : Int) = N) := Lib.hid (by push_cast at hcn3; omega)
      clear hcn3 HCN
      have hend2 : (at1 : Int) = (line.size : Int) := by omega
      go_wp2_with fail
      go_quiet (fail)
      have hj8 := hj7.world ((Frm.refl _ w6).drewN nq)
      generalize w6.drewN nq = w7 at *
      subst hres
      have HJ8 := Lib.hid hj8
      clear hj8
      go_wp2_with fail
      exact ⟨rfl, rfl, rfl, rfl, D :: Ds, at1, nx, bx1, bn1, vt2, _, th2, z + now.length, rfl, HND.out, HCN3.out, HZ2.out.1, HZ2.out.2.2, HJ8.out⟩
    · have heq : ((at1 : Int) == (line.size : Int)) = false := by simp; omega
      have hne : ¬ ((at1 : Int) = (line.size : Int)) := by omega
      obtain ⟨k, rfl⟩ : ∃ k', k = k' + 1 := ⟨k - 1, by omega⟩
      have hpl2 := HPLAY.out
      rw [playS, HTU.out] at hpl2
      have HPL2 := Lib.hid hpl2
      have hcn3 := HCN.out
      rw [cntNS, HTU.out] at hcn3
      have HCN3 := Lib.hid hcn3
      clear hcn3 HCN
      have hw1 : IntKind.i64.wrap ((at1 : Int) + 1) = (at1 : Int) + 1 := IntWalk.i64_in _ (by omega)
      clear hpl2 HPLAY
      go_wp2_with fail
      go_quiet (fail)
      have hj8 := hj7.world ((Frm.refl _ w6).drewN nq)
      clear c3 f3 l3' c4 f4 l4' d0 d4 d5 d6 lx
      generalize w6.drewN nq = w7 at *
      obtain ⟨c3, f3, l3'⟩ := blk1 hj8.c3
      obtain ⟨c4, f4, l4'⟩ := blk1 hj8.c4
      obtain ⟨cf, ff, lf⟩ := blk1 hj8.cf
      by_cases hev : (every && b'.isNone) = true
      · obtain ⟨rfl, hbn⟩ : every = true ∧ b' = none := by cases every <;> cases b' <;> simp at hev ⊢
        subst hbn
        simp only [Option.isSome_none] at cf
        have hpl3 := HPL2.out
        rw [if_pos hev, HLB.out] at hpl3
        have hcn4 := HCN3.out
        rw [if_pos hev, HLB.out] at hcn4
        have HCN4 := Lib.hid (show z + (now.length : Int) + (cntNS ins line.toList true k (at1 + 1) (comeL ins false (at1 + 1 == line.size) ((at1 : Int) + 1) 0 nx) none : Int) = N by push_cast at hcn4; omega)
        clear hcn4 HCN3
        have HPL3 := Lib.hid hpl3
        clear hpl3 HPL2 hev
        have hxl3 : x < w7.heap.size ∧ bx1 < w7.heap.size ∧ bn1 < w7.heap.size := by
          obtain ⟨_, _, _, _, _, _, _, hq, _⟩ := hj8.ex
          exact ⟨hq.b.lt, hq.nw.lt, hq.nx.lt⟩
        obtain ⟨F5, col5, vt5, vd5, st5, th5, td5, hpl5, hcs5, hcn5, hown5, hown6, hown7⟩ := hj8.call w7.heap.size hxl3.1 hxl3.2.1 hxl3.2.2
        have hG5 : ∀ k, (G k ∧ k < w.heap.size) → ¬ F5 k := fun k hk hF => by
          rcases hown5 k hF with h5 | h5
          · exact HG.out k hk.1 h5.1
          · omega
        have hC := come F5 col5 x A n cp gr co fo line bx1 bn1 _ vt5 vd5 st5 _ th2 th5 td5 nx ins (fun k => G k ∧ k < w.heap.size) 0 (at1 + 1) ((at1 : Int) + 1) w7 hpl5 (HRD.out.frm hj8.frm hG3) hG5 HFI.out hcs5 hn0 (by omega) (by omega)
        rw [show ((at1 + 1 : Nat) : Int) = (at1 : Int) + 1 by omega, show ((at1 + 1 == 0) = false) by simp] at hC
        have HC := Lib.hid hC
        clear hC
        go_wp2_with fail
        refine HC.out.mono ?_
        rintro e w8 ⟨rfl, F', col', vd', st', th', td', hp', hc', hf', hF', hn'⟩
        have hn2 : Cnt (z + now.length) n st' (comeL ins false (at1 + 1 == line.size) ((at1 : Int) + 1) 0 nx).length := fun h1 h2 => by
          have e1 := hcn5 h1 h2
          have e2 := hn' (by omega) (by omega)
          omega
        obtain ⟨hj9, _, _⟩ := hj8.called (Bl := w7.heap.size) hown5 hown6 hown7 hp' hc' hf' hF' hn2
        clear hp' hc' hn' hn2 hcn5 hcs5 hpl5 HC c3 f3 l3' c4 f4 l4' cf ff lf
        obtain ⟨c4, f4, l4'⟩ := blk1 hj9.c4
        have hj10 := hj9.place
        go_wp2_with fail
        refine Handed.intro k (by omega) (hJ _ _ _ ⟨rfl, rfl, rfl, rfl, rfl, rfl, D :: Ds, at1 + 1, _, none, bx1, bn1, vt2, now.map Prod.fst, th2, z + now.length, rfl, HND.out, by omega, by omega, HPL3.out, HCN4.out, HZ2.out.1, mul_mono HZ2.out.2.1 (by omega) (by omega), hj10⟩)
      · have hev2 : every = false ∨ (every = true ∧ b'.isSome = true) := by cases every <;> cases b' <;> simp at hev ⊢
        obtain ⟨_, _, _, _, _, _, _, hq, _⟩ := hj8.ex
        obtain ⟨d0, d4, d5, d6, _, _, _, _, lx⟩ := blk11 hq.b
        have hlen := lenM _ bn1 n (nx.map Prod.fst) w7 hq.nx
        rw [List.length_map] at hlen
        have HLEN := Lib.hid hlen
        have hpl3 := HPL2.out
        rw [if_neg hev] at hpl3
        have HPL3 := Lib.hid hpl3
        have hcn4 := HCN3.out
        rw [if_neg hev] at hcn4
        have HCN4 := Lib.hid hcn4
        clear hcn4 HCN3
        clear hlen hpl3 HPL2 hev hq
        by_cases hnx : nx = []
        · subst hnx
          have hpl3 := HPL3.out
          rw [if_pos rfl] at hpl3
          have hcn5 := HCN4.out
          rw [if_pos rfl] at hcn5
          have HCN5 := Lib.hid (show z + (now.length : Int) + ((([] : List (Nat × Int)).length : Nat) : Int) = N by simp only [List.length_nil]; push_cast at hcn5; omega)
          clear hcn5 HCN4
          have HJ8 := Lib.hid hj8
          have hres : r = b' := hpl3.symm
          subst hres
          clear hpl3 HPL3 hj8
          rcases hev2 with rfl | ⟨rfl, hbs⟩
          all_goals
            try rw [hbs] at cf
            go_wp2_with (first | (go_at_call 63; refine HLEN.out.mono ?_; rintro e w8 ⟨rfl, rfl⟩) | fail)
            exact ⟨rfl, rfl, rfl, rfl, D :: Ds, at1, [], bx1, bn1, vt2, _, th2, z + now.length, rfl, HND.out, HCN5.out, HZ2.out.1, HZ2.out.2.2, HJ8.out⟩
        · have hpl3 := HPL3.out
          rw [if_neg hnx] at hpl3
          have hcn5 := HCN4.out
          rw [if_neg hnx] at hcn5
          have HCN5 := Lib.hid (show z + (now.length : Int) + (cntNS ins line.toList every k (at1 + 1) nx b' : Int) = N by push_cast at hcn5; omega)
          clear hcn5 HCN4
          have HPL4 := Lib.hid hpl3
          have hnz : ((nx.length : Int) == 0) = false := by
            have : nx.length ≠ 0 := fun h => hnx (List.eq_nil_of_length_eq_zero h)
            simp; omega
          have hnz2 : ¬ ((nx.length : Int) = 0) := by
            have : nx.length ≠ 0 := fun h => hnx (List.eq_nil_of_length_eq_zero h)
            omega
          have hj10 := hj8.place
          have HJ10 := Lib.hid hj10
          clear hpl3 HPL3 hj8 hj10
          rcases hev2 with rfl | ⟨rfl, hbs⟩
          all_goals
            try rw [hbs] at cf
            go_wp2_with (first | (go_at_call 63; refine HLEN.out.mono ?_; rintro e w8 ⟨rfl, rfl⟩) | fail)
            refine Handed.intro k (by omega) (hJ _ _ _ ⟨rfl, rfl, rfl, rfl, rfl, rfl, D :: Ds, at1 + 1, nx, b', bx1, bn1, vt2, now.map Prod.fst, th2, z + now.length, rfl, HND.out, by omega, by omega, HPL4.out, HCN5.out, HZ2.out.1, mul_mono HZ2.out.2.1 (by omega) (by omega), HJ10.out⟩)
end Go.Proofs.Ytoadmpochaeohaa
end
