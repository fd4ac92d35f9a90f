/-
  'play': the turn over what is now, walked.
-/
import Derived.Test.YtoadmpochaeohaaPg37
import Derived.Test.YtoadmpochaeohaaPg39
section
set_option linter.unusedVariables false
set_option linter.unusedSimpArgs false
set_option maxRecDepth 100000
namespace Go.Proofs.Ytoadmpochaeohaa
open Go.RowKit Go.Shelf

theorem cons_of {α : Type} {l : List α} {n : Nat} (h : l.length = n + 1) : ∃ a t, l = a :: t ∧ t.length = n := by
  cases l with
  | nil => simp at h
  | cons a t => exact ⟨a, t, rfl, by simpa using h⟩
theorem cons4_of {α : Type} {l : List α} {n : Nat} (h : l.length = n + 4) : ∃ a b c d t, l = a :: b :: c :: d :: t ∧ t.length = n := by
  obtain ⟨a, l1, rfl, h1⟩ := cons_of h
  obtain ⟨b, l2, rfl, h2⟩ := cons_of h1
  obtain ⟨c, l3, rfl, h3⟩ := cons_of h2
  obtain ⟨d, l4, rfl, h4⟩ := cons_of h3
  exact ⟨a, b, c, d, l4, rfl, h4⟩
/-- A frame of 124 slots, written out. -/
theorem frame124 {p : Array Value → Prop} (h : ∀ l0 l1 l2 l3 l4 l5 l6 l7 l8 l9 l10 l11 l12 l13 l14 l15 l16 l17 l18 l19 l20 l21 l22 l23 l24 l25 l26 l27 l28 l29 l30 l31 l32 l33 l34 l35 l36 l37 l38 l39 l40 l41 l42 l43 l44 l45 l46 l47 l48 l49 l50 l51 l52 l53 l54 l55 l56 l57 l58 l59 l60 l61 l62 l63 l64 l65 l66 l67 l68 l69 l70 l71 l72 l73 l74 l75 l76 l77 l78 l79 l80 l81 l82 l83 l84 l85 l86 l87 l88 l89 l90 l91 l92 l93 l94 l95 l96 l97 l98 l99 l100 l101 l102 l103 l104 l105 l106 l107 l108 l109 l110 l111 l112 l113 l114 l115 l116 l117 l118 l119 l120 l121 l122 l123 : Value, p #[l0, l1, l2, l3, l4, l5, l6, l7, l8, l9, l10, l11, l12, l13, l14, l15, l16, l17, l18, l19, l20, l21, l22, l23, l24, l25, l26, l27, l28, l29, l30, l31, l32, l33, l34, l35, l36, l37, l38, l39, l40, l41, l42, l43, l44, l45, l46, l47, l48, l49, l50, l51, l52, l53, l54, l55, l56, l57, l58, l59, l60, l61, l62, l63, l64, l65, l66, l67, l68, l69, l70, l71, l72, l73, l74, l75, l76, l77, l78, l79, l80, l81, l82, l83, l84, l85, l86, l87, l88, l89, l90, l91, l92, l93, l94, l95, l96, l97, l98, l99, l100, l101, l102, l103, l104, l105, l106, l107, l108, l109, l110, l111, l112, l113, l114, l115, l116, l117, l118, l119, l120, l121, l122, l123]) (t : Array Value) (ht : t.size = 124) : p t := by
  obtain ⟨l⟩ := t
  replace ht : l.length = 124 := ht
  obtain ⟨l0, l1, l2, l3, m0, rfl, g0⟩ := cons4_of ht
  obtain ⟨l4, l5, l6, l7, m1, rfl, g1⟩ := cons4_of g0
  obtain ⟨l8, l9, l10, l11, m2, rfl, g2⟩ := cons4_of g1
  obtain ⟨l12, l13, l14, l15, m3, rfl, g3⟩ := cons4_of g2
  obtain ⟨l16, l17, l18, l19, m4, rfl, g4⟩ := cons4_of g3
  obtain ⟨l20, l21, l22, l23, m5, rfl, g5⟩ := cons4_of g4
  obtain ⟨l24, l25, l26, l27, m6, rfl, g6⟩ := cons4_of g5
  obtain ⟨l28, l29, l30, l31, m7, rfl, g7⟩ := cons4_of g6
  obtain ⟨l32, l33, l34, l35, m8, rfl, g8⟩ := cons4_of g7
  obtain ⟨l36, l37, l38, l39, m9, rfl, g9⟩ := cons4_of g8
  obtain ⟨l40, l41, l42, l43, m10, rfl, g10⟩ := cons4_of g9
  obtain ⟨l44, l45, l46, l47, m11, rfl, g11⟩ := cons4_of g10
  obtain ⟨l48, l49, l50, l51, m12, rfl, g12⟩ := cons4_of g11
  obtain ⟨l52, l53, l54, l55, m13, rfl, g13⟩ := cons4_of g12
  obtain ⟨l56, l57, l58, l59, m14, rfl, g14⟩ := cons4_of g13
  obtain ⟨l60, l61, l62, l63, m15, rfl, g15⟩ := cons4_of g14
  obtain ⟨l64, l65, l66, l67, m16, rfl, g16⟩ := cons4_of g15
  obtain ⟨l68, l69, l70, l71, m17, rfl, g17⟩ := cons4_of g16
  obtain ⟨l72, l73, l74, l75, m18, rfl, g18⟩ := cons4_of g17
  obtain ⟨l76, l77, l78, l79, m19, rfl, g19⟩ := cons4_of g18
  obtain ⟨l80, l81, l82, l83, m20, rfl, g20⟩ := cons4_of g19
  obtain ⟨l84, l85, l86, l87, m21, rfl, g21⟩ := cons4_of g20
  obtain ⟨l88, l89, l90, l91, m22, rfl, g22⟩ := cons4_of g21
  obtain ⟨l92, l93, l94, l95, m23, rfl, g23⟩ := cons4_of g22
  obtain ⟨l96, l97, l98, l99, m24, rfl, g24⟩ := cons4_of g23
  obtain ⟨l100, l101, l102, l103, m25, rfl, g25⟩ := cons4_of g24
  obtain ⟨l104, l105, l106, l107, m26, rfl, g26⟩ := cons4_of g25
  obtain ⟨l108, l109, l110, l111, m27, rfl, g27⟩ := cons4_of g26
  obtain ⟨l112, l113, l114, l115, m28, rfl, g28⟩ := cons4_of g27
  obtain ⟨l116, l117, l118, l119, m29, rfl, g29⟩ := cons4_of g28
  obtain ⟨l120, l121, l122, l123, m30, rfl, g30⟩ := cons4_of g29
  obtain rfl : m30 = [] := List.eq_nil_of_length_eq_zero g30
  exact h l0 l1 l2 l3 l4 l5 l6 l7 l8 l9 l10 l11 l12 l13 l14 l15 l16 l17 l18 l19 l20 l21 l22 l23 l24 l25 l26 l27 l28 l29 l30 l31 l32 l33 l34 l35 l36 l37 l38 l39 l40 l41 l42 l43 l44 l45 l46 l47 l48 l49 l50 l51 l52 l53 l54 l55 l56 l57 l58 l59 l60 l61 l62 l63 l64 l65 l66 l67 l68 l69 l70 l71 l72 l73 l74 l75 l76 l77 l78 l79 l80 l81 l82 l83 l84 l85 l86 l87 l88 l89 l90 l91 l92 l93 l94 l95 l96 l97 l98 l99 l100 l101 l102 l103 l104 l105 l106 l107 l108 l109 l110 l111 l112 l113 l114 l115 l116 l117 l118 l119 l120 l121 l122 l123

/-- The block that holds the range over a function. -/
def findRange : Code → Option Code
  | .block n c => match c with
    | .rangeFunc g ps a b => some (.block n (.rangeFunc g ps a b))
    | c => findRange c
  | .seq a b => match findRange a with | some c => some c | none => findRange b
  | .cond _ a b => match findRange a with | some c => some c | none => findRange b
  | .loop c => findRange c
  | .scope c => findRange c
  | _ => none
noncomputable def turnCode : Code := ((Try.f43.body.bind findRange).getD .skip)

theorem to_fin : ∀ (n : Nat) (l : List Nat), (∀ x ∈ l, x < n) → ∃ lF : List (Fin n), lF.map Fin.val = l
  | n, [], _ => ⟨[], rfl⟩
  | n, x :: l, h => by
    obtain ⟨lF, e⟩ := to_fin n l (fun y hy => h y (List.mem_cons_of_mem _ hy))
    exact ⟨⟨x, h x List.mem_cons_self⟩ :: lF, by simp [e]⟩
/-- A number with where its part began. -/
def pr (fr : List Int) {n : Nat} (k : Fin n) : Nat × Int := (k.val, fr.getD k.val 0)
theorem pr_now {fr : List Int} {n : Nat} {now : List (Nat × Int)} {lF : List (Fin n)} (hl : lF.map Fin.val = now.map Prod.fst) (hc : Cons fr now) : lF.map (pr fr) = now := by
  induction now generalizing lF with
  | nil =>
    obtain rfl : lF = [] := by simpa using hl
    rfl
  | cons p now ih =>
    cases lF with
    | nil => simp at hl
    | cons k lF =>
      simp only [List.map_cons, List.cons.injEq] at hl
      rw [List.map_cons, ih hl.2 (fun q hq => hc q (List.mem_cons_of_mem _ hq))]
      have h1 := hc p List.mem_cons_self
      obtain ⟨a, b⟩ := p
      simp only at hl h1
      rw [pr, hl.1, List.getD_eq_getElem?_getD, h1]
      rfl

theorem captureD {F : Fence} {n : Nat} {P : Program} {c : Code} {Q : Exit → Act → World → Prop} {tmps : Array Value} {ds : List Deferred} {w : World} (h : ∀ fr, fr = tmps → c.wpIn F n P Q ⟨fr, ds⟩ w) : c.wpIn F n P Q ⟨tmps, ds⟩ w := h _ rfl
theorem then_mono {K : Act → World → Prop} {Q : Exit → Act → World → Prop} {e : Exit} {a : Act} {w : World} (h : Exit.then K (fun _ _ _ => False) e a w) : Exit.then K Q e a w := by
  cases e <;> first | exact h | exact h.elim

theorem MK.fb {w : World} {F : Nat → Prop} {b room : Nat} {l : List Nat} (h : MK w F b room l) : F b := by
  obtain ⟨vw, vl, Fw, Fl, wh, hB, hF, _⟩ := h
  exact hF
theorem KpO.new {ps : List Addr} {B : Nat} {W W' : World} (f : Frm (fun _ => False) W W') (h : ∀ a ∈ ps, a.block < W.heap.size) : KpO ps B W W' :=
  KpO.of_frm f (fun _ h _ => h.elim) (fun k _ _ hO => (Own.same (cells_frm f (fun a ha => ⟨h a ha, fun h => h⟩)) k).1 hO)

attribute [local go_sem] Oper.semAt_some
attribute [local simp] wide_fn

set_option maxHeartbeats 8000000 in
set_option maxRecDepth 1000000 in
theorem turnAll (w0 : World) (F0 : Nat → Prop) (B1 b3 b4 bb bf x : Nat) (A : Option Addr) (n cp : Nat) (gr co : Int) (fo : Bool) (line : ByteArray) (bn bx by_ : Nat) (vf : Value) (fr : List Int) (at_ : Nat) (Ds : List Nat) (z : Int) (b0 : Best) (now : List (Nat × Int)) (ins : List Ins) (G : Nat → Prop) (W : World)
    (hj : JP w0 F0 B1 b3 b4 bb bf x A n cp gr co fo line bn bx vf (now.map Prod.fst) fr at_ Ds z (b0, []) W) (hrd : Rd w0 G 10 A n cp (flatI ins)) (hG : ∀ k, G k → ¬ F0 k) (hfi : Fine ins) (hc : Cons fr now) (hat : at_ ≤ line.size) (hline : line.size ≤ 9223372036854775807)
    (hby : W.cell? ⟨by_, 0, none⟩ = some (.pointer (some ⟨bn, 0, none⟩))) (hbyl : by_ < W.heap.size) (R : Act → World → Prop) (t : Array Value) (ht : t.size = 124) (ds : List Deferred)
    (h3 : t[3]? = some (.pointer (some ⟨b3, 0, none⟩))) (h4 : t[4]? = some (.pointer (some ⟨b4, 0, none⟩))) (h6 : t[6]? = some (.pointer (some ⟨bb, 0, none⟩))) (h7 : t[7]? = some (.pointer (some ⟨bf, 0, none⟩))) (h23 : t[23]? = some (.func (.func 82) #[] #[.pointer (some ⟨by_, 0, none⟩)]))
    (hend : ∀ D W', W.heap.size ≤ D → W'.heap[D]? = some (.deferred (some [])) → JP w0 F0 B1 b3 b4 bb bf x A n cp gr co fo line bn bx vf (now.map Prod.fst) fr at_ Ds z (turnNS ins line.toList at_ now (b0, [])) W' → R ⟨t, { target := .collected D, args := #[] } :: ds⟩ W') :
    Code.wp Try.prog turnCode (Exit.then R (fun _ _ _ => False)) ⟨t, ds⟩ W := by
  revert h3 h4 h6 h7 h23 hend
  refine frame124 (p := fun t => t[3]? = some (.pointer (some ⟨b3, 0, none⟩)) → t[4]? = some (.pointer (some ⟨b4, 0, none⟩)) → t[6]? = some (.pointer (some ⟨bb, 0, none⟩)) → t[7]? = some (.pointer (some ⟨bf, 0, none⟩)) → t[23]? = some (.func (.func 82) #[] #[.pointer (some ⟨by_, 0, none⟩)]) →
    (∀ D W', W.heap.size ≤ D → W'.heap[D]? = some (.deferred (some [])) → JP w0 F0 B1 b3 b4 bb bf x A n cp gr co fo line bn bx vf (now.map Prod.fst) fr at_ Ds z (turnNS ins line.toList at_ now (b0, [])) W' → R ⟨t, { target := .collected D, args := #[] } :: ds⟩ W') → Code.wp Try.prog turnCode (Exit.then R (fun _ _ _ => False)) ⟨t, ds⟩ W) ?_ t ht
  intro l0 l1 l2 l3 l4 l5 l6 l7 l8 l9 l10 l11 l12 l13 l14 l15 l16 l17 l18 l19 l20 l21 l22 l23 l24 l25 l26 l27 l28 l29 l30 l31 l32 l33 l34 l35 l36 l37 l38 l39 l40 l41 l42 l43 l44 l45 l46 l47 l48 l49 l50 l51 l52 l53 l54 l55 l56 l57 l58 l59 l60 l61 l62 l63 l64 l65 l66 l67 l68 l69 l70 l71 l72 l73 l74 l75 l76 l77 l78 l79 l80 l81 l82 l83 l84 l85 l86 l87 l88 l89 l90 l91 l92 l93 l94 l95 l96 l97 l98 l99 l100 l101 l102 l103 l104 l105 l106 l107 l108 l109 l110 l111 l112 l113 l114 l115 l116 l117 l118 l119 l120 l121 l122 l123 h3 h4 h6 h7 h23 hend
  dsimp only at h3 h4 h6 h7 h23 hend
  dsimp only
  obtain rfl : _ = l3 := (Option.some.inj h3).symm
  obtain rfl : _ = l4 := (Option.some.inj h4).symm
  obtain rfl : _ = l6 := (Option.some.inj h6).symm
  obtain rfl : _ = l7 := (Option.some.inj h7).symm
  obtain rfl : _ = l23 := (Option.some.inj h23).symm
  clear h3 h4 h6 h7 h23
  conv => arg 2; whnf
  have hcap := hj.ex
  obtain ⟨F, col, vt, vd, st, th, td, hpl, hcs, hown, hcn⟩ := hcap
  have hnd := hpl.nw.nodup
  obtain ⟨lF, hlF⟩ := to_fin n (now.map Prod.fst) hnd.2.1
  have hpn := pr_now hlF hc
  have hnw : MK W (fun k => F k ∧ col k = 1) bn n (lF.map Fin.val) := by rw [hlF]; exact hpl.nw
  have hxl := hpl.b.lt
  have hbnl := hpl.nw.lt
  have hbxl := hpl.nx.lt
  have has : ∀ a ∈ rowsOf x bn bx, a.block < W.heap.size := by
    intro a ha
    simp only [rowsOf, List.mem_cons, List.not_mem_nil, or_false] at ha
    rcases ha with rfl | rfl | rfl | rfl | rfl | rfl | rfl <;> assumption
  have hown2 : ∀ k, Own (rowsOf x bn bx) W k → k < W.heap.size := fun k hk => (hpl.owned k hk).2
  have hDl : ∀ D ∈ Ds, D < W.heap.size := fun D hD => (Array.getElem?_eq_some_iff.1 (hj.ds D hD).1).1
  have hz0 := hj.frm.size
  have hlen : ins.length = n := by have := hrd.len; rw [flatI_len] at this; omega
  have hfr := hpl.lf
  have hn4 : n ≤ 100000 := hpl.nw.room
  obtain ⟨Af, cf, rfl⟩ := hpl.sf.form
  obtain ⟨bt, rfl, _⟩ := hpl.sf.head (by have := hfi.pos; omega)
  have HEND := Lib.hid hend
  have HPN := Lib.hid hpn
  have HJ := Lib.hid hj
  have HFI := Lib.hid hfi
  have HLE := Lib.hid hlen
  have HRD := Lib.hid hrd
  have HG := Lib.hid hG
  have HAS := Lib.hid has
  clear hend hpn hj hfi hlen hrd hG hlF hnd hcs hc hpl hcn hown
  refine (wpIn_wide (n := 9)).1 ?_
  refine wpIn_block ?_
  refine captureD ?_
  intro tf htf
  refine wpIn_rangeFunc_ownH (F := Fence.wide) (n := 9) rfl (by omega) (gf := 82) (lb := #[.pointer (some ⟨by_, 0, none⟩)]) (by subst htf; rfl) trivial (enters_of Try.func82 (by kernel_rfl) rfl)
    (allM_stopsO (rowsOf x bn bx) 8 (by omega) _ bn by_ W.heap.size n lF W hnw hby hbyl (Nat.le_refl _) has hown2) (fun h k => KpO.trans h k) (fun W' l o o' => KpO.turn has W' l o o') (Below.refl _ _) (fun _ => rfl)
    (fun pre w' => ∃ s, goS ins line.toList at_ (pre.map (pr fr)) (b0, []) = some s ∧ JP w0 F0 B1 b3 b4 bb bf x A n cp gr co fo line bn bx (.slice (some ⟨bt, 0, none⟩) n cf) (now.map Prod.fst) fr at_ Ds z s w')
    (fun c pre w' => c = .exit 2 ∧ ∃ pre0 k s, pre = pre0 ++ [k] ∧ goS ins line.toList at_ (pre0.map (pr fr)) (b0, []) = some s ∧ tooLate s.1 (pr fr k).2 = true ∧ JP w0 F0 B1 b3 b4 bb bf x A n cp gr co fo line bn bx (.slice (some ⟨bt, 0, none⟩) n cf) (now.map Prod.fst) fr at_ Ds z s w')
    ?own ?ownx ⟨_, rfl, HJ.out⟩ (fun k a' w' => a' = ⟨(tf.setIfInBounds 24 (.int .i64 (k.val : Int))).setIfInBounds 8 (.int .i64 (k.val : Int)), []⟩) ?ownA ?assign ?body ?done ?stop
  case own =>
    rintro pre w' W' row ⟨s, h1, h2⟩ hg hr
    exact ⟨s, h1, h2.kept hz0 hDl hg hr⟩
  case ownx =>
    rintro c pre w' W' row ⟨h0, pre0, k, s, h1, h2, h3, h4⟩ hg hr
    exact ⟨h0, pre0, k, s, h1, h2, h3, h4.kept hz0 hDl hg hr⟩
  case ownA =>
    rintro k a' s A B row hs hg hr
    exact hs
  case assign =>
    rintro l pre k w' K hI hK
    subst htf
    gi_wp2
    exact hK _ _ (KeepsFrom.refl _ _) ⟨Nat.le_refl _, fun k o hB hk hc hn => ⟨hk, hn⟩⟩ hI rfl
  case done =>
    rintro D xs w' hD rfl ⟨s, hgo, hjs⟩ hdf
    have := turnS_go (xs.map (pr fr)) (b0, []) s [] hgo
    rw [List.append_nil, HPN.out, turnNS] at this
    have hh := HEND.out D w' hD hdf (by rw [this]; exact hjs)
    subst htf
    exact hh
  case stop =>
    rintro D c pre w' hD hpre ⟨rfl, pre0, k, s, rfl, hgo, htl, hjs⟩ hdf
    obtain ⟨rest, rfl⟩ := hpre
    have := turnS_go (pre0.map (pr fr)) (b0, []) s ((k :: rest).map (pr fr)) hgo
    rw [← List.map_append, show pre0 ++ k :: rest = pre0 ++ [k] ++ rest by simp, HPN.out, List.map_cons, turnNS, if_pos htl] at this
    have hh := HEND.out D w' hD hdf (by rw [this]; exact hjs)
    clear this
    subst htf
    gi_wp2
    exact hh
  case body =>
    rintro l pre k a' w' hl hr ⟨s, hgo, hjs⟩ rfl hlt
    subst htf
    have hk := k.isLt
    have hkf : fr[k.val]? = some (fr.getD k.val 0) := by rw [List.getD_eq_getElem?_getD, List.getElem?_eq_getElem (by omega)]; rfl
    have hpr : pr fr k = (k.val, fr.getD k.val 0) := rfl
    generalize fr.getD k.val 0 = fm at *
    generalize hkk : k.val = kk at *
    obtain ⟨i, hi⟩ : ∃ i, ins[kk]? = some i := ⟨_, List.getElem?_eq_getElem (by rw [HLE.out]; exact hk)⟩
    have hgs := goS_snoc (pre.map (pr fr)) (b0, []) s (kk, fm) hgo
    rw [show pre.map (pr fr) ++ [(kk, fm)] = (pre ++ [k]).map (pr fr) by rw [List.map_append, List.map_cons, List.map_nil, hpr]] at hgs
    have HGS := Lib.hid hgs
    have HGO := Lib.hid hgo
    have HPR := Lib.hid hpr
    clear hgs hgo hpr
    obtain ⟨F, col, vt, vd, st, th, td, hpl, hcs, hcn, hown, hown3, hown4⟩ := hjs.call W.heap.size hxl hbnl hbxl
    have hord := hjs.ord
    obtain ⟨bi, oi, rfl, hbi, hci⟩ := (HRD.out.frm hjs.frm HG.out).ins kk i hi
    have e0 := hci 0 _ rfl
    have e1 := hci 1 _ rfl
    have e2 := hci 2 _ rfl
    have e3 := hci 3 _ rfl
    have e4 := hci 4 _ rfl
    have e5 := hci 5 _ rfl
    have e6 := hci 6 _ rfl
    have e7 := hci 7 _ rfl
    have e8 := hci 8 _ rfl
    have e9 := hci 9 _ rfl
    rw [Nat.add_zero] at e0
    obtain ⟨d0, d4, d5, d6, d7, d8, d9, d10, lx⟩ := blk11 hpl.b
    obtain ⟨c3, f3, l3⟩ := blk1 hjs.c3
    have t0 := hpl.sf.rd.cell2 kk hk fm hkf
    rw [Nat.zero_add] at t0
    have lt := (hpl.sf.own bt rfl).2
    gi_wp2
    refine wpIn_mono (reg6C l ⟨c3, l3, d0, d7, lx, hk, t0, lt, hbi, e0, e1, e2, e3, e4, e5, e6, e7, e8, e9⟩ ?_) (fun e a w h => then_mono h)
    have hO := Blk.new w'.drew i.cells 39
    have hj1 := hjs.world (((Frm.refl _ w').drew).alloc (.cells i.cells.toArray 39))
    have hf1 : Frm (fun _ => False) w' (w'.drew.alloc (.cells i.cells.toArray 39)) := ((Frm.refl _ w').drew).alloc _
    obtain ⟨iop, ix, iy, i_n, imn, imx, is0, is1, is2, is3⟩ := i
    simp only [Ins.cells] at hO hj1 hf1
    have hjc1 := hj1.call W.heap.size hxl hbnl hbxl
    have hbo : w'.drew.heap.size = w'.heap.size := rfl
    rw [hbo] at hO
    clear hO e0 e1 e2 e3 e4 e5 e6 e7 e8 e9 d0 d4 d5 d6 d7 d8 d9 d10 c3 f3 t0 hci
    have hO := Blk.new w'.drew [.int .i64 iop, .int .i64 ix, .int .i64 iy, .int .i64 i_n, .int .i64 imn, .int .i64 imx, .int .u64 is0, .int .u64 is1, .int .u64 is2, .int .u64 is3] 39
    rw [hbo] at hO
    generalize w'.drew.alloc (.cells #[.int .i64 iop, .int .i64 ix, .int .i64 iy, .int .i64 i_n, .int .i64 imn, .int .i64 imx, .int .u64 is0, .int .u64 is1, .int .u64 is2, .int .u64 is3] 39) = w1 at *
    generalize hbo2 : w'.heap.size = bo at *
    have o0 := hO.cell 0
    simp only [List.getElem?_cons_zero, List.getElem?_cons_succ] at o0
    have ho := hO.lt
    have HI := Lib.hid hi
    clear hi
    obtain ⟨c3, f3, l3⟩ := blk1 hj1.c3
    obtain ⟨c4, f4, l4⟩ := blk1 hj1.c4
    obtain ⟨cb0, cb1, fb0, fb1, lb⟩ := blk2 hj1.cb
    obtain ⟨cf0, ff0, lf0⟩ := blk1 hj1.cf
    obtain ⟨bs, nx⟩ := s
    cases htl : tooLate bs fm with
    | true =>
      obtain ⟨f0, t0, rfl, hft⟩ : ∃ f0 t0, bs = some (f0, t0) ∧ f0 < fm := by
        cases bs with
        | none => simp [tooLate] at htl
        | some p => exact ⟨p.1, p.2, rfl, by simpa [tooLate] using htl⟩
      have hd : decide (f0 < fm) = true := decide_eq_true hft
      have HTL := Lib.hid htl
      clear htl
      simp only [bestF, bestT, Option.isSome_some] at cb0 cb1 cf0
      gi_wp2
      refine ⟨keepsFrom_cells hf1 (fun _ h _ => h.elim), ?_⟩
      exact ⟨rfl, pre, k, rfl, _, _, HGO.out, by rw [HPR.out]; exact HTL.out, hj1⟩
    | false =>
      have hws : W.heap.size ≤ w'.heap.size := by
        obtain ⟨r, hr⟩ := hr
        have := (Array.getElem?_eq_some_iff.1 hr).1
        omega
      have hkp1 : KpO (rowsOf x bn bx) W.heap.size w' w1 := KpO.new hf1 (fun a ha => Nat.lt_of_lt_of_le (HAS.out a ha) hws)
      have hkf1 : KeepsFrom W.heap.size w' w1 := keepsFrom_cells hf1 (fun _ h _ => h.elim)
      have hgs2 : goS ins line.toList at_ ((pre ++ [k]).map (pr fr)) (b0, []) = some (stepS ins line.toList at_ (kk, fm) (bs, nx)) := by rw [HGS.out, if_neg (by rw [htl]; simp)]
      have hst : stepS ins line.toList at_ (kk, fm) (bs, nx) = if iop = 11 then (bestAt bs fm at_, nx) else if iop = 1 then (match line.toList[at_]? with | some c => if inSet ⟨iop, ix, iy, i_n, imn, imx, is0, is1, is2, is3⟩ c then (bs, comeL ins false (at_ + 1 == line.toList.length) fm (kk + 1) nx) else (bs, nx) | none => (bs, nx)) else (bs, nx) := by
        unfold stepS
        dsimp only
        rw [HI.out]
        cases line.toList[at_]? <;> rfl
      have HGS2 := Lib.hid hgs2
      have HST := Lib.hid hst
      clear hgs2 hst HGS
      have hfound : (bs = none) ∨ ∃ f0 t0, bs = some (f0, t0) ∧ ¬ f0 < fm := by
        cases bs with
        | none => exact .inl rfl
        | some p => exact .inr ⟨p.1, p.2, rfl, by simpa [tooLate] using htl⟩
      have HTL := Lib.hid htl
      clear htl
      have hne : ∀ a ∈ rowsOf x bn bx, a.block < w1.heap.size ∧ ¬ (a.block = bb ∨ a.block = bf) := by
        intro a ha
        refine ⟨Nat.lt_of_lt_of_le (Nat.lt_of_lt_of_le (HAS.out a ha) hws) (by have := hf1.size; omega), ?_⟩
        have hF : F a.block := by
          simp only [rowsOf, List.mem_cons, List.not_mem_nil, or_false] at ha
          rcases ha with rfl | rfl | rfl | rfl | rfl | rfl | rfl
          · exact hpl.fx.1
          · exact hpl.fx.1
          · exact hpl.fx.1
          · exact hpl.nw.fb.1
          · exact hpl.nw.fb.1
          · exact hpl.nx.fb.1
          · exact hpl.nx.fb.1
        rcases hown _ hF with h1 | h1
        · have := hjs.low _ h1; omega
        · omega
      have hbfl : bf < W.heap.size := HJ.out.cf.lt
      obtain ⟨hjb, hfb⟩ := hj1.best fm at_
      have hkp2 : KpO (rowsOf x bn bx) W.heap.size w1 (((w1.setCell ⟨bb, 0, none⟩ (.int .i64 fm)).setCell ⟨bb, 1, none⟩ (.int .i64 (at_ : Int))).setCell ⟨bf, 0, none⟩ (.bool true)) :=
        KpO.of_frm hfb (fun k hk _ => .inl (by omega)) (fun k _ _ hO => (Own.same (cells_frm hfb hne) k).1 hO)
      have hkf2 : KeepsFrom W.heap.size w1 (((w1.setCell ⟨bb, 0, none⟩ (.int .i64 fm)).setCell ⟨bb, 1, none⟩ (.int .i64 (at_ : Int))).setCell ⟨bf, 0, none⟩ (.bool true)) := keepsFrom_of hfb (fun k hk _ => by omega)
      have HBEST : Hid (bestAt bs fm at_ = some (fm, (at_ : Int)) → ∃ a b, goS ins line.toList at_ ((pre ++ [k]).map (pr fr)) (b0, []) = some (a, b) ∧ JP w0 F0 B1 b3 b4 bb bf x (some ⟨bi, oi, none⟩) n cp gr co fo line bn bx (.slice (some ⟨bt, 0, none⟩) n cf) (now.map Prod.fst) fr at_ Ds z (a, b) (((w1.setCell ⟨bb, 0, none⟩ (.int .i64 fm)).setCell ⟨bb, 1, none⟩ (.int .i64 (at_ : Int))).setCell ⟨bf, 0, none⟩ (.bool true)) ∨ iop ≠ 11) := by
        intro hb
        by_cases h11 : iop = 11
        · refine ⟨_, _, .inl ⟨HGS2.out.trans (congrArg some ?_), hjb⟩⟩
          rw [HST.out, if_pos h11, hb]
        · exact ⟨bs, nx, .inr h11⟩
      by_cases h11 : iop = 11
      · subst h11
        rcases hfound with rfl | ⟨f0, t0, rfl, hnl⟩
        · simp only [bestF, bestT, Option.isSome_none] at cb0 cb1 cf0
          obtain ⟨a, b, hab⟩ := HBEST.out rfl
          rcases hab with ⟨hab1, hab2⟩ | hab
          · gi_wp2
            first | exact ⟨hkf1.trans hkf2, hkp1.trans hkp2, a, b, hab1, hab2⟩ | exact ⟨hkf1.trans hkf2, hkp1.trans hkp2, (a, b), hab1, hab2⟩
          · exact absurd rfl hab
        · simp only [bestF, bestT, Option.isSome_some] at cb0 cb1 cf0
          have hd : decide (f0 < fm) = false := decide_eq_false hnl
          by_cases hbet : fm < f0 ∨ t0 < (at_ : Int)
          · obtain ⟨a, b, hab⟩ := HBEST.out (by rw [bestAt, if_pos hbet])
            rcases hab with ⟨hab1, hab2⟩ | hab
            · by_cases hb1 : fm < f0
              · have hd1 : decide (fm < f0) = true := decide_eq_true hb1
                gi_wp2
                first | exact ⟨hkf1.trans hkf2, hkp1.trans hkp2, a, b, hab1, hab2⟩ | exact ⟨hkf1.trans hkf2, hkp1.trans hkp2, (a, b), hab1, hab2⟩
              · have hd1 : decide (fm < f0) = false := decide_eq_false hb1
                have hb2 : t0 < (at_ : Int) := hbet.resolve_left hb1
                have hd2 : decide (t0 < (at_ : Int)) = true := decide_eq_true hb2
                gi_wp2
                first | exact ⟨hkf1.trans hkf2, hkp1.trans hkp2, a, b, hab1, hab2⟩ | exact ⟨hkf1.trans hkf2, hkp1.trans hkp2, (a, b), hab1, hab2⟩
            · exact absurd rfl hab
          · have hb1 : ¬ fm < f0 := fun h => hbet (.inl h)
            have hb2 : ¬ t0 < (at_ : Int) := fun h => hbet (.inr h)
            have hd1 : decide (fm < f0) = false := decide_eq_false hb1
            have hd2 : decide (t0 < (at_ : Int)) = false := decide_eq_false hb2
            have hsame : ∃ a b, goS ins line.toList at_ ((pre ++ [k]).map (pr fr)) (b0, []) = some (a, b) ∧ JP w0 F0 B1 b3 b4 bb bf x (some ⟨bi, oi, none⟩) n cp gr co fo line bn bx (.slice (some ⟨bt, 0, none⟩) n cf) (now.map Prod.fst) fr at_ Ds z (a, b) w1 :=
              ⟨_, _, HGS2.out.trans (congrArg some (by rw [HST.out, if_pos rfl, bestAt, if_neg hbet])), hj1⟩
            have HS := Lib.hid hsame
            clear hsame hbet
            gi_wp2
            obtain ⟨a, b, hab1, hab2⟩ := HS.out
            exact ⟨hkf1, hkp1, a, b, hab1, hab2⟩
      · clear HBEST hkp2 hkf2 hjb hfb
        have hn11 : (iop == 11) = false := by simpa using h11
        have hlb : line.toList.length = line.size := by rw [ByteArray.toList_eq]; simp
        have HLB := Lib.hid hlb
        clear hlb
        by_cases h1 : iop = 1
        · subst h1
          have hnxt : kk + 1 < n := by have := HFI.out.next kk _ HI.out (.inl rfl); rw [HLE.out] at this; exact this
          by_cases hlt2 : at_ < line.size
          · obtain ⟨c, hcc⟩ : ∃ c, line[at_]'hlt2 = c := ⟨_, rfl⟩
            have hlc : line.toList[at_]? = some c := by
              rw [ByteArray.toList_eq, Array.getElem?_toList, Array.getElem?_eq_getElem hlt2]
              exact congrArg some hcc
            have hle : decide (line.size ≤ at_) = false := decide_eq_false (by omega)
            have d4 := (blk11 (hjc1.choose_spec.choose_spec.choose_spec.choose_spec.choose_spec.choose_spec.choose_spec.1).b).2.1
            have s0 := hO.cell 6
            have s1 := hO.cell 7
            have s2 := hO.cell 8
            have s3 := hO.cell 9
            simp only [List.getElem?_cons_zero, List.getElem?_cons_succ] at s0 s1 s2 s3
            have hst3 : stepS ins line.toList at_ (kk, fm) (bs, nx) = if inSet ⟨1, ix, iy, i_n, imn, imx, is0, is1, is2, is3⟩ c then (bs, comeL ins false (at_ + 1 == line.size) fm (kk + 1) nx) else (bs, nx) := by
              rw [HST.out, if_neg h11, if_pos rfl, hlc, HLB.out]
            have HST3 := Lib.hid hst3
            have HCC := Lib.hid hcc
            have HAS2 := Lib.hid (hasS ⟨1, ix, iy, i_n, imn, imx, is0, is1, is2, is3⟩ c)
            clear hst3 hcc hlc HST
            rcases hfound with rfl | ⟨f0, t0, rfl, hnl⟩
            all_goals
              simp only [bestF, bestT, Option.isSome_none, Option.isSome_some] at cb0 cb1 cf0
              try have hd : decide (f0 < fm) = false := decide_eq_false hnl
              gi_wp2
              refine wpIn_mono (reg13C l (r := inSet ⟨1, ix, iy, i_n, imn, imx, is0, is1, is2, is3⟩ c) (c := c) (hf := ⟨c3, c4, d4, s0, s1, s2, s3, hlt2, hle, HCC.out, HAS2.out⟩) ?_) (fun e a w h => then_mono h)
              have hf2 : Frm (fun _ => False) w1 (w1.drew.alloc (.cells #[.int .u64 is0, .int .u64 is1, .int .u64 is2, .int .u64 is3] 37)) := ((Frm.refl _ w1).drew).alloc _
              have hj2 := hj1.world hf2
              have hkp2 : KpO (rowsOf x bn bx) W.heap.size w1 (w1.drew.alloc (.cells #[.int .u64 is0, .int .u64 is1, .int .u64 is2, .int .u64 is3] 37)) := KpO.new hf2 (fun a ha => (hne a ha).1)
              have hkf2 : KeepsFrom W.heap.size w1 (w1.drew.alloc (.cells #[.int .u64 is0, .int .u64 is1, .int .u64 is2, .int .u64 is3] 37)) := keepsFrom_cells hf2 (fun _ h _ => h.elim)
              generalize w1.drew.alloc (.cells #[.int .u64 is0, .int .u64 is1, .int .u64 is2, .int .u64 is3] 37) = w2 at *
              clear hjc1 hf2
              cases hin : inSet ⟨1, ix, iy, i_n, imn, imx, is0, is1, is2, is3⟩ c with
              | false =>
                have hfin : ∃ a b, goS ins line.toList at_ ((pre ++ [k]).map (pr fr)) (b0, []) = some (a, b) ∧ JP w0 F0 B1 b3 b4 bb bf x (some ⟨bi, oi, none⟩) n cp gr co fo line bn bx (.slice (some ⟨bt, 0, none⟩) n cf) (now.map Prod.fst) fr at_ Ds z (a, b) w2 :=
                  ⟨_, _, HGS2.out.trans (congrArg some (by rw [HST3.out, hin]; rfl)), hj2⟩
                have HF := Lib.hid hfin
                clear hfin hin
                gi_wp2
                obtain ⟨a, b, hab1, hab2⟩ := HF.out
                first | exact ⟨hkf1.trans hkf2, hkp1.trans hkp2, a, b, hab1, hab2⟩ | exact ⟨hkf1.trans hkf2, hkp1.trans hkp2, (a, b), hab1, hab2⟩
              | true =>
                obtain ⟨F2, col2, vt2, vd2, st2, th2, td2, hpl2, hcs2, hcn2, hown2', hown3', hown4'⟩ := hj2.call W.heap.size hxl hbnl hbxl
                have hG2 : ∀ k, (G k ∧ k < w0.heap.size) → ¬ F2 k := fun k hk hF => by
                  rcases hown2' k hF with h5 | h5
                  · exact HG.out k hk.1 h5
                  · omega
                have hC := come F2 col2 x _ n cp gr co fo line bn bx _ vt2 vd2 st2 (now.map Prod.fst) fr th2 td2 nx ins (fun k => G k ∧ k < w0.heap.size) (kk + 1) (at_ + 1) fm w2 hpl2 (HRD.out.low.frm hj2.frm (fun k h => HG.out k h.1)) hG2 HFI.out hcs2 hnxt (by omega) (by omega)
                rw [show ((kk + 1 : Nat) : Int) = (kk : Int) + 1 by omega, show ((at_ + 1 : Nat) : Int) = (at_ : Int) + 1 by omega, show ((at_ + 1 == 0) = false) by simp] at hC
                have HC := Lib.hid hC
                have hw1 : IntKind.i64.wrap ((kk : Int) + 1) = (kk : Int) + 1 := IntWalk.i64_in _ (by omega)
                have hw2 : IntKind.i64.wrap ((at_ : Int) + 1) = (at_ : Int) + 1 := IntWalk.i64_in _ (by omega)
                have hst4 := HST3.out
                rw [hin, if_pos rfl] at hst4
                have HG3 := Lib.hid (HGS2.out.trans (congrArg some hst4))
                clear hC hin hst4
                obtain ⟨c3', f3', l3'⟩ := blk1 hj2.c3
                obtain ⟨c4', f4', l4'⟩ := blk1 hj2.c4
                gi_wp2
                refine (CallsIn.inRound l (callsIn_wide.2 HC.out)).mono ?_
                rintro e w3 ⟨rfl, F', col', vd', st', th', td', hp', hc', hf', hF', hn'⟩
                have hn2 : Cnt z n st' (comeL ins false (at_ + 1 == line.size) fm (kk + 1) nx).length := fun h1 h2 => by
                  have e1 := hcn2 h1 h2
                  have e2 := hn' (by omega) (by omega)
                  omega
                obtain ⟨hj3, hkf3, hkp3⟩ := hj2.called (Bl := W.heap.size) hown2' hown3' hown4' hp' hc' hf' hF' hn2
                gi_wp2
                exact ⟨(hkf1.trans hkf2).trans hkf3, (hkp1.trans hkp2).trans hkp3, _, HG3.out, hj3⟩
          · have hle : decide ((at_ : Int) < (line.size : Int)) = false := decide_eq_false (by omega)
            have hle2 : decide (at_ < line.size) = false := decide_eq_false (by omega)
            have hle3 : decide (line.size ≤ at_) = true := decide_eq_true (by omega)
            have hst3 : stepS ins line.toList at_ (kk, fm) (bs, nx) = (bs, nx) := by
              rw [HST.out, if_neg h11, if_pos rfl, List.getElem?_eq_none (by rw [HLB.out]; omega)]
            have d4 := (blk11 (hjc1.choose_spec.choose_spec.choose_spec.choose_spec.choose_spec.choose_spec.choose_spec.1).b).2.1
            have HG3 := Lib.hid (HGS2.out.trans (congrArg some hst3))
            clear hst3 HST
            rcases hfound with rfl | ⟨f0, t0, rfl, hnl⟩
            all_goals
              simp only [bestF, bestT, Option.isSome_none, Option.isSome_some] at cb0 cb1 cf0
              try have hd : decide (f0 < fm) = false := decide_eq_false hnl
              gi_wp2
              refine region_quiet_round (F := Fence.wide) rfl (by kernel_rfl) (by kernel_rfl) (by rfl) ?_
              repeat (gi_big_quiet_step (fail))
              refine wpQuietIn_nil ?_
              rintro _ ⟨nq, rfl⟩
              have hf2 : Frm (fun _ => False) w1 (w1.drewN nq) := (Frm.refl _ w1).drewN nq
              gi_wp2
              exact ⟨hkf1.trans (keepsFrom_cells hf2 (fun _ h _ => h.elim)), hkp1.trans (KpO.new hf2 (fun a ha => (hne a ha).1)), _, HG3.out, hj1.world hf2⟩
        · have hst3 : stepS ins line.toList at_ (kk, fm) (bs, nx) = (bs, nx) := by rw [HST.out, if_neg h11, if_neg h1]
          have HG3 := Lib.hid (HGS2.out.trans (congrArg some hst3))
          have hn1 : (iop == 1) = false := by simpa using h1
          clear hst3 HST
          rcases hfound with rfl | ⟨f0, t0, rfl, hnl⟩
          all_goals
            simp only [bestF, bestT, Option.isSome_none, Option.isSome_some] at cb0 cb1 cf0
            try have hd : decide (f0 < fm) = false := decide_eq_false hnl
            gi_wp2
            exact ⟨hkf1, hkp1, _, _, HG3.out, hj1⟩
end Go.Proofs.Ytoadmpochaeohaa
end
