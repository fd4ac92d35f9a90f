import Derived.Test.YthlefnajbfkdbaaTEq
import Derived.Test.YthlefnajbfkdbaaRQuiet
import Derived.Test.YthlefnajbfkdbaaKnown
import Derived.Deep.CutBlock
import Derived.Deep.DeepCutAuto
set_option linter.unusedVariables false
set_option linter.unusedSimpArgs false
namespace Go.Proofs.Ythlefnajbfkdbaa
open Go.RowKit Go.Shelf

/-- PileFollows' own variables and its pile. -/
structure PFInv (W : World) (bl br bp g : Nat) (A : Option Addr) (m c : Nat) (xs : List Th) (wr : World) (F : Nat → Prop) : Prop where
  l : Blk wr bl [.slice A m c] 57
  r : ∃ b, Blk wr br [.bool b] 4
  p : Blk wr bp [.pointer (some ⟨g, 0, none⟩)] 53
  tp : TP wr F g xs
  f : ∀ k, F k → W.heap.size ≤ k
  fl : ¬ F bl ∧ ¬ F br ∧ ¬ F bp
  ne : bl ≠ br ∧ bl ≠ bp ∧ br ≠ bp
  ge : W.heap.size ≤ bl ∧ W.heap.size ≤ br ∧ W.heap.size ≤ bp
  frm : Frm (fun _ => False) W wr
theorem PFInv.low {W : World} {bl br bp g : Nat} {A : Option Addr} {m c : Nat} {xs : List Th} {wr : World} {F : Nat → Prop} (h : PFInv W bl br bp g A m c xs wr F) : PFInv W bl br bp g A m c xs wr (fun k => F k ∧ k < wr.heap.size) :=
  ⟨h.l, h.r, h.p, h.tp.low, fun k hk => h.f k hk.1, ⟨fun hk => h.fl.1 hk.1, fun hk => h.fl.2.1 hk.1, fun hk => h.fl.2.2 hk.1⟩, h.ne, h.ge, h.frm⟩
/-- A step that touches nothing of it. -/
theorem PFInv.world {W : World} {bl br bp g : Nat} {A : Option Addr} {m c : Nat} {xs : List Th} {wr w1 : World} {F : Nat → Prop} (h : PFInv W bl br bp g A m c xs wr F) (f : Frm (fun _ => False) wr w1) : PFInv W bl br bp g A m c xs w1 F :=
  ⟨h.l.frm f (fun h => h), by obtain ⟨b, hb⟩ := h.r; exact ⟨b, hb.frm f (fun h => h)⟩, h.p.frm f (fun h => h), h.tp.frm f (fun _ _ h => h), h.f, h.fl, h.ne, h.ge, h.frm.trans f⟩
/-- A step on the pile. -/
theorem PFInv.step {W : World} {bl br bp g : Nat} {A : Option Addr} {m c : Nat} {xs xs' : List Th} {wr w1 : World} {F G : Nat → Prop} (h : PFInv W bl br bp g A m c xs wr F) (f : Frm F wr w1) (ht : TP w1 G g xs') (hG : ∀ k, G k → F k ∨ wr.heap.size ≤ k) : PFInv W bl br bp g A m c xs' w1 G := by
  have z := h.frm.size
  obtain ⟨b, hb⟩ := h.r
  have l1 := h.l.lt
  have l2 := hb.lt
  have l3 := h.p.lt
  refine ⟨h.l.frm f h.fl.1, ⟨b, hb.frm f h.fl.2.1⟩, h.p.frm f h.fl.2.2, ht, fun k hk => ?_, ⟨fun hk => ?_, fun hk => ?_, fun hk => ?_⟩, h.ne, h.ge, h.frm.then f (fun i hi hl => by have := h.f i hi; omega)⟩
  · rcases hG k hk with h1 | h1
    · exact h.f k h1
    · omega
  · rcases hG _ hk with h1 | h1
    · exact h.fl.1 h1
    · omega
  · rcases hG _ hk with h1 | h1
    · exact h.fl.2.1 h1
    · omega
  · rcases hG _ hk with h1 | h1
    · exact h.fl.2.2 h1
    · omega

theorem PFInv.kept {W : World} {bl br bp g : Nat} {A : Option Addr} {m c : Nat} {xs : List Th} {wr w1 : World} {F : Nat → Prop} {row : Option Nat} {B : Nat} (h : PFInv W bl br bp g A m c xs wr F) (hB : W.heap.size ≤ B) (hg : wr.grownBy w1 row) (hr : ∀ r, row = some r → B ≤ r ∧ ∃ o : Obj, wr.heap[r]? = some o ∧ o.isCells = false) : PFInv W bl br bp g A m c xs w1 F :=
  have hr2 : ∀ r, row = some r → ∃ o : Obj, wr.heap[r]? = some o ∧ o.isCells = false := fun r e => (hr r e).2
  ⟨h.l.kept hg hr2, by obtain ⟨b, hb⟩ := h.r; exact ⟨b, hb.kept hg hr2⟩, h.p.kept hg hr2, h.tp.kept hg hr2, h.f, h.fl, h.ne, h.ge, h.frm.then (Frm.of_grown hg) (fun i e hi => by have := (hr i e.symm).1; omega)⟩
/-- A step on a block that is none of it. -/
theorem PFInv.other {W : World} {bl br bp g : Nat} {A : Option Addr} {m c : Nat} {xs : List Th} {wr w1 : World} {F S : Nat → Prop} (h : PFInv W bl br bp g A m c xs wr F) (f : Frm S wr w1) (h1 : ¬ S bl) (h2 : ¬ S br) (h3 : ¬ S bp) (h4 : ∀ k, F k → ¬ S k) (h5 : ∀ k, S k → k < W.heap.size → False) : PFInv W bl br bp g A m c xs w1 F :=
  ⟨h.l.frm f h1, by obtain ⟨b, hb⟩ := h.r; exact ⟨b, hb.frm f h2⟩, h.p.frm f h3, h.tp.frm f h4, h.f, h.fl, h.ne, h.ge, h.frm.then f (fun i e hi => h5 i e hi)⟩
theorem capture {F : Fence} {n : Nat} {P : Program} {c : Code} {Q : Exit → Act → World → Prop} {tmps : Array Value} {w : World} (h : ∀ fr, fr = tmps → c.wpIn F n P Q ⟨fr, []⟩ w) : c.wpIn F n P Q ⟨tmps, []⟩ w := h _ rfl

theorem prefix_snoc {α : Type} {pre ys : List α} {x : α} (h : pre <+: ys) (hx : ys[pre.length]? = some x) : pre ++ [x] <+: ys := by
  obtain ⟨t, rfl⟩ := h
  rw [List.getElem?_append_right (Nat.le_refl _), Nat.sub_self] at hx
  cases t with
  | nil => simp at hx
  | cons y t =>
    simp only [List.getElem?_cons_zero, Option.some.injEq] at hx
    subst hx
    exact ⟨t, by simp⟩
theorem of_prefix_snoc {α : Type} {pre ys : List α} {x : α} (h : pre ++ [x] <+: ys) : ys[pre.length]? = some x := by
  obtain ⟨t, rfl⟩ := h
  simp
theorem bytes_eq {a b : ByteArray} (h : a.toList = b.toList) : a = b := by
  rw [ByteArray.toList_eq, ByteArray.toList_eq] at h
  exact ByteArray.ext (Array.toList_inj.1 h)
theorem rev_at {α : Type} {ts : List α} {m i k : Nat} (hm : ts.length = m) (h : i < m) (hk : m - 1 - i = k) : ts.reverse[i]? = ts[k]? := by
  rw [List.getElem?_reverse (by omega)]
  congr 1
  omega

/-- What a body that holds a range over a function comes to: it never panics. -/
def postM (n : Nat) (fn : Func) (R : Ending → World → Prop) : Exit → Act → World → Prop
  | .normal, a, w => bodyPostM Fence.wide n Try.prog fn R .normal a w
  | .ret, a, w => bodyPostM Fence.wide n Try.prog fn R .ret a w
  | _, _, _ => False
theorem calls_marks {n : Nat} {f : FuncId} {fn : Func} {c : Code} {args : Array Value} {w : World} {R : Ending → World → Prop} (hf : Try.prog.funcs[f]? = some fn) (hb : fn.body = some c)
    (h : c.wp Try.prog (postM n fn R) { tmps := args ++ Array.replicate (fn.ntmps - args.size) undef, defers := [] } w) : Calls Try.prog f args w R :=
  callsIn_wide.1 (callsIn_of_wp_marks (n := n) hf hb trivial (wpIn_wide.2 (Code.wp_mono (fun e a w h => by cases e <;> first | exact h | exact h.elim) h)) rfl)
theorem RV.boolCell {tmps : Array Value} {p : Tmp} {g : Nat} {b : Bool} {w : World} (hp : tmps.getD p undef = .pointer (some ⟨g, 0, none⟩)) (hg : Blk w g [.bool b] 4) : RV Try.prog tmps w (.cell p 4) (.bool b) := by
  obtain ⟨c0, f0, l0⟩ := blk1 hg
  simp only [RV, hp, asAddr, Sem.run_bind, Sem.run_pure, Result.andThen_ok]
  go_simp
attribute [local go_sem high] run_eqTh
attribute [local go_sem] Oper.semAt_some

set_option maxHeartbeats 8000000 in
set_option maxRecDepth 100000 in
theorem lawPF (A0 : Option Addr) (n c0 : Nat) (ls : List Th) (N : Int) (W : World) (hN0 : -9223372036854775808 ≤ N) (hN1 : N ≤ 9223372036854775807) (hrd0 : Rd W (fun _ => True) 2 A0 n c0 (flatT ls)) :
    Calls Try.prog 8 #[.slice A0 n c0, .int .i64 N] W fun e W' => e = .returned (.bool true) ∧ Frm (fun _ => False) W W' := by
  have hb1 := Blk.new W [.slice A0 n c0] 57
  have hB2 := Blk.new (W.alloc (.cells #[.slice A0 n c0] 57)) [.bool false] 4
  have hB1 := hb1.alloc (.cells #[.bool false] 4)
  have hF2 : Frm (fun _ => False) W ((W.alloc (.cells #[.slice A0 n c0] 57)).alloc (.cells #[.bool false] 4)) := ((Frm.refl _ W).alloc _).alloc _
  have hz1 : (W.alloc (.cells #[.slice A0 n c0] 57)).heap.size = W.heap.size + 1 := by simp
  rw [hz1] at hB2
  refine calls_marks (n := 9) Try.func8 rfl ?_
  simp only [Try.ntmps8, List.size_toArray, List.length_cons, List.length_nil, Nat.reduceAdd, Nat.reduceSub, Array.replicate_succ, Array.replicate_zero, List.push_toArray, List.append_toArray, List.nil_append, List.cons_append]
  go_wp2_with fail
  generalize (W.alloc (.cells #[.slice A0 n c0] 57)).alloc (.cells #[.bool false] 4) = w2 at *
  refine (known_calls w2).mono ?_
  rintro e w3 ⟨rfl, hf3⟩
  have hB1 := hB1.frm hf3 (fun h => h)
  have hB2 := hB2.frm hf3 (fun h => h)
  have hF3 := hF2.trans hf3
  go_wp2_with fail
  refine (newT w3).mono ?_
  rintro e w4 ⟨rfl, rfl⟩
  have hz2 := hf3.size
  have hz3 := hB2.lt
  have hT : TP ((w3.alloc (.cells #[.slice none 0 0] 90)).alloc (.cells #[.pointer (some ⟨w3.heap.size, 0, none⟩)] 53)) (fun k => k = w3.heap.size) w3.heap.size [] :=
    (newTP w3).frm (S := fun _ => False) ((Frm.refl _ _).alloc _) (fun _ _ h => h)
  have hBp := Blk.new (w3.alloc (.cells #[.slice none 0 0] 90)) [.pointer (some ⟨w3.heap.size, 0, none⟩)] 53
  have hz4 : (w3.alloc (.cells #[.slice none 0 0] 90)).heap.size = w3.heap.size + 1 := by simp
  rw [hz4] at hBp
  have hI : PFInv W W.heap.size (W.heap.size + 1) (w3.heap.size + 1) w3.heap.size A0 n c0 [] ((w3.alloc (.cells #[.slice none 0 0] 90)).alloc (.cells #[.pointer (some ⟨w3.heap.size, 0, none⟩)] 53)) (fun k => k = w3.heap.size) :=
    ⟨(hB1.alloc _).alloc _, ⟨false, (hB2.alloc _).alloc _⟩, hBp, hT, fun k h => by omega, ⟨by omega, by omega, by omega⟩, ⟨by omega, by omega, by omega⟩, ⟨by omega, by omega, by omega⟩, (hF3.alloc _).alloc _⟩
  clear hT hBp hz4 hB1 hB2 hF2 hF3 hf3 hb1 hz1
  obtain ⟨k0, k1, k2⟩ := blk1 hI.l
  go_upto_if 29 with fail
  generalize (w3.alloc (.cells #[.slice none 0 0] 90)).alloc (.cells #[.pointer (some ⟨w3.heap.size, 0, none⟩)] 53) = w5 at *
  generalize w3.heap.size + 1 = bp at *
  generalize w3.heap.size = g at *
  generalize hbl : W.heap.size = bl at *
  generalize hbr : bl + 1 = br at *
  have hcap := hrd0.cap
  go_cut [] from 27 to 31 (fun wx => ∃ (m : Nat), Hid (m ≤ 300) ∧ Hid (m ≤ n) ∧ PFInv W bl br bp g A0 m c0 [] wx (fun k => k = g))
  case first =>
    by_cases hn : (300 : Nat) < n
    · go_wp2_with fail
      go_meet
      refine ⟨300, Nat.le_refl _, Nat.le_of_lt hn, ⟨hI.l.setSame 0 _, ?_, hI.p.setOther bl 0 _ (fun e => hI.ne.2.1 e.symm), ?_, hI.f, hI.fl, hI.ne, hI.ge, hI.frm.set bl 0 _ (fun h => by omega)⟩⟩
      · obtain ⟨b, hb⟩ := hI.r
        exact ⟨b, hb.setOther bl 0 _ (fun e => hI.ne.1 e.symm)⟩
      · exact hI.tp.frm (S := fun k => k = bl) ((Frm.refl (fun k => k = bl) _).set bl 0 _ (fun _ => rfl)) (fun k h h' => hI.fl.1 (h' ▸ h))
    · go_wp2_with fail
      go_meet
      exact ⟨n, Nat.le_of_not_lt hn, Nat.le_refl _, hI⟩
  case rest =>
    obtain ⟨m, HM1, HM2, hI⟩ := hcut
    have hrd1 := hrd0.upto HM2
    rw [flatT_take] at hrd1
    have hml : (ls.take m).length = m := by have := hrd1.len; rw [flatT_len] at this; omega
    generalize ls.take m = ts at *
    have HML := Lib.hid hml
    have hm3 : m ≤ 300 := HM1
    clear hml
    generalize wc = w6 at *
    clear k0 k1 k2
    obtain ⟨k0, k1, k2⟩ := blk1 hI.l
    go_upto_block 0 with fail
    go_cut [] from 32 to 70 (fun wx => ∃ F, PFInv W bl br bp g A0 m c0 ts wx F)
    case first =>
      go_wp2_with fail
      go_loopw [7] (fun i wr => ∃ (k : Nat) (F : Nat → Prop), i = .int .i64 k ∧ k ≤ m ∧ PFInv W bl br bp g A0 m c0 (ts.take k) wr F) (fun i _ => m - (intOf i).toNat)
      case atStart => exact ⟨0, _, rfl, by omega, hI⟩
      case round =>
        obtain ⟨k, F, rfl, hk, hI⟩ := hrel
        obtain ⟨a0, a1, a2⟩ := blk1 hI.l
        by_cases hkm : k < m
        · obtain ⟨p, hp⟩ : ∃ p, ts[k]? = some p := ⟨_, List.getElem?_eq_getElem (by rw [HML.out]; exact hkm)⟩
          have hrd := hrd1.frm hI.frm (fun _ _ h => h)
          obtain ⟨b, off, rfl, hbl2, d0, d1⟩ := hrd.th k p hp
          have htk : ts.take (k + 1) = ts.take k ++ [p] := by rw [List.take_add_one, hp]; rfl
          have HTK := Lib.hid htk
          have htl : (ts.take k).length = k := by rw [List.length_take, HML.out]; omega
          have HTL := Lib.hid htl
          have HP := Lib.hid hp
          clear hp htk htl
          obtain ⟨pn, ps⟩ := p
          simp only at d0 d1
          have hpush := fun (w : World) (F : Nat → Prop) h => pushT F g (ts.take k) pn ps w h (by rw [HTL.out]; omega)
          have HPU := Lib.hid hpush
          clear hpush
          obtain ⟨b0, b1, b2⟩ := blk1 hI.p
          go_upto_region 10 with fail
          go_cut [] from 32 to 70 (fun wx => PFInv W bl br bp g (some ⟨b, off, none⟩) m c0 (ts.take k ++ [⟨pn, ps⟩]) wx (fun i => (F i ∧ i < wr.heap.size) ∨ wr.drew.heap.size ≤ i))
          case first =>
            go_region_law (refine step_call (f := 31) rfl rfl Try.func31 (by kernel_rfl) rfl _ (by simp only [List.map_toArray, List.map_cons, List.map_nil]; rfl) ?_; refine (HPU.out _ _ ((hI.low.tp).frm (S := fun _ => False) ((Frm.refl _ _).drew) (fun _ _ h => h))).mono ?_; rintro e w7 ⟨rfl, ht7, hf7⟩; refine ⟨_, rfl, ?_⟩)
            all_goals
              go_wp2_with fail
              go_meet
              exact (hI.low.world ((Frm.refl _ _).drew)).step hf7 ht7 (fun k h => h)
          case rest =>
            have hI7 := hcut
            generalize wc = w7 at *
            obtain ⟨b0, b1, b2⟩ := blk1 hI7.p
            have hpop := popT _ g _ w7 hI7.tp (by rw [List.length_append, HTL.out, List.length_singleton]; omega) (⟨pn, ps⟩, true) (by rw [List.length_append, HTL.out, List.length_singleton, getT, if_neg (by omega), show (((k + 1 : Nat) : Int) - 1).toNat = k by omega, List.getElem?_append_right (by rw [HTL.out]; exact Nat.le_refl _), HTL.out]; simp)
            rw [List.dropLast_concat] at hpop
            have HPO := Lib.hid hpop
            clear hpop
            go_wp2_with fail
            refine HPO.out.mono ?_
            rintro e w8 ⟨rfl, ht8, hf8⟩
            have hI8 := (hI7.step hf8 ht8 (fun k h => .inl h)).low
            have hX := Blk.new w8 [.int .i64 pn, .string ps] 56
            have hI9 := hI8.world ((Frm.refl _ _).alloc (.cells #[.int .i64 pn, .string ps] 56))
            have hlen := fun (w : World) F h => lenT F g (ts.take k) w h
            rw [HTL.out] at hlen
            have HLE := Lib.hid hlen
            clear hlen
            go_upto_region 12 with fail
            generalize w8.alloc (.cells #[.int .i64 pn, .string ps] 56) = w9 at *
            generalize w8.heap.size = bx at *
            obtain ⟨b0, b1, b2⟩ := blk1 hI9.p
            obtain ⟨a0, a1, a2⟩ := blk1 hI9.l
            obtain ⟨x0, x1, _, _, x2⟩ := blk2 hX
            have hrd := hrd1.frm hI9.frm (fun _ _ h => h)
            obtain ⟨b', off', he, hbl3, d0, d1⟩ := hrd.th k _ HP.out
            cases he
            simp only at d0 d1
            go_cut [64] from 32 to 70 (fun c wx => c = .bool false ∧ wx = w9.drew)
            case first =>
              have heq : (pn == pn && (ps.toList == ps.toList)) = true := by simp
              have hkk : ((k : Int) != (k : Int)) = false := by simp
              go_region_with (go_at_call 32; refine (HLE.out _ _ (hI9.tp.frm (S := fun _ => False) ((Frm.refl _ _).drew) (fun _ _ h => h))).mono ?_; rintro e w' ⟨rfl, rfl⟩)
              all_goals
                go_wp2_with fail
                go_meet
                exact ⟨rfl, rfl⟩
            case rest =>
              obtain ⟨rfl, rfl⟩ := hcut
              have hI10 := hI9.world ((Frm.refl _ _).drew)
              generalize w9.drew = w10 at *
              obtain ⟨b0, b1, b2⟩ := blk1 hI10.p
              obtain ⟨a0, a1, a2⟩ := blk1 hI10.l
              have hrd := hrd1.frm hI10.frm (fun _ _ h => h)
              obtain ⟨b', off', he, hbl3, d0, d1⟩ := hrd.th k _ HP.out
              cases he
              simp only at d0 d1
              clear x0 x1 x2
              go_wp2_with fail
              go_region_law (refine step_call (f := 31) rfl rfl Try.func31 (by kernel_rfl) rfl _ (by simp only [List.map_toArray, List.map_cons, List.map_nil]; rfl) ?_; refine (HPU.out _ _ ((hI10.low.tp).frm (S := fun _ => False) ((Frm.refl _ _).drew) (fun _ _ h => h))).mono ?_; rintro e w11 ⟨rfl, ht11, hf11⟩; refine ⟨_, rfl, ?_⟩)
              all_goals
                have hI11 := (hI10.low.world ((Frm.refl _ _).drew)).step hf11 ht11 (fun k h => h)
                go_wp2
                go_roundw
                case measure => simp [intOf] <;> omega
                case rel => exact ⟨k + 1, _, by go_num, by omega, by rw [HTK.out]; exact hI11⟩
        · obtain rfl : k = m := by omega
          go_wp2_with fail
          go_meet
          rw [List.take_of_length_le (by rw [HML.out]; exact Nat.le_refl _)] at hI
          exact ⟨F, hI⟩
    case rest =>
      obtain ⟨F, hI⟩ := hcut
      clear k0 k1 k2
      obtain ⟨a0, a1, a2⟩ := blk1 hI.l
      obtain ⟨b0, b1, b2⟩ := blk1 hI.p
      generalize wc = w7 at *
      have hI8 := hI.low.world ((Frm.refl _ _).alloc (.cells #[.int .i64 m] 3))
      have hK := Blk.new w7 [.int .i64 m] 3
      have hbr3 := hI.low.tp
      go_upto_region 16 with fail
      have hlt7 : W.heap.size ≤ w7.heap.size := hI.frm.size
      have hltl : bl < w7.heap.size := hI.l.lt
      have hltp : bp < w7.heap.size := hI.p.lt
      have hltr : br < w7.heap.size := by obtain ⟨b, hb⟩ := hI.r; exact hb.lt
      generalize w7.alloc (.cells #[.int .i64 m] 3) = w8 at *
      generalize hbk : w7.heap.size = bk at *
      obtain ⟨a0, a1, a2⟩ := blk1 hI8.l
      obtain ⟨b0, b1, b2⟩ := blk1 hI8.p
      go_wp2_with fail
      refine (allT g w8).mono ?_
      rintro e w' ⟨rfl, rfl⟩
      go_wp2_with fail
      have hI9 := hI8.low.world ((Frm.refl _ _).alloc (.cells #[.pointer (some ⟨g, 0, none⟩)] 53))
      have hK9 := hK.alloc (.cells #[.pointer (some ⟨g, 0, none⟩)] 53)
      have hY9 := Blk.new w8 [.pointer (some ⟨g, 0, none⟩)] 53
      have hlt8 : w8.heap.size < (w8.alloc (.cells #[.pointer (some ⟨g, 0, none⟩)] 53)).heap.size := by simp
      have hbk8 : bk < w8.heap.size := hK.lt
      generalize w8.alloc (.cells #[.pointer (some ⟨g, 0, none⟩)] 53) = w9 at *
      generalize w8.heap.size = by_ at *
      obtain ⟨y0, y1, y2⟩ := blk1 hY9
      have HF1 : Hid (∀ k, ((F k ∧ k < bk) ∧ k < by_) → k < bk) := fun k h => h.1.2
      generalize hFF : (fun k => ((F k ∧ k < bk) ∧ k < by_)) = F1 at *
      have HF2 : Hid (∀ k, F1 k → k < bk) := by subst hFF; exact fun k h => h.1.2
      refine (wpIn_wide (n := 9)).1 ?_
      refine capture ?_
      intro fr hfr
      refine wpIn_rangeFunc_ownH (F := Fence.wide) (n := 9) rfl (by omega) (gf := 42) (lb := #[.pointer (some ⟨by_, 0, none⟩)]) (by subst hfr; rfl) trivial (enters_of Try.func42 (by kernel_rfl) rfl)
        (all1_stops 8 (by omega) F1 g by_ w9.heap.size ts w9 hI9.tp y0 y2 (by rw [HML.out]; omega) (Nat.le_refl _)) (fun h k => KpB.trans h k) (fun W l o o' => KpB.turn W l o o') (Below.refl _ _) (fun _ => rfl)
        (fun pre w' => (pre <+: ts.reverse) ∧ PFInv W bl br bp g A0 m c0 ts w' F1 ∧ Blk w' bk [.int .i64 ((m : Int) - pre.length)] 3)
        (fun c pre w' => c = .ret ∧ ¬ (pre <+: ts.reverse))
        ?own (fun c s A B row hs _ _ => hs) ⟨List.nil_prefix, hI9, by simpa using hK9⟩
        (fun x a' w' => ∃ Bx, Bx ≠ bk ∧ Blk w' Bx x.cells 56 ∧ a' = ⟨(fr.setIfInBounds 75 x.val).setIfInBounds 11 (.pointer (some ⟨Bx, 0, none⟩)), []⟩) ?ownA ?assign ?body ?done ?stop
      case own =>
        intro s A B row hs hg hr
        exact ⟨hs.1, hs.2.1.kept (B := w9.heap.size) (by omega) hg hr, hs.2.2.kept hg (fun r e => (hr r e).2)⟩
      case ownA =>
        rintro x a' s A B row ⟨Bx, h1, h2, h3⟩ hg hr
        exact ⟨Bx, h1, h2.kept hg (fun r e => (hr r e).2), h3⟩
      case assign => 
        rintro l pre ⟨xn, xs⟩ w' K ⟨hp, hI, hKb⟩ hK
        subst hfr
        have hlk := hKb.lt
        dsimp only [Th.val]
        gi_wp2
        refine hK _ _ ((KeepsOthers.alloc _ _).from _) (KpB.of_frm (S := fun _ => False) ((Frm.refl _ _).alloc _) (fun _ h _ => h.elim)) ⟨hp, hI.world ((Frm.refl _ _).alloc _), hKb.alloc _⟩ ⟨w'.heap.size, by omega, Blk.new _ _ _, rfl⟩
      case body =>
        rintro l pre ⟨xn, xs⟩ a' w' hl hr ⟨hp, hI, hKb⟩ ⟨Bx, hBx, hX, rfl⟩ hlt
        subst hfr
        obtain ⟨c0, c1, c2⟩ := blk1 hI.l
        obtain ⟨p0, p1, p2⟩ := blk1 hI.p
        obtain ⟨q0, q1, q2⟩ := blk1 hKb
        obtain ⟨x0, x1, _, _, x2⟩ := blk2 hX
        dsimp only [Th.val]
        rw [HML.out] at hlt
        have hsub : IntKind.i64.wrap ((m : Int) - pre.length - 1) = ((m - 1 - pre.length : Nat) : Int) := by rw [IntWalk.i64_in _ (by omega)]; omega
        gi_wp2
        refine ⟨trivial, ?_⟩
        have hf1 : Frm (fun k => k = bk) w' (w'.setCell ⟨bk, 0, none⟩ (.int .i64 ((m - 1 - pre.length : Nat) : Int))) := (Frm.refl (fun k => k = bk) w').set bk 0 _ (fun _ => rfl)
        have hI1 := hI.other hf1 (by omega) (by omega) (by omega) (fun k h e => by have := HF2.out k h; omega) (fun k e h => by omega)
        have hK1 := hKb.setSame 0 (.int .i64 ((m - 1 - pre.length : Nat) : Int))
        have hX1 := hX.setOther bk 0 (.int .i64 ((m - 1 - pre.length : Nat) : Int)) hBx
        have hlm : m - 1 - pre.length < m := by omega
        generalize hkk : m - 1 - pre.length = k at *
        generalize w'.setCell ⟨bk, 0, none⟩ (.int .i64 (k : Int)) = w10 at *
        obtain ⟨y, hy⟩ : ∃ y, ts[k]? = some y := ⟨_, List.getElem?_eq_getElem (by rw [HML.out]; exact hlm)⟩
        refine (CallsIn.inRound l (callsIn_wide.2 (atT F1 g ts k w10 hI1.tp (by rw [HML.out]; omega) (y, true) (by rw [getT, if_neg (by omega), Int.toNat_natCast, hy])))).mono ?_
        rintro e w11 ⟨rfl, hf11⟩
        have hI2 := hI1.world hf11
        have hK2 := hK1.frm hf11 (fun h => h)
        have hX2 := hX1.frm hf11 (fun h => h)
        have hrd := hrd1.frm hI2.frm (fun _ _ h => h)
        obtain ⟨c0, c1, c2⟩ := blk1 hI2.l
        obtain ⟨q0, q1, q2⟩ := blk1 hK2
        obtain ⟨x0, x1, _, _, x2⟩ := blk2 hX2
        obtain ⟨b', off', rfl, hbl3, d0, d1⟩ := hrd.th k _ hy
        have HY := Lib.hid hy
        clear hy
        have hmix : Try.prog.follows .mixedOrders = true := by kernel_rfl
        obtain ⟨yn, ys⟩ := y
        simp only at d0 d1
        obtain ⟨bb, hbb⟩ := hI2.r
        obtain ⟨r0, r1, r2⟩ := blk1 hbb
        gi_wp2
        by_cases he : (xn == yn && (xs.toList == ys.toList)) = true
        · refine region_quiet_round (F := Fence.wide) rfl (by kernel_rfl) (by kernel_rfl) (by rfl) ?_
          repeat (gi_big_quiet_step (fail))
          refine wpQuietIn_nil ?_
          rintro _ ⟨nq, rfl⟩
          gi_wp2
          have hfin : Frm (fun k => k = bk) w' ((w11.alloc (.cells #[.int .i64 yn, .string ys] 56)).drewN nq) := ((hf1.then hf11 (fun _ h _ => h.elim)).alloc _).drewN nq
          simp only [Bool.and_eq_true, beq_iff_eq] at he
          obtain ⟨e1, e2⟩ := he
          have e2 := bytes_eq e2
          subst e1
          subst e2
          refine ⟨keepsFrom_of hfin (fun i e _ => by omega), KpB.of_frm hfin (fun i e _ => by omega), prefix_snoc hp ?_, hI2.world (((Frm.refl _ _).alloc _).drewN nq), ?_⟩
          · rw [rev_at HML.out hlt hkk]; exact HY.out
          · have hK3 := (hK2.alloc (.cells #[.int .i64 xn, .string xs] 56)).drewN nq
            have e : ((m : Int) - ((pre ++ [(⟨xn, xs⟩ : Th)]).length : Int)) = (k : Int) := by rw [List.length_append, List.length_singleton]; omega
            rw [e]
            exact hK3
        · have he2 : (xn == yn && (xs.toList == ys.toList)) = false := by simpa using he
          clear he
          refine region_quiet_round (F := Fence.wide) rfl (by kernel_rfl) (by kernel_rfl) (by rfl) ?_
          repeat (gi_big_quiet_step (fail))
          refine wpQuietIn_nil ?_
          rintro _ ⟨nq, rfl⟩
          gi_wp2
          have hfin : Frm (fun k => k = bk ∨ k = br) w' (((w11.alloc (.cells #[.int .i64 yn, .string ys] 56)).drewN nq).setCell ⟨br, 0, none⟩ (.bool false)) := ((((hf1.then hf11 (fun _ h _ => h.elim)).mono (fun _ h _ => .inl h)).alloc _).drewN nq).set br 0 _ (fun _ => .inr rfl)
          refine ⟨keepsFrom_of hfin (fun i e _ => by omega), rfl, fun hpre => ?_⟩
          have h1 := of_prefix_snoc hpre
          rw [rev_at HML.out hlt hkk, HY.out] at h1
          cases h1
          simp at he2
      case done =>
        rintro D xs' W3 hD rfl ⟨_, hI, hKb⟩ hdf
        subst hfr
        have hk0 : (m : Int) - ts.reverse.length = 0 := by rw [List.length_reverse, HML.out]; omega
        rw [hk0] at hKb
        clear hk0
        have hDF : ¬ F1 D := fun h => by have := HF2.out D h; omega
        have hDn : bk < D ∧ br < D := ⟨by omega, by omega⟩
        clear y0 y1 y2 b0 b1 b2 a0 a1 a2
        obtain ⟨l0, l1, l2⟩ := blk1 hI.l
        obtain ⟨p0, p1, p2⟩ := blk1 hI.p
        obtain ⟨q0, q1, q2⟩ := blk1 hKb
        have hq := pickN_lt N ((m : Int) + 1) (by omega)
        have hpk := fun w => pick_calls N ((m : Int) + 1) w hN0 hN1 (by omega) (by omega)
        generalize pickN N ((m : Int) + 1) = q at *
        have hC : ∀ w, TP w F1 g ts → Calls Try.prog 35 #[.pointer (some ⟨g, 0, none⟩), .int .i64 q] w fun e w' => e = .returned (.int .i64 0) ∧ TP w' F1 g (ts.take q) ∧ Frm F1 w w' := fun w h => by
          have := cutT F1 g ts q w h (by rw [HML.out]; omega)
          have hc : ¬ ((q : Int) < 0 ∨ (ts.length : Int) < q) := by rw [HML.out]; omega
          simpa only [if_neg hc, Int.toNat_natCast] using this
        have hL : ∀ w, TP w F1 g (ts.take q) → Calls Try.prog 32 #[.pointer (some ⟨g, 0, none⟩)] w fun e w' => e = .returned (.int .i64 q) ∧ w = w' := fun w h => by
          have := lenT F1 g (ts.take q) w h
          have e : (ts.take q).length = q := by rw [List.length_take, HML.out]; omega
          rwa [e] at this
        have HP := Lib.hid hpk
        have HC := Lib.hid hC
        have HL := Lib.hid hL
        clear hpk hC hL
        go_wp2_with fail
        refine (HP.out _).mono ?_
        rintro e w' ⟨rfl, rfl⟩
        have hqq : ((q : Int) != (q : Int)) = false := by simp
        go_upto_region 23 with fail
        go_cut [117] from 104 to 117 (fun c wx => c = .bool false ∧ PFInv W bl br bp g A0 m c0 (ts.take q) wx F1 ∧ Frm F1 W3 wx)
        case first =>
          go_wp2_with (first
            | (go_at_call 35; refine (HC.out _ hI.tp).mono ?_; rintro e w12 ⟨rfl, ht12, hf12⟩; have hI12 := hI.step hf12 ht12 (fun k h => .inl h); obtain ⟨p3, p4, p5⟩ := blk1 hI12.p)
            | (go_at_call 32; refine (HL.out _ ht12).mono ?_; rintro e w13 ⟨rfl, rfl⟩))
          go_meet
          exact ⟨rfl, hI12, hf12⟩
        case rest =>
          obtain ⟨rfl, hI4, hf4⟩ := hcut
          have hK4 := hKb.frm hf4 (fun h => by have := HF2.out _ h; omega)
          have hd4 : wc.heap[D]? = some (.deferred (some [])) := (hf4.block D (Array.getElem?_eq_some_iff.1 hdf).1 hDF).trans hdf
          generalize wc = w4 at *
          clear l0 l1 l2 p0 p1 p2 q0 q1 q2
          obtain ⟨l0, l1, l2⟩ := blk1 hI4.l
          obtain ⟨p0, p1, p2⟩ := blk1 hI4.p
          obtain ⟨q0, q1, q2⟩ := blk1 hK4
          have hI5 := hI4.other (S := fun k => k = bk) ((Frm.refl (fun k => k = bk) _).set bk 0 (.int .i64 ((q : Int) - 1)) (fun _ => rfl)) (by omega) (by omega) (by omega) (fun k h e => by have := HF2.out k h; omega) (fun k e h => by omega)
          have hK5 := hK4.setSame 0 (.int .i64 ((q : Int) - 1))
          have hd5 : (w4.setCell ⟨bk, 0, none⟩ (.int .i64 ((q : Int) - 1))).heap[D]? = some (.deferred (some [])) := (((Frm.refl (fun k => k = bk) w4).set bk 0 (.int .i64 ((q : Int) - 1)) (fun _ => rfl)).block D (Array.getElem?_eq_some_iff.1 hd4).1 (by omega)).trans hd4
          have hDl := (Array.getElem?_eq_some_iff.1 hd5).1
          have hqm : q ≤ m := by omega
          go_wp2_with fail
          generalize w4.setCell ⟨bk, 0, none⟩ (.int .i64 ((q : Int) - 1)) = w5' at *
          clear l0 l1 l2 p0 p1 p2 q0 q1 q2
          go_loopg [] q (fun k wr => k ≤ q ∧ PFInv W bl br bp g A0 m c0 (ts.take k) wr F1 ∧ Blk wr bk [.int .i64 ((k : Int) - 1)] 3 ∧ wr.heap[D]? = some (.deferred (some [])))
          case atStart => exact ⟨Nat.le_refl _, hI5, hK5, hd5⟩
          case round =>
            obtain ⟨hkq, hI6, hK6, hd6⟩ := hrel
            obtain ⟨l0, l1, l2⟩ := blk1 hI6.l
            obtain ⟨p0, p1, p2⟩ := blk1 hI6.p
            obtain ⟨q0, q1, q2⟩ := blk1 hK6
            have hDl6 := (Array.getElem?_eq_some_iff.1 hd6).1
            rcases gk with _ | j
            · rw [show (((0 : Nat) : Int) - 1) = -1 by omega] at q0
              have hpop := popT F1 g [] wr hI6.tp (by simp) (th0, false) (by simp [getT])
              obtain ⟨bb, hbb⟩ := hI6.r
              have HPO := Lib.hid hpop
              clear hpop
              go_wp2_with fail
              refine HPO.out.mono ?_
              rintro e w7' ⟨rfl, ht7, hf7⟩
              have hbb7 := hbb.frm hf7 hI6.fl.2.1
              have hd7 := (hf7.block D hDl6 hDF).trans hd6
              have hI7 := hI6.step hf7 ht7 (fun k h => .inl h)
              obtain ⟨r0, r1, r2⟩ := blk1 hbb7
              go_wp2_with fail
              have hfin : Frm (fun k => k = br) w7' ((w7'.setCell ⟨br, 0, none⟩ (.bool true)).alloc (.cells #[.int .i64 th0.n, .string th0.s] 56)) := ((Frm.refl (fun k => k = br) _).set br 0 _ (fun _ => rfl)).alloc _
              have hd9 := (hfin.block D (Array.getElem?_eq_some_iff.1 hd7).1 (by omega)).trans hd7
              have hr9 := ((hbb7.setSame 0 (.bool true)).alloc (.cells #[.int .i64 th0.n, .string th0.s] 56)).kept (grownBy_putObj' _ D (.deferred none)) (fun r e => by cases e; exact ⟨_, hd9, rfl⟩)
              refine ⟨by simp, .inl ⟨_, _, rfl, run_takeDeferred hd9, ?_⟩⟩
              refine ⟨_, results_one rfl (RV.boolCell rfl hr9), rfl, ?_⟩
              exact (hI7.frm.then hfin (fun i e hi => by omega)).then (Frm.of_grown (grownBy_putObj' _ D (.deferred none))) (fun i e hi => by cases e; omega)
            · have hlt : j < m := by omega
              obtain ⟨y, hy⟩ : ∃ y, ts[j]? = some y := ⟨_, List.getElem?_eq_getElem (by rw [HML.out]; exact hlt)⟩
              have HY := Lib.hid hy
              have htj : ts.take (j + 1) = ts.take j ++ [y] := by rw [List.take_add_one, hy]; rfl
              have hlj : (ts.take j).length = j := by rw [List.length_take, HML.out]; omega
              rw [htj] at hI6
              have hrd := hrd1.frm hI6.frm (fun _ _ h => h)
              obtain ⟨b, off, rfl, hbl2, d0, d1⟩ := hrd.th j y hy
              obtain ⟨yn, ys⟩ := y
              simp only at d0 d1
              have hpop := popT F1 g _ wr hI6.tp (by rw [List.length_append, hlj, List.length_singleton]; omega) (⟨yn, ys⟩, true) (by rw [List.length_append, hlj, List.length_singleton, getT, if_neg (by omega), show (((j + 1 : Nat) : Int) - 1).toNat = j by omega, List.getElem?_append_right (by rw [hlj]; exact Nat.le_refl _), hlj]; simp)
              rw [List.dropLast_concat] at hpop
              have HPO := Lib.hid hpop
              rw [show (((j + 1 : Nat) : Int) - 1) = (j : Int) by omega] at q0
              clear hpop hy htj hlj
              go_wp2_with fail
              refine HPO.out.mono ?_
              rintro e w7' ⟨rfl, ht7, hf7⟩
              have hI7 := hI6.step hf7 ht7 (fun k h => .inl h)
              have hK7 := hK6.frm hf7 (fun h => by have := HF2.out _ h; omega)
              have hd7 := (hf7.block D hDl6 hDF).trans hd6
              have hX := Blk.new w7' [.int .i64 yn, .string ys] 56
              have hI8 := hI7.world ((Frm.refl _ _).alloc (.cells #[.int .i64 yn, .string ys] 56))
              have hK8 := hK7.alloc (.cells #[.int .i64 yn, .string ys] 56)
              have hd8 := ((Frm.refl (fun _ => False) w7').alloc (.cells #[.int .i64 yn, .string ys] 56)).block D (Array.getElem?_eq_some_iff.1 hd7).1 (fun h => h) |>.trans hd7
              go_upto_region 29 with fail
              generalize w7'.alloc (.cells #[.int .i64 yn, .string ys] 56) = w8' at *
              generalize w7'.heap.size = bx at *
              obtain ⟨x0, x1, _, _, x2⟩ := blk2 hX
              obtain ⟨l0, l1, l2⟩ := blk1 hI8.l
              obtain ⟨q0, q1, q2⟩ := blk1 hK8
              have hrd := hrd1.frm hI8.frm (fun _ _ h => h)
              obtain ⟨b', off', he, hbl3, d0, d1⟩ := hrd.th j _ HY.out
              cases he
              simp only at d0 d1
              have heq : (yn == yn && (ys.toList == ys.toList)) = true := by simp
              have hDl8 := (Array.getElem?_eq_some_iff.1 hd8).1
              have e0 : ((j + 1 : Nat) : Int) - 1 = (j : Int) := by omega
              rw [e0] at q0
              clear e0
              go_quiet (fail)
              go_wp2_with fail
              go_roundg j
              case measure => omega
              case rel =>
                have hW9 : Frm (fun k => k = bk) w8' ((w8'.drewN nq).setCell ⟨bk, 0, none⟩ (.int .i64 ((j : Int) - 1))) := ((Frm.refl (fun k => k = bk) w8').drewN nq).set bk 0 _ (fun _ => rfl)
                exact ⟨by omega, hI8.other hW9 (by omega) (by omega) (by omega) (fun k h e => by have := HF2.out k h; omega) (fun k e h => by omega), (hK8.drewN nq).setSame 0 (.int .i64 ((j : Int) - 1)), (hW9.block D hDl8 (by omega)).trans hd8⟩
      case stop =>
        rintro D c pre w' _ h1 ⟨_, h2⟩ _
        exact absurd h1 h2
end Go.Proofs.Ythlefnajbfkdbaa
