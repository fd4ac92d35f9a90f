import Derived.Test.YthlefnajbfkdbaaWOver
import Derived.Laws.EntriesVeiled
set_option linter.unusedVariables false
set_option linter.unusedSimpArgs false
namespace Go.Proofs.Ythlefnajbfkdbaa
open Go.RowKit Go.Shelf

/-- A turn over All without a call in its midst. -/
theorem over0 (leave : Int) (h0 : -9223372036854775808 ≤ leave) (h1 : leave ≤ 9223372036854775807) (F : Nat → Prop) (b g bx : Nat) (fv : Value) (xs : List Th) (w : World) (h : PW w F b g fv xs) (hbx : Blk w bx [.pointer (some ⟨g, 0, none⟩)] 53) (hb : xs.length + 2 ≤ 1000000) :
    Calls Try.prog 29 #[.pointer (some ⟨b, 0, none⟩), .func (.func 42) #[] #[.pointer (some ⟨bx, 0, none⟩)], .agg #[.int .i64 0, .int .i64 0, .int .i64 leave, .string ⟨#[]⟩, .int .i64 0, .int .i64 0]] w (OverPost F b g fv w (xs.length + 1)) :=
  over_gen ⟨0, 0, leave, ⟨#[]⟩, 0, 0⟩ ⟨h0, h1, by show (-9223372036854775808 : Int) ≤ 0; omega, by show (0 : Int) ≤ 9223372036854775807; omega⟩ (fun h => absurd rfl h) F b g bx fv xs w h hbx hb
theorem over (o : Stp) (ho : o.ok) (F : Nat → Prop) (b g bx : Nat) (fv : Value) (xs : List Th) (w : World) (h : PW w F b g fv xs) (hbx : Blk w bx [.pointer (some ⟨g, 0, none⟩)] 53) (hb : xs.length + 2 ≤ 1000000) :
    Calls Try.prog 29 #[.pointer (some ⟨b, 0, none⟩), .func (.func 42) #[] #[.pointer (some ⟨bx, 0, none⟩)], o.val] w (OverPost F b g fv w (xs.length + 1)) :=
  over_gen o ho (fun _ F b g bx fv xs w h hbx hb => over0 o.leave ho.l0 ho.l1 F b g bx fv xs w h hbx hb) F b g bx fv xs w h hbx hb

def flatS (l : List Stp) : List Value := l.flatMap Stp.cells
theorem flatS_len (l : List Stp) : (flatS l).length = l.length * 6 := by
  induction l with
  | nil => rfl
  | cons x l ih => simp only [flatS, List.flatMap_cons, List.length_append] at *; rw [ih]; simp [Stp.cells]; omega
theorem flatS_get : ∀ (l : List Stp) (k : Nat) (p : Stp), l[k]? = some p → ∀ j, j < 6 → (flatS l)[k * 6 + j]? = p.cells[j]?
  | [], k, p, h, j, hj => by simp at h
  | x :: l, 0, p, h, j, hj => by
    simp at h; subst h
    rw [flatS, List.flatMap_cons, Nat.zero_mul, Nat.zero_add, List.getElem?_append_left (by simp [Stp.cells]; omega)]
  | x :: l, k + 1, p, h, j, hj => by
    rw [flatS, List.flatMap_cons, List.getElem?_append_right (by simp [Stp.cells]; omega), show (k + 1) * 6 + j - (Stp.cells x).length = k * 6 + j by simp [Stp.cells]; omega]
    exact flatS_get l k p (by simpa using h) j hj
theorem Rd.stp {w : World} {F : Nat → Prop} {A : Option Addr} {n c : Nat} {l : List Stp} (h : Rd w F 6 A n c (flatS l)) (k : Nat) (p : Stp) (hk : l[k]? = some p) : ∃ b off, A = some ⟨b, off, none⟩ ∧ b < w.heap.size ∧
    w.cell? ⟨b, off + k * 6, none⟩ = some (.int .i64 p.kind) ∧ w.cell? ⟨b, off + k * 6 + 1, none⟩ = some (.int .i64 p.n) ∧ w.cell? ⟨b, off + k * 6 + 2, none⟩ = some (.int .i64 p.leave) ∧ w.cell? ⟨b, off + k * 6 + 3, none⟩ = some (.string p.s) ∧ w.cell? ⟨b, off + k * 6 + 4, none⟩ = some (.int .i64 p.turn) ∧ w.cell? ⟨b, off + k * 6 + 5, none⟩ = some (.int .i64 p.in_) := by
  have hk' := (List.getElem?_eq_some_iff.1 hk).1
  have hn : l.length = n := by have := h.len; rw [flatS_len] at this; omega
  obtain ⟨b, off, hA, hb, hc⟩ := h.elem k (by omega)
  have hg := flatS_get l k p hk
  exact ⟨b, off, hA, hb, hc 0 _ (hg 0 (by omega)), hc 1 _ (hg 1 (by omega)), hc 2 _ (hg 2 (by omega)), hc 3 _ (hg 3 (by omega)), hc 4 _ (hg 4 (by omega)), hc 5 _ (hg 5 (by omega))⟩

/-- What PilePlays holds between its rounds. -/
structure PPI (W : World) (b g bx g2 : Nat) (fv : Value) (xs os : List Th) (wr : World) (G G2 : Nat → Prop) : Prop where
  pw : PW wr G b g fv xs
  x : Blk wr bx [.pointer (some ⟨g, 0, none⟩)] 53
  tp : TP wr G2 g2 os
  gw : ∀ k, G k → W.heap.size ≤ k
  g2w : ∀ k, G2 k → W.heap.size ≤ k
  dis : ∀ k, G2 k → ¬ G k
  xg : ¬ G bx ∧ ¬ G2 bx ∧ W.heap.size ≤ bx
  frm : Frm (fun _ => False) W wr
theorem PPI.world {W : World} {b g bx g2 : Nat} {fv : Value} {xs os : List Th} {wr w1 : World} {G G2 : Nat → Prop} (h : PPI W b g bx g2 fv xs os wr G G2) (f : Frm (fun _ => False) wr w1) : PPI W b g bx g2 fv xs os w1 G G2 :=
  ⟨h.pw.frm f (fun _ _ h => h), h.x.frm f (fun h => h), h.tp.frm f (fun _ _ h => h), h.gw, h.g2w, h.dis, h.xg, h.frm.trans f⟩
theorem PPI.low {W : World} {b g bx g2 : Nat} {fv : Value} {xs os : List Th} {wr : World} {G G2 : Nat → Prop} (h : PPI W b g bx g2 fv xs os wr G G2) : PPI W b g bx g2 fv xs os wr (fun k => G k ∧ k < wr.heap.size) (fun k => G2 k ∧ k < wr.heap.size) :=
  ⟨h.pw.low, h.x, h.tp.low, fun k hk => h.gw k hk.1, fun k hk => h.g2w k hk.1, fun k h1 h2 => h.dis k h1.1 h2.1, ⟨fun h1 => h.xg.1 h1.1, fun h1 => h.xg.2.1 h1.1, h.xg.2.2⟩, h.frm⟩
/-- A step on the world. -/
theorem PPI.step {W : World} {b g bx g2 : Nat} {fv : Value} {xs ys os : List Th} {wr w1 : World} {G G2 : Nat → Prop} (h : PPI W b g bx g2 fv xs os wr G G2) (f : Frm G wr w1) (hp : PW w1 (fun k => G k ∨ wr.heap.size ≤ k) b g fv ys) (hl : ∀ k, G2 k → k < wr.heap.size) : PPI W b g bx g2 fv ys os w1 (fun k => G k ∨ wr.heap.size ≤ k) G2 := by
  have hz := h.frm.size
  have hx := h.x.lt
  exact ⟨hp, h.x.frm f h.xg.1, h.tp.frm f h.dis, fun k hk => by rcases hk with h1 | h1; exact h.gw k h1; omega, h.g2w, fun k h1 h2 => by rcases h2 with h2 | h2; exact h.dis k h1 h2; have := hl k h1; omega, ⟨fun hk => by rcases hk with h1 | h1; exact h.xg.1 h1; omega, h.xg.2⟩, h.frm.then f (fun i h1 hi => by have := h.gw i h1; omega)⟩
/-- A step on the other pile. -/
theorem PPI.other {W : World} {b g bx g2 : Nat} {fv : Value} {xs os os' : List Th} {wr w1 : World} {G G2 : Nat → Prop} (h : PPI W b g bx g2 fv xs os wr G G2) (f : Frm G2 wr w1) (hp : TP w1 (fun k => G2 k ∨ wr.heap.size ≤ k) g2 os') (hl : ∀ k, G k → k < wr.heap.size) : PPI W b g bx g2 fv xs os' w1 G (fun k => G2 k ∨ wr.heap.size ≤ k) := by
  have hz := h.frm.size
  have hx := h.x.lt
  exact ⟨h.pw.frm f (fun k h1 h2 => h.dis k h2 h1), h.x.frm f h.xg.2.1, hp, h.gw, fun k hk => by rcases hk with h1 | h1; exact h.g2w k h1; omega, fun k h1 h2 => by rcases h1 with h1 | h1; exact h.dis k h1 h2; have := hl k h2; omega, ⟨h.xg.1, fun hk => by rcases hk with h1 | h1; exact h.xg.2.1 h1; omega, h.xg.2.2⟩, h.frm.then f (fun i h1 hi => by have := h.g2w i h1; omega)⟩

set_option maxHeartbeats 8000000 in
set_option maxRecDepth 100000 in
theorem lawPP (A0 : Option Addr) (n c0 : Nat) (ss : List Stp) (W : World) (hrd0 : Rd W (fun _ => True) 6 A0 n c0 (flatS ss)) (hok : ∀ o ∈ ss, o.ok) :
    Calls Try.prog 7 #[.slice A0 n c0] W fun e W' => e = .returned (.bool true) ∧ Frm (fun _ => False) W W' := by
  have hsl : ss.length = n := by have := hrd0.len; rw [flatS_len] at this; omega
  have HSL := Lib.hid hsl
  have HOK := Lib.hid hok
  clear hsl hok
  go_enter Try.func7, Try.ntmps7
  go_wp2_with fail
  refine (known_calls W).mono ?_
  rintro e w1 ⟨rfl, hf1⟩
  go_wp2_with fail
  refine (newT w1).mono ?_
  rintro e w2 ⟨rfl, rfl⟩
  have hT2 := newTP w1
  go_wp2_with fail
  refine (newT _).mono ?_
  rintro e w3 ⟨rfl, rfl⟩
  have hz1 := hf1.size
  have hB3 := (Blk.new (w1.alloc (.cells #[.slice none 0 0] 90)) [.pointer (some ⟨w1.heap.size, 0, none⟩), .slice none 0 0, .nilFunc] 61).alloc (.cells #[.slice none 0 0] 90)
  have hT3 := hT2.frm (S := fun _ => False) (((Frm.refl _ _).alloc (.cells #[.pointer (some ⟨w1.heap.size, 0, none⟩), .slice none 0 0, .nilFunc] 61)).alloc (.cells #[.slice none 0 0] 90)) (fun _ _ h => h)
  have hO3 := newTP ((w1.alloc (.cells #[.slice none 0 0] 90)).alloc (.cells #[.pointer (some ⟨w1.heap.size, 0, none⟩), .slice none 0 0, .nilFunc] 61))
  have hf3 : Frm (fun _ => False) W (((w1.alloc (.cells #[.slice none 0 0] 90)).alloc (.cells #[.pointer (some ⟨w1.heap.size, 0, none⟩), .slice none 0 0, .nilFunc] 61)).alloc (.cells #[.slice none 0 0] 90)) := ((hf1.alloc _).alloc _).alloc _
  have hz3 : (((w1.alloc (.cells #[.slice none 0 0] 90)).alloc (.cells #[.pointer (some ⟨w1.heap.size, 0, none⟩), .slice none 0 0, .nilFunc] 61)).alloc (.cells #[.slice none 0 0] 90)).heap.size = w1.heap.size + 3 := by simp
  simp only [World.size_alloc] at hB3 hO3
  go_wp2_with fail
  generalize ((w1.alloc (.cells #[.slice none 0 0] 90)).alloc (.cells #[.pointer (some ⟨w1.heap.size, 0, none⟩), .slice none 0 0, .nilFunc] 61)).alloc (.cells #[.slice none 0 0] 90) = w3 at *
  generalize hg : w1.heap.size = g at *
  refine (allT g w3).mono ?_
  rintro e w4 ⟨rfl, rfl⟩
  obtain ⟨c0, c1, c2, f0, f1, f2, l0⟩ := blk3 (hB3.alloc (.cells #[.pointer (some ⟨g, 0, none⟩)] 53))
  have hI : PPI W (g + 1) g (g + 3) (g + 1 + 1) (.func (.func 42) #[] #[.pointer (some ⟨g + 3, 0, none⟩)]) [] [] ((w3.setCell ⟨g + 1, 2, none⟩ (.func (.func 42) #[] #[.pointer (some ⟨g + 3, 0, none⟩)])).alloc (.cells #[.pointer (some ⟨g, 0, none⟩)] 53)) (fun k => k = g ∨ k = g + 1) (fun k => k = g + 1 + 1) := by
    have hs := ((Frm.refl (fun k => k = g + 1) w3).set (g + 1) 2 (.func (.func 42) #[] #[.pointer (some ⟨g + 3, 0, none⟩)]) (fun _ => rfl)).alloc (.cells #[.pointer (some ⟨g, 0, none⟩)] 53)
    have hx := Blk.new (w3.setCell ⟨g + 1, 2, none⟩ (.func (.func 42) #[] #[.pointer (some ⟨g + 3, 0, none⟩)])) [.pointer (some ⟨g, 0, none⟩)] 53
    rw [World.size_setCell, hz3] at hx
    refine ⟨⟨_, fun k => k = g, fun _ => False, (hB3.setSame 2 _).alloc _, .inr rfl, hT3.frm hs (by rintro k rfl h; omega), fun k h => ⟨.inl h, by omega⟩, Sl.nil, fun _ h => h.elim⟩, hx, hO3.frm hs (by rintro k rfl h; omega), by rintro k (h | h) <;> omega, by rintro k rfl; omega, by rintro k rfl (h | h) <;> omega, ⟨by rintro (h | h) <;> omega, by omega, by omega⟩, hf3.then hs (by rintro i rfl hi; omega)⟩
  rw [hz3]
  clear hB3 hT3 hO3 hf3 hT2
  go_upto_region 7 with fail
  clear c0 c1 c2 f0 f1 f2 l0
  generalize (w3.setCell ⟨g + 1, 2, none⟩ (.func (.func 42) #[] #[.pointer (some ⟨g + 3, 0, none⟩)])).alloc (.cells #[.pointer (some ⟨g, 0, none⟩)] 53) = w5 at *
  generalize g + 3 = bx at *
  generalize g + 1 + 1 = g2 at *
  generalize g + 1 = b at *
  clear hz3 hg hz1
  go_wp2_with fail
  go_loopw [6] (fun i wr => ∃ (k : Nat) (xs os : List Th) (G G2 : Nat → Prop), i = .int .i64 k ∧ k ≤ 300 ∧ PPI W b g bx g2 (.func (.func 42) #[] #[.pointer (some ⟨bx, 0, none⟩)]) xs os wr G G2 ∧ xs.length ≤ k ∧ os.length = k) (fun i _ => 300 - (intOf i).toNat)
  case atStart => exact ⟨0, [], [], _, _, rfl, by omega, hI, Nat.le_refl _, rfl⟩
  case round =>
    clear hI
    obtain ⟨k, xs, os, G, G2, rfl, hk, hI, hxl, hol⟩ := hrel
    by_cases hlt : k < n ∧ k < 300
    · obtain ⟨h1, h2⟩ := hlt
      obtain ⟨o, ho⟩ : ∃ o, ss[k]? = some o := ⟨_, List.getElem?_eq_getElem (by rw [HSL.out]; exact h1)⟩
      have hrd := hrd0.frm hI.frm (fun _ _ f => f)
      obtain ⟨bs, off, rfl, hbl, d0, d1, d2, d3, d4, d5⟩ := hrd.stp k o ho
      have hoo := HOK.out o (List.mem_of_getElem? ho)
      clear ho
      obtain ⟨ok, on, ol, ot, ou, oi⟩ := o
      simp only at d0 d1 d2 d3 d4 d5
      have hI6 := (hI.low).world ((Frm.refl _ wr).alloc (.cells #[.int .i64 ok, .int .i64 on, .int .i64 ol, .string ot, .int .i64 ou, .int .i64 oi] 64))
      have hO := Blk.new wr [.int .i64 ok, .int .i64 on, .int .i64 ol, .string ot, .int .i64 ou, .int .i64 oi] 64
      go_upto_region 12 with fail
      have hzw : ∀ k, (G2 k ∧ k < wr.heap.size) → k < (wr.alloc (.cells #[.int .i64 ok, .int .i64 on, .int .i64 ol, .string ot, .int .i64 ou, .int .i64 oi] 64)).heap.size := fun k h => by simp; omega
      have HZW := Lib.hid hzw
      clear d0 d1 d2 d3 d4 d5 hbl hzw hrd
      generalize wr.alloc (.cells #[.int .i64 ok, .int .i64 on, .int .i64 ol, .string ot, .int .i64 ou, .int .i64 oi] 64) = w6 at *
      generalize wr.heap.size = bo at *
      obtain ⟨d0, d1, d2, d3, d4, d5, hbo⟩ := blk6 hO
      obtain ⟨v5, Fp5, Fl5, hB5, _⟩ := id hI6.pw
      obtain ⟨p0, _, p2, q0, _, _, p5⟩ := blk3 hB5
      have HOV := Lib.hid (fun F b g bx fv xs w h hbx hb => over ⟨ok, on, ol, ot, ou, oi⟩ hoo F b g bx fv xs w h hbx hb)
      clear hI hoo
      by_cases h6 : ok = 6
      · subst h6
        go_wp2_with fail
        go_region_law (first
          | (refine step_call (f := 28) rfl rfl Try.func28 (by kernel_rfl) rfl _ (by simp only [List.map_toArray, List.map_cons, List.map_nil]; rfl) ?_; refine (allT g _).mono ?_; rintro e w7 ⟨rfl, rfl⟩; refine ⟨_, rfl, ?_⟩)
          | (refine step_call (f := 29) rfl rfl Try.func29 (by kernel_rfl) rfl _ (by simp only [List.map_toArray, List.map_cons, List.map_nil]; rfl) ?_; refine (HOV.out _ b g _ _ xs _ ((hI6.world (((Frm.refl _ _).drew).alloc (.cells #[.pointer (some ⟨g, 0, none⟩)] 53))).pw) (Blk.new w6.drew [.pointer (some ⟨g, 0, none⟩)] 53) (by omega)).mono ?_; rintro e w8 ⟨rfl, ys, hyl, hpw8, hf8⟩; refine ⟨_, rfl, ?_⟩))
        all_goals
          have hI8 := (hI6.world (((Frm.refl _ _).drew).alloc (.cells #[.pointer (some ⟨g, 0, none⟩)] 53))).step hf8 hpw8 (fun k h => Nat.lt_trans (HZW.out k h) (by simp))
          clear d0 d1 d2 d3 d4 d5 p0 p2 q0
          have hI9 := hI8.low
          have hzz := pushT _ g2 os k ⟨#[]⟩ _ hI9.tp (by omega)
          have HZ := Lib.hid hzz
          clear hzz
          go_wp2_with fail
          refine HZ.out.mono ?_
          rintro e w9 ⟨rfl, ht9, hf9⟩
          have hI10 := hI9.other hf9 ht9 (fun k h => h.2)
          have hlen := lenT _ g2 _ w9 ht9
          rw [List.length_append, hol, List.length_singleton] at hlen
          have HLE := Lib.hid hlen
          have hkk : (((k : Int) + 1) != ((k : Int) + 1)) = false := by simp
          clear hlen
          go_wp2_with (go_at_call 32; refine HLE.out.mono ?_; rintro e w10 ⟨rfl, rfl⟩)
          go_roundw
          case measure => simp [intOf] <;> omega
          case rel => exact ⟨k + 1, _, _, _, _, by go_num, by omega, hI10, by omega, by rw [List.length_append, hol]; rfl⟩
      · have h61 : (ok == 6) = false := by simpa using h6
        by_cases h7 : ok = 7
        · subst h7
          go_wp2_with fail
          go_region_law (refine step_call (f := 29) rfl rfl Try.func29 (by kernel_rfl) rfl _ (by simp only [List.map_toArray, List.map_cons, List.map_nil]; rfl) ?_; refine (HOV.out _ b g bx _ xs _ ((hI6.world ((Frm.refl _ _).drew)).pw) (hI6.world ((Frm.refl _ _).drew)).x (by omega)).mono ?_; rintro e w8 ⟨rfl, ys, hyl, hpw8, hf8⟩; refine ⟨_, rfl, ?_⟩)
          all_goals
            have hI8 := (hI6.world ((Frm.refl _ _).drew)).step hf8 hpw8 (fun k h => HZW.out k h)
            clear d0 d1 d2 d3 d4 d5 p0 p2 q0
            have hI9 := hI8.low
            have hzz := pushT _ g2 os k ⟨#[]⟩ _ hI9.tp (by omega)
            have HZ := Lib.hid hzz
            clear hzz
            go_wp2_with fail
            refine HZ.out.mono ?_
            rintro e w9 ⟨rfl, ht9, hf9⟩
            have hI10 := hI9.other hf9 ht9 (fun k h => h.2)
            have hlen := lenT _ g2 _ w9 ht9
            rw [List.length_append, hol, List.length_singleton] at hlen
            have HLE := Lib.hid hlen
            have hkk : (((k : Int) + 1) != ((k : Int) + 1)) = false := by simp
            clear hlen
            go_wp2_with (go_at_call 32; refine HLE.out.mono ?_; rintro e w10 ⟨rfl, rfl⟩)
            go_roundw
            case measure => simp [intOf] <;> omega
            case rel => exact ⟨k + 1, _, _, _, _, by go_num, by omega, hI10, by omega, by rw [List.length_append, hol]; rfl⟩
        · have h71 : (ok == 7) = false := by simpa using h7
          have HDO := Lib.hid (does _ b g _ xs ok on ot w6 hI6.pw (by omega))
          go_wp2_with fail
          refine HDO.out.mono ?_
          rintro e w8 ⟨ys, hyl, rfl, hpw8, hf8⟩
          have hI8 := hI6.step hf8 hpw8 (fun k h => HZW.out k h)
          clear d0 d1 d2 d3 d4 d5 p0 p2 q0
          have hI9 := hI8.low
          have hzz := pushT _ g2 os k ⟨#[]⟩ _ hI9.tp (by omega)
          have HZ := Lib.hid hzz
          clear hzz
          go_wp2_with fail
          refine HZ.out.mono ?_
          rintro e w9 ⟨rfl, ht9, hf9⟩
          have hI10 := hI9.other hf9 ht9 (fun k h => h.2)
          have hlen := lenT _ g2 _ w9 ht9
          rw [List.length_append, hol, List.length_singleton] at hlen
          have HLE := Lib.hid hlen
          have hkk : (((k : Int) + 1) != ((k : Int) + 1)) = false := by simp
          clear hlen
          go_wp2_with (go_at_call 32; refine HLE.out.mono ?_; rintro e w10 ⟨rfl, rfl⟩)
          go_roundw
          case measure => simp [intOf] <;> omega
          case rel => exact ⟨k + 1, _, _, _, _, by go_num, by omega, hI10, by omega, by rw [List.length_append, hol]; rfl⟩
    · go_wp2_with fail
      all_goals
        go_ret
        exact ⟨rfl, hI.frm⟩
end Go.Proofs.Ythlefnajbfkdbaa
