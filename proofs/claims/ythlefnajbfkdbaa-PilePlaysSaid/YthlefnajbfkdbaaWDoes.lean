import Derived.Test.YthlefnajbfkdbaaPW
import Derived.Deep.CutBlock
import Derived.Deep.DeepCutAuto
set_option linter.unusedVariables false
set_option linter.unusedSimpArgs false
namespace Go.Proofs.Ythlefnajbfkdbaa
open Go.RowKit

set_option maxHeartbeats 1600000 in
set_option maxRecDepth 100000 in
theorem doesOther (F : Nat → Prop) (b g : Nat) (fv : Value) (xs : List Th) (k n : Int) (s : ByteArray) (w : World) (h : PW w F b g fv xs) (hb : xs.length + 1 ≤ 1073741824) (h1 : (k == 1) = false) (h2 : (k == 2) = false) (h3 : (k == 3) = false) (h4 : (k == 4) = false) (h5 : (k == 5) = false) :
    Calls Try.prog 30 #[.pointer (some ⟨b, 0, none⟩), .int .i64 k, .int .i64 n, .string s] w (DoesPost F b g fv w xs) := by
  have hW4 := h.mono (G := fun k => F k ∨ w.heap.size ≤ k) (fun k h _ => .inl h)
  have hf4 : Frm F w w := Frm.refl _ _
  go_enter Try.func30, Try.ntmps30
  obtain ⟨v5, Fp5, Fl5, hB5, hF5, hT5, hp5, hS5, hl5⟩ := hW4
  obtain ⟨A5, e5, rfl⟩ := hS5.form
  obtain ⟨d0, d1, d2, g0, g1, g2, l5⟩ := blk3 hB5
  have hlen := fun w h => lenT Fp5 g xs w h
  have HLE := Lib.hid hlen
  clear hlen
  have hyy : ((xs.length : Int) == (xs.length : Int)) = true := by simp
  go_upto_region 27 with fail
  go_quiet ((go_at_call 32; refine (HLE.out _ (hT5.frm (S := fun _ => False) ((Frm.refl _ _).drewN _) (fun _ _ h => h))).mono ?_; rintro e w7 ⟨rfl, rfl⟩; exact ⟨rfl, _, rfl⟩))
  go_wp2
  go_ret
  exact ⟨by first | rfl | simp, PW.frm (S := fun _ => False) ⟨_, _, _, hB5, hF5, hT5, hp5, hS5, hl5⟩ ((Frm.refl _ _).drewN _) (fun _ _ h => h), hf4.drewN _⟩

attribute [local go_sem high] run_eqTh

set_option maxHeartbeats 1600000 in
set_option maxRecDepth 100000 in
theorem doesPop0 (F : Nat → Prop) (b g : Nat) (fv : Value) (n : Int) (s : ByteArray) (w : World) (h : PW w F b g fv []) :
    Calls Try.prog 30 #[.pointer (some ⟨b, 0, none⟩), .int .i64 2, .int .i64 n, .string s] w (DoesPost F b g fv w []) := by
  obtain ⟨v, Fp, Fl, hB, hF, hT, hp, hS, hl⟩ := h.low
  obtain ⟨A, c, rfl⟩ := hS.form
  obtain ⟨c0, c1, c2, f0, f1, f2, l0⟩ := blk3 hB
  have hpop := popT Fp g [] w hT (by simp) (th0, false) (by simp [getT])
  have HPO := Lib.hid hpop
  clear hpop
  go_enter Try.func30, Try.ntmps30
  go_wp2_with fail
  refine HPO.out.mono ?_
  rintro e w1 ⟨rfl, hT1, hf1⟩
  have hB1 := hB.frm hf1 (fun h => (hp b h).2 rfl)
  have hS1 := hS.frm hf1 (fun k h => (hl k h).2.2)
  have hlast := fun w hB hS => lastW (.pointer (some ⟨g, 0, none⟩)) (.slice A 0 c) fv Fl b [] w hB hS (by simp) (th0, false) (by simp [getT])
  have HLA := Lib.hid hlast
  clear hlast c0 c1 c2 f0 f1 f2
  obtain ⟨c0, c1, c2, f0, f1, f2, l1⟩ := blk3 hB1
  go_wp2_with fail
  refine (HLA.out _ (hB1.alloc _) (hS1.alloc _)).mono ?_
  rintro e w2 ⟨rfl, hf2⟩
  have hf : Frm Fp w w2 := (hf1.alloc (.cells #[.int .i64 th0.n, .string th0.s] 56)).then hf2 (fun i h _ => h.elim)
  have hX := (Blk.new w1 [.int .i64 th0.n, .string th0.s] 56).frm hf2 (fun h => h)
  have hB2 := (hB1.alloc (.cells #[.int .i64 th0.n, .string th0.s] 56)).frm hf2 (fun h => h)
  have hS2 := (hS1.alloc (.cells #[.int .i64 th0.n, .string th0.s] 56)).frm hf2 (fun _ _ h => h)
  have hT2 := (hT1.frm (S := fun _ => False) ((Frm.refl _ w1).alloc (.cells #[.int .i64 th0.n, .string th0.s] 56)) (fun _ _ h => h)).frm hf2 (fun _ _ h => h)
  have hY := Blk.new w2 [.int .i64 th0.n, .string th0.s] 56
  have hX3 := hX.alloc (.cells #[.int .i64 th0.n, .string th0.s] 56)
  have heq : (th0.n == th0.n && (th0.s.toList == th0.s.toList)) = true := by simp
  have hf4 : Frm F w (w2.alloc (.cells #[.int .i64 th0.n, .string th0.s] 56)) := (hf.mono (fun i h _ => (hp i h).1.1)).alloc _
  have hW4 : PW (w2.alloc (.cells #[.int .i64 th0.n, .string th0.s] 56)) (fun k => F k ∨ w.heap.size ≤ k) b g fv [] :=
    ⟨_, _, _, hB2.alloc _, .inl hF.1, hT2.frm (S := fun _ => False) ((Frm.refl _ w2).alloc _) (fun _ _ h => h), fun k h => ⟨.inl (hp k h).1.1, (hp k h).2⟩, hS2.alloc _, fun k h => ⟨.inl (hl k h).1.1, (hl k h).2⟩⟩
  clear c0 c1 c2 f0 f1 f2
  go_upto_region 8 with fail
  generalize w2.alloc (.cells #[.int .i64 th0.n, .string th0.s] 56) = w4 at *
  generalize w2.heap.size = by_ at *
  generalize w1.heap.size = bx at *
  obtain ⟨x0, x1, _, _, x2⟩ := blk2 hX3
  obtain ⟨y0, y1, _, _, y2⟩ := blk2 hY
  obtain ⟨v5, Fp5, Fl5, hB5, hF5, hT5, hp5, hS5, hl5⟩ := hW4
  obtain ⟨A5, e5, rfl⟩ := hS5.form
  obtain ⟨d0, d1, d2, g0, g1, g2, l5⟩ := blk3 hB5
  have hlen := fun w h => lenT Fp5 g ([] : List Th) w h
  have HLE := Lib.hid hlen
  clear hlen
  have hyy : ((([] : List Th).length : Int) == (([] : List Th).length : Int)) = true := by simp
  go_upto_region 27 with fail
  go_quiet ((go_at_call 32; refine (HLE.out _ (hT5.frm (S := fun _ => False) ((Frm.refl _ _).drewN _) (fun _ _ h => h))).mono ?_; rintro e w7 ⟨rfl, rfl⟩; exact ⟨rfl, _, rfl⟩))
  go_wp2
  go_ret
  exact ⟨by first | rfl | simp, PW.frm (S := fun _ => False) ⟨_, _, _, hB5, hF5, hT5, hp5, hS5, hl5⟩ ((Frm.refl _ _).drewN _) (fun _ _ h => h), hf4.drewN _⟩

theorem take_cell {w : World} {F : Nat → Prop} {ys zs : List Th} {n c : Nat} {ad : Addr} (h : Sl w F 56 2 (.slice (some ad) n c) n (flatT (ys ++ zs))) (j : Nat) (u : Value) (hu : (flatT ys)[j]? = some u) : w.cell? (ad.add j) = some u := by
  have hl := (List.getElem?_eq_some_iff.1 hu).1
  obtain ⟨ad', e, hc⟩ := h.reads (by rw [flatT_append, List.length_append]; omega)
  cases e
  exact hc j u (by rw [flatT_append, List.getElem?_append_left hl]; exact hu)

set_option maxHeartbeats 1600000 in
set_option maxRecDepth 100000 in
theorem doesPop1 (F : Nat → Prop) (b g : Nat) (fv : Value) (xs : List Th) (x : Th) (n : Int) (s : ByteArray) (w : World) (h : PW w F b g fv (xs ++ [x])) (hb : xs.length + 1 ≤ 1073741824) :
    Calls Try.prog 30 #[.pointer (some ⟨b, 0, none⟩), .int .i64 2, .int .i64 n, .string s] w (DoesPost F b g fv w xs) := by
  obtain ⟨v, Fp, Fl, hB, hF, hT, hp, hS, hl⟩ := h.low
  obtain ⟨A, c, rfl⟩ := hS.form
  have hlen : (xs ++ [x]).length = xs.length + 1 := by simp
  have hgt : getT (xs ++ [x]) ((xs ++ [x]).length - 1) = (x, true) := by rw [getT, if_neg (by omega), show (((xs ++ [x]).length : Int) - 1).toNat = xs.length by omega]; simp
  obtain ⟨c0, c1, c2, f0, f1, f2, l0⟩ := blk3 hB
  have hpop := popT Fp g (xs ++ [x]) w hT (by omega) (x, true) hgt
  rw [List.dropLast_concat] at hpop
  have HPO := Lib.hid hpop
  have hlast := fun w hB hS => lastW (.pointer (some ⟨g, 0, none⟩)) (.slice A (xs ++ [x]).length c) fv Fl b (xs ++ [x]) w hB hS (by omega) (x, true) hgt
  have HLA := Lib.hid hlast
  have htk := fun w (hS : Sl w Fl 56 2 (.slice A (xs ++ [x]).length c) (xs ++ [x]).length (flatT (xs ++ [x]))) => hS.rd.th xs.length x (by simp)
  have HTK := Lib.hid htk
  clear hpop hlast hgt htk
  go_enter Try.func30, Try.ntmps30
  go_wp2_with fail
  refine HPO.out.mono ?_
  rintro e w1 ⟨rfl, hT1, hf1⟩
  have hB1 := hB.frm hf1 (fun h => (hp b h).2 rfl)
  have hS1 := hS.frm hf1 (fun k h => (hl k h).2.2)
  clear c0 c1 c2 f0 f1 f2
  obtain ⟨c0, c1, c2, f0, f1, f2, l1⟩ := blk3 hB1
  go_wp2_with fail
  refine (HLA.out _ (hB1.alloc _) (hS1.alloc _)).mono ?_
  rintro e w2 ⟨rfl, hf2⟩
  have hf : Frm Fp w w2 := (hf1.alloc (.cells #[.int .i64 x.n, .string x.s] 56)).then hf2 (fun i h _ => h.elim)
  have hX := (Blk.new w1 [.int .i64 x.n, .string x.s] 56).frm hf2 (fun h => h)
  have hB2 := (hB1.alloc (.cells #[.int .i64 x.n, .string x.s] 56)).frm hf2 (fun h => h)
  have hS2 := (hS1.alloc (.cells #[.int .i64 x.n, .string x.s] 56)).frm hf2 (fun _ _ h => h)
  have hT2 := (hT1.frm (S := fun _ => False) ((Frm.refl _ w1).alloc (.cells #[.int .i64 x.n, .string x.s] 56)) (fun _ _ h => h)).frm hf2 (fun _ _ h => h)
  have hY := Blk.new w2 [.int .i64 x.n, .string x.s] 56
  have hX3 := hX.alloc (.cells #[.int .i64 x.n, .string x.s] 56)
  have hB3 := hB2.alloc (.cells #[.int .i64 x.n, .string x.s] 56)
  have hS3 := hS2.alloc (.cells #[.int .i64 x.n, .string x.s] 56)
  have hT3 := hT2.frm (S := fun _ => False) ((Frm.refl _ w2).alloc (.cells #[.int .i64 x.n, .string x.s] 56)) (fun _ _ h => h)
  have heq : (x.n == x.n && (x.s.toList == x.s.toList)) = true := by simp
  have hf4 : Frm F w (w2.alloc (.cells #[.int .i64 x.n, .string x.s] 56)) := (hf.mono (fun i h _ => (hp i h).1.1)).alloc _
  clear c0 c1 c2 f0 f1 f2
  go_upto_region 8 with fail
  have hw24 : w2.heap.size < (w2.alloc (.cells #[.int .i64 x.n, .string x.s] 56)).heap.size := by simp
  generalize w2.alloc (.cells #[.int .i64 x.n, .string x.s] 56) = w4 at *
  generalize w2.heap.size = by_ at *
  generalize w1.heap.size = bx at *
  obtain ⟨x0, x1, _, _, x2⟩ := blk2 hX3
  obtain ⟨y0, y1, _, _, y2⟩ := blk2 hY
  obtain ⟨c0, c1, c2, f0, f1, f2, l4⟩ := blk3 hB3
  obtain ⟨bA, oA, rfl, hbA, _, _⟩ := HTK.out _ hS3
  have hcap := hS3.rd.cap
  have hcell := fun (j : Nat) (u : Value) => take_cell hS3.drew j u
  have HCE := Lib.hid hcell
  rw [hlen] at c1 hcap
  have hq := flatT_len xs
  have hones := flatT_one xs
  have HON := Lib.hid hones
  clear hcell hlen hones
  go_upto_region 11 with fail
  have hwr : IntKind.i64.wrap (xs.length : Int) = (xs.length : Int) := IntWalk.i64_in _ (by omega)
  have hle0 : (0 : Int) ≤ (xs.length : Int) := by omega
  have hle1 : (xs.length : Int) ≤ (c : Int) := by omega
  have htn : ((xs.length : Int)).toNat = xs.length := Int.toNat_natCast _
  go_region_law (refine step_append (F := fun _ => False) rfl _ _ _ rfl 56 _ 2 24 Try.underlying57 infoTh rfl (by omega) Sl.nil rfl ⟨bA, oA, none⟩ xs.length c (flatT xs) rfl hq HCE.out HON.out (by simp only [maxLen]; omega) (by omega) ?_; intro v' w5 hf5 hs5; rw [Nat.zero_add, List.nil_append] at hs5; obtain ⟨A5, c5, rfl⟩ := hs5.form; have hB5 := hB3.drew.frm hf5 (fun h => h); obtain ⟨c0, c1, c2, f0, f1, f2, l5⟩ := blk3 hB5)
  all_goals
    have hz4 := hf4.size
    have hz5 : w4.heap.size ≤ w5.heap.size := by have := hf5.size; simpa using this
    have hS6 : Sl (w5.setCell ⟨b, 1, none⟩ (.slice A5 xs.length c5)) (fun k => w4.heap.size ≤ k) 56 2 (.slice A5 xs.length c5) xs.length (flatT xs) := (hs5.mono (G := fun k => w4.heap.size ≤ k) (by rintro k (h | h) _; exact h.elim; simpa using h)).set b 1 _ (by omega)
    have hf6 : Frm F w (w5.setCell ⟨b, 1, none⟩ (.slice A5 xs.length c5)) := ((hf4.drew).then hf5 (fun _ h _ => h.elim)).set b 1 _ (fun _ => hF.1)
    have hT6 := ((hT3.frm (S := fun _ => False) ((Frm.refl _ w4).drew) (fun _ _ h => h)).frm hf5 (fun _ _ h => h)).frm (S := fun k => k = b) ((Frm.refl (fun k => k = b) w5).set b 1 (.slice A5 xs.length c5) (fun _ => rfl)) (fun k h e => (hp k h).2 e)
    have hW6 : PW (w5.setCell ⟨b, 1, none⟩ (.slice A5 xs.length c5)) (fun k => F k ∨ w.heap.size ≤ k) b g fv xs :=
      ⟨_, _, _, hB5.setSame 1 (.slice A5 xs.length c5), .inl hF.1, hT6, fun k h => ⟨.inl (hp k h).1.1, (hp k h).2⟩, hS6, fun k h => ⟨.inr (by omega), by omega, fun hx => by have := (hp k hx).1.2; omega⟩⟩
    clear c0 c1 c2 f0 f1 f2 x0 x1 y0 y1 hT6 hS6 hs5 hB5 hf5
    generalize w5.setCell ⟨b, 1, none⟩ (.slice A5 xs.length c5) = w6 at *
    obtain ⟨v5, Fp5, Fl5, hB5, hF5, hT5, hp5, hS5, hl5⟩ := hW6
    obtain ⟨A5, e5, rfl⟩ := hS5.form
    obtain ⟨d0, d1, d2, g0, g1, g2, l5⟩ := blk3 hB5
    have hlen := fun w h => lenT Fp5 g xs w h
    have HLE := Lib.hid hlen
    clear hlen
    have hyy : ((xs.length : Int) == (xs.length : Int)) = true := by simp
    go_upto_region 27 with fail
    go_quiet ((go_at_call 32; refine (HLE.out _ (hT5.frm (S := fun _ => False) ((Frm.refl _ _).drewN _) (fun _ _ h => h))).mono ?_; rintro e w7 ⟨rfl, rfl⟩; exact ⟨rfl, _, rfl⟩))
    go_wp2
    go_ret
    exact ⟨by first | rfl | simp, PW.frm (S := fun _ => False) ⟨_, _, _, hB5, hF5, hT5, hp5, hS5, hl5⟩ ((Frm.refl _ _).drewN _) (fun _ _ h => h), hf6.drewN _⟩
end Go.Proofs.Ythlefnajbfkdbaa
