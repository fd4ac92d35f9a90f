import Derived.Test.YthlefnajbfkdbaaWDoes
set_option linter.unusedVariables false
set_option linter.unusedSimpArgs false
namespace Go.Proofs.Ythlefnajbfkdbaa
open Go.RowKit
attribute [local go_sem high] run_eqTh

set_option maxHeartbeats 1600000 in
set_option maxRecDepth 100000 in
theorem doesTop (F : Nat → Prop) (b g : Nat) (fv : Value) (xs : List Th) (n : Int) (s : ByteArray) (w : World) (h : PW w F b g fv xs) (hb : xs.length + 1 ≤ 1073741824) :
    Calls Try.prog 30 #[.pointer (some ⟨b, 0, none⟩), .int .i64 3, .int .i64 n, .string s] w (DoesPost F b g fv w xs) := by
  obtain ⟨v, Fp, Fl, hB, hF, hT, hp, hS, hl⟩ := h.low
  obtain ⟨A, c, rfl⟩ := hS.form
  obtain ⟨⟨⟨rn, rs⟩, rb⟩, hr⟩ : ∃ r, getT xs (xs.length - 1) = r := ⟨_, rfl⟩
  obtain ⟨c0, c1, c2, f0, f1, f2, l0⟩ := blk3 hB
  have HTO := Lib.hid (topT Fp g xs w hT (by omega) _ hr)
  have HLA := Lib.hid (fun w hB hS => lastW (.pointer (some ⟨g, 0, none⟩)) (.slice A xs.length c) fv Fl b xs w hB hS (by omega) _ hr)
  clear hr
  go_enter Try.func30, Try.ntmps30
  go_wp2_with fail
  refine HTO.out.mono ?_
  rintro e w1 ⟨rfl, hf1⟩
  have hB1 := hB.frm hf1 (fun h => h)
  have hS1 := hS.frm hf1 (fun _ _ h => h)
  have hT1 := hT.frm hf1 (fun _ _ h => h)
  clear c0 c1 c2 f0 f1 f2
  obtain ⟨c0, c1, c2, f0, f1, f2, l1⟩ := blk3 hB1
  go_wp2_with fail
  refine (HLA.out _ (hB1.alloc _) (hS1.alloc _)).mono ?_
  rintro e w2 ⟨rfl, hf2⟩
  have hf : Frm (fun _ => False) w w2 := (hf1.alloc (.cells #[.int .i64 rn, .string rs] 56)).then hf2 (fun i h _ => h.elim)
  have hX := (Blk.new w1 [.int .i64 rn, .string rs] 56).frm hf2 (fun h => h)
  have hY := Blk.new w2 [.int .i64 rn, .string rs] 56
  have hX3 := hX.alloc (.cells #[.int .i64 rn, .string rs] 56)
  have hf3 : Frm (fun _ => False) w (w2.alloc (.cells #[.int .i64 rn, .string rs] 56)) := hf.alloc _
  have heq : (rn == rn && (rs.toList == rs.toList)) = true := by simp
  have hbb : (rb == rb) = true := by simp
  clear c0 c1 c2 f0 f1 f2
  go_upto_region 15 with fail
  generalize w2.alloc (.cells #[.int .i64 rn, .string rs] 56) = w4 at *
  generalize w2.heap.size = by_ at *
  generalize w1.heap.size = bx at *
  obtain ⟨x0, x1, _, _, x2⟩ := blk2 hX3
  obtain ⟨y0, y1, _, _, y2⟩ := blk2 hY
  go_wp2
  go_ret
  exact ⟨by first | rfl | simp, (h.mono (fun k h _ => .inl h)).frm hf3 (fun _ _ h => h), hf3.mono (fun _ h _ => h.elim)⟩

set_option maxHeartbeats 1600000 in
set_option maxRecDepth 100000 in
theorem doesAt0 (F : Nat → Prop) (b g : Nat) (fv : Value) (xs : List Th) (n : Int) (s : ByteArray) (w : World) (h : PW w F b g fv xs) (hb : xs.length + 1 ≤ 1073741824) (hn : n < 0 ∨ (xs.length : Int) ≤ n) :
    Calls Try.prog 30 #[.pointer (some ⟨b, 0, none⟩), .int .i64 4, .int .i64 n, .string s] w (DoesPost F b g fv w xs) := by
  obtain ⟨v, Fp, Fl, hB, hF, hT, hp, hS, hl⟩ := h.low
  obtain ⟨A, c, rfl⟩ := hS.form
  have hr : getT xs n = (th0, false) := by
    rcases hn with hn | hn
    · rw [getT, if_pos hn]
    · rw [getT, if_neg (by omega), List.getElem?_eq_none (by omega)]
  obtain ⟨c0, c1, c2, f0, f1, f2, l0⟩ := blk3 hB
  have HAT := Lib.hid (atT Fp g xs n w hT (by omega) _ hr)
  have HN := Lib.hid hn
  clear hr hn
  go_enter Try.func30, Try.ntmps30
  go_wp2_with fail
  refine HAT.out.mono ?_
  rintro e w1 ⟨rfl, hf1⟩
  have hB1 := (hB.frm hf1 (fun h => h)).alloc (.cells #[.int .i64 th0.n, .string th0.s] 56)
  have hX := Blk.new w1 [.int .i64 th0.n, .string th0.s] 56
  have hf3 : Frm (fun _ => False) w (w1.alloc (.cells #[.int .i64 th0.n, .string th0.s] 56)) := hf1.alloc _
  clear c0 c1 c2 f0 f1 f2
  go_upto_region 18 with fail
  generalize w1.alloc (.cells #[.int .i64 th0.n, .string th0.s] 56) = w4 at *
  generalize w1.heap.size = bx at *
  obtain ⟨x0, x1, _, _, x2⟩ := blk2 hX
  obtain ⟨c0, c1, c2, f0, f1, f2, l1⟩ := blk3 hB1
  have e1 : th0.n = 0 := rfl
  have e2 : th0.s.toList = [] := by simp [th0]
  rcases HN.out with hn | hn
  all_goals
    go_wp2
    go_ret
    exact ⟨by first | rfl | simp, (h.mono (fun k h _ => .inl h)).frm hf3 (fun _ _ h => h), hf3.mono (fun _ h _ => h.elim)⟩

set_option maxHeartbeats 1600000 in
set_option maxRecDepth 100000 in
theorem doesAt1 (F : Nat → Prop) (b g : Nat) (fv : Value) (xs : List Th) (k : Nat) (s : ByteArray) (w : World) (h : PW w F b g fv xs) (hb : xs.length + 1 ≤ 1073741824) (hn : k < xs.length) :
    Calls Try.prog 30 #[.pointer (some ⟨b, 0, none⟩), .int .i64 4, .int .i64 k, .string s] w (DoesPost F b g fv w xs) := by
  obtain ⟨v, Fp, Fl, hB, hF, hT, hp, hS, hl⟩ := h.low
  obtain ⟨A, c, rfl⟩ := hS.form
  obtain ⟨⟨rn, rs⟩, hx⟩ : ∃ r, xs[k]? = some r := ⟨_, List.getElem?_eq_getElem hn⟩
  have hr : getT xs k = (⟨rn, rs⟩, true) := by rw [getT, if_neg (by omega), Int.toNat_natCast, hx]
  obtain ⟨c0, c1, c2, f0, f1, f2, l0⟩ := blk3 hB
  have HAT := Lib.hid (atT Fp g xs k w hT (by omega) _ hr)
  have HX := Lib.hid hx
  clear hr hx
  go_enter Try.func30, Try.ntmps30
  go_wp2_with fail
  refine HAT.out.mono ?_
  rintro e w1 ⟨rfl, hf1⟩
  have hB1 := (hB.frm hf1 (fun h => h)).alloc (.cells #[.int .i64 rn, .string rs] 56)
  have hS1 := (hS.frm hf1 (fun _ _ h => h)).alloc (.cells #[.int .i64 rn, .string rs] 56)
  have hX := Blk.new w1 [.int .i64 rn, .string rs] 56
  have hf3 : Frm (fun _ => False) w (w1.alloc (.cells #[.int .i64 rn, .string rs] 56)) := hf1.alloc _
  clear c0 c1 c2 f0 f1 f2
  go_upto_region 18 with fail
  generalize w1.alloc (.cells #[.int .i64 rn, .string rs] 56) = w4 at *
  generalize w1.heap.size = bx at *
  obtain ⟨x0, x1, _, _, x2⟩ := blk2 hX
  obtain ⟨c0, c1, c2, f0, f1, f2, l1⟩ := blk3 hB1
  obtain ⟨b', off', rfl, hbl, d0, d1⟩ := hS1.rd.th k _ HX.out
  simp only at d0 d1
  have heq : (rn == rn && (rs.toList == rs.toList)) = true := by simp
  go_upto_region 20 with fail
  go_quiet (fail)
  go_wp2
  go_ret
  exact ⟨by first | rfl | simp, ((h.mono (fun k h _ => .inl h)).frm hf3 (fun _ _ h => h)).frm (S := fun _ => False) ((Frm.refl _ _).drewN _) (fun _ _ h => h), (hf3.mono (fun _ h _ => h.elim)).drewN _⟩

set_option maxHeartbeats 1600000 in
set_option maxRecDepth 100000 in
theorem doesCut0 (F : Nat → Prop) (b g : Nat) (fv : Value) (xs : List Th) (n : Int) (s : ByteArray) (w : World) (h : PW w F b g fv xs) (hb : xs.length + 1 ≤ 1073741824) (hn : n < 0 ∨ (xs.length : Int) < n) :
    Calls Try.prog 30 #[.pointer (some ⟨b, 0, none⟩), .int .i64 5, .int .i64 n, .string s] w (DoesPost F b g fv w xs) := by
  obtain ⟨v, Fp, Fl, hB, hF, hT, hp, hS, hl⟩ := h.low
  obtain ⟨A, c, rfl⟩ := hS.form
  obtain ⟨c0, c1, c2, f0, f1, f2, l0⟩ := blk3 hB
  have hcut := cutT Fp g xs n w hT (by omega)
  rw [if_pos hn, if_pos hn] at hcut
  have HCU := Lib.hid hcut
  have HN := Lib.hid hn
  clear hcut hn
  go_enter Try.func30, Try.ntmps30
  go_wp2_with fail
  refine HCU.out.mono ?_
  rintro e w1 ⟨rfl, hT1, hf1⟩
  have hB1 := hB.frm hf1 (fun h => (hp b h).2 rfl)
  have hS1 := hS.frm hf1 (fun k h => (hl k h).2.2)
  clear c0 c1 c2 f0 f1 f2
  obtain ⟨c0, c1, c2, f0, f1, f2, l1⟩ := blk3 hB1
  have HLE := Lib.hid (fun w h => lenT Fp g xs w h)
  have hyy : ((xs.length : Int) == (xs.length : Int)) = true := by simp
  rcases HN.out with hn | hn
  all_goals
    go_upto_region 24 with fail
    go_quiet ((go_at_call 32; refine (HLE.out _ (hT1.frm (S := fun _ => False) ((Frm.refl _ _).drewN _) (fun _ _ h => h))).mono ?_; rintro e w7 ⟨rfl, rfl⟩; exact ⟨rfl, _, rfl⟩))
    go_wp2
    go_ret
    exact ⟨by first | rfl | simp, PW.frm (S := fun _ => False) ⟨_, _, _, hB1, .inl hF.1, hT1, fun k h => ⟨.inl (hp k h).1.1, (hp k h).2⟩, hS1, fun k h => ⟨.inl (hl k h).1.1, (hl k h).2⟩⟩ ((Frm.refl _ _).drewN _) (fun _ _ h => h), (hf1.mono (fun i h _ => (hp i h).1.1)).drewN _⟩

theorem take_rd {w : World} {F : Nat → Prop} {xs : List Th} {A : Option Addr} {n c m : Nat} (h : Sl w F 56 2 (.slice A n c) n (flatT xs)) (hm : m ≤ n) : Rd w F 2 A m c (flatT (xs.take m)) := by
  rw [← flatT_take]
  exact h.rd.upto hm

set_option maxHeartbeats 1600000 in
set_option maxRecDepth 100000 in
theorem doesCut1 (F : Nat → Prop) (b g : Nat) (fv : Value) (xs : List Th) (m : Nat) (s : ByteArray) (w : World) (h : PW w F b g fv xs) (hb : xs.length + 1 ≤ 1073741824) (hm : m ≤ xs.length) :
    Calls Try.prog 30 #[.pointer (some ⟨b, 0, none⟩), .int .i64 5, .int .i64 m, .string s] w (DoesPost F b g fv w (xs.take m)) := by
  obtain ⟨v, Fp, Fl, hB, hF, hT, hp, hS, hl⟩ := h.low
  obtain ⟨A, c, rfl⟩ := hS.form
  obtain ⟨c0, c1, c2, f0, f1, f2, l0⟩ := blk3 hB
  have hn : ¬ ((m : Int) < 0 ∨ (xs.length : Int) < (m : Int)) := by omega
  have hcut := cutT Fp g xs m w hT (by omega)
  rw [if_neg hn, if_neg hn, Int.toNat_natCast] at hcut
  have HCU := Lib.hid hcut
  have hcap := hS.rd.cap
  have htl : (xs.take m).length = m := by rw [List.length_take]; omega
  have HTL := Lib.hid htl
  have HON := Lib.hid (flatT_one (xs.take m))
  have HTK := Lib.hid (fun w (h : Sl w Fl 56 2 (.slice A xs.length c) xs.length (flatT xs)) => take_rd h hm)
  clear hcut hn htl
  go_enter Try.func30, Try.ntmps30
  go_wp2_with fail
  refine HCU.out.mono ?_
  rintro e w1 ⟨rfl, hT1, hf1⟩
  have hB1 := hB.frm hf1 (fun h => (hp b h).2 rfl)
  have hS1 := hS.frm hf1 (fun k h => (hl k h).2.2)
  clear c0 c1 c2 f0 f1 f2
  obtain ⟨c0, c1, c2, f0, f1, f2, l1⟩ := blk3 hB1
  have hrd := HTK.out _ hS1
  have hle1 : (m : Int) ≤ (c : Int) := by omega
  have hle0 : (0 : Int) ≤ (m : Int) := by omega
  have htn : ((m : Int)).toNat = m := Int.toNat_natCast _
  go_wp2_with (with_reducible refine stop_at 187 rfl ?_)
  unfold Stop
  refine op_appendRd (F := fun _ => False) rfl _ _ _ rfl 56 _ 2 24 Try.underlying57 infoTh rfl (by omega) Sl.nil rfl hrd rfl HON.out (by simp only [maxLen]; omega) (by omega) ?_
  intro v' w3 hf3 hs3
  rw [Nat.zero_add, List.nil_append] at hs3
  obtain ⟨A3, c3, rfl⟩ := hs3.form
  have hB3 := hB1.frm hf3 (fun h => h)
  have hz1 := hf1.size
  have hz3 := hf3.size
  clear c0 c1 c2 f0 f1 f2
  obtain ⟨c0, c1, c2, f0, f1, f2, l3⟩ := blk3 hB3
  have hS4 := (hs3.mono (G := fun k => w1.heap.size ≤ k) (by rintro k (h | h) _; exact h.elim; exact h)).set b 1 (.slice A3 m c3) (by omega)
  have hB4 := hB3.setSame 1 (.slice A3 m c3)
  have hf4 : Frm F w (w3.setCell ⟨b, 1, none⟩ (.slice A3 m c3)) := ((hf1.mono (fun i h _ => (hp i h).1.1)).then hf3 (fun _ h _ => h.elim)).set b 1 _ (fun _ => hF.1)
  have hT4 := (hT1.frm hf3 (fun _ _ h => h)).frm (S := fun k => k = b) ((Frm.refl (fun k => k = b) w3).set b 1 (.slice A3 m c3) (fun _ => rfl)) (fun k h e => (hp k h).2 e)
  have hW4 : PW (w3.setCell ⟨b, 1, none⟩ (.slice A3 m c3)) (fun k => F k ∨ w.heap.size ≤ k) b g fv (xs.take m) :=
    ⟨_, _, _, hB4, .inl hF.1, hT4, fun k h => ⟨.inl (hp k h).1.1, (hp k h).2⟩, by rw [HTL.out]; exact hS4, fun k h => ⟨.inr (by omega), by omega, fun hx => by have := (hp k hx).1.2; omega⟩⟩
  have hlen := fun w h => lenT Fp g (xs.take m) w h
  rw [HTL.out] at hlen
  have HLE := Lib.hid hlen
  have hmm : ((m : Int) == (m : Int)) = true := by simp
  clear hlen
  go_upto_region 26 with fail
  clear hS4 hB4 c0 c1 c2 f0 f1 f2
  generalize w3.setCell ⟨b, 1, none⟩ (.slice A3 m c3) = w4 at *
  obtain ⟨v5, Fp5, Fl5, hB5, _⟩ := id hW4
  obtain ⟨c0, _, _, f0, _, _, l4⟩ := blk3 hB5
  go_wp2_with (go_at_call 32; refine (HLE.out _ hT4).mono ?_; rintro e w7 ⟨rfl, rfl⟩)
  go_ret
  exact ⟨by first | rfl | simp, hW4, hf4⟩

/-- Whatever the call: it answers true; what lies in the world is a pile still. -/
theorem does (F : Nat → Prop) (b g : Nat) (fv : Value) (xs : List Th) (k n : Int) (s : ByteArray) (w : World) (h : PW w F b g fv xs) (hb : xs.length + 1 ≤ 1073741824) :
    Calls Try.prog 30 #[.pointer (some ⟨b, 0, none⟩), .int .i64 k, .int .i64 n, .string s] w fun e w' => ∃ ys, ys.length ≤ xs.length + 1 ∧ DoesPost F b g fv w ys e w' := by
  by_cases h1 : k = 1
  · subst h1
    exact (doesPush F b g fv xs n s w h hb).mono fun e w' hp => ⟨_, by simp, hp⟩
  by_cases h2 : k = 2
  · subst h2
    rcases List.eq_nil_or_concat xs with rfl | ⟨ys, x, rfl⟩
    · exact (doesPop0 F b g fv n s w h).mono fun e w' hp => ⟨_, by simp, hp⟩
    · rw [List.concat_eq_append] at h hb
      exact (doesPop1 F b g fv ys x n s w h (by rw [List.length_append] at hb; omega)).mono fun e w' hp => ⟨_, by rw [List.concat_eq_append, List.length_append]; omega, hp⟩
  by_cases h3 : k = 3
  · subst h3
    exact (doesTop F b g fv xs n s w h hb).mono fun e w' hp => ⟨_, by omega, hp⟩
  by_cases h4 : k = 4
  · subst h4
    by_cases hn : n < 0 ∨ (xs.length : Int) ≤ n
    · exact (doesAt0 F b g fv xs n s w h hb hn).mono fun e w' hp => ⟨_, by omega, hp⟩
    · obtain ⟨m, rfl⟩ := Int.eq_ofNat_of_zero_le (show 0 ≤ n by omega)
      exact (doesAt1 F b g fv xs m s w h hb (by omega)).mono fun e w' hp => ⟨_, by omega, hp⟩
  by_cases h5 : k = 5
  · subst h5
    by_cases hn : n < 0 ∨ (xs.length : Int) < n
    · exact (doesCut0 F b g fv xs n s w h hb hn).mono fun e w' hp => ⟨_, by omega, hp⟩
    · obtain ⟨m, rfl⟩ := Int.eq_ofNat_of_zero_le (show 0 ≤ n by omega)
      exact (doesCut1 F b g fv xs m s w h hb (by omega)).mono fun e w' hp => ⟨_, by rw [List.length_take]; omega, hp⟩
  exact (doesOther F b g fv xs k n s w h hb (by simpa using h1) (by simpa using h2) (by simpa using h3) (by simpa using h4) (by simpa using h5)).mono fun e w' hp => ⟨_, by omega, hp⟩
end Go.Proofs.Ythlefnajbfkdbaa
