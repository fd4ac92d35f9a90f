import Derived.Test.YthlefnajbfkdbaaTrail2
set_option linter.unusedVariables false
set_option linter.unusedSimpArgs false
namespace Go.Proofs.Ythlefnajbfkdbaa
open Go.RowKit

/-- Cells at block g: what they have, and the Sets that can be taken back. -/
def CE (w : World) (F : Nat → Prop) (g : Nat) (vs : List Int) (tr : List (Int × Int)) : Prop :=
  ∃ v u F1 F2, Blk w g [v, u] 80 ∧ F g ∧ Sl w F1 3 1 v vs.length (vs.map I64) ∧ Sl w F2 85 2 u tr.length (flatW tr) ∧ (∀ k, F1 k → F k ∧ k ≠ g ∧ ¬ F2 k) ∧ (∀ k, F2 k → F k ∧ k ≠ g)
theorem CE.low {w : World} {F : Nat → Prop} {g : Nat} {vs : List Int} {tr : List (Int × Int)} (h : CE w F g vs tr) : CE w (fun k => F k ∧ k < w.heap.size) g vs tr := by
  obtain ⟨v, u, F1, F2, hB, hF, h1, h2, h3, h4⟩ := h
  exact ⟨v, u, _, _, hB, ⟨hF, hB.lt⟩, h1.low, h2.low, fun k hk => ⟨⟨(h3 k hk.1).1, hk.2⟩, (h3 k hk.1).2.1, fun h => (h3 k hk.1).2.2 h.1⟩, fun k hk => ⟨⟨(h4 k hk.1).1, hk.2⟩, (h4 k hk.1).2⟩⟩
theorem CE.frm {S : Nat → Prop} {w w' : World} {F : Nat → Prop} {g : Nat} {vs : List Int} {tr : List (Int × Int)} (h : CE w F g vs tr) (f : Frm S w w') (hd : ∀ k, F k → ¬ S k) : CE w' F g vs tr := by
  obtain ⟨v, u, F1, F2, hB, hF, h1, h2, h3, h4⟩ := h
  exact ⟨v, u, F1, F2, hB.frm f (hd _ hF), hF, h1.frm f (fun k hk => hd k (h3 k hk).1), h2.frm f (fun k hk => hd k (h4 k hk).1), h3, h4⟩
theorem CE.mono {w : World} {F G : Nat → Prop} {g : Nat} {vs : List Int} {tr : List (Int × Int)} (h : CE w F g vs tr) (hG : ∀ k, F k → k < w.heap.size → G k) : CE w G g vs tr := by
  obtain ⟨v, u, F1, F2, hB, hF, h1, h2, h3, h4⟩ := h.low
  exact ⟨v, u, F1, F2, hB, hG _ hF.1 hF.2, h1, h2, fun k hk => ⟨hG k (h3 k hk).1.1 (h3 k hk).1.2, (h3 k hk).2⟩, fun k hk => ⟨hG k (h4 k hk).1.1 (h4 k hk).1.2, (h4 k hk).2⟩⟩

set_option maxHeartbeats 400000 in
theorem markC (F : Nat → Prop) (g : Nat) (vs : List Int) (tr : List (Int × Int)) (w : World) (h : CE w F g vs tr) :
    Calls Try.prog 26 #[.pointer (some ⟨g, 0, none⟩)] w fun e w' => e = .returned (.int .i64 tr.length) ∧ w = w' := by
  obtain ⟨v, u, F1, F2, hB, hF, h1, h2, h3, h4⟩ := h
  go_enter Try.func26, Try.ntmps26
  go_wp2_with (go_at_call 39; refine (lenW F2 g v u tr _ hB h2).mono ?_; rintro e w' ⟨rfl, rfl⟩)
  go_ret
  exact ⟨rfl, rfl⟩

/-- What a place has, and whether there is one. -/
def getC (vs : List Int) (k : Int) : Int × Bool := if k < 0 then (0, false) else match vs[k.toNat]? with | some x => (x, true) | none => (0, false)

set_option maxHeartbeats 400000 in
theorem getCalls (F : Nat → Prop) (g : Nat) (vs : List Int) (tr : List (Int × Int)) (k : Int) (w : World) (h : CE w F g vs tr) (hb : vs.length ≤ 1073741824) (r : Int × Bool) (hr : getC vs k = r) :
    Calls Try.prog 20 #[.pointer (some ⟨g, 0, none⟩), .int .i64 k] w fun e w' => e = .returned (.tuple #[.int .i64 r.1, .bool r.2]) ∧ w = w' := by
  obtain ⟨v, u, F1, F2, hB, hF, hS, h2, h3, h4⟩ := h
  obtain ⟨A, c, rfl⟩ := hS.form
  obtain ⟨c0, c1, f0, f1, l0⟩ := blk2 hB
  by_cases hk : k < 0
  · obtain rfl : r = (0, false) := by rw [← hr, getC, if_pos hk]
    clear hr
    go_enter Try.func20, Try.ntmps20
    go_wp2
    go_ret2
    exact ⟨rfl, rfl⟩
  · by_cases hk2 : k < vs.length
    · obtain ⟨m, rfl⟩ := Int.eq_ofNat_of_zero_le (Int.not_lt.1 hk)
      have hm : m < vs.length := by omega
      obtain rfl : r = (vs[m], true) := by rw [← hr, getC, if_neg hk, Int.toNat_natCast, List.getElem?_eq_getElem hm]
      obtain ⟨b, off, hA, _, hc⟩ := hS.rd.elem m hm
      have hc := hc 0 (I64 vs[m]) (by simp [hm])
      simp only [Nat.mul_one, Nat.add_zero] at hc
      cases hA
      generalize vs[m] = x at *
      clear hr
      unfold I64 at hc
      go_enter Try.func20, Try.ntmps20
      go_wp2
      go_ret2
      exact ⟨rfl, rfl⟩
    · have hn : vs[k.toNat]? = none := List.getElem?_eq_none (by omega)
      obtain rfl : r = (0, false) := by rw [← hr, getC, if_neg hk, hn]
      clear hr hn
      go_enter Try.func20, Try.ntmps20
      go_wp2
      go_ret2
      exact ⟨rfl, rfl⟩

/-- Store into an owned slice of one-cell elements. -/
theorem Sl.put {w : World} {F : Nat → Prop} {e : TypeId} {b n c k : Nat} {xs : List Value} (h : Sl w F e 1 (.slice (some ⟨b, 0, none⟩) n c) n xs) (hk : k < n) (x : Value) : Sl (w.setCell ⟨b, k, none⟩ x) F e 1 (.slice (some ⟨b, 0, none⟩) n c) n (xs.set k x) := by
  cases h with
  | @at_ g _ cap _ rest hF hb hx hr hn hm =>
    have hl : k < xs.length := by rw [hx]; omega
    refine .at_ (rest := rest) hF ?_ (by simpa using hx) (by simpa using hr) hn hm
    have := hb.setSame k x
    rwa [List.set_append_left _ _ hl] at this
theorem Sl.head {w : World} {F : Nat → Prop} {e : TypeId} {size : Nat} {A : Option Addr} {n c : Nat} {xs : List Value} (h : Sl w F e size (.slice A n c) n xs) (hn : 0 < n) : ∃ b, A = some ⟨b, 0, none⟩ ∧ F b ∧ b < w.heap.size ∧ ∃ cur, Blk w b cur e ∧ ∀ j, j < xs.length → cur[j]? = xs[j]? := by
  cases h with
  | nil => omega
  | at_ hF hb hx hr hn hm => exact ⟨_, rfl, hF, hb.lt, _, hb, fun j hj => List.getElem?_append_left hj⟩

/-- What a Set leaves. -/
def SetPost (F : Nat → Prop) (g : Nat) (w : World) (vs : List Int) (tr : List (Int × Int)) (r : Int) (e : Ending) (w' : World) : Prop :=
  e = .returned (.int .i64 r) ∧ CE w' (fun k => F k ∨ w.heap.size ≤ k) g vs tr ∧ Frm F w w'

set_option maxHeartbeats 1600000 in
theorem setC (F : Nat → Prop) (g : Nat) (vs : List Int) (tr : List (Int × Int)) (i x : Int) (w : World) (h : CE w F g vs tr) (hb : vs.length ≤ 1073741824) (ht : tr.length ≤ 1073741824) :
    Calls Try.prog 18 #[.pointer (some ⟨g, 0, none⟩), .int .i64 i, .int .i64 x] w
      (SetPost F g w (if i < 0 ∨ (vs.length : Int) ≤ i then vs else vs.set i.toNat x) (if i < 0 ∨ (vs.length : Int) ≤ i then tr else tr ++ [(i, (getC vs i).1)]) (if i < 0 ∨ (vs.length : Int) ≤ i then 1 else 0)) := by
  have h' := h
  have hbl : g < w.heap.size := by obtain ⟨v, u, F1, F2, hB, hF, hS, h2, h3, h4⟩ := h; exact hB.lt
  obtain ⟨v, u, F1, F2, hB, hF, hS, h2, h3, h4⟩ := h.low
  obtain ⟨A, c, rfl⟩ := hS.form
  obtain ⟨c0, c1, f0, f1, l0⟩ := blk2 hB
  by_cases hk : i < 0
  · simp only [if_pos (Or.inl hk : i < 0 ∨ (vs.length : Int) ≤ i)]
    go_enter Try.func18, Try.ntmps18
    go_wp2
    go_ret
    exact ⟨rfl, h'.mono (fun k h _ => .inl h), Frm.refl _ _⟩
  · by_cases hk2 : (vs.length : Int) ≤ i
    · simp only [if_pos (Or.inr hk2 : i < 0 ∨ (vs.length : Int) ≤ i)]
      go_enter Try.func18, Try.ntmps18
      go_wp2
      go_ret
      exact ⟨rfl, h'.mono (fun k h _ => .inl h), Frm.refl _ _⟩
    · have hno : ¬ (i < 0 ∨ (vs.length : Int) ≤ i) := by omega
      simp only [if_neg hno]
      clear hno
      obtain ⟨m, rfl⟩ := Int.eq_ofNat_of_zero_le (Int.not_lt.1 hk)
      have hm : m < vs.length := by omega
      have hg : getC vs m = (vs[m], true) := by rw [getC, if_neg hk, Int.toNat_natCast, List.getElem?_eq_getElem hm]
      rw [hg, Int.toNat_natCast]
      obtain ⟨b, rfl, hFb, hbl2, cur, hbc, hcur⟩ := hS.head (by omega)
      have hc : w.cell? ⟨b, m, none⟩ = some (.int .i64 vs[m]) := by rw [hbc.cell, hcur m (by simpa using hm)]; simp [hm, I64]
      have hSput := fun (w' : World) (hs : Sl w' F1 3 1 (.slice (some ⟨b, 0, none⟩) vs.length c) vs.length (vs.map I64)) => hs.put hm (I64 x)
      generalize vs[m] = y at *
      clear hg hcur
      have hF1b := h3 b hFb
      go_enter Try.func18, Try.ntmps18
      go_wp2_with fail
      go_region_law (refine step_call (f := 38) rfl rfl Try.func38 (by kernel_rfl) rfl _ (by simp only [List.map_toArray, List.map_cons, List.map_nil]; rfl) ?_; refine (pushW F2 g _ _ tr m y _ (hB.drew) (h2.drew) (fun h => (h4 g h).2 rfl) ht).mono ?_; rintro e w1 ⟨u1, rfl, hB1, hS1, hf1⟩; refine ⟨_, rfl, ?_⟩)
      all_goals
        have hz1 : w.heap.size ≤ w1.heap.size := hf1.size
        have hS0 := (hS.drew).frm hf1 (fun k hk h => h.elim (fun h => (h3 k hk).2.2 h) (fun h => (h3 k hk).2.1 h))
        have hbc1 := (hbc.drew).frm hf1 (fun h => h.elim (fun h => hF1b.2.2 h) (fun h => hF1b.2.1 h))
        have hS5 := hSput w1 hS0
        obtain ⟨d0, d1, e0, e1, l1⟩ := blk2 hB1
        have hgb : g ≠ b := fun e => hF1b.2.1 e.symm
        obtain ⟨yo, hyo⟩ : ∃ yo, w1.cell? ⟨b, m, none⟩ = some yo := by
          rw [hbc1.cell]
          rw [hbc.cell] at hc
          exact ⟨_, hc⟩
        have hfb := hbc1.frozen m
        go_wp2
        go_ret
        have hB5 := hB1.setOther b m (I64 x) hgb
        have hT5 := hS1.set b m (I64 x) (by rintro (h | h); exact hF1b.2.2 h; have : w.heap.size ≤ b := h; omega)
        refine ⟨rfl, ⟨_, u1, F1, fun k => F2 k ∨ w.heap.size ≤ k, hB5, .inl hF.1, ?_, hT5, ?_, ?_⟩, ?_⟩
        · rw [List.length_set, List.map_set]; exact hS5
        · intro k hk
          refine ⟨.inl (h3 k hk).1.1, (h3 k hk).2.1, ?_⟩
          rintro (h | h)
          · exact (h3 k hk).2.2 h
          · have := (h3 k hk).1.2; omega
        · rintro k (h | h)
          · exact ⟨.inl (h4 k h).1.1, (h4 k h).2⟩
          · exact ⟨.inr h, by omega⟩
        · exact (((Frm.refl F w).drew).then hf1 (fun i h hi => h.elim (fun h => (h4 i h).1.1) (fun h => by rw [h]; exact hF.1))).set b m _ (fun _ => hF1b.1.1)
end Go.Proofs.Ythlefnajbfkdbaa
