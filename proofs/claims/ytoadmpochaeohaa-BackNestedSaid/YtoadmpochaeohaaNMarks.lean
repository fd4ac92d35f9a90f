/-
  Layer 2's sets (marks) as layer 16 uses them.
-/
import Derived.Test.YtoadmpochaeohaaNKit
set_option linter.unusedVariables false
set_option linter.unusedSimpArgs false
set_option maxRecDepth 100000
namespace Go.Proofs.Ytoadmpochaeohaa
open Go.RowKit

def I32 (z : Int) : Value := .int .i32 z
def N32 (n : Nat) : Value := .int .i32 n
theorem infoI32 : (Try.prog.info? 21).map (fun i => (i.zero, i.size, i.bytes)) = some (some (.int .i32 0), 1, 4) := by kernel_rfl
theorem i32_one (l : List Int) : ∀ v ∈ l.map I32, v.oneCell' = true := by
  intro v hv; obtain ⟨x, _, rfl⟩ := List.mem_map.1 hv; rfl
theorem n32_one (l : List Nat) : ∀ v ∈ l.map N32, v.oneCell' = true := by
  intro v hv; obtain ⟨x, _, rfl⟩ := List.mem_map.1 hv; rfl

/-- A set at block b with room for the numbers below 'room': the numbers l, in the order of their coming. -/
def MK (w : World) (F : Nat → Prop) (b room : Nat) (l : List Nat) : Prop :=
  ∃ vw vl Fw Fl wh, Blk w b [vw, vl] 174 ∧ F b ∧ Sl w Fw 21 1 vw room ((wh : List Int).map I32) ∧ Sl w Fl 21 1 vl l.length (l.map N32) ∧ (∀ k, Fw k → F k ∧ k ≠ b ∧ ¬ Fl k) ∧ (∀ k, Fl k → F k ∧ k ≠ b) ∧
    wh.length = room ∧ room ≤ 100000 ∧ (∀ x ∈ wh, 0 ≤ x ∧ x ≤ 2147483647) ∧ ∀ (j n : Nat), l[j]? = some n → n < room ∧ wh[n]? = some (j : Int)
theorem MK.low {w : World} {F : Nat → Prop} {b room : Nat} {l : List Nat} (h : MK w F b room l) : MK w (fun k => F k ∧ k < w.heap.size) b room l := by
  obtain ⟨vw, vl, Fw, Fl, wh, hB, hF, hW, hL, h1, h2, h3⟩ := h
  exact ⟨vw, vl, _, _, wh, hB, ⟨hF, hB.lt⟩, hW.low, hL.low, fun k hk => ⟨⟨(h1 k hk.1).1, hk.2⟩, (h1 k hk.1).2.1, fun h => (h1 k hk.1).2.2 h.1⟩, fun k hk => ⟨⟨(h2 k hk.1).1, hk.2⟩, (h2 k hk.1).2⟩, h3⟩
theorem MK.frm {S : Nat → Prop} {w w' : World} {F : Nat → Prop} {b room : Nat} {l : List Nat} (h : MK w F b room l) (f : Frm S w w') (hd : ∀ k, F k → ¬ S k) : MK w' F b room l := by
  obtain ⟨vw, vl, Fw, Fl, wh, hB, hF, hW, hL, h1, h2, h3⟩ := h
  exact ⟨vw, vl, Fw, Fl, wh, hB.frm f (hd _ hF), hF, hW.frm f (fun k hk => hd k (h1 k hk).1), hL.frm f (fun k hk => hd k (h2 k hk).1), h1, h2, h3⟩
theorem MK.mono {w : World} {F G : Nat → Prop} {b room : Nat} {l : List Nat} (h : MK w F b room l) (hG : ∀ k, F k → k < w.heap.size → G k) : MK w G b room l := by
  obtain ⟨vw, vl, Fw, Fl, wh, hB, hF, hW, hL, h1, h2, h3⟩ := h.low
  exact ⟨vw, vl, Fw, Fl, wh, hB, hG _ hF.1 hF.2, hW, hL, fun k hk => ⟨hG k (h1 k hk).1.1 (h1 k hk).1.2, (h1 k hk).2⟩, fun k hk => ⟨hG k (h2 k hk).1.1 (h2 k hk).1.2, (h2 k hk).2⟩, h3⟩
theorem MK.kept {w w' : World} {row : Option Nat} {F : Nat → Prop} {b room : Nat} {l : List Nat} (h : MK w F b room l) (hg : w.grownBy w' row) (hr : ∀ r, row = some r → ∃ o : Obj, w.heap[r]? = some o ∧ o.isCells = false) : MK w' F b room l := by
  obtain ⟨vw, vl, Fw, Fl, wh, hB, hF, hW, hL, h3⟩ := h
  exact ⟨vw, vl, Fw, Fl, wh, hB.kept hg hr, hF, hW.kept hg hr, hL.kept hg hr, h3⟩
theorem MK.lt {w : World} {F : Nat → Prop} {b room : Nat} {l : List Nat} (h : MK w F b room l) : b < w.heap.size := by
  obtain ⟨vw, vl, Fw, Fl, wh, hB, _⟩ := h
  exact hB.lt
theorem MK.room {w : World} {F : Nat → Prop} {b room : Nat} {l : List Nat} (h : MK w F b room l) : room ≤ 100000 := by
  obtain ⟨vw, vl, Fw, Fl, wh, hB, hF, hW, hL, h1, h2, h3, h4, h5, h6⟩ := h
  exact h4
theorem pigeon : ∀ (n : Nat) (l : List Nat), l.Nodup → (∀ x ∈ l, x < n) → l.length ≤ n
  | 0, l, _, h => by
    cases l with
    | nil => simp
    | cons x l => exact absurd (h x List.mem_cons_self) (by omega)
  | n + 1, l, hd, h => by
    by_cases hm : n ∈ l
    · have := pigeon n (l.erase n) (hd.erase n) (fun x hx => by have h1 := (List.Nodup.mem_erase_iff hd).1 hx; have := h x h1.2; omega)
      rw [List.length_erase_of_mem hm] at this; omega
    · have := pigeon n l hd (fun x hx => by have := h x hx; have : x ≠ n := fun e => hm (e ▸ hx); omega)
      omega
theorem MK.nodup {w : World} {F : Nat → Prop} {b room : Nat} {l : List Nat} (h : MK w F b room l) : l.Nodup ∧ (∀ n ∈ l, n < room) ∧ l.length ≤ room := by
  obtain ⟨vw, vl, Fw, Fl, wh, hB, hF, hW, hL, h1, h2, h3, h4, h5, h6⟩ := h
  have hn : l.Nodup := by
    refine List.pairwise_iff_getElem.2 fun i j hi hj hij e => ?_
    have e1 := (h6 i l[i] (List.getElem?_eq_getElem hi)).2
    have e2 := (h6 j l[i] (by rw [e]; exact List.getElem?_eq_getElem hj)).2
    rw [e1] at e2
    cases e2
    omega
  have hm : ∀ n ∈ l, n < room := fun n hx => by
    obtain ⟨j, hj⟩ := List.getElem?_of_mem hx
    exact (h6 j n hj).1
  exact ⟨hn, hm, pigeon _ _ hn hm⟩

theorem newM (room : Nat) (w : World) (hr : room ≤ 100000) : Calls Try.prog 58 #[.int .i64 room] w fun e w' => ∃ b, e = .returned (.tuple #[.pointer (some ⟨b, 0, none⟩), .int .i64 0]) ∧ MK w' (fun k => w.heap.size ≤ k) b room [] ∧ Frm (fun _ => False) w w' := by
  go_enter Try.func58, Try.ntmps58
  go_wp2_with (with_reducible refine stop_at 11 rfl ?_)
  unfold Stop
  refine op_make rfl _ _ _ rfl 21 (.int .i32 0) 4 Try.underlying172 infoI32 rfl room rfl rfl room rfl (by omega) (by omega) ?_
  intro b w1 hn hB
  go_wp2
  go_ret2
  have hne := hn.lt
  have hge := hn.le
  refine ⟨_, rfl, ⟨_, _, fun k => k = b, fun _ => False, List.replicate room 0, Blk.new w1 _ 174, by have := hn.size; omega, ?_, Sl.nil, fun k h => ⟨by omega, by omega, fun h => h⟩, fun _ h => h.elim, by simp, hr, fun x hx => by rw [(List.mem_replicate.1 hx).2]; omega, fun j n h => by simp at h⟩, hn.frm.alloc _⟩
  have := hB.alloc (.cells #[.slice (some ⟨b, 0, none⟩) room room, .slice none 0 0] 174)
  rw [List.map_replicate]
  exact .at_ (rest := []) rfl (by simpa [I32] using this) (by simp) (by simp) (Nat.le_refl _) (by simp only [maxLen]; omega)

theorem lenM (F : Nat → Prop) (b room : Nat) (l : List Nat) (w : World) (h : MK w F b room l) : Calls Try.prog 63 #[.pointer (some ⟨b, 0, none⟩)] w fun e w' => e = .returned (.int .i64 l.length) ∧ w = w' := by
  obtain ⟨vw, vl, Fw, Fl, wh, hB, hF, hW, hL, h3⟩ := h
  obtain ⟨A, c, rfl⟩ := hL.form
  obtain ⟨c0, c1, f0, f1, l0⟩ := blk2 hB
  go_enter Try.func63, Try.ntmps63
  go_wp2
  go_ret
  exact ⟨rfl, rfl⟩

theorem clearM (F : Nat → Prop) (b room : Nat) (l : List Nat) (w : World) (h : MK w F b room l) : Calls Try.prog 81 #[.pointer (some ⟨b, 0, none⟩)] w fun e w' => e = .returned (.tuple #[]) ∧ MK w' F b room [] ∧ Frm (fun k => k = b) w w' := by
  obtain ⟨vw, vl, Fw, Fl, wh, hB, hF, hW, hL, h1, h2, h3, h4, h5, h6⟩ := h
  obtain ⟨A, c, rfl⟩ := hL.form
  obtain ⟨c0, c1, f0, f1, l0⟩ := blk2 hB
  have hcap := hL.rd.cap
  have hz : (0 : Int) ≤ (c : Int) := by omega
  go_enter Try.func81, Try.ntmps81
  go_wp2
  go_end0
  have hf := (Frm.refl (fun k => k = b) w).set b 1 (.slice A 0 c) (fun _ => rfl)
  exact ⟨rfl, ⟨_, _, Fw, Fl, wh, hB.setSame 1 _, hF, hW.frm hf (fun k hk => (h1 k hk).2.1), by simpa using (hL.cut0).frm hf (fun k hk => (h2 k hk).2), h1, h2, h3, h4, h5, fun j n h => by simp at h⟩, hf⟩

theorem has_iff {wh : List Int} {l : List Nat} {room n : Nat} {x : Int} (h6 : ∀ (j n : Nat), l[j]? = some n → n < room ∧ wh[n]? = some (j : Int)) (hx : wh[n]? = some x) (k : Nat) (hk : x = (k : Int)) (y : Nat) (hy : l[k]? = some y) : (y = n ↔ n ∈ l) := by
  constructor
  · rintro rfl; exact List.mem_of_getElem? hy
  · intro hm
    obtain ⟨j, hj⟩ := List.getElem?_of_mem hm
    have h7 := (h6 j n hj).2
    rw [hx] at h7
    cases h7
    have : j = k := by omega
    subst this
    rw [hy] at hj
    exact Option.some.inj hj
theorem has_not {wh : List Int} {l : List Nat} {room n : Nat} {x : Int} (h6 : ∀ (j n : Nat), l[j]? = some n → n < room ∧ wh[n]? = some (j : Int)) (hx : wh[n]? = some x) (k : Nat) (hk : x = (k : Int)) (hy : l.length ≤ k) : n ∉ l := by
  intro hm
  obtain ⟨j, hj⟩ := List.getElem?_of_mem hm
  have h7 := (h6 j n hj).2
  rw [hx] at h7
  cases h7
  have := (List.getElem?_eq_some_iff.1 hj).1
  omega

set_option maxHeartbeats 800000 in
theorem hasM (F : Nat → Prop) (b room n : Nat) (l : List Nat) (w : World) (h : MK w F b room l) (hn : n < room) (r : Bool) (hr : decide (n ∈ l) = r) : Calls Try.prog 90 #[.pointer (some ⟨b, 0, none⟩), .int .i64 n] w fun e w' => e = .returned (.bool r) ∧ w = w' := by
  obtain ⟨vw, vl, Fw, Fl, wh, hB, hF, hW, hL, h1, h2, h3, h4, h5, h6⟩ := h
  obtain ⟨A, c, rfl⟩ := hL.form
  obtain ⟨Aw, cw, rfl⟩ := hW.form
  obtain ⟨c0, c1, f0, f1, l0⟩ := blk2 hB
  obtain ⟨x, hx⟩ : ∃ x, wh[n]? = some x := ⟨_, List.getElem?_eq_getElem (by omega)⟩
  have hx0 := h5 x (List.mem_of_getElem? hx)
  obtain ⟨k, rfl⟩ := Int.eq_ofNat_of_zero_le hx0.1
  obtain ⟨bw, ow, rfl, hbw, d0⟩ : ∃ bw ow, Aw = some ⟨bw, ow, none⟩ ∧ bw < w.heap.size ∧ w.cell? ⟨bw, ow + n, none⟩ = some (.int .i32 (k : Int)) := by
    obtain ⟨bw, ow, e, hb, hc⟩ := hW.rd.elem n hn
    exact ⟨bw, ow, e, hb, by simpa [I32, hx] using hc 0 (I32 k) (by simp [hx])⟩
  have hwr : IntKind.i64.wrap (k : Int) = (k : Int) := IntWalk.i64_in _ (by omega)
  have HR := Lib.hid hr
  by_cases hk : k < l.length
  · obtain ⟨y, hy⟩ : ∃ y, l[k]? = some y := ⟨_, List.getElem?_eq_getElem hk⟩
    have hyb := (h6 k y hy).1
    have hiff := has_iff h6 hx k rfl y hy
    obtain ⟨bl, ol, rfl, hbl, d1⟩ : ∃ bl ol, A = some ⟨bl, ol, none⟩ ∧ bl < w.heap.size ∧ w.cell? ⟨bl, ol + k, none⟩ = some (.int .i32 (y : Int)) := by
      obtain ⟨bl, ol, e, hb, hc⟩ := hL.rd.elem k hk
      exact ⟨bl, ol, e, hb, by simpa [N32, hy] using hc 0 (N32 y) (by simp [hy])⟩
    have hwy : IntKind.i64.wrap (y : Int) = (y : Int) := IntWalk.i64_in _ (by omega)
    have HIF := Lib.hid hiff
    clear hx hy h6 h5 hiff hr h1 h2
    go_enter Try.func90, Try.ntmps90
    go_wp2
    go_ret
    refine ⟨?_, rfl⟩
    rw [← HR.out]
    by_cases hyn : y = n
    · rw [decide_eq_true (HIF.out.1 hyn)]; simp [hyn]
    · rw [decide_eq_false (fun hm => hyn (HIF.out.2 hm))]; simp; omega
  · have hno := has_not h6 hx k rfl (by omega)
    have HNO := Lib.hid hno
    clear hx h6 h5 hno hr h1 h2
    go_enter Try.func90, Try.ntmps90
    go_wp2
    go_ret
    refine ⟨?_, rfl⟩
    rw [← HR.out, decide_eq_false HNO.out]
    simp <;> omega

def PutPost (F : Nat → Prop) (b room : Nat) (w : World) (l : List Nat) (r : Bool) (e : Ending) (w' : World) : Prop :=
  e = .returned (.bool r) ∧ MK w' (fun k => F k ∨ w.heap.size ≤ k) b room l ∧ Frm F w w'

theorem where_put {wh : List Int} {l : List Nat} {room n : Nat} (h6 : ∀ (j n : Nat), l[j]? = some n → n < room ∧ wh[n]? = some (j : Int)) (hw : wh.length = room) (hn : n < room) (hno : n ∉ l) :
    ∀ (j m : Nat), (l ++ [n])[j]? = some m → m < room ∧ (wh.set n (l.length : Int))[m]? = some (j : Int) := by
  intro j m hj
  by_cases hjl : j < l.length
  · rw [List.getElem?_append_left hjl] at hj
    have h7 := h6 j m hj
    have hne : n ≠ m := fun e => hno (e ▸ List.mem_of_getElem? hj)
    exact ⟨h7.1, by rw [List.getElem?_set_ne hne]; exact h7.2⟩
  · have hj2 : j = l.length := by
      have := (List.getElem?_eq_some_iff.1 hj).1
      simp at this
      omega
    subst hj2
    simp at hj
    subst hj
    exact ⟨hn, by rw [List.getElem?_set_self (by omega)]⟩

set_option maxHeartbeats 1600000 in
theorem putM (F : Nat → Prop) (b room n : Nat) (l : List Nat) (w : World) (h : MK w F b room l) (hn : n < room) : Calls Try.prog 80 #[.pointer (some ⟨b, 0, none⟩), .int .i64 n] w (PutPost F b room w (if n ∈ l then l else l ++ [n]) (decide (n ∉ l))) := by
  have hlen := h.nodup.2.2
  have hroom := h.room
  have h0 := h
  obtain ⟨vw, vl, Fw, Fl, wh, hB, hF, hW, hL, h1, h2, h3, h4, h5, h6⟩ := h.low
  obtain ⟨A, c, rfl⟩ := hL.form
  obtain ⟨Aw, cw, rfl⟩ := hW.form
  obtain ⟨c0, c1, f0, f1, l0⟩ := blk2 hB
  by_cases hm : n ∈ l
  · rw [if_pos hm, decide_eq_false (by simpa using hm)]
    have HH := Lib.hid (hasM F b room n l w h0 hn true (decide_eq_true hm))
    clear h5 h6 h1 h2 hm
    go_enter Try.func80, Try.ntmps80
    go_wp2_with (go_at_call 90; refine HH.out.mono ?_; rintro e w' ⟨rfl, rfl⟩)
    go_ret
    exact ⟨rfl, h0.mono (fun k h _ => .inl h), Frm.refl _ _⟩
  · rw [if_neg hm, decide_eq_true (by simpa using hm)]
    have HH := Lib.hid (hasM F b room n l w h0 hn false (decide_eq_false hm))
    have HWP := Lib.hid (where_put h6 h3 hn hm)
    obtain ⟨bw, rfl, hFw, hbw, cur, hbc, hcur⟩ := hW.head (by omega)
    have hbne : b ≠ bw := fun e => (h1 bw hFw).2.1 e.symm
    obtain ⟨yo, hyo⟩ : ∃ yo, w.cell? ⟨bw, n, none⟩ = some yo := by
      rw [hbc.cell, hcur n (by simp [h3]; omega)]
      exact ⟨_, List.getElem?_eq_getElem (by simp [h3]; omega)⟩
    have hfz := hbc.frozen n
    have hwl : IntKind.i32.wrap (l.length : Int) = (l.length : Int) := IntWalk.i32_in _ (by omega)
    have hwn : IntKind.i32.wrap (n : Int) = (n : Int) := IntWalk.i32_in _ (by omega)
    have HI := Lib.hid (⟨h1, h2, h5⟩ : (∀ k, Fw k → (F k ∧ k < w.heap.size) ∧ k ≠ b ∧ ¬ Fl k) ∧ (∀ k, Fl k → (F k ∧ k < w.heap.size) ∧ k ≠ b) ∧ ∀ x ∈ wh, 0 ≤ x ∧ x ≤ 2147483647)
    clear h5 h6 h1 h2 hm
    go_enter Try.func80, Try.ntmps80
    go_upto_region 1 with fail
    go_wp2_with (first | (go_at_call 90; refine HH.out.mono ?_; rintro e w' ⟨rfl, rfl⟩) | fail)
    go_region
    all_goals
      have hf1 : Frm (fun k => k = bw) w ((w.setCell ⟨bw, n, none⟩ (.int .i32 (l.length : Int))).drew) := ((Frm.refl (fun k => k = bw) w).set bw n _ (fun _ => rfl)).drew
      have hB1 := hB.frm hf1 hbne
      have hL1 := hL.frm hf1 (fun k hk e => (HI.out.1 bw hFw).2.2 (e ▸ hk))
      have hW1 := (hW.put hn (.int .i32 (l.length : Int))).drew
      rw [show (List.map I32 wh).set n (.int .i32 (l.length : Int)) = (wh.set n (l.length : Int)).map I32 by rw [List.map_set]; rfl] at hW1
      clear c0 c1 f0 f1 hyo hfz hbc hcur
      generalize (w.setCell ⟨bw, n, none⟩ (.int .i32 (l.length : Int))).drew = w1 at *
      obtain ⟨c0, c1, f0, f1, l1⟩ := blk2 hB1
      have hX := Blk.new w1 [.int .i32 (n : Int)] 21
      have hL2 := hL1.alloc (.cells #[.int .i32 (n : Int)] 21)
      go_wp2_with (with_reducible refine stop_at 41 rfl ?_)
      unfold Stop
      refine op_append rfl _ _ _ rfl 21 _ 1 4 Try.underlying172 infoI32 rfl (by omega) hL2 rfl ⟨w1.heap.size, 0, none⟩ 1 1 [.int .i32 (n : Int)] rfl rfl (fun j u hu => (hX.cellAdd 0 j).trans (by rw [Nat.zero_add]; exact hu)) (by intro u hu; simp at hu; subst hu; rfl) (by simp only [maxLen]; omega) (by omega) ?_
      intro v' w3 hf3 hL3
      obtain ⟨A3, e3, rfl⟩ := hL3.form
      have hz1 := hf1.size
      have hz3 : w1.heap.size + 1 ≤ w3.heap.size := by have := hf3.size; simpa using this
      have hB3 := (hB1.alloc (.cells #[.int .i32 (n : Int)] 21)).frm hf3 (fun h => (HI.out.2.1 b h).2 rfl)
      have hW3 := (hW1.alloc (.cells #[.int .i32 (n : Int)] 21)).frm hf3 (fun k h1 h2 => (HI.out.1 k h1).2.2 h2)
      clear c0 c1 f0 f1
      obtain ⟨c0, c1, f0, f1, l3⟩ := blk2 hB3
      go_wp2
      go_ret
      have hf4 : Frm (fun k => k = b) w3 (w3.setCell ⟨b, 1, none⟩ (.slice A3 (l.length + 1) e3)) := (Frm.refl (fun k => k = b) w3).set b 1 _ (fun _ => rfl)
      have hbF : F bw ∧ bw < w.heap.size := (HI.out.1 bw hFw).1
      refine ⟨rfl, ⟨_, _, Fw, fun k => Fl k ∨ w1.heap.size ≤ k, _, hB3.setSame 1 _, .inl hF.1, hW3.frm hf4 (fun k hk => (HI.out.1 k hk).2.1), ?_, fun k hk => ⟨.inl (HI.out.1 k hk).1.1, (HI.out.1 k hk).2.1, ?_⟩, ?_, by rw [List.length_set]; exact h3, h4, ?_, HWP.out⟩, ?_⟩
      · rw [List.length_append, List.map_append]
        exact (hL3.frm hf4 (fun k hk e => by rcases hk with h1 | h1; exact (HI.out.2.1 k h1).2 e; simp at h1; omega)).mono (fun k hk _ => by rcases hk with h1 | h1; exact .inl h1; simp at h1; exact .inr (by omega))
      · rintro (h1 | h1)
        · exact (HI.out.1 k hk).2.2 h1
        · have := (HI.out.1 k hk).1.2; omega
      · rintro k (h1 | h1)
        · exact ⟨.inl (HI.out.2.1 k h1).1.1, (HI.out.2.1 k h1).2⟩
        · exact ⟨.inr (by omega), by omega⟩
      · intro x hx
        rcases List.mem_or_eq_of_mem_set hx with h1 | h1
        · exact HI.out.2.2 x h1
        · omega
      · exact (((hf1.mono (fun i e _ => e ▸ hbF.1)).alloc (.cells #[.int .i32 (n : Int)] 21)).then hf3 (fun i h _ => (HI.out.2.1 i h).1.1)).then hf4 (fun i e _ => e ▸ hF.1)
end Go.Proofs.Ytoadmpochaeohaa
