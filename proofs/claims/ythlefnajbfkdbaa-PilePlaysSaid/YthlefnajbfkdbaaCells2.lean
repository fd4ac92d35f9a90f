import Derived.Test.YthlefnajbfkdbaaCells
import Derived.Deep.LoopGhost
set_option linter.unusedVariables false
set_option linter.unusedSimpArgs false
namespace Go.Proofs.Ythlefnajbfkdbaa
open Go.RowKit

def NewPost (w : World) (n : Nat) (e : Ending) (w' : World) : Prop :=
  ∃ g, e = .returned (.tuple #[.pointer (some ⟨g, 0, none⟩), .int .i64 0]) ∧ CE w' (fun k => w.heap.size ≤ k) g (List.replicate n (-1)) [] ∧ Frm (fun _ => False) w w'

theorem newNo (n : Int) (w : World) (h : n < 0 ∨ 100000 < n) : Calls Try.prog 15 #[.int .i64 n] w fun e w' => e = .returned (.tuple #[.pointer none, .int .i64 1]) ∧ w = w' := by
  rcases h with h | h
  · go_enter Try.func15, Try.ntmps15
    go_wp2
    go_ret2
    exact ⟨rfl, rfl⟩
  · have h' : ¬ n < 0 := by omega
    go_enter Try.func15, Try.ntmps15
    go_wp2
    go_ret2
    exact ⟨rfl, rfl⟩

set_option maxHeartbeats 800000 in
theorem newC (n : Nat) (w : World) (hn : n ≤ 100000) : Calls Try.prog 15 #[.int .i64 n] w (NewPost w n) := by
  go_enter Try.func15, Try.ntmps15
  go_wp2_with (with_reducible refine stop_at 13 rfl ?_)
  unfold Stop
  refine op_make rfl _ _ _ rfl 3 (.int .i64 0) 8 Try.underlying22 infoInt rfl n rfl rfl n rfl (by omega) (by omega) ?_
  intro b w1 hN hb1
  have hle := hN.le
  have hlt := hN.lt
  have hb2 := hb1.alloc (.cells #[.slice (some ⟨b, 0, none⟩) n n, .slice none 0 0] 80)
  have hG := Blk.new w1 [.slice (some ⟨b, 0, none⟩) n n, .slice none 0 0] 80
  have hF2 := hN.frm.alloc (.cells #[.slice (some ⟨b, 0, none⟩) n n, .slice none 0 0] 80)
  obtain ⟨c0, c1, f0, f1, l0⟩ := blk2 hG
  go_wp2
  have hbg : b ≠ w1.heap.size := by omega
  have hz2 : w1.heap.size < (w1.alloc (.cells #[.slice (some ⟨b, 0, none⟩) n n, .slice none 0 0] 80)).heap.size := by simp
  generalize w1.alloc (.cells #[.slice (some ⟨b, 0, none⟩) n n, .slice none 0 0] 80) = w2 at *
  generalize hgg : w1.heap.size = g at *
  clear c0 c1 f0 f1 l0 hgg
  go_loopw [5, 21] (fun i j wr => ∃ (k : Nat), j = .int .i64 k ∧ k ≤ n ∧ Blk wr g [.slice (some ⟨b, 0, none⟩) n n, .slice none 0 0] 80 ∧ Blk wr b (List.replicate k (I64 (-1)) ++ List.replicate (n - k) (I64 0)) 3 ∧ Frm (fun _ => False) w wr) (fun _ j _ => n - (intOf j).toNat)
  case atStart => exact ⟨0, rfl, by omega, hG, by simpa [I64] using hb2, hF2⟩
  case round =>
    obtain ⟨k, rfl, hk, hG', hb', hF'⟩ := hrel
    obtain ⟨c0, c1, f0, f1, l0⟩ := blk2 hG'
    by_cases hlt : k < n
    · obtain ⟨y, hy⟩ : ∃ y, wr.cell? ⟨b, k, none⟩ = some y := ⟨_, by rw [hb'.cell]; exact List.getElem?_eq_getElem (by simp; omega)⟩
      have hfb := hb'.frozen k
      go_wp2
      go_roundw
      case measure => simp [intOf]; omega
      case rel =>
        refine ⟨k + 1, by go_num, by omega, hG'.setOther b k _ (fun e => hbg e.symm), ?_, hF'.set b k _ (fun h => by omega)⟩
        have h2 := hb'.setSame k (.int .i64 (-1))
        rw [show (List.replicate k (I64 (-1)) ++ List.replicate (n - k) (I64 0)).set k (.int .i64 (-1)) = List.replicate (k + 1) (I64 (-1)) ++ List.replicate (n - (k + 1)) (I64 0) by
          rw [List.set_append_right _ _ (by simp), List.length_replicate, Nat.sub_self, show n - k = (n - (k + 1)) + 1 by omega, List.replicate_succ, List.set_cons_zero, List.replicate_succ']
          simp [I64]] at h2
        exact h2
    · obtain rfl : k = n := by omega
      go_wp2
      go_ret2
      rw [Nat.sub_self, List.replicate_zero] at hb'
      refine ⟨g, rfl, ⟨_, _, fun k => k = b, fun _ => False, hG', by omega, ?_, Sl.nil, fun j hj => ⟨by omega, by omega, fun h => h⟩, fun _ h => h.elim⟩, hF'⟩
      rw [List.length_replicate, List.map_replicate]
      exact .at_ (rest := []) rfl hb' (by simp) (by simp) (Nat.le_refl _) (by simp only [maxLen]; omega)

theorem Rd.one_cells {w : World} {F : Nat → Prop} {size : Nat} {n c : Nat} {xs : List Value} {b off : Nat} (h : Rd w F size (some ⟨b, off, none⟩) n c xs) : ∀ j u, xs[j]? = some u → w.cell? ((⟨b, off, none⟩ : Addr).add j) = some u := by
  intro j u hj
  have hn : 0 < n := by
    rcases Nat.eq_zero_or_pos n with h0 | h0
    · have := h.len; rw [h0, Nat.zero_mul] at this
      rw [List.eq_nil_of_length_eq_zero this] at hj; simp at hj
    · exact h0
  obtain ⟨b', o', hA, _, _, hc⟩ := h.at_ hn
  cases hA
  have : (⟨b, off, none⟩ : Addr).add j = ⟨b, off + j, none⟩ := by unfold Addr.add; split <;> simp_all
  rw [this]; exact hc j u hj

def ClonePost (w : World) (n : Nat) (xs : List Value) (e : Ending) (w' : World) : Prop :=
  ∃ v, e = .returned v ∧ Sl w' (fun k => w.heap.size ≤ k) 3 1 v n xs ∧ Frm (fun _ => False) w w'

set_option maxHeartbeats 400000 in
theorem cloneI {F : Nat → Prop} {A : Option Addr} {n c : Nat} {xs : List Int} (w : World) (h : Rd w F 1 A n c (xs.map I64)) (hb : n ≤ 1073741824) :
    Calls Try.prog 41 #[.slice A n c] w (ClonePost w n (xs.map I64)) := by
  have hl : xs.length = n := by simpa using h.len
  rcases A with _ | a
  · obtain ⟨rfl, rfl⟩ := h.none_ rfl
    obtain rfl : xs = [] := List.eq_nil_of_length_eq_zero hl
    have hq := fun w => Lib.run_eql_slice_nil (P := Try.prog) w 22 3 none 0 0 0 0 Try.underlying22
    go_enter Try.func41, Try.ntmps41
    go_wp2
    go_ret
    exact ⟨_, rfl, .nil, Frm.refl _ _⟩
  · have HL := Lib.hid hl
    clear hl
    have hE := Blk.new w ([] : List Value) 3
    have hS : Sl (w.alloc (.cells ([] : List Value).toArray 3)) (fun k => k = w.heap.size) 3 1 (.slice (some ⟨w.heap.size, 0, none⟩) 0 0) 0 [] := .at_ (rest := []) rfl hE rfl rfl (Nat.le_refl _) (by simp [maxLen])
    have hq := fun w => Lib.run_eql_slice_nil (P := Try.prog) w 22 3 (some a) n c 0 0 Try.underlying22
    go_enter Try.func41, Try.ntmps41
    go_wp2_with (with_reducible refine stop_at 7 rfl ?_)
    unfold Stop
    refine op_appendRd rfl _ _ _ rfl 3 _ 1 8 Try.underlying22 infoInt rfl (by omega) hS rfl (h.alloc _) rfl (i64_one xs) (by simp only [maxLen]; omega) (by omega) ?_
    intro v' w1 hf1 hs1
    go_wp2
    go_ret
    refine ⟨_, rfl, ?_, ((Frm.refl (fun _ => False) w).alloc _).then hf1 (fun i h hi => by omega)⟩
    have := hs1.mono (G := fun k => w.heap.size ≤ k) (by rintro k (h | h) _; omega; simp at h; omega)
    simpa using this

/-- Values of cells. -/
theorem valuesC (F : Nat → Prop) (g : Nat) (vs : List Int) (tr : List (Int × Int)) (w : World) (h : CE w F g vs tr) (hb : vs.length ≤ 1073741824) :
    Calls Try.prog 24 #[.pointer (some ⟨g, 0, none⟩)] w (ClonePost w vs.length (vs.map I64)) := by
  obtain ⟨v, u, F1, F2, hB, hF, hS, h2, h3, h4⟩ := h
  obtain ⟨A, c, rfl⟩ := hS.form
  obtain ⟨c0, c1, f0, f1, l0⟩ := blk2 hB
  go_enter Try.func24, Try.ntmps24
  go_wp2_with fail
  refine (cloneI w hS.rd hb).mono ?_
  rintro e w1 ⟨v1, rfl, hs1, hf1⟩
  go_wp2
  go_ret
  exact ⟨_, rfl, hs1, hf1⟩

/-- The Sets behind a mark are taken back, the last one first. -/
def backC (vs : List Int) : List (Int × Int) → List Int
  | [] => vs
  | p :: r => (backC vs r).set p.1.toNat p.2

def BackPost (F : Nat → Prop) (g : Nat) (w : World) (vs : List Int) (tr : List (Int × Int)) (r : Int) (e : Ending) (w' : World) : Prop :=
  e = .returned (.int .i64 r) ∧ CE w' F g vs tr ∧ Frm F w w'

/-- All places that a trail names are there. -/
def InC (n : Nat) (tr : List (Int × Int)) : Prop := ∀ p ∈ tr, 0 ≤ p.1 ∧ p.1 < n

theorem backNo (F : Nat → Prop) (g : Nat) (vs : List Int) (tr : List (Int × Int)) (m : Int) (w : World) (h : CE w F g vs tr) (hm : m < 0 ∨ (tr.length : Int) < m) :
    Calls Try.prog 22 #[.pointer (some ⟨g, 0, none⟩), .int .i64 m] w fun e w' => e = .returned (.int .i64 1) ∧ w = w' := by
  obtain ⟨v, u, F1, F2, hB, hF, hS, h2, h3, h4⟩ := h
  by_cases hm1 : m < 0
  · go_enter Try.func22, Try.ntmps22
    go_wp2
    go_ret
    exact ⟨rfl, rfl⟩
  · have hm2 : (tr.length : Int) < m := hm.resolve_left hm1
    clear hm
    go_enter Try.func22, Try.ntmps22
    go_wp2_with (go_at_call 39; refine (lenW F2 g v u tr _ hB h2).mono ?_; rintro e w' ⟨rfl, rfl⟩)
    go_ret
    exact ⟨rfl, rfl⟩

theorem backC_append (vs : List Int) (a : List (Int × Int)) (p : Int × Int) : backC vs (a ++ [p]) = backC (vs.set p.1.toNat p.2) a := by
  induction a with
  | nil => rfl
  | cons x a ih => simp only [List.cons_append, backC, ih]

theorem lenW' (F : Nat → Prop) (g : Nat) (v u : Value) (tr : List (Int × Int)) (n : Nat) (hn : tr.length = n) (w : World) (hB : Blk w g [v, u] 80) (hS : Sl w F 85 2 u n (flatW tr)) :
    Calls Try.prog 39 #[.pointer (some ⟨g, 1, none⟩)] w fun e w' => e = .returned (.int .i64 n) ∧ w = w' := by subst hn; exact lenW F g v u tr w hB hS

set_option maxHeartbeats 1600000 in
theorem backYes (F : Nat → Prop) (g : Nat) (vs : List Int) (tr : List (Int × Int)) (m : Nat) (w : World) (h : CE w F g vs tr) (hm : m ≤ tr.length) (hin : InC vs.length tr) (hb : vs.length ≤ 1073741824) (ht : tr.length ≤ 1073741824) :
    Calls Try.prog 22 #[.pointer (some ⟨g, 0, none⟩), .int .i64 m] w (BackPost F g w (backC vs (tr.drop m)) (tr.take m) 0) := by
  have h0 := h.low
  have HIN := Lib.hid hin
  clear hin
  obtain ⟨v, u, F1, F2, hB, hF, hS, h2, h3, h4⟩ := h
  have hmb : decide ((m : Int) < 0) = false := decide_eq_false (by omega)
  have hmc : decide (tr.length < m) = false := decide_eq_false (by omega)
  go_enter Try.func22, Try.ntmps22
  go_wp2_with (go_at_call 39; refine (lenW F2 g v u tr _ hB h2).mono ?_; rintro e w' ⟨rfl, rfl⟩)
  clear hB hF hS h2 h3 h4
  go_loopg [5, 6, 23] tr.length (fun k _ _ _ wr => ∃ (vs' : List Int), m ≤ k ∧ k ≤ tr.length ∧ vs'.length = vs.length ∧ Hid (backC vs (tr.drop m) = backC vs' ((tr.take k).drop m)) ∧ CE wr (fun j => F j ∧ j < w.heap.size) g vs' (tr.take k) ∧ Frm (fun j => F j ∧ j < w.heap.size) w wr)
  case atStart => exact ⟨vs, hm, Nat.le_refl _, rfl, by rw [Hid, List.take_length], by rw [List.take_length]; exact h0, Frm.refl _ _⟩
  case round =>
    obtain ⟨vs', hmk, hkt, hvl, HB, hCE, hf⟩ := hrel
    obtain ⟨v, u, F1, F2, hB, hF, hS, h2, h3, h4⟩ := hCE.low
    have HVL := Lib.hid hvl
    have hvb : vs'.length ≤ 1073741824 := by omega
    clear hvl
    have htk : (tr.take gk).length = gk := by rw [List.length_take]; omega
    have HTK := Lib.hid htk
    rw [htk] at h2
    clear htk
    by_cases hlt : m < gk
    · obtain ⟨p, hp⟩ : ∃ p, tr[gk - 1]? = some p := ⟨_, List.getElem?_eq_getElem (by omega)⟩
      have htp : tr.take gk = tr.take (gk - 1) ++ [p] := by
        have := List.take_add_one (l := tr) (i := gk - 1)
        rw [show gk - 1 + 1 = gk by omega, hp] at this
        simpa using this
      have hpin := HIN.out p (List.mem_of_getElem? hp)
      rw [← HVL.out] at hpin
      obtain ⟨q, y⟩ := p
      obtain ⟨k, rfl⟩ := Int.eq_ofNat_of_zero_le hpin.1
      have hkv : k < vs'.length := by have := hpin.2; simp only at this; omega
      obtain ⟨A, c, rfl⟩ := hS.form
      obtain ⟨b, rfl, hFb, hbl2, cur, hbc, hcur⟩ := hS.head (by omega)
      have hF1b := h3 b hFb
      have hgb : g ≠ b := fun e => hF1b.2.1 e.symm
      have hdr : backC vs' ((tr.take gk).drop m) = backC (vs'.set k y) ((tr.take (gk - 1)).drop m) := by
        rw [htp, List.drop_append_of_le_length (by rw [List.length_take]; omega), backC_append]
        rfl
      have h2' : Sl wr F2 85 2 u (tr.take (gk - 1) ++ [((k : Int), y)]).length (flatW (tr.take (gk - 1) ++ [((k : Int), y)])) := by
        rw [← htp, HTK.out]; exact h2
      have hlen2 : (tr.take (gk - 1) ++ [((k : Int), y)]).length ≤ 1073741824 := by rw [← htp, HTK.out]; omega
      have HDR := Lib.hid hdr
      have hne : ¬ F2 g := fun h => (h4 g h).2 rfl
      clear hp htp hpin hdr
      go_wp2_with (first | (go_at_call 39; refine (lenW' F2 g _ u (tr.take gk) gk HTK.out _ hB h2).mono ?_; rintro e w' ⟨rfl, rfl⟩))
      refine (popW F2 g _ u (tr.take (gk - 1)) ((k : Int), y) wr hB h2' hne hlen2).mono ?_
      rintro e w1 ⟨u1, rfl, hB1, hS1, hf1⟩
      have hz1 := hf1.size
      have hSv := hS.frm hf1 (fun j hj e => (h3 j hj).2.1 e)
      have hbc1 := hbc.frm hf1 (fun e => hgb e.symm)
      have hB2 := hB1.alloc (.cells #[.int .i64 k, .int .i64 y] 85)
      have hS2 := hS1.alloc (.cells #[.int .i64 k, .int .i64 y] 85)
      have hV2 := hSv.alloc (.cells #[.int .i64 k, .int .i64 y] 85)
      have hb2 := hbc1.alloc (.cells #[.int .i64 k, .int .i64 y] 85)
      have hX2 := Blk.new w1 [.int .i64 k, .int .i64 y] 85
      have hF2' : Frm (fun j => j = g) wr (w1.alloc (.cells #[.int .i64 k, .int .i64 y] 85)) := hf1.alloc _
      go_wp2
      generalize w1.alloc (.cells #[.int .i64 k, .int .i64 y] 85) = w2 at *
      obtain ⟨c0, c1, f0, f1, l0⟩ := blk2 hB2
      obtain ⟨d0, d1, e0, e1, l1⟩ := blk2 hX2
      obtain ⟨yo, hyo⟩ : ∃ yo, w2.cell? ⟨b, k, none⟩ = some yo := by
        rw [hb2.cell, hcur k (by simpa using hkv)]
        exact ⟨_, List.getElem?_eq_getElem (by simpa using hkv)⟩
      have hfb := hb2.frozen k
      clear hcur
      go_region
      all_goals
        go_wp2
        go_roundg (gk - 1)
        case measure => omega
        case rel =>
          have hV3 := (hV2.put hkv (.int .i64 y)).drew
          have hB3 := (hB2.setOther b k (.int .i64 y) hgb).drew
          have hS3 := (hS2.set b k (.int .i64 y) (fun h => hF1b.2.2 h)).drew
          refine ⟨vs'.set k y, by omega, by omega, by rw [List.length_set]; exact HVL.out, ?_, ⟨_, u1, F1, F2, hB3, hF.1, ?_, hS3, fun j hj => ⟨(h3 j hj).1.1, (h3 j hj).2⟩, fun j hj => ⟨(h4 j hj).1.1, (h4 j hj).2⟩⟩, ?_⟩
          · show _ = _
            rw [HB.out, HDR.out]
          · rw [List.length_set, List.map_set]; exact hV3
          · exact ((hf.then hF2' (fun i e hi => by rw [e]; exact hF.1)).set b k _ (fun _ => hF1b.1.1)).drew
    · obtain rfl : gk = m := by omega
      go_wp2_with (first | (go_at_call 39; refine (lenW' F2 g _ u (tr.take gk) gk HTK.out _ hB h2).mono ?_; rintro e w' ⟨rfl, rfl⟩))
      go_ret
      have hB2 := HB.out
      rw [show (tr.take gk).drop gk = [] from List.drop_eq_nil_of_le (by rw [HTK.out]; exact Nat.le_refl _)] at hB2
      exact ⟨rfl, by rw [hB2]; exact hCE.mono (fun k h _ => h.1), hf.mono (fun i h _ => h.1)⟩
end Go.Proofs.Ythlefnajbfkdbaa
