import Derived.Test.YthlefnajbfkdbaaRefs
set_option linter.unusedVariables false
set_option linter.unusedSimpArgs false
namespace Go.Proofs.Ythlefnajbfkdbaa
open Go.RowKit

theorem getRNo (G : Nat → Prop) (h N : Nat) (l : List (Int × Int)) (i : Int) (w : World) (H : RC w G h N l) (hi : i < 0 ∨ (N : Int) ≤ i) :
    Calls Try.prog 19 #[.pointer (some ⟨h, 0, none⟩), .int .i64 i] w fun e w' => e = .returned (.tuple #[.int .i64 0, .bool false]) ∧ w = w' := by
  obtain ⟨v, hB, hG, hS⟩ := H
  obtain ⟨c0, c1, f0, f1, l0⟩ := blk2 hB
  by_cases h1 : i < 0
  · go_enter Try.func19, Try.ntmps19
    go_wp2
    go_ret2
    exact ⟨rfl, rfl⟩
  · have h2 : (N : Int) ≤ i := hi.resolve_left h1
    clear hi
    go_enter Try.func19, Try.ntmps19
    go_wp2
    go_ret2
    exact ⟨rfl, rfl⟩

theorem vsOf_take (N : Nat) (l : List (Int × Int)) (j : Nat) (p : Int × Int) (hp : l[j]? = some p) : vsOf N (l.take (j + 1)) = (vsOf N (l.take j)).set p.1.toNat p.2 := by
  rw [List.take_add_one, hp]; exact vsOf_append N _ p

set_option maxHeartbeats 1600000 in
theorem getRYes (G : Nat → Prop) (h N : Nat) (l : List (Int × Int)) (q : Nat) (w : World) (H : RC w G h N l) (hq : q < N) (hin : InC N l) (hb : l.length ≤ 1073741824) :
    Calls Try.prog 19 #[.pointer (some ⟨h, 0, none⟩), .int .i64 q] w fun e w' => e = .returned (.tuple #[.int .i64 (getC (vsOf N l) q).1, .bool true]) ∧ w = w' := by
  obtain ⟨v, hB, hG, hS⟩ := H
  obtain ⟨c0, c1, f0, f1, l0⟩ := blk2 hB
  obtain ⟨A, c, rfl⟩ := hS.form
  have HIN := Lib.hid hin
  clear hin
  have key : ∀ x, (vsOf N l)[q]? = some x → (getC (vsOf N l) q).1 = x := fun x hx => by rw [getC, if_neg (by omega), Int.toNat_natCast, hx]
  have KEY := Lib.hid key
  clear key
  go_enter Try.func19, Try.ntmps19
  go_wp2_with fail
  go_loopw [6] (fun i wr => ∃ (k : Nat) (z : Int), i = .int .i64 z ∧ z = (k : Int) - 1 ∧ k ≤ l.length ∧ Hid ((vsOf N l)[q]? = (vsOf N (l.take k))[q]?) ∧ wr = w) (fun i _ => (intOf i + 1).toNat)
  case atStart => exact ⟨l.length, _, rfl, rfl, Nat.le_refl _, by rw [Hid, List.take_length], rfl⟩
  case round =>
    obtain ⟨k, z, rfl, hz, hk, HE, rfl⟩ := hrel
    rcases k with _ | j
    · obtain rfl : z = -1 := by omega
      clear hz
      have he : (getC (vsOf N l) q).1 = -1 := KEY.out _ (by rw [HE.out, List.take_zero]; show (List.replicate N (-1))[q]? = _; simp [hq])
      have HEE := Lib.hid he
      clear he
      go_wp2
      go_ret2
      exact ⟨by rw [HEE.out]; rfl, rfl⟩
    · obtain rfl : z = (j : Int) := by omega
      clear hz
      have hj : j < l.length := by omega
      obtain ⟨p, hp⟩ : ∃ p, l[j]? = some p := ⟨_, List.getElem?_eq_getElem hj⟩
      obtain ⟨b, off, rfl, hbl, d0, d1⟩ := hS.rd.was j p hp
      have hpin := HIN.out p (List.mem_of_getElem? hp)
      have htk := vsOf_take N l j p hp
      have HT := Lib.hid htk
      clear hp htk
      obtain ⟨a, x⟩ := p
      simp only at d0 d1 hpin
      obtain ⟨m, rfl⟩ := Int.eq_ofNat_of_zero_le hpin.1
      by_cases hm : m = q
      · subst hm
        have he : (getC (vsOf N l) m).1 = x := KEY.out _ (by rw [HE.out, HT.out]; simp only [Int.toNat_natCast]; rw [List.getElem?_set_self (by rw [vsOf_len]; exact hq)])
        have HEE := Lib.hid he
        clear he
        go_wp2
        go_ret2
        exact ⟨by rw [HEE.out]; rfl, rfl⟩
      · have HM := Lib.hid hm
        have hne : ((m : Int) == (q : Int)) = false := by rw [beq_eq_false_iff_ne]; omega
        clear hm
        go_wp2
        go_roundw
        case measure => simp [intOf] <;> omega
        case rel =>
          refine ⟨j, _, rfl, by omega, by omega, ?_, trivial⟩
          rw [Hid, HE.out, HT.out]
          simp only [Int.toNat_natCast]
          rw [List.getElem?_set_ne HM.out]

def ValRPost (w : World) (N : Nat) (l : List (Int × Int)) (e : Ending) (w' : World) : Prop :=
  ∃ v, e = .returned v ∧ Sl w' (fun k => w.heap.size ≤ k) 3 1 v N ((vsOf N l).map I64) ∧ Frm (fun _ => False) w w'

set_option maxHeartbeats 1600000 in
theorem valuesR (G : Nat → Prop) (h N : Nat) (l : List (Int × Int)) (w : World) (H : RC w G h N l) (hin : InC N l) (hN : N ≤ 100000) (hb : l.length ≤ 1073741824) :
    Calls Try.prog 23 #[.pointer (some ⟨h, 0, none⟩)] w (ValRPost w N l) := by
  have hlt : h < w.heap.size := by obtain ⟨v, hB, hG, hS⟩ := H; exact hB.lt
  have HH := Lib.hid H
  have H0 := H
  obtain ⟨v, hB, hG, hS⟩ := H
  obtain ⟨c0, c1, f0, f1, l0⟩ := blk2 hB
  obtain ⟨A, c, rfl⟩ := hS.form
  have HIN := Lib.hid hin
  clear hin
  go_enter Try.func23, Try.ntmps23
  go_upto_block 0 with fail
  go_cut [3] from 6 to 16 (fun s wx => Sl wx (fun k => w.heap.size ≤ k) 3 1 s N ((List.replicate N (-1)).map I64) ∧ Frm (fun _ => False) w wx)
  case first =>
    go_wp2_with fail
    go_loopw [3, 4] (fun s i wr => ∃ (k : Nat), i = .int .i64 k ∧ k ≤ N ∧ Sl wr (fun k => w.heap.size ≤ k) 3 1 s k ((List.replicate k (-1)).map I64) ∧ Frm (fun _ => False) w wr) (fun _ i _ => N - (intOf i).toNat)
    case atStart => exact ⟨0, rfl, by omega, Sl.nil, Frm.refl _ _⟩
    case round =>
      obtain ⟨k, rfl, hk, hs, hf⟩ := hrel
      have hz := hf.size
      obtain ⟨A1, q1, rfl⟩ := hs.form
      have hBr := hB.frm hf (fun h => h)
      obtain ⟨c0, c1, f0, f1, l0⟩ := blk2 hBr
      by_cases hlt : k < N
      · go_wp2_with (with_reducible refine stop_at 16 rfl ?_)
        unfold Stop
        refine op_append rfl _ _ _ rfl 3 _ 1 8 Try.underlying22 infoInt rfl (by omega) (hs.alloc _) rfl ⟨wr.heap.size, 0, none⟩ 1 1 [I64 (-1)] rfl rfl (fun j u hu => by rw [(Blk.new wr _ 3).cellAdd 0 j, Nat.zero_add]; exact hu) (by intro u hu; simp at hu; subst hu; rfl) (by simp only [maxLen]; omega) (by omega) ?_
        intro v' w3 hf3 hs3
        go_wp2
        go_roundw
        case measure => simp [intOf] <;> omega
        case rel =>
          refine ⟨k + 1, by go_num, by omega, ?_, (hf.alloc _).then hf3 (fun i h hi => by omega)⟩
          rw [List.replicate_succ', List.map_append]
          exact hs3.mono (by rintro j (h | h) _; exact h; simp at h; omega)
      · obtain rfl : k = N := by omega
        go_wp2_with fail
        go_meet
        exact ⟨hs, hf⟩
  case rest =>
    obtain ⟨hs, hf⟩ := hcut
    obtain ⟨A1, q1, rfl⟩ := hs.form
    generalize wc = w1 at *
    clear c0 c1 f0 f1 l0
    go_wp2_with fail
    go_loopw [5] (fun i wr => ∃ (k : Nat), i = .int .i64 k ∧ k ≤ l.length ∧ Sl wr (fun k => w.heap.size ≤ k) 3 1 (.slice A1 N q1) N ((vsOf N (l.take k)).map I64) ∧ Frm (fun _ => False) w wr) (fun i _ => l.length - (intOf i).toNat)
    case atStart => exact ⟨0, rfl, by omega, hs, hf⟩
    case round =>
      obtain ⟨k, rfl, hk, hs, hf⟩ := hrel
      have hBr := hB.frm hf (fun h => h)
      obtain ⟨c0, c1, f0, f1, l0⟩ := blk2 hBr
      by_cases hlt : k < l.length
      · obtain ⟨p, hp⟩ : ∃ p, l[k]? = some p := ⟨_, List.getElem?_eq_getElem hlt⟩
        have hSr := hS.frm hf (fun _ _ h => h)
        obtain ⟨b, off, rfl, hbl, d0, d1⟩ := hSr.rd.was k p hp
        have hpin := HIN.out p (List.mem_of_getElem? hp)
        have htk := vsOf_take N l k p hp
        have HT := Lib.hid htk
        clear hp htk
        obtain ⟨a, x⟩ := p
        simp only at d0 d1 hpin
        obtain ⟨m, rfl⟩ := Int.eq_ofNat_of_zero_le hpin.1
        have hmN : m < N := by omega
        obtain ⟨b2, rfl, hFb, hbl2, cur, hbc, hcur⟩ := hs.head (by omega)
        have hc : ∃ y, wr.cell? ⟨b2, m, none⟩ = some y := by
          rw [hbc.cell, hcur m (by rw [List.length_map, vsOf_len]; exact hmN)]
          exact ⟨_, List.getElem?_eq_getElem (by rw [List.length_map, vsOf_len]; exact hmN)⟩
        obtain ⟨y, hy⟩ := hc
        have hfy := hbc.frozen m
        clear hcur
        go_wp2_with fail
        go_region
        all_goals
          go_wp2
          go_roundw
          case measure => simp [intOf] <;> omega
          case rel =>
            refine ⟨k + 1, by go_num, by omega, ?_, (hf.set b2 m _ (fun h => by omega)).drew⟩
            rw [HT.out, List.map_set]
            exact (hs.put hmN (I64 x)).drew
      · obtain rfl : k = l.length := by omega
        go_wp2
        go_ret
        rw [List.take_length] at hs
        exact ⟨_, rfl, hs, hf⟩
end Go.Proofs.Ythlefnajbfkdbaa
