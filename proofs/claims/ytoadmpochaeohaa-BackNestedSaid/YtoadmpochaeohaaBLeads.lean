/-
  Layer 20: leads, Steps, Kept.
-/
import Derived.Test.YtoadmpochaeohaaBAgain
set_option linter.unusedVariables false
set_option linter.unusedSimpArgs false
set_option maxRecDepth 100000
namespace Go.Proofs.Ytoadmpochaeohaa
open Go.RowKit

/-- Where an instruction leads. -/
def leadsI (i : Ins) (k : Nat) : List Int := if i.op = 2 ∨ i.op = 10 then [i.x, i.y] else if i.op = 3 then [i.x] else if i.op = 11 then [] else [(k : Int) + 1]

set_option maxHeartbeats 1600000 in
theorem leadsC (i : Ins) (k : Nat) (w : World) (hk : k ≤ 1048576) : Calls Try.prog 45 #[i.val, .int .i64 k] w fun e w' => ∃ v, e = .returned v ∧ Sl w' (fun b => w.heap.size ≤ b) 3 1 v (leadsI i k).length ((leadsI i k).map I64) ∧ Frm (fun _ => False) w w' := by
  obtain ⟨iop, ix, iy, i_n, imn, imx, is0, is1, is2, is3⟩ := i
  obtain ⟨L, hL⟩ : ∃ L, leadsI ⟨iop, ix, iy, i_n, imn, imx, is0, is1, is2, is3⟩ k = L := ⟨_, rfl⟩
  rw [hL]
  simp only [Ins.val]
  have hT := Blk.new w [.int .i64 iop, .int .i64 ix, .int .i64 iy, .int .i64 i_n, .int .i64 imn, .int .i64 imx, .int .u64 is0, .int .u64 is1, .int .u64 is2, .int .u64 is3] 39
  have hf0 : Frm (fun _ => False) w (w.alloc (.cells #[.int .i64 iop, .int .i64 ix, .int .i64 iy, .int .i64 i_n, .int .i64 imn, .int .i64 imx, .int .u64 is0, .int .u64 is1, .int .u64 is2, .int .u64 is3] 39)) := (Frm.refl _ w).alloc _
  have HL := Lib.hid hL
  clear hL
  go_enter Try.func45, Try.ntmps45
  go_upto_region 1 with fail
  have hz := hf0.size
  generalize w.alloc (.cells #[.int .i64 iop, .int .i64 ix, .int .i64 iy, .int .i64 i_n, .int .i64 imn, .int .i64 imx, .int .u64 is0, .int .u64 is1, .int .u64 is2, .int .u64 is3] 39) = w1 at *
  have HZ := Lib.hid hz
  clear hz
  obtain ⟨bT, hbT⟩ : ∃ bT, w.heap.size = bT := ⟨_, rfl⟩
  simp only [hbT] at hT ⊢
  clear hbT
  have t0 := hT.cell 0
  have t1 := hT.cell 1
  have t2 := hT.cell 2
  simp only [List.getElem?_cons_zero, List.getElem?_cons_succ] at t0 t1 t2
  have lt := hT.lt
  have two : ∀ a c : Int, Sl (w1.alloc (.cells #[.int .i64 a, .int .i64 c] 3)) (fun b => w.heap.size ≤ b) 3 1 (.slice (some ⟨w1.heap.size, 0, none⟩) 2 2) 2 [I64 a, I64 c] := fun a c => .at_ (rest := []) HZ.out (Blk.new w1 [_, _] 3) rfl rfl (Nat.le_refl _) (by simp only [maxLen]; omega)
  have one : ∀ a : Int, Sl (w1.alloc (.cells #[.int .i64 a] 3)) (fun b => w.heap.size ≤ b) 3 1 (.slice (some ⟨w1.heap.size, 0, none⟩) 1 1) 1 [I64 a] := fun a => .at_ (rest := []) HZ.out (Blk.new w1 [_] 3) rfl rfl (Nat.le_refl _) (by simp only [maxLen]; omega)
  have TWO := Lib.hid two
  have ONE := Lib.hid one
  clear two one
  by_cases h2 : iop = 2
  · subst h2
    obtain rfl : L = [ix, iy] := by rw [← HL.out]; rfl
    go_wp2_with fail
    go_ret
    exact ⟨_, rfl, TWO.out _ _, hf0.alloc _⟩
  by_cases h10 : iop = 10
  · subst h10
    obtain rfl : L = [ix, iy] := by rw [← HL.out]; rfl
    go_wp2_with fail
    go_ret
    exact ⟨_, rfl, TWO.out _ _, hf0.alloc _⟩
  by_cases h3 : iop = 3
  · subst h3
    obtain rfl : L = [ix] := by rw [← HL.out]; rfl
    go_wp2_with fail
    go_ret
    exact ⟨_, rfl, ONE.out _, hf0.alloc _⟩
  by_cases h11 : iop = 11
  · subst h11
    obtain rfl : L = [] := by rw [← HL.out]; rfl
    go_wp2_with fail
    go_ret
    exact ⟨_, rfl, Sl.nil, hf0⟩
  have u2 : (iop == 2) = false := by simpa using h2
  have u3 : (iop == 3) = false := by simpa using h3
  have u10 : (iop == 10) = false := by simpa using h10
  have u11 : (iop == 11) = false := by simpa using h11
  obtain rfl : L = [(k : Int) + 1] := by rw [← HL.out, leadsI, if_neg (by simp only; omega), if_neg h3, if_neg h11]
  go_wp2_with fail
  go_ret
  exact ⟨_, rfl, ONE.out _, hf0.alloc _⟩

theorem stepsC (b : Nat) (cs : List Value) (st : Int) (w : World) (hB : Blk w b cs 78) (h : cs[11]? = some (.int .i64 st)) : Calls Try.prog 14 #[.pointer (some ⟨b, 0, none⟩)] w fun e w' => e = .returned (.int .i64 st) ∧ w = w' := by
  have c := hB.cell 11
  rw [h] at c
  have l := hB.lt
  go_enter Try.func14, Try.ntmps14
  go_wp2
  go_ret
  exact ⟨rfl, rfl⟩
theorem keptC (b : Nat) (cs : List Value) (kp : Int) (w : World) (hB : Blk w b cs 78) (h : cs[12]? = some (.int .i64 kp)) : Calls Try.prog 15 #[.pointer (some ⟨b, 0, none⟩)] w fun e w' => e = .returned (.int .i64 kp) ∧ w = w' := by
  have c := hB.cell 12
  rw [h] at c
  have l := hB.lt
  go_enter Try.func15, Try.ntmps15
  go_wp2
  go_ret
  exact ⟨rfl, rfl⟩
end Go.Proofs.Ytoadmpochaeohaa
