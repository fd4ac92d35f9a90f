/-
  Which programs are right (layer 14's Right), as layer 16 asks it.
-/
import Derived.Test.YtoadmpochaeohaaNSpec
set_option linter.unusedVariables false
set_option linter.unusedSimpArgs false
set_option maxRecDepth 100000
namespace Go.Proofs.Ytoadmpochaeohaa
open Go.RowKit

/-- Which fields an operation uses. -/
structure Us where
  set : Bool
  x : Bool
  y : Bool
  group : Bool
  counter : Bool
  next : Bool
  ok : Bool
def Us.val (u : Us) : Value := .agg #[.bool u.set, .bool u.x, .bool u.y, .bool u.group, .bool u.counter, .bool u.next]
def ofV (op : Int) : Us :=
  if op = 1 then ⟨true, false, false, false, false, true, true⟩ else
  if op = 2 then ⟨false, true, true, false, false, false, true⟩ else
  if op = 3 then ⟨false, true, false, false, false, false, true⟩ else
  if op = 4 then ⟨false, false, false, false, false, true, true⟩ else
  if op = 5 then ⟨false, false, false, false, false, true, true⟩ else
  if op = 6 then ⟨false, false, false, true, false, true, true⟩ else
  if op = 7 then ⟨false, false, false, true, false, true, true⟩ else
  if op = 8 then ⟨false, false, false, true, false, true, true⟩ else
  if op = 9 then ⟨false, false, false, false, true, true, true⟩ else
  if op = 10 then ⟨false, true, true, false, true, false, true⟩ else
  if op = 11 then ⟨false, false, false, false, false, false, true⟩ else
  ⟨false, false, false, false, false, false, false⟩

set_option maxHeartbeats 1600000 in
theorem ofC (op : Int) (w : World) : Calls Try.prog 64 #[.int .i64 op] w fun e w' => e = .returned (.tuple #[(ofV op).val, .bool (ofV op).ok]) ∧ Frm (fun _ => False) w w' := by
  by_cases h1 : op = 1
  · subst h1
    go_enter Try.func64, Try.ntmps64
    go_wp2
    exact bodyPost_ret (results_two rfl (RV.cell rfl (Blk.new w [.bool true, .bool false, .bool false, .bool false, .bool false, .bool true] 151) Try.underlying151 rfl (by kernel_rfl)) (RV.tmp rfl)) rfl ⟨rfl, (Frm.refl _ w).alloc _⟩
  by_cases h2 : op = 2
  · subst h2
    go_enter Try.func64, Try.ntmps64
    go_wp2
    exact bodyPost_ret (results_two rfl (RV.cell rfl (Blk.new w [.bool false, .bool true, .bool true, .bool false, .bool false, .bool false] 151) Try.underlying151 rfl (by kernel_rfl)) (RV.tmp rfl)) rfl ⟨rfl, (Frm.refl _ w).alloc _⟩
  by_cases h3 : op = 3
  · subst h3
    go_enter Try.func64, Try.ntmps64
    go_wp2
    exact bodyPost_ret (results_two rfl (RV.cell rfl (Blk.new w [.bool false, .bool true, .bool false, .bool false, .bool false, .bool false] 151) Try.underlying151 rfl (by kernel_rfl)) (RV.tmp rfl)) rfl ⟨rfl, (Frm.refl _ w).alloc _⟩
  by_cases h4 : op = 4
  · subst h4
    go_enter Try.func64, Try.ntmps64
    go_wp2
    exact bodyPost_ret (results_two rfl (RV.cell rfl (Blk.new w [.bool false, .bool false, .bool false, .bool false, .bool false, .bool true] 151) Try.underlying151 rfl (by kernel_rfl)) (RV.tmp rfl)) rfl ⟨rfl, (Frm.refl _ w).alloc _⟩
  by_cases h5 : op = 5
  · subst h5
    go_enter Try.func64, Try.ntmps64
    go_wp2
    exact bodyPost_ret (results_two rfl (RV.cell rfl (Blk.new w [.bool false, .bool false, .bool false, .bool false, .bool false, .bool true] 151) Try.underlying151 rfl (by kernel_rfl)) (RV.tmp rfl)) rfl ⟨rfl, (Frm.refl _ w).alloc _⟩
  by_cases h6 : op = 6
  · subst h6
    go_enter Try.func64, Try.ntmps64
    go_wp2
    exact bodyPost_ret (results_two rfl (RV.cell rfl (Blk.new w [.bool false, .bool false, .bool false, .bool true, .bool false, .bool true] 151) Try.underlying151 rfl (by kernel_rfl)) (RV.tmp rfl)) rfl ⟨rfl, (Frm.refl _ w).alloc _⟩
  by_cases h7 : op = 7
  · subst h7
    go_enter Try.func64, Try.ntmps64
    go_wp2
    exact bodyPost_ret (results_two rfl (RV.cell rfl (Blk.new w [.bool false, .bool false, .bool false, .bool true, .bool false, .bool true] 151) Try.underlying151 rfl (by kernel_rfl)) (RV.tmp rfl)) rfl ⟨rfl, (Frm.refl _ w).alloc _⟩
  by_cases h8 : op = 8
  · subst h8
    go_enter Try.func64, Try.ntmps64
    go_wp2
    exact bodyPost_ret (results_two rfl (RV.cell rfl (Blk.new w [.bool false, .bool false, .bool false, .bool true, .bool false, .bool true] 151) Try.underlying151 rfl (by kernel_rfl)) (RV.tmp rfl)) rfl ⟨rfl, (Frm.refl _ w).alloc _⟩
  by_cases h9 : op = 9
  · subst h9
    go_enter Try.func64, Try.ntmps64
    go_wp2
    exact bodyPost_ret (results_two rfl (RV.cell rfl (Blk.new w [.bool false, .bool false, .bool false, .bool false, .bool true, .bool true] 151) Try.underlying151 rfl (by kernel_rfl)) (RV.tmp rfl)) rfl ⟨rfl, (Frm.refl _ w).alloc _⟩
  by_cases h10 : op = 10
  · subst h10
    go_enter Try.func64, Try.ntmps64
    go_wp2
    exact bodyPost_ret (results_two rfl (RV.cell rfl (Blk.new w [.bool false, .bool true, .bool true, .bool false, .bool true, .bool false] 151) Try.underlying151 rfl (by kernel_rfl)) (RV.tmp rfl)) rfl ⟨rfl, (Frm.refl _ w).alloc _⟩
  by_cases h11 : op = 11
  · subst h11
    go_enter Try.func64, Try.ntmps64
    go_wp2
    exact bodyPost_ret (results_two rfl (RV.cell rfl (Blk.new w [.bool false, .bool false, .bool false, .bool false, .bool false, .bool false] 151) Try.underlying151 rfl (by kernel_rfl)) (RV.tmp rfl)) rfl ⟨rfl, (Frm.refl _ w).alloc _⟩
  have hu : ofV op = ⟨false, false, false, false, false, false, false⟩ := by simp [ofV, h1, h2, h3, h4, h5, h6, h7, h8, h9, h10, h11]
  rw [hu]
  have t1 : (op == 1) = false := by simpa using h1
  have t2 : (op == 2) = false := by simpa using h2
  have t3 : (op == 3) = false := by simpa using h3
  have t4 : (op == 4) = false := by simpa using h4
  have t5 : (op == 5) = false := by simpa using h5
  have t6 : (op == 6) = false := by simpa using h6
  have t7 : (op == 7) = false := by simpa using h7
  have t8 : (op == 8) = false := by simpa using h8
  have t9 : (op == 9) = false := by simpa using h9
  have t10 : (op == 10) = false := by simpa using h10
  have t11 : (op == 11) = false := by simpa using h11
  go_enter Try.func64, Try.ntmps64
  go_wp2
  exact bodyPost_ret (results_two rfl (RV.cell rfl (Blk.new w [.bool false, .bool false, .bool false, .bool false, .bool false, .bool false] 151) Try.underlying151 rfl (by kernel_rfl)) (RV.tmp rfl)) rfl ⟨rfl, (Frm.refl _ w).alloc _⟩

def withinB (u : Bool) (n b : Int) : Bool := if u then decide (0 ≤ n ∧ n < b) else n == 0
theorem withinC (u : Bool) (n b : Int) (w : World) : Calls Try.prog 65 #[.bool u, .int .i64 n, .int .i64 b] w fun e w' => e = .returned (.bool (withinB u n b)) ∧ w = w' := by
  cases u with
  | true =>
    by_cases h1 : 0 ≤ n
    · have t1 : decide (0 ≤ n) = true := decide_eq_true h1
      go_enter Try.func65, Try.ntmps65
      go_wp2
      go_ret
      exact ⟨by simp [withinB, h1], rfl⟩
    · have t1 : decide (0 ≤ n) = false := decide_eq_false h1
      go_enter Try.func65, Try.ntmps65
      go_wp2
      go_ret
      exact ⟨by simp [withinB]; omega, rfl⟩
  | false =>
    go_enter Try.func65, Try.ntmps65
    go_wp2
    go_ret
    exact ⟨by simp [withinB], rfl⟩

def Ins.val (i : Ins) : Value := .agg #[.int .i64 i.op, .int .i64 i.x, .int .i64 i.y, .int .i64 i.n, .int .i64 i.mn, .int .i64 i.mx, .int .u64 i.s0, .int .u64 i.s1, .int .u64 i.s2, .int .u64 i.s3]
def boundsB (i : Ins) : Bool := if i.op = 10 then decide (0 ≤ i.mn ∧ i.mn ≤ 255 ∧ (i.mx = -1 ∨ (i.mn ≤ i.mx ∧ i.mx ≤ 255))) else decide (i.mn = 0 ∧ i.mx = 0)

set_option maxHeartbeats 1600000 in
theorem boundsC (i : Ins) (w : World) : Calls Try.prog 66 #[i.val] w fun e w' => e = .returned (.bool (boundsB i)) ∧ Frm (fun _ => False) w w' := by
  obtain ⟨op, x, y, n, mn, mx, s0, s1, s2, s3⟩ := i
  have hB := Blk.new w [.int .i64 op, .int .i64 x, .int .i64 y, .int .i64 n, .int .i64 mn, .int .i64 mx, .int .u64 s0, .int .u64 s1, .int .u64 s2, .int .u64 s3] 39
  have b0 := hB.cell 0
  have b4 := hB.cell 4
  have b5 := hB.cell 5
  simp only [List.getElem?_cons_zero, List.getElem?_cons_succ] at b0 b4 b5
  dsimp only [Ins.val]
  have hf : Frm (fun _ => False) w (w.alloc (.cells #[.int .i64 op, .int .i64 x, .int .i64 y, .int .i64 n, .int .i64 mn, .int .i64 mx, .int .u64 s0, .int .u64 s1, .int .u64 s2, .int .u64 s3] 39)) := (Frm.refl _ w).alloc _
  by_cases h1 : op = 10
  · subst h1
    by_cases h2 : 0 ≤ mn
    · have t2 : decide (0 ≤ mn) = true := decide_eq_true h2
      by_cases h3 : mn ≤ 255
      · have t3 : decide (mn ≤ 255) = true := decide_eq_true h3
        by_cases h4 : mx = -1
        · subst h4
          go_enter Try.func66, Try.ntmps66
          go_wp2
          go_ret
          exact ⟨by simp [boundsB, h2, h3], hf⟩
        · have t4 : (mx == -1) = false := by simpa using h4
          by_cases h5 : mn ≤ mx
          · have t5 : decide (mn ≤ mx) = true := decide_eq_true h5
            go_enter Try.func66, Try.ntmps66
            go_wp2
            go_ret
            exact ⟨by simp [boundsB, h2, h3, h4, h5], hf⟩
          · have t5 : decide (mn ≤ mx) = false := decide_eq_false h5
            go_enter Try.func66, Try.ntmps66
            go_wp2
            go_ret
            exact ⟨by simp [boundsB, h2, h3, h4] <;> omega, hf⟩
      · have t3 : decide (mn ≤ 255) = false := decide_eq_false h3
        go_enter Try.func66, Try.ntmps66
        go_wp2
        go_ret
        exact ⟨by simp [boundsB] <;> omega, hf⟩
    · have t2 : decide (0 ≤ mn) = false := decide_eq_false h2
      go_enter Try.func66, Try.ntmps66
      go_wp2
      go_ret
      exact ⟨by simp [boundsB] <;> omega, hf⟩
  · have t1 : (op != 10) = true := by simpa using h1
    by_cases h2 : mn = 0
    · subst h2
      go_enter Try.func66, Try.ntmps66
      go_wp2
      go_ret
      exact ⟨by by_cases h3 : mx = 0 <;> simp [boundsB, h1, h3], hf⟩
    · have t2 : (mn == 0) = false := by simpa using h2
      go_enter Try.func66, Try.ntmps66
      go_wp2
      go_ret
      exact ⟨by simp [boundsB, h1, h2], hf⟩
end Go.Proofs.Ytoadmpochaeohaa
