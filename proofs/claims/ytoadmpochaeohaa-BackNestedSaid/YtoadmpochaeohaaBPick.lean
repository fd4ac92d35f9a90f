/-
  Layer 20: pick, small; the programs that go round.
-/
import Derived.Test.YtoadmpochaeohaaBKnown
set_option linter.unusedVariables false
set_option linter.unusedSimpArgs false
set_option maxRecDepth 100000
namespace Go.Proofs.Ytoadmpochaeohaa
open Go.RowKit

/-- Which of n things a raw number speaks of. -/
def pickN (c n : Int) : Nat := ((if c < 0 then -(c + 1) else c) % n).toNat
theorem pickN_lt (c n : Int) (hn : 1 ≤ n) : (pickN c n : Int) < n := by
  have key : ∀ x : Int, ((x % n).toNat : Int) < n := fun x => by
    have := Int.emod_nonneg x (show n ≠ 0 by omega)
    have := Int.emod_lt_of_pos x (show 0 < n by omega)
    omega
  exact key _
theorem pick_key (n : Int) (hn : 1 ≤ n) (x : Int) : x % n = ((x % n).toNat : Int) := by have := Int.emod_nonneg x (show n ≠ 0 by omega); omega
theorem pick_calls (c n : Int) (w : World) (hc0 : -9223372036854775808 ≤ c) (hc1 : c ≤ 9223372036854775807) (hn : 1 ≤ n) (hn1 : n ≤ 9223372036854775807) :
    Calls Try.prog 22 #[.int .i64 c, .int .i64 n] w fun e w' => e = .returned (.int .i64 (pickN c n)) ∧ w = w' := by
  by_cases h : c < 0
  · go_enter Try.func22, Try.ntmps22
    go_wp2
    go_ret
    have e1 : (-(c + 1)) % n = (-(c + 1)).tmod n := (Int.tmod_eq_emod_of_nonneg (by omega)).symm
    exact ⟨by rw [pickN, if_pos h, ← pick_key n hn, e1, Int.neg_tmod]; rfl, rfl⟩
  · go_enter Try.func22, Try.ntmps22
    go_wp2
    go_ret
    exact ⟨by rw [pickN, if_neg (by omega), ← pick_key n hn]; rfl, rfl⟩
theorem smallC (w : World) : Calls Try.prog 23 #[] w fun e w' => e = .returned (.agg #[.int .u64 0, .int .u64 8589934592, .int .u64 0, .int .u64 0]) ∧ Frm (fun _ => False) w w' := by
  go_enter Try.func23, Try.ntmps23
  go_wp2_with fail
  exact bodyPost_ret (results_one rfl (RV.cell rfl (Blk.new w [.int .u64 0, .int .u64 8589934592, .int .u64 0, .int .u64 0] 37) Try.underlying37 rfl (by kernel_rfl))) rfl ⟨rfl, (Frm.refl _ w).alloc _⟩
def IA : Ins := ⟨1, 0, 0, 0, 0, 0, 0, 8589934592, 0, 0⟩
def roundL (k a : Nat) : List Ins := (List.range k).map (fun (i : Nat) => I0 2 ((i : Int) + 1) (a : Int)) ++ [IA, I0 2 (a : Int) ((k : Int) + 2), I0 11 0 0]
/-- The three answers. -/
def roundOk (k a : Nat) (pl : Bool) : Bool :=
  rightE (roundL k a) ((0 : Nat) : Int) ((0 : Nat) : Int) == 0 && stopB (roundL k a) 0 0 &&
  match ranB (mOf (roundL k a) 0 0 false pl 0) [97, 97, 97, 98] 5000 0 0 0 with
  | some (some 3, s1, k1) => (match findR (mOf (roundL k a) 0 0 false pl 0) [98, 97, 97, 98] 5000 5 0 s1 k1 with
    | some (some (1, 3), s2, k2) => (match findR (mOf (roundL k a) 0 0 false pl 0) [98, 98] 5000 3 0 s2 k2 with | some (none, _, _) => decide (k1 ≤ 100000 ∧ k2 ≤ 100000 ∧ s1 ≤ 100000 ∧ s2 ≤ 100000) | _ => false)
    | _ => false)
  | _ => false
def roundAll : Bool := (List.range 7).all fun k => (List.range k).all fun a => roundOk k a false && roundOk k a true
theorem roundAll_t : roundAll = true := by kernel_rfl
structure RoundT (k a : Nat) (pl : Bool) (s1 k1 s2 k2 s3 k3 : Nat) : Prop where
  r : rightE (roundL k a) ((0 : Nat) : Int) ((0 : Nat) : Int) = 0
  st : stopB (roundL k a) 0 0 = true
  l : ranB (mOf (roundL k a) 0 0 false pl 0) [97, 97, 97, 98] 5000 0 0 0 = some (some 3, s1, k1)
  f1 : findR (mOf (roundL k a) 0 0 false pl 0) [98, 97, 97, 98] 5000 5 0 s1 k1 = some (some (1, 3), s2, k2)
  f2 : findR (mOf (roundL k a) 0 0 false pl 0) [98, 98] 5000 3 0 s2 k2 = some (none, s3, k3)
  b : k1 ≤ 100000 ∧ k2 ≤ 100000 ∧ s1 ≤ 100000 ∧ s2 ≤ 100000
theorem roundT (k a : Nat) (pl : Bool) (hk : k < 7) (ha : a < k) : ∃ s1 k1 s2 k2 s3 k3, RoundT k a pl s1 k1 s2 k2 s3 k3 := by
  have h := roundAll_t
  unfold roundAll at h
  rw [List.all_eq_true] at h
  have h := h k (List.mem_range.2 hk)
  rw [List.all_eq_true] at h
  have h := h a (List.mem_range.2 ha)
  have h : roundOk k a pl = true := by
    rw [Bool.and_eq_true] at h
    cases pl
    · exact h.1
    · exact h.2
  unfold roundOk at h
  rw [Bool.and_eq_true, Bool.and_eq_true] at h
  obtain ⟨⟨h1, h2⟩, h3⟩ := h
  split at h3
  · rename_i s1 k1 e1
    split at h3
    · rename_i s2 k2 e2
      split at h3
      · rename_i s3 k3 e3
        exact ⟨s1, k1, s2, k2, s3, k3, by simpa using h1, h2, e1, e2, e3, of_decide_eq_true h3⟩
      · cases h3
    · cases h3
  · cases h3
end Go.Proofs.Ytoadmpochaeohaa
