import Derived.RangeFuncNested
import Derived.RangeFuncCalls
import Derived.Sort.QuietIn
import Derived.OwnWalkIn
import Derived.WalkKit
set_option linter.unusedVariables false
set_option linter.unusedSimpArgs false
namespace Go.Proofs.Ythlefnajbfkdbaa
open Go.RowKit

/-- No defer statement. -/
def noDefer (o : Oper) : Bool := match o.op with | .defer _ => false | _ => true
theorem noDefer_spec {o : Oper} (h : noDefer o = true) (c) : o.op ≠ .defer c := by
  intro e
  simp [noDefer, e] at h
theorem Oper.wpIn_round {F : Fence} {n : Nat} {P : Program} {o : Oper} {a : Act} {w : World} {K : Act → World → Prop} {Q : Exit → Act → World → Prop} {l0 : Nat} (hro : F.round = none) (hd : noDefer o = true)
    (hh : o.wpIn F n P a w K Q) : o.wpIn (F.inRound l0) n P a w K Q := by
  unfold Oper.wpIn at *
  refine ⟨hh.1, ?_⟩
  have hh := hh.2
  rw [Oper.semAt_plain F _ _ (noDefer_spec hd)] at hh
  rw [Oper.semAt_plain (F.inRound l0) _ _ (noDefer_spec hd)]
  generalize (execOp a.eval o).run P w = r at *
  cases r with
  | ok x w' => cases x <;> exact hh
  | halt x w' => cases x <;> exact hh
theorem wpAnyIn_round {F : Fence} {n : Nat} {P : Program} {md : Region.Mode} {ops : Array Oper} {Q : Exit → Act → World → Prop} {l0 : Nat} (hro : F.round = none) (hd : ∀ o, o ∈ ops.toList → noDefer o = true) :
    ∀ (fuel : Nat) (listed : Array Bool) (a : Act) (w : World), wpAnyIn F n P md ops Q fuel listed a w → wpAnyIn (F.inRound l0) n P md ops Q fuel listed a w
  | 0, listed, a, w, h => h
  | fuel + 1, listed, a, w, h => by
    refine ⟨h.1, fun i hi => ?_⟩
    have h := h.2 i hi
    unfold wpOpIn at *
    split
    · rename_i ho
      simp only [ho] at h
      exact wpAnyIn_round hro hd _ _ _ _ h
    · rename_i o ho
      simp only [ho] at h
      split
      · rename_i hw
        simp only [hw, if_true] at h
        refine Oper.wpIn_round hro (hd o ?_) (Oper.wpIn_mono (fun a w => wpAnyIn_round hro hd _ _ _ _) h)
        obtain ⟨hi, rfl⟩ := Array.getElem?_eq_some_iff.1 ho
        simp
      · rename_i hw
        simp only [hw] at h
        exact ⟨h.1, wpAnyIn_round hro hd _ _ _ _ h.2⟩
theorem region_quiet_round {F : Fence} {n : Nat} {P : Program} {l0 : Nat} {id : Nat} {Q : Exit → Act → World → Prop} {a : Act} {w : World} {l : List Oper} (hro : F.round = none) (hm : P.follows .mixedOrders = true) (hB : Region.lexB .any l.toArray = true) (hd : l.all noDefer = true)
    (h : wpQuietIn F n P l.toArray (fun w' => ∃ n, w' = w.drewN n) (fun a' => ∀ w', (∃ n, w' = w.drewN n) → Q .normal a' w') l a) : (Code.region id l.toArray true).wpIn (F.inRound l0) n P Q a w := by
  simp only [Region.lexB, Bool.and_eq_true] at hB
  refine wpIn_region_any hm (wpAnyIn_round hro (by simpa using hd) _ _ _ _ (wpAnyIn_of_quiet (C := fun w' => ∃ n, w' = w.drewN n) (Q := fun a' => ∀ w', (∃ n, w' = w.drewN n) → Q .normal a' w') hro (fun _ w' hw' h => h w' hw') _ _ _ _ ⟨1, rfl⟩ ?_))
  have := wpAnyQIn_lex (F := F) (n := n) (C := fun w' => ∃ n, w' = w.drewN n) (md := .any) hB.1 l 0 (Array.replicate l.toArray.size false) a (by simp) (by simpa using hB.2) h
  simpa using this
end Go.Proofs.Ythlefnajbfkdbaa
