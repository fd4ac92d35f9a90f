/-
  make with length 0 and a capacity, as a law at the operation.
-/
import Derived.Test.YtoadmpochaeohaaOps
import Derived.Laws.MakeOwn
set_option linter.unusedVariables false
set_option linter.unusedSimpArgs false
namespace Go.Proofs.Ytoadmpochaeohaa
open Go.RowKit

theorem op_makeOwn {P : Program} {w : World} {ops : Array Oper} {rest : List Oper} {o : Oper} {a : Act} {Q : Exit → Act → World → Prop} (hg : o.guard = none) (l c : Operand) (t : TypeId) (hop : o.op = .makeSlice t l c) (e : TypeId) (z : Value) (size bytes : Nat) (ht : P.underlying t = some (.slice e))
    (hinfo : (P.info? e).map (fun i => (i.zero, i.size, i.bytes)) = some (some z, size, bytes)) (hl : a.eval l = .int .i64 0) (L : Int) (hc : a.eval c = .int .i64 L) (n : Nat) (hL : L = n)
    (hb : bytes * n ≤ 281474976710656) (h63 : n ≤ maxLen)
    (h : ∀ w', Frm (fun _ => False) w w' → Sl w' (fun k => w.heap.size ≤ k) e size (.slice (some ⟨w.heap.size, 0, none⟩) 0 n) 0 [] → wpList P ops Q rest (a.put o.dst (.slice (some ⟨w.heap.size, 0, none⟩) 0 n)) w') : wpList P ops Q (o :: rest) a w := by
  obtain ⟨i, hi, hz0, hz1, hz2⟩ := info_parts hinfo
  refine wpList_plain hg fun K hK => ?_
  subst hL
  obtain ⟨w', hrun, h2, h3⟩ := run_make_own (P := P) (w := w) 0 t e i z size ht hi hz0 hz1 .i64 .i64 n (by rw [hz2]; exact hb) h63 (Nat.zero_le _)
  unfold Oper.wp
  simp only [execOp, hop, hl, hc, Sem.run_bind, hrun, Result.andThen_ok, Sem.run_pure, Oper.upon_value]
  refine hK _ _ (h _ ((Frm.of_grown h3).mono fun k hk _ => by cases hk) (Sl.of_owns h2 fun g hg => ?_))
  simp [Value.ownBlock] at hg
  omega
end Go.Proofs.Ytoadmpochaeohaa
