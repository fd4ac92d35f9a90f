import Derived.Test.YthlefnajbfkdbaaTIter
import Derived.Deep.RegionWith
import Derived.RangeFuncWrites
import Derived.RangeFuncFrom
set_option linter.unusedVariables false
set_option linter.unusedSimpArgs false
namespace Go.Proofs.Ythlefnajbfkdbaa
open Go.RowKit

/-! Two Things held against each other. -/
section
variable {P : Program} {d : Nat} {xs ys : Array Value} {f : Field} {fs : List Field} {a b : Value} {r s : Bool} {w : World}
theorem field_last (hn : (f.name == "_") = false) (ha : (part f.type xs f.offset).run P w = .ok a w) (hb : (part f.type ys f.offset).run P w = .ok b w) (he : (Op.equalIn d f.type a b).run P w = .ok r w) : (Op.eqFields d xs ys [f]).run P w = .ok r w := by
  have hn' : f.name ≠ "_" := by simpa using hn
  simp only [Op.eqFields, if_pos hn', Sem.run_bind, ha, hb, he, Result.andThen_ok]
  cases r <;> simp
theorem field_cons (hn : (f.name == "_") = false) (ha : (part f.type xs f.offset).run P w = .ok a w) (hb : (part f.type ys f.offset).run P w = .ok b w) (he : (Op.equalIn d f.type a b).run P w = .ok r w) (hr : (Op.eqFields d xs ys fs).run P w = .ok s w) : (Op.eqFields d xs ys (f :: fs)).run P w = .ok (r && s) w := by
  have hn' : f.name ≠ "_" := by simpa using hn
  rw [Op.eqFields]
  simp only [if_pos hn', Sem.run_bind, ha, hb, he, Result.andThen_ok]
  cases r
  · simp
  · simpa using hr
theorem struct_eq {t : TypeId} {fs : Array Field} (hu : P.underlying t = some (.struct fs)) (hp : P.stoodInHeld t = false) (h : (Op.eqFields d xs ys fs.toList).run P w = .ok r w) : (Op.equalIn (d + 1) t (.agg xs) (.agg ys)).run P w = .ok r w := by
  have hf : P.fieldsOf t = fs := by simp [Program.fieldsOf, hu]
  rw [run_equalIn_struct (P := P) w d t xs ys (by rw [hf]; exact hu) hp, hf]
  exact h
end

theorem run_eqTh (d : Nat) (w : World) (x0 y0 : Int) (x1 y1 : ByteArray) :
    (Op.equalIn (d + 2) 56 (.agg #[.int .i64 x0, .string x1]) (.agg #[.int .i64 y0, .string y1])).run Try.prog w = .ok (x0 == y0 && (x1.toList == y1.toList)) w := by
  refine struct_eq Try.underlying56 (by kernel_rfl) ?_
  refine field_cons (by rfl) (by go_simp; rfl) (by go_simp; rfl) (by go_simp) ?_
  exact field_last (by rfl) (by go_simp; rfl) (by go_simp; rfl) (by go_simp)

/-! What is cells stays when a block that is none is turned. -/
theorem Blk.kept {w w' : World} {row : Option Nat} {g : Nat} {cur : List Value} {t : TypeId} (h : Blk w g cur t) (hg : w.grownBy w' row) (hr : ∀ r, row = some r → ∃ o : Obj, w.heap[r]? = some o ∧ o.isCells = false) : Blk w' g cur t :=
  h.frm (Frm.of_grown hg) (fun e => by
    obtain ⟨o, ho, hc⟩ := hr g e.symm
    rw [h.out] at ho; cases ho; cases hc)
theorem Sl.kept {w w' : World} {row : Option Nat} {F : Nat → Prop} {e : TypeId} {size : Nat} {v : Value} {n : Nat} {xs : List Value} (h : Sl w F e size v n xs) (hg : w.grownBy w' row) (hr : ∀ r, row = some r → ∃ o : Obj, w.heap[r]? = some o ∧ o.isCells = false) : Sl w' F e size v n xs := by
  cases h with
  | nil => exact .nil
  | at_ hF hb hx hr2 hn hm => exact .at_ hF (hb.kept hg hr) hx hr2 hn hm
theorem TP.kept {w w' : World} {row : Option Nat} {F : Nat → Prop} {g : Nat} {xs : List Th} (h : TP w F g xs) (hg : w.grownBy w' row) (hr : ∀ r, row = some r → ∃ o : Obj, w.heap[r]? = some o ∧ o.isCells = false) : TP w' F g xs := by
  obtain ⟨v, hB, hF, hS⟩ := h
  exact ⟨v, hB.kept hg hr, hF, hS.kept hg hr⟩
/-- Whatever is no cells stays, where a walk has turned cells alone. -/
theorem keepsFrom_of {B : Nat} {W W' : World} {S : Nat → Prop} (h : Frm S W W') (hS : ∀ k, S k → k < W.heap.size → k < B) : KeepsFrom B W W' :=
  ⟨h.size, fun k o hB hk _ => (h.block k (Array.getElem?_eq_some_iff.1 hk).1 (fun hs => by have := hS k hs (Array.getElem?_eq_some_iff.1 hk).1; omega)).trans hk⟩
end Go.Proofs.Ythlefnajbfkdbaa
