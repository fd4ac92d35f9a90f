/-
  From a law's walk to its row: for any law that answers true, writes to nothing that was there, and whose specification gives its arguments back.
-/
import Derived.Test.YtoadmpochaeohaaKit
import Derived.ProofKit
import Derived.OpenShut
import Derived.JoinedCond
import Derived.ChangeSame
import Derived.WideKeyArgs
import Derived.ChangeMaps5
set_option linter.unusedVariables false
set_option maxRecDepth 100000
namespace Go.Proofs.Ytoadmpochaeohaa
open Go.RowKit Go.WideShapes Go.ChangeShapes Go.ChangeAt

theorem ownKnob_none : ownKnob Try.prog.godebug = none := by kernel_rfl
theorem laidOut : laidOutB Try.prog = true := by kernel_rfl

section
variable {H : Type} {enc : TypeId × Value → H} {P : Program}
theorem stays_all (hl : laidOutB P = true) {W W' : World} (hb : Below W.heap.size W W') {sp : Nat → Bool} : ∀ (ts : List TypeId) (vs : List Value) (ds : List (DataW H)) (ps : List MemPlace),
    (∀ t ∈ ts, P.readableRec t = true) → (∀ t ∈ ts, t < P.types.size) → (∀ x ∈ ps, x.block < W.heap.size) → (∀ x ∈ ps, sp x.block = true) →
    DataW.TrodAll enc P W 0 (fun _ => true) true ts vs ds ps → DataW.TrodAll enc P W' 0 sp true ts vs ds ps
  | [], vs, ds, ps, _, _, _, _, h => by
    obtain ⟨rfl, rfl, rfl⟩ := trodAll_nil h
    exact trodAll_mk0
  | t :: ts, vs, ds, ps, h1, h2, h3, h4, h => by
    obtain ⟨v, vs', d, ds', p, q, rfl, rfl, rfl, ht, hr⟩ := trodAll_cons h
    refine trodAll_cons_mk ?_ (stays_all hl hb ts vs' ds' q (fun t ht => h1 t (List.mem_cons_of_mem _ ht)) (fun t ht => h2 t (List.mem_cons_of_mem _ ht)) (fun x hx => h3 x (List.mem_append_right _ hx)) (fun x hx => h4 x (List.mem_append_right _ hx)) hr)
    exact WideElems.Trod_stays hl (h1 t List.mem_cons_self) (h2 t List.mem_cons_self) ht (fun x hx => hb.same (h3 x (List.mem_append_left _ hx))) (fun x hx => h4 x (List.mem_append_left _ hx))

/-- The post of a law that came to true. -/
theorem law_post {f : Func} {s : ChangeSpec} {W W' : World} {args : Array Value} {ds gs : List (DataW H)} {before : List MemPlace} {T : TypeId} (hl : laidOutB P = true)
    (hW : DataW.Whole enc P f.params.toList s.vars false W args.toList ds gs before) (hs : s.vars = []) (hts : (f.params.toList.all fun t => P.readableRec t && decide (t < P.types.size)) = true)
    (hfn : (s.fn H (ds ++ gs)).results = [.lit (.bool true)] ∧ (s.fn H (ds ++ gs)).args = ds ∧ (s.fn H (ds ++ gs)).vars = []) (hr : f.resultTypes = #[T]) (hT : P.underlying T = some .bool) (hb : Below W.heap.size W W') :
    s.post enc P f false true false false W args (.bool true) W' := by
  have hlt : ∀ p ∈ before, p.block < W.heap.size := fun p hp => hW.lt p hp
  have hW' := hW
  obtain ⟨pa, pv, hA, hV, rfl, _, _⟩ := hW
  rw [hs] at hV
  obtain ⟨rfl, rfl⟩ := trodVars_none hV
  have h1 : ∀ t ∈ f.params.toList, P.readableRec t = true := fun t ht => by have := List.all_eq_true.1 hts t ht; simp at this; exact this.1
  have h2 : ∀ t ∈ f.params.toList, t < P.types.size := fun t ht => by have := List.all_eq_true.1 hts t ht; simp at this; exact this.2
  have hl2 : ∀ x ∈ pa, x.block < W.heap.size := fun x hx => hlt x (List.mem_append_left _ hx)
  have hA' := stays_all hl hb (sp := fun b => decide (b < W.heap.size)) _ _ _ _ h1 h2 hl2 (fun x hx => by simpa using hl2 x hx) hA
  refine ⟨ds, [], pa ++ [], [], pa, [], hW', ?_, ?_, ?_, World.keptBut_mono (fun p hp => ⟨hp, .inr (.inl (by simpa using hp))⟩) (hb.frame (· ∈ pa ++ [])), fun h => by cases h⟩
  · rw [hfn.1, hr]
    exact trodAll_mk1 (shut_bool hT true)
  · rw [hfn.2.1]
    exact hA'
  · rw [hfn.2.2, hs]
    rfl
end
end Go.Proofs.Ytoadmpochaeohaa
