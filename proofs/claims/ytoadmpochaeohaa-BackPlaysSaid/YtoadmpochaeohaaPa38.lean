/-
  From a law's walk to its row: for any law that answers true, writes to nothing that was there, and whose specification gives its arguments back.
-/
import Derived.Test.YtoadmpochaeohaaPa0
import Derived.ProofKit
import Derived.OpenShut
import Derived.JoinedCond
import Derived.ChangeSame
import Derived.WideKeyArgs
import Derived.ChangeMaps5
import Derived.Test.YtoadmpochaeohaaPa3
import Derived.Lib.SmallJoins
import Derived.Laws.IdiomArrays
import Derived.Test.YtoadmpochaeohaaPa20
section
set_option linter.unusedVariables false
set_option maxRecDepth 100000
namespace Go.Proofs.Ytoadmpochaeohaa
open Go.RowKit Go.WideShapes Go.ChangeShapes Go.ChangeAt

theorem ownKnob_none : ownKnob Try.prog.godebug = none := by kernel_rfl
theorem laidOut : laidOutB Try.prog = true := by kernel_rfl

section
variable {H : Type} {enc : TypeId × Value → H} {P : Program}
theorem stays_all (hl : laidOutB P = true) {W W' : World} (hb : Below W.heap.size W W') {sp : Nat → Bool} : ∀ (ts : List TypeId) (vs : List Value) (ds : List (DataW H)) (ps : List MemPlace),
    (∀ t ∈ ts, P.readableRec t = true) → (∀ t ∈ ts, t < P.types.size) → (∀ x ∈ ps, x.block < W.heap.size) → (∀ x ∈ ps, sp x.block = true) →
    DataW.TrodAll enc P W 0 (fun _ => true) true ts vs ds ps → DataW.TrodAll enc P W' 0 sp true ts vs ds ps
  | [], vs, ds, ps, _, _, _, _, h => by
    obtain ⟨rfl, rfl, rfl⟩ := trodAll_nil h
    exact trodAll_mk0
  | t :: ts, vs, ds, ps, h1, h2, h3, h4, h => by
    obtain ⟨v, vs', d, ds', p, q, rfl, rfl, rfl, ht, hr⟩ := trodAll_cons h
    refine trodAll_cons_mk ?_ (stays_all hl hb ts vs' ds' q (fun t ht => h1 t (List.mem_cons_of_mem _ ht)) (fun t ht => h2 t (List.mem_cons_of_mem _ ht)) (fun x hx => h3 x (List.mem_append_right _ hx)) (fun x hx => h4 x (List.mem_append_right _ hx)) hr)
    exact WideElems.Trod_stays hl (h1 t List.mem_cons_self) (h2 t List.mem_cons_self) ht (fun x hx => hb.same (h3 x (List.mem_append_left _ hx))) (fun x hx => h4 x (List.mem_append_left _ hx))

/-- The post of a law that came to true. -/
theorem law_post {f : Func} {s : ChangeSpec} {W W' : World} {args : Array Value} {ds gs : List (DataW H)} {before : List MemPlace} {T : TypeId} (hl : laidOutB P = true)
    (hW : DataW.Whole enc P f.params.toList s.vars false W args.toList ds gs before) (hs : s.vars = []) (hts : (f.params.toList.all fun t => P.readableRec t && decide (t < P.types.size)) = true)
    (hfn : (s.fn H (ds ++ gs)).results = [.lit (.bool true)] ∧ (s.fn H (ds ++ gs)).args = ds ∧ (s.fn H (ds ++ gs)).vars = []) (hr : f.resultTypes = #[T]) (hT : P.underlying T = some .bool) (hb : Below W.heap.size W W') :
    s.post enc P f false true false false W args (.bool true) W' := by
  have hlt : ∀ p ∈ before, p.block < W.heap.size := fun p hp => hW.lt p hp
  have hW' := hW
  obtain ⟨pa, pv, hA, hV, rfl, _, _⟩ := hW
  rw [hs] at hV
  obtain ⟨rfl, rfl⟩ := trodVars_none hV
  have h1 : ∀ t ∈ f.params.toList, P.readableRec t = true := fun t ht => by have := List.all_eq_true.1 hts t ht; simp at this; exact this.1
  have h2 : ∀ t ∈ f.params.toList, t < P.types.size := fun t ht => by have := List.all_eq_true.1 hts t ht; simp at this; exact this.2
  have hl2 : ∀ x ∈ pa, x.block < W.heap.size := fun x hx => hlt x (List.mem_append_left _ hx)
  have hA' := stays_all hl hb (sp := fun b => decide (b < W.heap.size)) _ _ _ _ h1 h2 hl2 (fun x hx => by simpa using hl2 x hx) hA
  refine ⟨ds, [], pa ++ [], [], pa, [], hW', ?_, ?_, ?_, World.keptBut_mono (fun p hp => ⟨hp, .inr (.inl (by simpa using hp))⟩) (hb.frame (· ∈ pa ++ [])), fun h => by cases h⟩
  · rw [hfn.1, hr]
    exact trodAll_mk1 (shut_bool hT true)
  · rw [hfn.2.1]
    exact hA'
  · rw [hfn.2.2, hs]
    rfl
end
end Go.Proofs.Ytoadmpochaeohaa
end

section
set_option linter.unusedVariables false
set_option linter.unusedSimpArgs false
set_option maxRecDepth 100000
namespace Go.Proofs.Ytoadmpochaeohaa
open Go.RowKit Go.WideShapes Go.ChangeShapes Go.ChangeAt

theorem addr_add (b o s : Nat) : (⟨b, o, none⟩ : Addr).add s = ⟨b, o + s, none⟩ := by unfold Addr.add; split <;> simp_all

theorem flat_get {α β : Type} {f : α → List β} {s : Nat} : ∀ (l : List α), (∀ x ∈ l, (f x).length = s) → 0 < s → ∀ (i j : Nat) (x : α), l[i]? = some x → j < s → (l.flatMap f)[i * s + j]? = (f x)[j]?
  | [], _, _, i, j, x, h, _ => by simp at h
  | y :: l, hs, h0, 0, j, x, h, hj => by
    simp at h; subst h
    rw [List.flatMap_cons, Nat.zero_mul, Nat.zero_add, List.getElem?_append_left (by rw [hs y List.mem_cons_self]; exact hj)]
  | y :: l, hs, h0, i + 1, j, x, h, hj => by
    rw [List.flatMap_cons, List.getElem?_append_right (by rw [hs y List.mem_cons_self, Nat.succ_mul]; omega), hs y List.mem_cons_self, show (i + 1) * s + j - s = i * s + j by rw [Nat.succ_mul]; omega]
    exact flat_get l (fun x hx => hs x (List.mem_cons_of_mem _ hx)) h0 i j x (by simpa using h) hj

section
variable {H : Type} {enc : TypeId × Value → H} {P : Program} {W : World} {held : Bool}

/-- An element's cells and its datum. -/
structure Row (enc : TypeId × Value → H) (P : Program) (W : World) (held : Bool) (e : TypeId) (s : Nat) (r : List Value × DataW H) : Prop where
  len : r.1.length = s
  trod : ∃ fuel ps, DataW.trod enc P W 0 (fun _ => true) held fuel e r.1 = some (r.2, ps)

theorem flat_len {α β : Type} {f : α → List β} {s : Nat} : ∀ (l : List α), (∀ x ∈ l, (f x).length = s) → (l.flatMap f).length = l.length * s
  | [], _ => by simp
  | y :: l, h => by rw [List.flatMap_cons, List.length_append, h y List.mem_cons_self, flat_len l (fun x hx => h x (List.mem_cons_of_mem _ hx)), List.length_cons, Nat.succ_mul]; omega

theorem open_rows {t e : TypeId} {v : Value} {d : DataW H} {ps : List MemPlace} {s base : Nat} (ht : P.underlying t = some (.slice e)) (hs : P.cellsOf e = s) (hs0 : 0 < s) (hval : Value.okWide P W .any base t v) (hd : DataW.Trod enc P W 0 (fun _ => true) held t v d ps) :
    ∃ (A : Option Addr) (n c : Nat) (rows : List (List Value × DataW H)), v = .slice A n c ∧ rows.length = n ∧ Rd W (fun _ => True) s A n c (rows.flatMap (·.1)) ∧
      ((d = .nil ∧ n = 0) ∨ ∃ sp, d = .slice (rows.map (·.2)) sp) ∧ c ≤ maxLen ∧ ∀ r ∈ rows, Row enc P W held e s r := by
  obtain ⟨fuel, hf⟩ := hd
  obtain ⟨A, n, c, rfl⟩ := okWide_slice ht hval
  rcases DataW.trod_slice ht hf with ⟨hc, hx⟩ | ⟨a, len, cap, elems, rest, m, _, hc, hx, hb, hl, hm, hlen, hel, hsp, hns⟩
  · simp only [Value.cells, List.cons.injEq, Value.slice.injEq, and_true] at hc
    obtain ⟨rfl, rfl, rfl⟩ := hc
    simp only [Prod.mk.injEq] at hx
    exact ⟨none, 0, 0, [], rfl, rfl, ⟨by simp, Nat.le_refl _, fun _ => ⟨rfl, rfl⟩, fun h => absurd h (Nat.lt_irrefl _)⟩, .inl ⟨hx.1, rfl⟩, by simp [maxLen], by simp⟩
  · simp only [Value.cells, List.cons.injEq, Value.slice.injEq, and_true] at hc
    obtain ⟨rfl, rfl, rfl⟩ := hc
    simp only [Prod.mk.injEq] at hx
    have each : ∀ i, i < n → ∃ cs y, W.cells? 0 (a.add (i * s)) s = some cs ∧ elems[i]? = some y ∧ DataW.trod enc P W 0 (fun _ => true) held m e cs = some y := by
      intro i hi
      have h := hel i hi
      rw [hs, List.getElem?_eq_getElem (by omega)] at h
      obtain ⟨cs, h1, h2⟩ := Option.bind_eq_some_iff.1 h
      exact ⟨cs, elems[i], h1, List.getElem?_eq_getElem (by omega), h2⟩
    obtain ⟨css, hcl, hcc⟩ : ∃ css : List (List Value), css.length = n ∧ ∀ i, i < n → ∃ cs y, css[i]? = some cs ∧ W.cells? 0 (a.add (i * s)) s = some cs ∧ elems[i]? = some y ∧ DataW.trod enc P W 0 (fun _ => true) held m e cs = some y := by
      refine ⟨(List.range n).map fun i => (W.cells? 0 (a.add (i * s)) s).getD [], by simp, fun i hi => ?_⟩
      obtain ⟨cs, y, h1, h2, h3⟩ := each i hi
      exact ⟨cs, y, by simp [hi, h1], h1, h2, h3⟩
    have hz : (css.zip (elems.map (·.1))).length = n := by simp [hcl, hlen]
    have hz1 : (css.zip (elems.map (·.1))).map (·.1) = css := by rw [List.map_fst_zip]; simp [hcl, hlen]
    have hz2 : (css.zip (elems.map (·.1))).map (·.2) = elems.map (·.1) := by rw [List.map_snd_zip]; simp [hcl, hlen]
    have hlens : ∀ x ∈ css, x.length = s := by
      intro x hx'
      obtain ⟨i, hi⟩ := List.getElem?_of_mem hx'
      have hin : i < n := by have := (List.getElem?_eq_some_iff.1 hi).1; omega
      obtain ⟨cs, y, g1, g2, _, _⟩ := hcc i hin
      rw [hi] at g1; injection g1 with g1; subst g1
      exact (World.cells?_some g2).2.1
    have hrows : ∀ r ∈ css.zip (elems.map (·.1)), Row enc P W held e s r := by
      intro r hr
      obtain ⟨i, hi⟩ := List.getElem?_of_mem hr
      have hin : i < n := by have := (List.getElem?_eq_some_iff.1 hi).1; omega
      obtain ⟨cs, y, g1, g2, g3, g4⟩ := hcc i hin
      have : (css.zip (elems.map (·.1)))[i]? = some (cs, y.1) := by rw [List.getElem?_zip_eq_some]; exact ⟨g1, by rw [List.getElem?_map, g3]; rfl⟩
      rw [hi] at this; injection this with this; subst this
      exact ⟨(World.cells?_some g2).2.1, ⟨m, y.2, g4⟩⟩
    refine ⟨some a, n, c, css.zip (elems.map (·.1)), rfl, hz, ⟨?_, hl, fun h => (by cases h), fun hn => ?_⟩, .inr ⟨_, by rw [hz2]; exact hx.1⟩, hm, hrows⟩
    · rw [flat_len _ (fun r hr => (hrows r hr).len), hz]
    · obtain ⟨cs, y, g1, g2, _, _⟩ := hcc 0 hn
      have hcell := (World.cells?_some g2).2.2 0 hs0
      have hlen0 := (World.cells?_some g2).2.1
      rw [List.getElem?_eq_getElem (by omega)] at hcell
      simp only [Nat.zero_mul] at hcell
      have ha0 : (a.add 0).add 0 = a := by simp [Addr.add]
      rw [ha0] at hcell
      have hsp0 := World.cell?_spot hcell
      obtain ⟨b, o, q⟩ := a
      simp only at hsp0
      subst hsp0
      refine ⟨b, o, rfl, trivial, World.block_lt_of_cell? W _ hcell, fun j u hj => ?_⟩
      have hjl := (List.getElem?_eq_some_iff.1 hj).1
      rw [flat_len _ (fun r hr => (hrows r hr).len), hz] at hjl
      have hdiv : j / s < n := by rw [Nat.div_lt_iff_lt_mul hs0]; exact hjl
      obtain ⟨cs', y', k1, k2, k3, _⟩ := hcc (j / s) hdiv
      have hjs : j = j / s * s + j % s := by rw [Nat.mul_comm]; exact (Nat.div_add_mod j s).symm
      have hm' : j % s < s := Nat.mod_lt _ hs0
      have hzj : (css.zip (elems.map (·.1)))[j / s]? = some (cs', y'.1) := by rw [List.getElem?_zip_eq_some]; exact ⟨k1, by rw [List.getElem?_map, k3]; rfl⟩
      have hget := flat_get (f := fun r : List Value × DataW H => r.1) _ (fun r hr => (hrows r hr).len) hs0 (j / s) (j % s) _ hzj hm'
      rw [← hjs, hj] at hget
      have hc2 := (World.cells?_some k2).2.2 (j % s) hm'
      rw [addr_add, addr_add, Nat.add_assoc, ← hjs] at hc2
      rw [hc2, ← hget]

theorem rows_str {e : TypeId} (he : P.underlying e = some .string) : ∀ (rows : List (List Value × DataW H)), (∀ r ∈ rows, Row enc P W held e 1 r) → ∃ ss : List ByteArray, rows = ss.map fun s => ([Value.string s], DataW.lit (.string s.data.toList))
  | [], _ => ⟨[], rfl⟩
  | r :: rows, h => by
    obtain ⟨ss, rfl⟩ := rows_str he rows (fun x hx => h x (List.mem_cons_of_mem _ hx))
    obtain ⟨fuel, ps, hr⟩ := (h r List.mem_cons_self).trod
    obtain ⟨s, h1, h2, _⟩ := DataW.trod_string he hr
    simp only [Prod.mk.injEq] at h2
    exact ⟨s :: ss, by obtain ⟨a, b⟩ := r; simp only at h1 h2; simp [h1, h2.1]⟩
theorem rows_int {e : TypeId} {k : IntKind} (he : P.underlying e = some (.int k)) : ∀ (rows : List (List Value × DataW H)), (∀ r ∈ rows, Row enc P W held e 1 r) → ∃ zs : List Int, (rows = zs.map fun z => ([Value.int k z], DataW.lit (.int k z))) ∧ ∀ z ∈ zs, (Lit.int k z).wf = true
  | [], _ => ⟨[], rfl, by simp⟩
  | r :: rows, h => by
    obtain ⟨zs, rfl, hz⟩ := rows_int he rows (fun x hx => h x (List.mem_cons_of_mem _ hx))
    obtain ⟨fuel, ps, hr⟩ := (h r List.mem_cons_self).trod
    obtain ⟨z, h1, h2, h3⟩ := DataW.trod_int he hr
    simp only [Prod.mk.injEq] at h2
    exact ⟨z :: zs, by obtain ⟨a, b⟩ := r; simp only at h1 h2; simp [h1, h2.1], fun y hy => by rcases List.mem_cons.1 hy with rfl | hy; exact h3; exact hz y hy⟩
theorem rows_bool {e : TypeId} (he : P.underlying e = some .bool) : ∀ (rows : List (List Value × DataW H)), (∀ r ∈ rows, Row enc P W held e 1 r) → ∃ bs : List Bool, rows = bs.map fun b => ([Value.bool b], DataW.lit (.bool b))
  | [], _ => ⟨[], rfl⟩
  | r :: rows, h => by
    obtain ⟨ss, rfl⟩ := rows_bool he rows (fun x hx => h x (List.mem_cons_of_mem _ hx))
    obtain ⟨fuel, ps, hr⟩ := (h r List.mem_cons_self).trod
    obtain ⟨s, h1, h2⟩ := DataW.trod_bool he hr
    simp only [Prod.mk.injEq] at h2
    exact ⟨s :: ss, by obtain ⟨a, b⟩ := r; simp only at h1 h2; simp [h1, h2.1]⟩
theorem flat_one {α : Type} (f : α → Value) (g : α → DataW H) (l : List α) : (l.map fun x => ([f x], g x)).flatMap (·.1) = l.map f := by
  induction l with
  | nil => rfl
  | cons x l ih => simp [ih]

theorem bulk_one (d : DataW H) : 1 ≤ Rows.uptoBulk d := by
  cases d with
  | lit l => cases l <;> simp [Rows.uptoBulk]
  | nil => simp [Rows.uptoBulk]
  | ptr d => simp [Rows.uptoBulk]
  | slice elems spare => simp [Rows.uptoBulk]
  | agg parts => simp [Rows.uptoBulk]
  | iface t d => simp [Rows.uptoBulk]
  | map entries => simp [Rows.uptoBulk]
  | held h => simp [Rows.uptoBulk]
theorem bulk_len (l : List (DataW H)) : l.length ≤ Rows.uptoBulkAll l := by
  induction l with
  | nil => simp [Rows.uptoBulkAll]
  | cons x r ih => have := bulk_one x; simp only [Rows.uptoBulkAll, List.length_cons]; omega
theorem bulk_rows {n : Nat} {rows : List (List Value × DataW H)} {d : DataW H} (hd : (d = .nil ∧ n = 0) ∨ ∃ sp, d = .slice (rows.map (·.2)) sp) (hn : rows.length = n) : n + 1 ≤ Rows.uptoBulk d := by
  rcases hd with ⟨rfl, rfl⟩ | ⟨sp, rfl⟩
  · simp [Rows.uptoBulk]
  · have := bulk_len (rows.map (·.2))
    simp only [Rows.uptoBulk, List.length_map] at *; omega
theorem bulk_strs {n : Nat} {ss : List ByteArray} {d : DataW H} (hd : (d = .nil ∧ n = 0) ∨ ∃ sp, d = .slice ((ss.map fun s => ([Value.string s], DataW.lit (H := H) (.string s.data.toList))).map (·.2)) sp) (hn : ss.length = n) :
    (ss.map fun s => s.size).sum + n + 1 ≤ Rows.uptoBulk d := by
  have key : ∀ l : List ByteArray, Rows.uptoBulkAll ((l.map fun s => ([Value.string s], DataW.lit (H := H) (.string s.data.toList))).map (·.2)) = (l.map fun s => s.size).sum + l.length := by
    intro l
    induction l with
    | nil => simp [Rows.uptoBulkAll]
    | cons x r ih => simp only [List.map_cons, Rows.uptoBulkAll, ih, Rows.uptoBulk, List.sum_cons, List.length_cons]; simp; omega
  rcases hd with ⟨rfl, rfl⟩ | ⟨sp, rfl⟩
  · obtain rfl : ss = [] := List.eq_nil_of_length_eq_zero hn
    simp [Rows.uptoBulk]
  · have := key ss
    simp only [Rows.uptoBulk] at *; omega
end
end Go.Proofs.Ytoadmpochaeohaa
end

section
set_option linter.unusedVariables false
set_option linter.unusedSimpArgs false
set_option maxRecDepth 100000
namespace Go.Proofs.Ytoadmpochaeohaa
open Go.RowKit Go.WideShapes Go.ChangeShapes Go.ChangeAt

section
variable {H : Type} {enc : TypeId × Value → H} {P : Program} {W : World} {held : Bool}

theorem wf_i64 {z : Int} (h : (Lit.int .i64 z).wf = true) : -9223372036854775808 ≤ z ∧ z ≤ 9223372036854775807 := by
  simpa [Lit.wf, IntKind.min, IntKind.max, IntKind.signed, IntKind.bits] using h
/-- 'open_rows' of a slice that stands in one cell. -/
theorem open_cell {t e : TypeId} {v : Value} {d : DataW H} {ps : List MemPlace} {s fuel : Nat} (ht : P.underlying t = some (.slice e)) (hs : P.cellsOf e = s) (hs0 : 0 < s) (hf : DataW.trod enc P W 0 (fun _ => true) held fuel t [v] = some (d, ps)) :
    ∃ (A : Option Addr) (n c : Nat) (rows : List (List Value × DataW H)), v = .slice A n c ∧ rows.length = n ∧ Rd W (fun _ => True) s A n c (rows.flatMap (·.1)) ∧
      ((d = .nil ∧ n = 0) ∨ ∃ sp, d = .slice (rows.map (·.2)) sp) ∧ c ≤ maxLen ∧ ∀ r ∈ rows, Row enc P W held e s r := by
  have hform : ∃ A n c, v = .slice A n c := by
    rcases DataW.trod_slice ht hf with ⟨hc, hx⟩ | ⟨a, len, cap, elems, rest, m, _, hc, hx, _⟩
    · simp only [List.cons.injEq, and_true] at hc; exact ⟨_, _, _, hc⟩
    · simp only [List.cons.injEq, and_true] at hc; exact ⟨_, _, _, hc⟩
  obtain ⟨A, n, c, rfl⟩ := hform
  rcases DataW.trod_slice ht hf with ⟨hc, hx⟩ | ⟨a, len, cap, elems, rest, m, _, hc, hx, hb, hl, hm, hlen, hel, hsp, hns⟩
  · simp only [List.cons.injEq, Value.slice.injEq, and_true] at hc
    obtain ⟨rfl, rfl, rfl⟩ := hc
    simp only [Prod.mk.injEq] at hx
    exact ⟨none, 0, 0, [], rfl, rfl, ⟨by simp, Nat.le_refl _, fun _ => ⟨rfl, rfl⟩, fun h => absurd h (Nat.lt_irrefl _)⟩, .inl ⟨hx.1, rfl⟩, by simp [maxLen], by simp⟩
  · simp only [List.cons.injEq, Value.slice.injEq, and_true] at hc
    obtain ⟨rfl, rfl, rfl⟩ := hc
    simp only [Prod.mk.injEq] at hx
    have each : ∀ i, i < n → ∃ cs y, W.cells? 0 (a.add (i * s)) s = some cs ∧ elems[i]? = some y ∧ DataW.trod enc P W 0 (fun _ => true) held m e cs = some y := by
      intro i hi
      have h := hel i hi
      rw [hs, List.getElem?_eq_getElem (by omega)] at h
      obtain ⟨cs, h1, h2⟩ := Option.bind_eq_some_iff.1 h
      exact ⟨cs, elems[i], h1, List.getElem?_eq_getElem (by omega), h2⟩
    obtain ⟨css, hcl, hcc⟩ : ∃ css : List (List Value), css.length = n ∧ ∀ i, i < n → ∃ cs y, css[i]? = some cs ∧ W.cells? 0 (a.add (i * s)) s = some cs ∧ elems[i]? = some y ∧ DataW.trod enc P W 0 (fun _ => true) held m e cs = some y := by
      refine ⟨(List.range n).map fun i => (W.cells? 0 (a.add (i * s)) s).getD [], by simp, fun i hi => ?_⟩
      obtain ⟨cs, y, h1, h2, h3⟩ := each i hi
      exact ⟨cs, y, by simp [hi, h1], h1, h2, h3⟩
    have hz : (css.zip (elems.map (·.1))).length = n := by simp [hcl, hlen]
    have hz1 : (css.zip (elems.map (·.1))).map (·.1) = css := by rw [List.map_fst_zip]; simp [hcl, hlen]
    have hz2 : (css.zip (elems.map (·.1))).map (·.2) = elems.map (·.1) := by rw [List.map_snd_zip]; simp [hcl, hlen]
    have hlens : ∀ x ∈ css, x.length = s := by
      intro x hx'
      obtain ⟨i, hi⟩ := List.getElem?_of_mem hx'
      have hin : i < n := by have := (List.getElem?_eq_some_iff.1 hi).1; omega
      obtain ⟨cs, y, g1, g2, _, _⟩ := hcc i hin
      rw [hi] at g1; injection g1 with g1; subst g1
      exact (World.cells?_some g2).2.1
    have hrows : ∀ r ∈ css.zip (elems.map (·.1)), Row enc P W held e s r := by
      intro r hr
      obtain ⟨i, hi⟩ := List.getElem?_of_mem hr
      have hin : i < n := by have := (List.getElem?_eq_some_iff.1 hi).1; omega
      obtain ⟨cs, y, g1, g2, g3, g4⟩ := hcc i hin
      have : (css.zip (elems.map (·.1)))[i]? = some (cs, y.1) := by rw [List.getElem?_zip_eq_some]; exact ⟨g1, by rw [List.getElem?_map, g3]; rfl⟩
      rw [hi] at this; injection this with this; subst this
      exact ⟨(World.cells?_some g2).2.1, ⟨m, y.2, g4⟩⟩
    refine ⟨some a, n, c, css.zip (elems.map (·.1)), rfl, hz, ⟨?_, hl, fun h => (by cases h), fun hn => ?_⟩, .inr ⟨_, by rw [hz2]; exact hx.1⟩, hm, hrows⟩
    · rw [flat_len _ (fun r hr => (hrows r hr).len), hz]
    · obtain ⟨cs, y, g1, g2, _, _⟩ := hcc 0 hn
      have hcell := (World.cells?_some g2).2.2 0 hs0
      have hlen0 := (World.cells?_some g2).2.1
      rw [List.getElem?_eq_getElem (by omega)] at hcell
      simp only [Nat.zero_mul] at hcell
      have ha0 : (a.add 0).add 0 = a := by simp [Addr.add]
      rw [ha0] at hcell
      have hsp0 := World.cell?_spot hcell
      obtain ⟨b, o, q⟩ := a
      simp only at hsp0
      subst hsp0
      refine ⟨b, o, rfl, trivial, World.block_lt_of_cell? W _ hcell, fun j u hj => ?_⟩
      have hjl := (List.getElem?_eq_some_iff.1 hj).1
      rw [flat_len _ (fun r hr => (hrows r hr).len), hz] at hjl
      have hdiv : j / s < n := by rw [Nat.div_lt_iff_lt_mul hs0]; exact hjl
      obtain ⟨cs', y', k1, k2, k3, _⟩ := hcc (j / s) hdiv
      have hjs : j = j / s * s + j % s := by rw [Nat.mul_comm]; exact (Nat.div_add_mod j s).symm
      have hm' : j % s < s := Nat.mod_lt _ hs0
      have hzj : (css.zip (elems.map (·.1)))[j / s]? = some (cs', y'.1) := by rw [List.getElem?_zip_eq_some]; exact ⟨k1, by rw [List.getElem?_map, k3]; rfl⟩
      have hget := flat_get (f := fun r : List Value × DataW H => r.1) _ (fun r hr => (hrows r hr).len) hs0 (j / s) (j % s) _ hzj hm'
      rw [← hjs, hj] at hget
      have hc2 := (World.cells?_some k2).2.2 (j % s) hm'
      rw [addr_add, addr_add, Nat.add_assoc, ← hjs] at hc2
      rw [hc2, ← hget]

theorem trod_struct7 {base : Nat} {spare : Nat → Bool} {t : TypeId} {f0 f1 f2 f3 f4 f5 f6 : Field} {fuel : Nat} {cs : List Value} {x : DataW H × List MemPlace} (ht : P.underlying t = some (.struct #[f0, f1, f2, f3, f4, f5, f6])) (h : DataW.trod enc P W base spare held fuel t cs = some x) :
    ∃ y0 y1 y2 y3 y4 y5 y6 n, DataW.trod enc P W base spare held n f0.type ((cs.drop f0.offset).take (P.cellsOf f0.type)) = some y0 ∧ DataW.trod enc P W base spare held n f1.type ((cs.drop f1.offset).take (P.cellsOf f1.type)) = some y1 ∧ DataW.trod enc P W base spare held n f2.type ((cs.drop f2.offset).take (P.cellsOf f2.type)) = some y2 ∧ DataW.trod enc P W base spare held n f3.type ((cs.drop f3.offset).take (P.cellsOf f3.type)) = some y3 ∧ DataW.trod enc P W base spare held n f4.type ((cs.drop f4.offset).take (P.cellsOf f4.type)) = some y4 ∧ DataW.trod enc P W base spare held n f5.type ((cs.drop f5.offset).take (P.cellsOf f5.type)) = some y5 ∧ DataW.trod enc P W base spare held n f6.type ((cs.drop f6.offset).take (P.cellsOf f6.type)) = some y6 := by
  obtain ⟨xs, n, _, _, hl, hlen, hf⟩ := DataW.trod_struct ht h
  match xs, hlen with
  | [y0, y1, y2, y3, y4, y5, y6], _ => exact ⟨y0, y1, y2, y3, y4, y5, y6, n, by simpa using hf 0 f0 rfl, by simpa using hf 1 f1 rfl, by simpa using hf 2 f2 rfl, by simpa using hf 3 f3 rfl, by simpa using hf 4 f4 rfl, by simpa using hf 5 f5 rfl, by simpa using hf 6 f6 rfl⟩

theorem rows_ins : ∀ (rows : List (List Value × DataW H)), (∀ r ∈ rows, Row enc Try.prog W held 39 10 r) → ∃ ls : List Ins, rows.flatMap (·.1) = flatI ls ∧ ls.length = rows.length
  | [], _ => ⟨[], rfl, rfl⟩
  | r :: rows, h => by
    obtain ⟨ls, e, hl2⟩ := rows_ins rows (fun x hx => h x (List.mem_cons_of_mem _ hx))
    have hr := h r List.mem_cons_self
    obtain ⟨fuel, ps, ht⟩ := hr.trod
    have hl := hr.len
    obtain ⟨cs, d⟩ := r
    match cs, hl with
    | [x0, x1, x2, x3, x4, x5, x6, x7, x8, x9], _ =>
      obtain ⟨y0, y1, y2, y3, y4, y5, y6, n, g0, g1, g2, g3, g4, g5, g6⟩ := trod_struct7 Try.underlying39 ht
      have c3 : Try.prog.cellsOf 3 = 1 := by kernel_rfl
      have c48 : Try.prog.cellsOf 37 = 4 := by kernel_rfl
      have c46 : Try.prog.cellsOf 35 = 1 := by kernel_rfl
      simp only [c3, c48, List.drop_zero, List.drop_succ_cons, List.take_succ_cons, List.take_zero] at g0 g1 g2 g3 g4 g5 g6
      obtain ⟨z0, k0, _, _⟩ := DataW.trod_int Try.underlying3 g0
      obtain ⟨z1, k1, _, _⟩ := DataW.trod_int Try.underlying3 g1
      obtain ⟨z2, k2, _, _⟩ := DataW.trod_int Try.underlying3 g2
      obtain ⟨z3, k3, _, _⟩ := DataW.trod_int Try.underlying3 g3
      obtain ⟨z4, k4, _, _⟩ := DataW.trod_int Try.underlying3 g4
      obtain ⟨z5, k5, _, _⟩ := DataW.trod_int Try.underlying3 g5
      obtain ⟨_, _, _, _, _, _, q0, q1, q2, q3⟩ := trod_array4 Try.underlying37 c46 g6
      obtain ⟨s0, j0, _, _⟩ := DataW.trod_int Try.underlying35 q0
      obtain ⟨s1, j1, _, _⟩ := DataW.trod_int Try.underlying35 q1
      obtain ⟨s2, j2, _, _⟩ := DataW.trod_int Try.underlying35 q2
      obtain ⟨s3, j3, _, _⟩ := DataW.trod_int Try.underlying35 q3
      cases k0; cases k1; cases k2; cases k3; cases k4; cases k5; cases j0; cases j1; cases j2; cases j3
      refine ⟨⟨z0, z1, z2, z3, z4, z5, s0, s1, s2, s3⟩ :: ls, ?_, by simp [hl2]⟩
      rw [List.flatMap_cons, e]; rfl

theorem open_prog {v : Value} {d : DataW H} {ps : List MemPlace} {base : Nat} (hval : Value.okWide Try.prog W .any base 24 v) (hd : DataW.Trod enc Try.prog W 0 (fun _ => true) held 24 v d ps) :
    ∃ (A : Option Addr) (n cp : Nat) (gr co : Int) (fo : Bool) (ins : List Ins), v = .agg #[.slice A n cp, .int .i64 gr, .int .i64 co, .bool fo] ∧ Rd W (fun _ => True) 10 A n cp (flatI ins) ∧ cp ≤ maxLen ∧ n + 1 ≤ Rows.uptoBulk d ∧
      (-9223372036854775808 ≤ gr ∧ gr ≤ 9223372036854775807) ∧ (-9223372036854775808 ≤ co ∧ co ≤ 9223372036854775807) := by
  obtain ⟨v0, v1, v2, v3, y0, y1, y2, y3, m, rfl, rfl, _, g0, g1, g2, g3⟩ := Joins.open_agg4 Try.underlying24 (by kernel_rfl) (by kernel_rfl) hval hd
  obtain ⟨d0, p0⟩ := y0
  obtain ⟨A, n, cp, rows, rfl, hn, hrd, hd0, hm, hrow⟩ := open_cell (s := 10) Try.underlying22 (by kernel_rfl) (by omega) g0
  obtain ⟨ins, fl, _⟩ := rows_ins rows hrow
  rw [fl] at hrd
  obtain ⟨gr, h1, _, w1⟩ := DataW.trod_int Try.underlying3 g1
  obtain ⟨co, h2, _, w2⟩ := DataW.trod_int Try.underlying3 g2
  obtain ⟨fo, h3, _⟩ := DataW.trod_bool Try.underlying4 g3
  cases h1; cases h2; cases h3
  have hb := bulk_rows hd0 hn
  refine ⟨A, n, cp, gr, co, fo, ins, rfl, hrd, hm, ?_, wf_i64 w1, wf_i64 w2⟩
  simp only [Rows.uptoBulk, Rows.uptoBulkAll]
  omega
end
end Go.Proofs.Ytoadmpochaeohaa
end

section
set_option linter.unusedVariables false
set_option linter.unusedSimpArgs false
set_option maxRecDepth 100000
namespace Go.Proofs.Ytoadmpochaeohaa
open Go.RowKit Go.WideShapes Go.ChangeShapes Go.ChangeAt

section
variable {H : Type} {enc : TypeId × Value → H} {P : Program} {W : World} {held : Bool}
theorem wf_u64 {z : Int} (h : (Lit.int .u64 z).wf = true) : 0 ≤ z ∧ z ≤ 18446744073709551615 := by
  simpa [Lit.wf, IntKind.min, IntKind.max, IntKind.signed, IntKind.bits] using h
theorem rows_ok : ∀ (rows : List (List Value × DataW H)), (∀ r ∈ rows, Row enc Try.prog W held 39 10 r) → ∃ ls : List Ins, rows.flatMap (·.1) = flatI ls ∧ ls.length = rows.length ∧ ∀ i ∈ ls, i.ok
  | [], _ => ⟨[], rfl, rfl, fun i h => (by cases h)⟩
  | r :: rows, h => by
    obtain ⟨ls, e, hl2, hk2⟩ := rows_ok rows (fun x hx => h x (List.mem_cons_of_mem _ hx))
    have hr := h r List.mem_cons_self
    obtain ⟨fuel, ps, ht⟩ := hr.trod
    have hl := hr.len
    obtain ⟨cs, d⟩ := r
    match cs, hl with
    | [x0, x1, x2, x3, x4, x5, x6, x7, x8, x9], _ =>
      obtain ⟨y0, y1, y2, y3, y4, y5, y6, n, g0, g1, g2, g3, g4, g5, g6⟩ := trod_struct7 Try.underlying39 ht
      have c3 : Try.prog.cellsOf 3 = 1 := by kernel_rfl
      have c37 : Try.prog.cellsOf 37 = 4 := by kernel_rfl
      have c35 : Try.prog.cellsOf 35 = 1 := by kernel_rfl
      simp only [c3, c37, List.drop_zero, List.drop_succ_cons, List.take_succ_cons, List.take_zero] at g0 g1 g2 g3 g4 g5 g6
      obtain ⟨z0, k0, _, _⟩ := DataW.trod_int Try.underlying3 g0
      obtain ⟨z1, k1, _, _⟩ := DataW.trod_int Try.underlying3 g1
      obtain ⟨z2, k2, _, _⟩ := DataW.trod_int Try.underlying3 g2
      obtain ⟨z3, k3, _, _⟩ := DataW.trod_int Try.underlying3 g3
      obtain ⟨z4, k4, _, _⟩ := DataW.trod_int Try.underlying3 g4
      obtain ⟨z5, k5, _, _⟩ := DataW.trod_int Try.underlying3 g5
      obtain ⟨_, _, _, _, _, _, q0, q1, q2, q3⟩ := trod_array4 Try.underlying37 c35 g6
      obtain ⟨s0, j0, _, m0⟩ := DataW.trod_int Try.underlying35 q0
      obtain ⟨s1, j1, _, m1⟩ := DataW.trod_int Try.underlying35 q1
      obtain ⟨s2, j2, _, m2⟩ := DataW.trod_int Try.underlying35 q2
      obtain ⟨s3, j3, _, m3⟩ := DataW.trod_int Try.underlying35 q3
      cases k0; cases k1; cases k2; cases k3; cases k4; cases k5; cases j0; cases j1; cases j2; cases j3
      refine ⟨⟨z0, z1, z2, z3, z4, z5, s0, s1, s2, s3⟩ :: ls, ?_, by simp [hl2], fun i hi => ?_⟩
      · rw [List.flatMap_cons, e]; rfl
      · rcases List.mem_cons.1 hi with rfl | hi
        · exact ⟨wf_u64 m0, wf_u64 m1, wf_u64 m2, wf_u64 m3⟩
        · exact hk2 i hi

theorem open_prog_ok {v : Value} {d : DataW H} {ps : List MemPlace} {base : Nat} (hval : Value.okWide Try.prog W .any base 24 v) (hd : DataW.Trod enc Try.prog W 0 (fun _ => true) held 24 v d ps) :
    ∃ (A : Option Addr) (n cp : Nat) (gr co : Int) (fo : Bool) (ins : List Ins), v = .agg #[.slice A n cp, .int .i64 gr, .int .i64 co, .bool fo] ∧ Rd W (fun _ => True) 10 A n cp (flatI ins) ∧ (∀ i ∈ ins, i.ok) ∧ cp ≤ maxLen ∧ n + 1 ≤ Rows.uptoBulk d ∧
      (-9223372036854775808 ≤ gr ∧ gr ≤ 9223372036854775807) ∧ (-9223372036854775808 ≤ co ∧ co ≤ 9223372036854775807) := by
  obtain ⟨v0, v1, v2, v3, y0, y1, y2, y3, m, rfl, rfl, _, g0, g1, g2, g3⟩ := Joins.open_agg4 Try.underlying24 (by kernel_rfl) (by kernel_rfl) hval hd
  obtain ⟨d0, p0⟩ := y0
  obtain ⟨A, n, cp, rows, rfl, hn, hrd, hd0, hm, hrow⟩ := open_cell (s := 10) Try.underlying22 (by kernel_rfl) (by omega) g0
  obtain ⟨ins, fl, _, hok⟩ := rows_ok rows hrow
  rw [fl] at hrd
  obtain ⟨gr, h1, _, w1⟩ := DataW.trod_int Try.underlying3 g1
  obtain ⟨co, h2, _, w2⟩ := DataW.trod_int Try.underlying3 g2
  obtain ⟨fo, h3, _⟩ := DataW.trod_bool Try.underlying4 g3
  cases h1; cases h2; cases h3
  have hb := bulk_rows hd0 hn
  refine ⟨A, n, cp, gr, co, fo, ins, rfl, hrd, hok, hm, ?_, wf_i64 w1, wf_i64 w2⟩
  simp only [Rows.uptoBulk, Rows.uptoBulkAll]
  omega
end
end Go.Proofs.Ytoadmpochaeohaa
end
