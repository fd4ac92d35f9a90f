/-
  An argument that is a slice, opened element by element, whatever the elements are; what the bound of the second form gives.
-/
import Derived.Test.YtoadmpochaeohaaLaw
set_option linter.unusedVariables false
set_option linter.unusedSimpArgs false
set_option maxRecDepth 100000
namespace Go.Proofs.Ytoadmpochaeohaa
open Go.RowKit Go.WideShapes Go.ChangeShapes Go.ChangeAt

theorem addr_add (b o s : Nat) : (⟨b, o, none⟩ : Addr).add s = ⟨b, o + s, none⟩ := by unfold Addr.add; split <;> simp_all

theorem flat_get {α β : Type} {f : α → List β} {s : Nat} : ∀ (l : List α), (∀ x ∈ l, (f x).length = s) → 0 < s → ∀ (i j : Nat) (x : α), l[i]? = some x → j < s → (l.flatMap f)[i * s + j]? = (f x)[j]?
  | [], _, _, i, j, x, h, _ => by simp at h
  | y :: l, hs, h0, 0, j, x, h, hj => by
    simp at h; subst h
    rw [List.flatMap_cons, Nat.zero_mul, Nat.zero_add, List.getElem?_append_left (by rw [hs y List.mem_cons_self]; exact hj)]
  | y :: l, hs, h0, i + 1, j, x, h, hj => by
    rw [List.flatMap_cons, List.getElem?_append_right (by rw [hs y List.mem_cons_self, Nat.succ_mul]; omega), hs y List.mem_cons_self, show (i + 1) * s + j - s = i * s + j by rw [Nat.succ_mul]; omega]
    exact flat_get l (fun x hx => hs x (List.mem_cons_of_mem _ hx)) h0 i j x (by simpa using h) hj

section
variable {H : Type} {enc : TypeId × Value → H} {P : Program} {W : World} {held : Bool}

/-- An element's cells and its datum. -/
structure Row (enc : TypeId × Value → H) (P : Program) (W : World) (held : Bool) (e : TypeId) (s : Nat) (r : List Value × DataW H) : Prop where
  len : r.1.length = s
  trod : ∃ fuel ps, DataW.trod enc P W 0 (fun _ => true) held fuel e r.1 = some (r.2, ps)

theorem flat_len {α β : Type} {f : α → List β} {s : Nat} : ∀ (l : List α), (∀ x ∈ l, (f x).length = s) → (l.flatMap f).length = l.length * s
  | [], _ => by simp
  | y :: l, h => by rw [List.flatMap_cons, List.length_append, h y List.mem_cons_self, flat_len l (fun x hx => h x (List.mem_cons_of_mem _ hx)), List.length_cons, Nat.succ_mul]; omega

theorem open_rows {t e : TypeId} {v : Value} {d : DataW H} {ps : List MemPlace} {s base : Nat} (ht : P.underlying t = some (.slice e)) (hs : P.cellsOf e = s) (hs0 : 0 < s) (hval : Value.okWide P W .any base t v) (hd : DataW.Trod enc P W 0 (fun _ => true) held t v d ps) :
    ∃ (A : Option Addr) (n c : Nat) (rows : List (List Value × DataW H)), v = .slice A n c ∧ rows.length = n ∧ Rd W (fun _ => True) s A n c (rows.flatMap (·.1)) ∧
      ((d = .nil ∧ n = 0) ∨ ∃ sp, d = .slice (rows.map (·.2)) sp) ∧ c ≤ maxLen ∧ ∀ r ∈ rows, Row enc P W held e s r := by
  obtain ⟨fuel, hf⟩ := hd
  obtain ⟨A, n, c, rfl⟩ := okWide_slice ht hval
  rcases DataW.trod_slice ht hf with ⟨hc, hx⟩ | ⟨a, len, cap, elems, rest, m, _, hc, hx, hb, hl, hm, hlen, hel, hsp, hns⟩
  · simp only [Value.cells, List.cons.injEq, Value.slice.injEq, and_true] at hc
    obtain ⟨rfl, rfl, rfl⟩ := hc
    simp only [Prod.mk.injEq] at hx
    exact ⟨none, 0, 0, [], rfl, rfl, ⟨by simp, Nat.le_refl _, fun _ => ⟨rfl, rfl⟩, fun h => absurd h (Nat.lt_irrefl _)⟩, .inl ⟨hx.1, rfl⟩, by simp [maxLen], by simp⟩
  · simp only [Value.cells, List.cons.injEq, Value.slice.injEq, and_true] at hc
    obtain ⟨rfl, rfl, rfl⟩ := hc
    simp only [Prod.mk.injEq] at hx
    have each : ∀ i, i < n → ∃ cs y, W.cells? 0 (a.add (i * s)) s = some cs ∧ elems[i]? = some y ∧ DataW.trod enc P W 0 (fun _ => true) held m e cs = some y := by
      intro i hi
      have h := hel i hi
      rw [hs, List.getElem?_eq_getElem (by omega)] at h
      obtain ⟨cs, h1, h2⟩ := Option.bind_eq_some_iff.1 h
      exact ⟨cs, elems[i], h1, List.getElem?_eq_getElem (by omega), h2⟩
    obtain ⟨css, hcl, hcc⟩ : ∃ css : List (List Value), css.length = n ∧ ∀ i, i < n → ∃ cs y, css[i]? = some cs ∧ W.cells? 0 (a.add (i * s)) s = some cs ∧ elems[i]? = some y ∧ DataW.trod enc P W 0 (fun _ => true) held m e cs = some y := by
      refine ⟨(List.range n).map fun i => (W.cells? 0 (a.add (i * s)) s).getD [], by simp, fun i hi => ?_⟩
      obtain ⟨cs, y, h1, h2, h3⟩ := each i hi
      exact ⟨cs, y, by simp [hi, h1], h1, h2, h3⟩
    have hz : (css.zip (elems.map (·.1))).length = n := by simp [hcl, hlen]
    have hz1 : (css.zip (elems.map (·.1))).map (·.1) = css := by rw [List.map_fst_zip]; simp [hcl, hlen]
    have hz2 : (css.zip (elems.map (·.1))).map (·.2) = elems.map (·.1) := by rw [List.map_snd_zip]; simp [hcl, hlen]
    have hlens : ∀ x ∈ css, x.length = s := by
      intro x hx'
      obtain ⟨i, hi⟩ := List.getElem?_of_mem hx'
      have hin : i < n := by have := (List.getElem?_eq_some_iff.1 hi).1; omega
      obtain ⟨cs, y, g1, g2, _, _⟩ := hcc i hin
      rw [hi] at g1; injection g1 with g1; subst g1
      exact (World.cells?_some g2).2.1
    have hrows : ∀ r ∈ css.zip (elems.map (·.1)), Row enc P W held e s r := by
      intro r hr
      obtain ⟨i, hi⟩ := List.getElem?_of_mem hr
      have hin : i < n := by have := (List.getElem?_eq_some_iff.1 hi).1; omega
      obtain ⟨cs, y, g1, g2, g3, g4⟩ := hcc i hin
      have : (css.zip (elems.map (·.1)))[i]? = some (cs, y.1) := by rw [List.getElem?_zip_eq_some]; exact ⟨g1, by rw [List.getElem?_map, g3]; rfl⟩
      rw [hi] at this; injection this with this; subst this
      exact ⟨(World.cells?_some g2).2.1, ⟨m, y.2, g4⟩⟩
    refine ⟨some a, n, c, css.zip (elems.map (·.1)), rfl, hz, ⟨?_, hl, fun h => (by cases h), fun hn => ?_⟩, .inr ⟨_, by rw [hz2]; exact hx.1⟩, hm, hrows⟩
    · rw [flat_len _ (fun r hr => (hrows r hr).len), hz]
    · obtain ⟨cs, y, g1, g2, _, _⟩ := hcc 0 hn
      have hcell := (World.cells?_some g2).2.2 0 hs0
      have hlen0 := (World.cells?_some g2).2.1
      rw [List.getElem?_eq_getElem (by omega)] at hcell
      simp only [Nat.zero_mul] at hcell
      have ha0 : (a.add 0).add 0 = a := by simp [Addr.add]
      rw [ha0] at hcell
      have hsp0 := World.cell?_spot hcell
      obtain ⟨b, o, q⟩ := a
      simp only at hsp0
      subst hsp0
      refine ⟨b, o, rfl, trivial, World.block_lt_of_cell? W _ hcell, fun j u hj => ?_⟩
      have hjl := (List.getElem?_eq_some_iff.1 hj).1
      rw [flat_len _ (fun r hr => (hrows r hr).len), hz] at hjl
      have hdiv : j / s < n := by rw [Nat.div_lt_iff_lt_mul hs0]; exact hjl
      obtain ⟨cs', y', k1, k2, k3, _⟩ := hcc (j / s) hdiv
      have hjs : j = j / s * s + j % s := by rw [Nat.mul_comm]; exact (Nat.div_add_mod j s).symm
      have hm' : j % s < s := Nat.mod_lt _ hs0
      have hzj : (css.zip (elems.map (·.1)))[j / s]? = some (cs', y'.1) := by rw [List.getElem?_zip_eq_some]; exact ⟨k1, by rw [List.getElem?_map, k3]; rfl⟩
      have hget := flat_get (f := fun r : List Value × DataW H => r.1) _ (fun r hr => (hrows r hr).len) hs0 (j / s) (j % s) _ hzj hm'
      rw [← hjs, hj] at hget
      have hc2 := (World.cells?_some k2).2.2 (j % s) hm'
      rw [addr_add, addr_add, Nat.add_assoc, ← hjs] at hc2
      rw [hc2, ← hget]

theorem rows_str {e : TypeId} (he : P.underlying e = some .string) : ∀ (rows : List (List Value × DataW H)), (∀ r ∈ rows, Row enc P W held e 1 r) → ∃ ss : List ByteArray, rows = ss.map fun s => ([Value.string s], DataW.lit (.string s.data.toList))
  | [], _ => ⟨[], rfl⟩
  | r :: rows, h => by
    obtain ⟨ss, rfl⟩ := rows_str he rows (fun x hx => h x (List.mem_cons_of_mem _ hx))
    obtain ⟨fuel, ps, hr⟩ := (h r List.mem_cons_self).trod
    obtain ⟨s, h1, h2, _⟩ := DataW.trod_string he hr
    simp only [Prod.mk.injEq] at h2
    exact ⟨s :: ss, by obtain ⟨a, b⟩ := r; simp only at h1 h2; simp [h1, h2.1]⟩
theorem rows_int {e : TypeId} {k : IntKind} (he : P.underlying e = some (.int k)) : ∀ (rows : List (List Value × DataW H)), (∀ r ∈ rows, Row enc P W held e 1 r) → ∃ zs : List Int, (rows = zs.map fun z => ([Value.int k z], DataW.lit (.int k z))) ∧ ∀ z ∈ zs, (Lit.int k z).wf = true
  | [], _ => ⟨[], rfl, by simp⟩
  | r :: rows, h => by
    obtain ⟨zs, rfl, hz⟩ := rows_int he rows (fun x hx => h x (List.mem_cons_of_mem _ hx))
    obtain ⟨fuel, ps, hr⟩ := (h r List.mem_cons_self).trod
    obtain ⟨z, h1, h2, h3⟩ := DataW.trod_int he hr
    simp only [Prod.mk.injEq] at h2
    exact ⟨z :: zs, by obtain ⟨a, b⟩ := r; simp only at h1 h2; simp [h1, h2.1], fun y hy => by rcases List.mem_cons.1 hy with rfl | hy; exact h3; exact hz y hy⟩
theorem rows_bool {e : TypeId} (he : P.underlying e = some .bool) : ∀ (rows : List (List Value × DataW H)), (∀ r ∈ rows, Row enc P W held e 1 r) → ∃ bs : List Bool, rows = bs.map fun b => ([Value.bool b], DataW.lit (.bool b))
  | [], _ => ⟨[], rfl⟩
  | r :: rows, h => by
    obtain ⟨ss, rfl⟩ := rows_bool he rows (fun x hx => h x (List.mem_cons_of_mem _ hx))
    obtain ⟨fuel, ps, hr⟩ := (h r List.mem_cons_self).trod
    obtain ⟨s, h1, h2⟩ := DataW.trod_bool he hr
    simp only [Prod.mk.injEq] at h2
    exact ⟨s :: ss, by obtain ⟨a, b⟩ := r; simp only at h1 h2; simp [h1, h2.1]⟩
theorem flat_one {α : Type} (f : α → Value) (g : α → DataW H) (l : List α) : (l.map fun x => ([f x], g x)).flatMap (·.1) = l.map f := by
  induction l with
  | nil => rfl
  | cons x l ih => simp [ih]

theorem bulk_one (d : DataW H) : 1 ≤ Rows.uptoBulk d := by
  cases d with
  | lit l => cases l <;> simp [Rows.uptoBulk]
  | nil => simp [Rows.uptoBulk]
  | ptr d => simp [Rows.uptoBulk]
  | slice elems spare => simp [Rows.uptoBulk]
  | agg parts => simp [Rows.uptoBulk]
  | iface t d => simp [Rows.uptoBulk]
  | map entries => simp [Rows.uptoBulk]
  | held h => simp [Rows.uptoBulk]
theorem bulk_len (l : List (DataW H)) : l.length ≤ Rows.uptoBulkAll l := by
  induction l with
  | nil => simp [Rows.uptoBulkAll]
  | cons x r ih => have := bulk_one x; simp only [Rows.uptoBulkAll, List.length_cons]; omega
theorem bulk_rows {n : Nat} {rows : List (List Value × DataW H)} {d : DataW H} (hd : (d = .nil ∧ n = 0) ∨ ∃ sp, d = .slice (rows.map (·.2)) sp) (hn : rows.length = n) : n + 1 ≤ Rows.uptoBulk d := by
  rcases hd with ⟨rfl, rfl⟩ | ⟨sp, rfl⟩
  · simp [Rows.uptoBulk]
  · have := bulk_len (rows.map (·.2))
    simp only [Rows.uptoBulk, List.length_map] at *; omega
theorem bulk_strs {n : Nat} {ss : List ByteArray} {d : DataW H} (hd : (d = .nil ∧ n = 0) ∨ ∃ sp, d = .slice ((ss.map fun s => ([Value.string s], DataW.lit (H := H) (.string s.data.toList))).map (·.2)) sp) (hn : ss.length = n) :
    (ss.map fun s => s.size).sum + n + 1 ≤ Rows.uptoBulk d := by
  have key : ∀ l : List ByteArray, Rows.uptoBulkAll ((l.map fun s => ([Value.string s], DataW.lit (H := H) (.string s.data.toList))).map (·.2)) = (l.map fun s => s.size).sum + l.length := by
    intro l
    induction l with
    | nil => simp [Rows.uptoBulkAll]
    | cons x r ih => simp only [List.map_cons, Rows.uptoBulkAll, ih, Rows.uptoBulk, List.sum_cons, List.length_cons]; simp; omega
  rcases hd with ⟨rfl, rfl⟩ | ⟨sp, rfl⟩
  · obtain rfl : ss = [] := List.eq_nil_of_length_eq_zero hn
    simp [Rows.uptoBulk]
  · have := key ss
    simp only [Rows.uptoBulk] at *; omega
end
end Go.Proofs.Ytoadmpochaeohaa
