/-
  Laws for single operations over blocks that are known whole: make, copy, clear, append; a stop at a chosen operation.
-/
import Derived.Test.YtoadmpochaeohaaPg0
import Derived.Deep.OwnRows
import Derived.Maps.AppendAt
import Derived.Lib.AppendStr
import Derived.Lib.SliceRun
import Derived.Deep.RegionLaw
import Derived.Laws.AppendOwnNone
section
set_option linter.unusedVariables false
set_option linter.unusedSimpArgs false
set_option maxRecDepth 100000
namespace Go.Proofs.Ytoadmpochaeohaa
open Go.RowKit
open Go.Lib (strCells run_firstCells_string run_append_room_string run_append_grow_string)

/-- The walk stops here. -/
def Stop (p : Prop) : Prop := p
section
variable {P : Program} {ops : Array Oper} {rest : List Oper} {o : Oper} {a : Act} {w : World} {Q : Exit → Act → World → Prop}
theorem stop_at (d : Tmp) (_ : o.dst = some d) (h : Stop (wpList P ops Q (o :: rest) a w)) : wpList P ops Q (o :: rest) a w := h
/-- make([]T, n), T of one cell. -/
theorem op_make (hg : o.guard = none) (l c : Operand) (t : TypeId) (hop : o.op = .makeSlice t l c) (e : TypeId) (z : Value) (bytes : Nat) (ht : P.underlying t = some (.slice e))
    (hinfo : (P.info? e).map (fun i => (i.zero, i.size, i.bytes)) = some (some z, 1, bytes)) (hz : z.cells = #[z]) (L : Int) (hl : a.eval l = .int .i64 L) (hc : a.eval c = .int .i64 L) (n : Nat) (hL : L = n)
    (hb : bytes * n ≤ 281474976710656) (h63 : n ≤ 9223372036854775807)
    (h : ∀ b w', New w w' b → Blk w' b (List.replicate n z) e → wpList P ops Q rest (a.put o.dst (.slice (some ⟨b, 0, none⟩) n n)) w') : wpList P ops Q (o :: rest) a w := by
  refine wpList_plain hg fun K hK => ?_
  subst hL
  have hrun := run_make_row' (P := P) t e z bytes ht hinfo hz .i64 .i64 n hb h63 w
  unfold Oper.wp
  simp only [execOp, hop, hl, hc, Sem.run_bind, hrun, Result.andThen_ok, Sem.run_pure, Oper.upon_value]
  have hm : madeCells #[z] n = (List.replicate n z).toArray := by
    apply Array.ext <;> simp [madeCells, Nat.mod_one]
  rw [hm]
  exact hK _ _ (h _ _ ⟨rfl, by simp, (Frm.refl _ _).alloc _⟩ (Blk.new _ _ _))

/-- append(v, x...), x a slice of m elements that is read. -/
theorem op_append (hgd : o.guard = none) (s x : Operand) (t : TypeId) (ho : o.op = .call { callee := .builtin .append, args := #[s, x], argTypes := #[t, t] })
    (e : TypeId) (z : Value) (size bytes : Nat) (ht : P.underlying t = some (.slice e)) (hinfo : (P.info? e).map (fun i => (i.zero, i.size, i.bytes)) = some (some z, size, bytes)) (hzs : z.cells.size = size) (hsz : 0 < size)
    {F : Nat → Prop} {v : Value} {n : Nat} {xs : List Value} (hown : Sl w F e size v n xs) (hs : a.eval s = v)
    (ad : Addr) (m c : Nat) (news : List Value) (hx : a.eval x = .slice (some ad) m c) (hl : news.length = m * size) (hnews : ∀ j u, news[j]? = some u → w.cell? (ad.add j) = some u) (h1 : ∀ u ∈ news, u.oneCell' = true)
    (h63 : n + m ≤ maxLen) (hbytes : (n + m) * bytes ≤ 140737488355328)
    (h : ∀ v' w', Frm F w w' → Sl w' (fun k => F k ∨ w.heap.size ≤ k) e size v' (n + m) (xs ++ news) → wpList P ops Q rest (a.put o.dst v') w') : wpList P ops Q (o :: rest) a w := by
  obtain ⟨i, hi, hz0, hz1, hz2⟩ := info_parts hinfo
  refine wpList_plain hgd fun K hK => ?_
  obtain ⟨v', w', hr, h2, h3, _, h4⟩ := run_append_own_at (P := P) w 0 t o.type e i z size bytes ht hi hz0 hz1 hz2 hzs hsz v n xs hown.owns ad m c news hl hnews h1 h63 hbytes (Nat.zero_le _)
  unfold Oper.wp execOp
  simp only [ho, resolve, invoke, builtin, Sem.run_bind, Sem.run_pure, Result.andThen_ok, List.map_toArray, List.map_cons, List.map_nil, hs, hx, hr]
  refine hK _ _ (h v' w' ((Frm.of_grown h3).mono fun k hk _ => (hown.own k hk.symm).1) (Sl.of_owns h2 fun g hg => ?_))
  rcases h4 with h4 | h4
  · exact .inl (hown.own g (h4 ▸ hg)).1
  · rw [h4] at hg
    injection hg with hg
    exact .inr (by omega)

/-- append(v, x...), x any slice that is read, nil too. -/
theorem op_appendRd (hgd : o.guard = none) (s x : Operand) (t : TypeId) (ho : o.op = .call { callee := .builtin .append, args := #[s, x], argTypes := #[t, t] })
    (e : TypeId) (z : Value) (size bytes : Nat) (ht : P.underlying t = some (.slice e)) (hinfo : (P.info? e).map (fun i => (i.zero, i.size, i.bytes)) = some (some z, size, bytes)) (hzs : z.cells.size = size) (hsz : 0 < size)
    {F G : Nat → Prop} {v : Value} {n : Nat} {xs : List Value} (hown : Sl w F e size v n xs) (hs : a.eval s = v)
    {A : Option Addr} {m c : Nat} {news : List Value} (hrd : Rd w G size A m c news) (hx : a.eval x = .slice A m c) (h1 : ∀ u ∈ news, u.oneCell' = true)
    (h63 : n + m ≤ maxLen) (hbytes : (n + m) * bytes ≤ 140737488355328)
    (h : ∀ v' w', Frm F w w' → Sl w' (fun k => F k ∨ w.heap.size ≤ k) e size v' (n + m) (xs ++ news) → wpList P ops Q rest (a.put o.dst v') w') : wpList P ops Q (o :: rest) a w := by
  rcases A with _ | ad
  · obtain ⟨rfl, rfl⟩ := hrd.none_ rfl
    obtain rfl : news = [] := List.eq_nil_of_length_eq_zero (by simpa using hrd.len)
    obtain ⟨i, hi, hz0, hz1, hz2⟩ := info_parts hinfo
    refine wpList_append_own_none hgd s x t ho 0 e i size ht hi v n xs hs hown.owns hx ?_
    exact h v w (Frm.refl _ _) (by simpa using hown.mono fun k h _ => .inl h)
  · refine op_append hgd s x t ho e z size bytes ht hinfo hzs hsz hown hs ad m c news hx hrd.len (fun j u hj => ?_) h1 h63 hbytes h
    have hm : 0 < m := by
      rcases Nat.eq_zero_or_pos m with h0 | h0
      · subst h0
        have := hrd.len
        simp at this
        subst this
        simp at hj
      · exact h0
    obtain ⟨b, off, hA, _, _, hc⟩ := hrd.at_ hm
    injection hA with hA
    subst hA
    have : (⟨b, off, none⟩ : Addr).add j = ⟨b, off + j, none⟩ := by unfold Addr.add; split <;> simp_all
    rw [this]
    exact hc j u hj

/-- What a result is when the function leaves. -/
def RV (P : Program) (tmps : Array Value) (w : World) (r : ResultVar) (v : Value) : Prop :=
  (match r with | .tmp t => (pure (tmps.getD t undef) : Sem Value) | .cell a t => do loadVar t (← asAddr (tmps.getD a undef))).run P w = .ok v w
theorem RV.tmp {tmps : Array Value} {t : Tmp} {v : Value} (h : tmps.getD t undef = v) : RV P tmps w (.tmp t) v := by simp [RV, h]
theorem RV.cell {tmps : Array Value} {p : Tmp} {ty : TypeId} {g : Nat} {cs : List Value} {t : TypeId} {d : TypeDesc} (hp : tmps.getD p undef = .pointer (some ⟨g, 0, none⟩)) (hg : Blk w g cs t)
    (hu : P.underlying ty = some d) (hd : (match d with | .struct _ | .array _ _ => true | _ => false) = true) (hi : (P.info? ty).map (·.size) = some cs.length) : RV P tmps w (.cell p ty) (.agg cs.toArray) := by
  simp only [RV, hp, asAddr, Sem.run_bind, Sem.run_pure, Result.andThen_ok]
  exact run_loadVar_row w g t ty cs.toArray (0, 0) d hg.out hu hd (by simpa using hi)
theorem results_one {fn : Func} {r : ResultVar} {v : Value} {tmps : Array Value} (h : fn.results = #[r]) (hv : RV P tmps w r v) : (results fn tmps).run P w = .ok v w := by
  unfold results
  rw [h]
  unfold RV at hv
  simp only [List.mapM_toArray, List.mapM_cons, List.mapM_nil, Sem.run_bind, Sem.run_map]
  cases r <;> simp_all
theorem results_two {fn : Func} {r r2 : ResultVar} {v v2 : Value} {tmps : Array Value} (h : fn.results = #[r, r2]) (hv : RV P tmps w r v) (hv2 : RV P tmps w r2 v2) : (results fn tmps).run P w = .ok (.tuple #[v, v2]) w := by
  unfold results
  rw [h]
  unfold RV at hv hv2
  simp only [List.mapM_toArray, List.mapM_cons, List.mapM_nil, Sem.run_bind, Sem.run_map]
  cases r <;> cases r2 <;> simp_all
theorem results_three {fn : Func} {r r2 r3 : ResultVar} {v v2 v3 : Value} {tmps : Array Value} (h : fn.results = #[r, r2, r3]) (hv : RV P tmps w r v) (hv2 : RV P tmps w r2 v2) (hv3 : RV P tmps w r3 v3) : (results fn tmps).run P w = .ok (.tuple #[v, v2, v3]) w := by
  unfold results
  rw [h]
  unfold RV at hv hv2 hv3
  simp only [List.mapM_toArray, List.mapM_cons, List.mapM_nil, Sem.run_bind, Sem.run_map]
  cases r <;> cases r2 <;> cases r3 <;> simp_all

/-- A call of a Go function as a step of a region that draws its order ('go_region_law'). -/
theorem step_call {K : Act → World → Prop} {E : Prop} {f : FuncId} {fn : Func} {ais : Array Operand} {ts : Array TypeId} (hg : o.guard = none) (hop : o.op = .call { callee := .value (.func f), args := ais, argTypes := ts })
    (hf : P.funcs[f]? = some fn) (hname : (fn.name == "runtime.NumGoroutine") = false) (hb : fn.body.isSome = true) (args : Array Value) (hargs : ais.map a.eval = args)
    (h : Calls P f args w fun e w' => ∃ v, e = .returned v ∧ K (a.put o.dst v) w') : if Region.wanted o (yielded ops a.tmps) = true then Oper.wp P o a w K Q else E := by
  have hw : Region.wanted o (yielded ops a.tmps) = true := by simp [Region.wanted, hg]
  have h1 : fn.name ≠ "runtime.NumGoroutine" := by simpa using hname
  obtain ⟨c, hc⟩ := Option.isSome_iff_exists.1 hb
  have he : (callFunc f args).run P w = .ok (.enter f args) w := by simp [callFunc, hf, h1, hc]
  have hrun : (execOp a.eval o).run P w = .ok (.enter f args) w := by
    unfold execOp
    simp [hop, resolve, Deferred.ofValue, invoke, Act.eval, hargs, he]
  rw [if_pos hw]
  unfold Oper.wp
  rw [hrun, Oper.upon_enter]
  refine h.mono fun e w'' hh => ?_
  obtain ⟨v, rfl, hk⟩ := hh
  exact hk

/-- append(v, x...) as a step of such a region. -/
theorem step_append {K : Act → World → Prop} {E : Prop} (hgd : o.guard = none) (s x : Operand) (t : TypeId) (ho : o.op = .call { callee := .builtin .append, args := #[s, x], argTypes := #[t, t] })
    (e : TypeId) (z : Value) (size bytes : Nat) (ht : P.underlying t = some (.slice e)) (hinfo : (P.info? e).map (fun i => (i.zero, i.size, i.bytes)) = some (some z, size, bytes)) (hzs : z.cells.size = size) (hsz : 0 < size)
    {F : Nat → Prop} {v : Value} {n : Nat} {xs : List Value} (hown : Sl w F e size v n xs) (hs : a.eval s = v)
    (ad : Addr) (m c : Nat) (news : List Value) (hx : a.eval x = .slice (some ad) m c) (hl : news.length = m * size) (hnews : ∀ j u, news[j]? = some u → w.cell? (ad.add j) = some u) (h1 : ∀ u ∈ news, u.oneCell' = true)
    (h63 : n + m ≤ maxLen) (hbytes : (n + m) * bytes ≤ 140737488355328)
    (h : ∀ v' w', Frm F w w' → Sl w' (fun k => F k ∨ w.heap.size ≤ k) e size v' (n + m) (xs ++ news) → K (a.put o.dst v') w') : if Region.wanted o (yielded ops a.tmps) = true then Oper.wp P o a w K Q else E := by
  have hw : Region.wanted o (yielded ops a.tmps) = true := by simp [Region.wanted, hgd]
  rw [if_pos hw]
  obtain ⟨i, hi, hz0, hz1, hz2⟩ := info_parts hinfo
  obtain ⟨v', w', hr, h2, h3, _, h4⟩ := run_append_own_at (P := P) w 0 t o.type e i z size bytes ht hi hz0 hz1 hz2 hzs hsz v n xs hown.owns ad m c news hl hnews h1 h63 hbytes (Nat.zero_le _)
  unfold Oper.wp execOp
  simp only [ho, resolve, invoke, builtin, Sem.run_bind, Sem.run_pure, Result.andThen_ok, List.map_toArray, List.map_cons, List.map_nil, hs, hx, hr]
  refine h v' w' ((Frm.of_grown h3).mono fun k hk _ => (hown.own k hk.symm).1) (Sl.of_owns h2 fun g hg => ?_)
  rcases h4 with h4 | h4
  · exact .inl (hown.own g (h4 ▸ hg)).1
  · rw [h4] at hg
    injection hg with hg
    exact .inr (by omega)
end
end Go.Proofs.Ytoadmpochaeohaa
end
