/-
  Laws for single operations over blocks that are known whole: make, copy, clear, append; a stop at a chosen operation.
-/
import Derived.Test.YtoadmpochaeohaaPa0
import Derived.Deep.OwnRows
import Derived.Maps.AppendAt
import Derived.Lib.AppendStr
import Derived.Lib.SliceRun
import Derived.Deep.RegionLaw
import Derived.Laws.AppendOwnNone
section
set_option linter.unusedVariables false
set_option linter.unusedSimpArgs false
set_option maxRecDepth 100000
namespace Go.Proofs.Ytoadmpochaeohaa
open Go.RowKit
open Go.Lib (strCells run_firstCells_string run_append_room_string run_append_grow_string)

/-- The walk stops here. -/
def Stop (p : Prop) : Prop := p
section
variable {P : Program} {ops : Array Oper} {rest : List Oper} {o : Oper} {a : Act} {w : World} {Q : Exit → Act → World → Prop}
theorem stop_at (d : Tmp) (_ : o.dst = some d) (h : Stop (wpList P ops Q (o :: rest) a w)) : wpList P ops Q (o :: rest) a w := h
theorem stop_clear (s : Operand) (t : TypeId) (_ : o.op = .call { callee := .builtin .clear, args := #[s], argTypes := #[t] }) (h : Stop (wpList P ops Q (o :: rest) a w)) : wpList P ops Q (o :: rest) a w := h
theorem go_on (h : wpList P ops Q (o :: rest) a w) : Stop (wpList P ops Q (o :: rest) a w) := h

/-- make([]T, n), T of one cell. -/
theorem op_make (hg : o.guard = none) (l c : Operand) (t : TypeId) (hop : o.op = .makeSlice t l c) (e : TypeId) (z : Value) (bytes : Nat) (ht : P.underlying t = some (.slice e))
    (hinfo : (P.info? e).map (fun i => (i.zero, i.size, i.bytes)) = some (some z, 1, bytes)) (hz : z.cells = #[z]) (L : Int) (hl : a.eval l = .int .i64 L) (hc : a.eval c = .int .i64 L) (n : Nat) (hL : L = n)
    (hb : bytes * n ≤ 281474976710656) (h63 : n ≤ 9223372036854775807)
    (h : ∀ b w', New w w' b → Blk w' b (List.replicate n z) e → wpList P ops Q rest (a.put o.dst (.slice (some ⟨b, 0, none⟩) n n)) w') : wpList P ops Q (o :: rest) a w := by
  refine wpList_plain hg fun K hK => ?_
  subst hL
  have hrun := run_make_row' (P := P) t e z bytes ht hinfo hz .i64 .i64 n hb h63 w
  unfold Oper.wp
  simp only [execOp, hop, hl, hc, Sem.run_bind, hrun, Result.andThen_ok, Sem.run_pure, Oper.upon_value]
  have hm : madeCells #[z] n = (List.replicate n z).toArray := by
    apply Array.ext <;> simp [madeCells, Nat.mod_one]
  rw [hm]
  exact hK _ _ (h _ _ ⟨rfl, by simp, (Frm.refl _ _).alloc _⟩ (Blk.new _ _ _))

/-- copy(dst, src), both slices of elements of one cell; dst lies in a block that is known whole. -/
theorem op_copy (hgd : o.guard = none) (d s : Operand) (dT sT : TypeId)
    (ho : o.op = .call { callee := .builtin .copy, args := #[d, s], argTypes := #[dT, sT] }) (elem : TypeId) (hu : P.underlying dT = some (.slice elem)) (hsz : (P.info? elem).map (·.size) = some 1)
    (dp sp : Option Addr) (dLen dCap sLen sCap : Nat) (hd : a.eval d = .slice dp dLen dCap) (hs : a.eval s = .slice sp sLen sCap)
    (g off : Nat) (cur : List Value) (t : TypeId) (hg : Blk w g cur t) (cs : List Value) (hn : cs.length = Nat.min sLen dLen)
    (hpos : 0 < cs.length → dp = some ⟨g, off, none⟩ ∧ ∃ ad, sp = some ad ∧ ∀ j v, cs[j]? = some v → w.cell? (ad.add j) = some v)
    (hfit : off + cs.length ≤ cur.length) (h1 : ∀ v ∈ cs, v.oneCell' = true)
    (h : ∀ w', Frm (fun k => k = g) w w' → w'.heap.size = w.heap.size → Blk w' g (cur.take off ++ cs ++ cur.drop (off + cs.length)) t → wpList P ops Q rest (a.put o.dst (goInt cs.length)) w') :
    wpList P ops Q (o :: rest) a w := by
  by_cases h0 : cs.length = 0
  · obtain rfl : cs = [] := List.eq_nil_of_length_eq_zero h0
    refine wpList_copy_nothing hgd d s dT sT ho elem hu hsz dp sp dLen dCap sLen sCap hd hs (by simpa using hn.symm) ?_
    exact h w (Frm.refl _ _) rfl (by simpa using hg)
  · obtain ⟨rfl, ad, rfl, hsrc⟩ := hpos (by omega)
    refine wpList_copy_own hgd d s dT sT ho elem hu hsz g off dLen dCap ad sLen sCap hd hs cur.toArray t hg.out cs hn hsrc (by simpa using hfit) h1 ?_
    rw [show cur.toArray.toList.take off ++ (cs ++ cur.toArray.toList.drop (off + cs.length)) = cur.take off ++ cs ++ cur.drop (off + cs.length) by simp]
    exact h _ ((Frm.refl _ _).row _ _ (fun _ => rfl)) (by simp) (hg.row _)

theorem run_copy_str (dT sT ty elem : TypeId) (g off dLen dCap : Nat) (b : ByteArray) (cur : List Value) (t : TypeId)
    (hu : P.underlying dT = some (.slice elem)) (hs : (P.info? elem).map (·.size) = some 1) (hg : Blk w g cur t) (hle : b.size ≤ dLen) (hfit : off + b.size ≤ cur.length) :
    (Builtin.copy_ #[dT, sT] ty #[.slice (some ⟨g, off, none⟩) dLen dCap, .string b]).run P w =
      .ok (goInt b.size) (w.setRow g (cur.take off ++ b.data.toList.map B8 ++ cur.drop (off + b.size)).toArray) := by
  have hmin : Nat.min b.size dLen = b.size := Nat.min_eq_left hle
  have hl : (b.data.toList.map B8).length = b.size := by simp
  have hst := run_storeCells_at P g off t (b.data.toList.map B8) 0 cur.toArray w hg.out (by simpa [hl] using hfit) (by intro v hv; obtain ⟨x, _, rfl⟩ := List.mem_map.1 hv; rfl)
  simp only [Nat.add_zero, hl] at hst
  have hx : List.take b.size (List.map (fun x => Value.int .u8 (x.toNat : Int)) b.data.toList) = b.data.toList.map B8 := by
    rw [List.take_of_length_le (by simp)]
    rfl
  cases hq : P.info? elem with
  | none => simp [hq] at hs
  | some i =>
    simp only [Builtin.copy_]
    simp [run_underlying hu, Builtin.lenOf, Builtin.firstCells, sizeOf, typeInfo, hq, hmin, hx, hst, ByteArray.data_extract]

/-- copy(dst, s), s a string that fits. -/
theorem op_copyS (hgd : o.guard = none) (d s : Operand) (dT sT : TypeId)
    (ho : o.op = .call { callee := .builtin .copy, args := #[d, s], argTypes := #[dT, sT] }) (elem : TypeId) (hu : P.underlying dT = some (.slice elem)) (hsz : (P.info? elem).map (·.size) = some 1)
    (dp : Option Addr) (dLen dCap : Nat) (b : ByteArray) (hd : a.eval d = .slice dp dLen dCap) (hs : a.eval s = .string b)
    (g off : Nat) (cur : List Value) (t : TypeId) (hg : Blk w g cur t) (hle : b.size ≤ dLen) (hpos : 0 < b.size → dp = some ⟨g, off, none⟩) (hfit : off + b.size ≤ cur.length)
    (h : ∀ w', Frm (fun k => k = g) w w' → w'.heap.size = w.heap.size → Blk w' g (cur.take off ++ b.data.toList.map B8 ++ cur.drop (off + b.size)) t → wpList P ops Q rest (a.put o.dst (goInt b.size)) w') :
    wpList P ops Q (o :: rest) a w := by
  by_cases h0 : b.size = 0
  · have hb : b.data.toList = [] := List.eq_nil_of_length_eq_zero (by simpa using h0)
    have h' := h w (Frm.refl _ _) rfl (by simpa [hb, h0] using hg)
    rw [h0] at h'
    refine wpList_plain hgd fun K hK => ?_
    have hrun : (Builtin.copy_ #[dT, sT] o.type #[.slice dp dLen dCap, .string b]).run P w = .ok (goInt 0) w := by
      cases hq : P.info? elem with
      | none => simp [hq] at hsz
      | some i =>
        have hm : Nat.min 0 dLen = 0 := Nat.zero_min _
        simp only [Builtin.copy_]
        cases dp <;> simp [run_underlying hu, Builtin.lenOf, Builtin.firstCells, sizeOf, typeInfo, hq, h0, hm, storeCells, hb]
    unfold Oper.wp
    simp [execOp, ho, resolve, invoke, builtin, hd, hs, hrun, Result.andThen]
    exact hK _ _ h'
  · obtain rfl := hpos (by omega)
    refine wpList_plain hgd fun K hK => ?_
    have hrun := run_copy_str (P := P) (w := w) dT sT o.type elem g off dLen dCap b cur t hu hsz hg hle hfit
    unfold Oper.wp
    simp [execOp, ho, resolve, invoke, builtin, hd, hs, hrun, Result.andThen]
    refine hK _ _ ?_
    have := h _ ((Frm.refl _ _).row g _ (fun _ => rfl)) (by simp) (hg.row (cur.take off ++ b.data.toList.map B8 ++ cur.drop (off + b.size)))
    simpa using this

/-- append(v, x...), x a slice of m elements that is read. -/
theorem op_append (hgd : o.guard = none) (s x : Operand) (t : TypeId) (ho : o.op = .call { callee := .builtin .append, args := #[s, x], argTypes := #[t, t] })
    (e : TypeId) (z : Value) (size bytes : Nat) (ht : P.underlying t = some (.slice e)) (hinfo : (P.info? e).map (fun i => (i.zero, i.size, i.bytes)) = some (some z, size, bytes)) (hzs : z.cells.size = size) (hsz : 0 < size)
    {F : Nat → Prop} {v : Value} {n : Nat} {xs : List Value} (hown : Sl w F e size v n xs) (hs : a.eval s = v)
    (ad : Addr) (m c : Nat) (news : List Value) (hx : a.eval x = .slice (some ad) m c) (hl : news.length = m * size) (hnews : ∀ j u, news[j]? = some u → w.cell? (ad.add j) = some u) (h1 : ∀ u ∈ news, u.oneCell' = true)
    (h63 : n + m ≤ maxLen) (hbytes : (n + m) * bytes ≤ 140737488355328)
    (h : ∀ v' w', Frm F w w' → Sl w' (fun k => F k ∨ w.heap.size ≤ k) e size v' (n + m) (xs ++ news) → wpList P ops Q rest (a.put o.dst v') w') : wpList P ops Q (o :: rest) a w := by
  obtain ⟨i, hi, hz0, hz1, hz2⟩ := info_parts hinfo
  refine wpList_plain hgd fun K hK => ?_
  obtain ⟨v', w', hr, h2, h3, _, h4⟩ := run_append_own_at (P := P) w 0 t o.type e i z size bytes ht hi hz0 hz1 hz2 hzs hsz v n xs hown.owns ad m c news hl hnews h1 h63 hbytes (Nat.zero_le _)
  unfold Oper.wp execOp
  simp only [ho, resolve, invoke, builtin, Sem.run_bind, Sem.run_pure, Result.andThen_ok, List.map_toArray, List.map_cons, List.map_nil, hs, hx, hr]
  refine hK _ _ (h v' w' ((Frm.of_grown h3).mono fun k hk _ => (hown.own k hk.symm).1) (Sl.of_owns h2 fun g hg => ?_))
  rcases h4 with h4 | h4
  · exact .inl (hown.own g (h4 ▸ hg)).1
  · rw [h4] at hg
    injection hg with hg
    exact .inr (by omega)

/-- append(v, x...), x any slice that is read, nil too. -/
theorem op_appendRd (hgd : o.guard = none) (s x : Operand) (t : TypeId) (ho : o.op = .call { callee := .builtin .append, args := #[s, x], argTypes := #[t, t] })
    (e : TypeId) (z : Value) (size bytes : Nat) (ht : P.underlying t = some (.slice e)) (hinfo : (P.info? e).map (fun i => (i.zero, i.size, i.bytes)) = some (some z, size, bytes)) (hzs : z.cells.size = size) (hsz : 0 < size)
    {F G : Nat → Prop} {v : Value} {n : Nat} {xs : List Value} (hown : Sl w F e size v n xs) (hs : a.eval s = v)
    {A : Option Addr} {m c : Nat} {news : List Value} (hrd : Rd w G size A m c news) (hx : a.eval x = .slice A m c) (h1 : ∀ u ∈ news, u.oneCell' = true)
    (h63 : n + m ≤ maxLen) (hbytes : (n + m) * bytes ≤ 140737488355328)
    (h : ∀ v' w', Frm F w w' → Sl w' (fun k => F k ∨ w.heap.size ≤ k) e size v' (n + m) (xs ++ news) → wpList P ops Q rest (a.put o.dst v') w') : wpList P ops Q (o :: rest) a w := by
  rcases A with _ | ad
  · obtain ⟨rfl, rfl⟩ := hrd.none_ rfl
    obtain rfl : news = [] := List.eq_nil_of_length_eq_zero (by simpa using hrd.len)
    obtain ⟨i, hi, hz0, hz1, hz2⟩ := info_parts hinfo
    refine wpList_append_own_none hgd s x t ho 0 e i size ht hi v n xs hs hown.owns hx ?_
    exact h v w (Frm.refl _ _) (by simpa using hown.mono fun k h _ => .inl h)
  · refine op_append hgd s x t ho e z size bytes ht hinfo hzs hsz hown hs ad m c news hx hrd.len (fun j u hj => ?_) h1 h63 hbytes h
    have hm : 0 < m := by
      rcases Nat.eq_zero_or_pos m with h0 | h0
      · subst h0
        have := hrd.len
        simp at this
        subst this
        simp at hj
      · exact h0
    obtain ⟨b, off, hA, _, _, hc⟩ := hrd.at_ hm
    injection hA with hA
    subst hA
    have : (⟨b, off, none⟩ : Addr).add j = ⟨b, off + j, none⟩ := by unfold Addr.add; split <;> simp_all
    rw [this]
    exact hc j u hj

/-- min(x, y) of two ints. -/
theorem op_min (hgd : o.guard = none) (x y : Operand) (t : TypeId) (ho : o.op = .call { callee := .builtin .min, args := #[x, y], argTypes := #[t, t] }) (a1 a2 m : Int) (hx : a.eval x = .int .i64 a1) (hy : a.eval y = .int .i64 a2) (hm : (if a2 < a1 then a2 else a1) = m)
    (h : wpList P ops Q rest (a.put o.dst (.int .i64 m)) w) : wpList P ops Q (o :: rest) a w := by
  refine wpList_plain hgd fun K hK => ?_
  have hrun : (Builtin.min_ #[t, t] o.type #[.int .i64 a1, .int .i64 a2]).run P w = .ok (.int .i64 m) w := by
    simp [Builtin.min_, Builtin.min2, hm]
  unfold Oper.wp execOp
  simp only [ho, resolve, invoke, builtin, Sem.run_bind, Sem.run_pure, Result.andThen_ok, List.map_toArray, List.map_cons, List.map_nil, hx, hy, hrun]
  exact hK _ _ h

theorem zeroCells_flat (z : Array Value) (n : Nat) : (Builtin.zeroCells z n).toList = (List.replicate n z.toList).flatten := by
  induction n with
  | zero => simp [Builtin.zeroCells]
  | succ n ih =>
    rw [List.replicate_succ', List.flatten_append, ← ih]
    apply List.ext_getElem
    · simp [Builtin.zeroCells, Nat.succ_mul]
    · intro i h1 h2
      have hlt : i < (n + 1) * z.size := by simpa [Builtin.zeroCells] using h1
      have e0 : (Builtin.zeroCells z (n + 1)).toList[i] = z[i % z.size]! := by simp [Builtin.zeroCells]
      rw [e0]
      by_cases hi : i < n * z.size
      · rw [List.getElem_append_left (by simpa [Builtin.zeroCells] using hi)]
        simp [Builtin.zeroCells]
      · have hlt2 : i - n * z.size < z.size := by rw [Nat.succ_mul] at hlt; omega
        have hm : i % z.size = i - n * z.size := by
          have e : i = z.size * n + (i - n * z.size) := by rw [Nat.mul_comm]; omega
          rw [e, Nat.mul_add_mod, Nat.mod_eq_of_lt hlt2, Nat.mul_comm n]
          omega
        rw [List.getElem_append_right (by simp [Builtin.zeroCells]; omega), hm]
        have hl : (Builtin.zeroCells z n).toList.length = n * z.size := by simp [Builtin.zeroCells]
        simp only [hl, List.flatten_cons, List.flatten_nil, List.append_nil, Array.getElem_toList]
        simp [hlt2]
/-- clear(x[k:]), the elements at some place of a block that is known whole. -/
theorem op_clearB (hgd : o.guard = none) (s : Operand) (t : TypeId) (ho : o.op = .call { callee := .builtin .clear, args := #[s], argTypes := #[t] })
    (e : TypeId) (z : Value) (size : Nat) (ht : P.underlying t = some (.slice e)) (hz : ∀ w, (zeroValue e).run P w = .ok z w) (hzs : z.cells.size = size) (ho1 : ∀ u ∈ z.cells.toList, u.oneCell' = true)
    (dp : Option Addr) (n c : Nat) (hs : a.eval s = .slice dp n c) (g off : Nat) (cur : List Value) (e' : TypeId) (hg : Blk w g cur e') (hpos : 0 < n → dp = some ⟨g, off, none⟩) (hfit : off + n * size ≤ cur.length)
    (h : ∀ w', Frm (fun k => k = g) w w' → w'.heap.size = w.heap.size → Blk w' g (cur.take off ++ (List.replicate n z.cells.toList).flatten ++ cur.drop (off + n * size)) e' → wpList P ops Q rest (a.put o.dst (.tuple #[])) w') : wpList P ops Q (o :: rest) a w := by
  refine wpList_plain hgd fun K hK => ?_
  have hrun : ∃ w', (Builtin.clear_ #[t] o.type #[.slice dp n c]).run P w = .ok (.tuple #[]) w' ∧ Frm (fun k => k = g) w w' ∧ w'.heap.size = w.heap.size ∧ Blk w' g (cur.take off ++ (List.replicate n z.cells.toList).flatten ++ cur.drop (off + n * size)) e' := by
    rcases Nat.eq_zero_or_pos n with h0 | h0
    · subst h0
      refine ⟨w, ?_, Frm.refl _ _, rfl, by simpa using hg⟩
      cases dp <;> simp [Builtin.clear_, run_underlying ht]
    · obtain rfl := hpos h0
      have hlen : (List.replicate n z.cells.toList).flatten.length = n * size := by simp [hzs]
      have hst := run_storeCells_at P g off e' (List.replicate n z.cells.toList).flatten 0 cur.toArray w hg.out (by simp only [Nat.add_zero, hlen]; simpa using hfit) (by
        intro u hu
        obtain ⟨l, hl, hu⟩ := List.mem_flatten.1 hu
        rw [(List.mem_replicate.1 hl).2] at hu
        exact ho1 u hu)
      simp only [Nat.add_zero, hlen] at hst
      refine ⟨_, ?_, (Frm.refl _ _).row g (cur.take off ++ (List.replicate n z.cells.toList).flatten ++ cur.drop (off + n * size)).toArray (fun _ => rfl), by simp, hg.row _⟩
      have hzc := zeroCells_flat z.cells n
      simp only [Builtin.clear_]
      match n, h0 with
      | n' + 1, _ => simp [run_underlying ht, hz, hzc, hst]
  obtain ⟨w', hr, hf, hsz, hsl⟩ := hrun
  unfold Oper.wp execOp
  simp only [ho, resolve, invoke, builtin, Sem.run_bind, Sem.run_pure, Result.andThen_ok, List.map_toArray, List.map_cons, List.map_nil, hs, hr]
  exact hK _ _ (h w' hf hsz hsl)

theorem strCells_B8 (s : ByteArray) : strCells s = s.data.toList.map B8 := rfl

/-- append(v, s...), s a string, v of bytes. -/
theorem op_appendS (hgd : o.guard = none) (s x : Operand) (t u : TypeId) (ho : o.op = .call { callee := .builtin .append, args := #[s, x], argTypes := #[t, u] })
    (e : TypeId) (ht : P.underlying t = some (.slice e)) (hu : P.underlying u = some .string) (hinfo : (P.info? e).map (fun i => (i.zero, i.size, i.bytes)) = some (some (.int .u8 0), 1, 1))
    {F : Nat → Prop} {v : Value} {n : Nat} {xs : List Value} (hown : Sl w F e 1 v n xs) (hs : a.eval s = v) (b : ByteArray) (hx : a.eval x = .string b)
    (h63 : n + b.size ≤ maxLen) (hbytes : n + b.size ≤ 140737488355328)
    (h : ∀ v' w', Frm F w w' → Sl w' (fun k => F k ∨ w.heap.size ≤ k) e 1 v' (n + b.size) (xs ++ b.data.toList.map B8) → wpList P ops Q rest (a.put o.dst v') w') : wpList P ops Q (o :: rest) a w := by
  obtain ⟨i, hi, hz0, hz1, hz2⟩ := info_parts hinfo
  refine wpList_plain hgd fun K hK => ?_
  have hxl : xs.length = n := by simpa using hown.len
  have hbl : (b.data.toList.map B8).length = b.size := by simp
  have hm : maxLen = 9223372036854775807 := by simp [maxLen]
  have hgrown : ∀ old, old < n + b.size → ∃ w', w' = w.drew.alloc (.cells (xs.toArray ++ (strCells b).toArray ++ Builtin.zeroCells (Value.int .u8 0).cells (grownCap w (n + b.size) old e - (n + b.size))) e) ∧ Frm F w w' ∧ Sl w' (fun k => F k ∨ w.heap.size ≤ k) e 1 (.slice (some ⟨w.heap.size, 0, none⟩) (n + b.size) (grownCap w (n + b.size) old e)) (n + b.size) (xs ++ b.data.toList.map B8) := by
    intro old hold
    refine ⟨_, rfl, ((Frm.refl _ _).drew).alloc _, ?_⟩
    have hcap := grownCap_ge w (n + b.size) old e
    have hzz : (Builtin.zeroCells (Value.int .u8 0).cells (grownCap w (n + b.size) old e - (n + b.size))).size = grownCap w (n + b.size) old e - (n + b.size) := by
      rw [size_zeroCells]; simp [Value.cells]
    refine .at_ (rest := (Builtin.zeroCells (Value.int .u8 0).cells (grownCap w (n + b.size) old e - (n + b.size))).toList) (.inr (Nat.le_refl _)) ?_ (by simp [hxl]) (by simp [hxl, hzz]; omega) hcap (grownCap_le_maxLen w _ old e h63)
    refine ⟨?_⟩
    have := (Blk.new w.drew (xs ++ strCells b ++ (Builtin.zeroCells (Value.int .u8 0).cells (grownCap w (n + b.size) old e - (n + b.size))).toList) e).out
    rw [show (xs ++ strCells b ++ (Builtin.zeroCells (Value.int .u8 0).cells (grownCap w (n + b.size) old e - (n + b.size))).toList).toArray = xs.toArray ++ (strCells b).toArray ++ Builtin.zeroCells (Value.int .u8 0).cells (grownCap w (n + b.size) old e - (n + b.size)) by apply Array.ext'; simp] at this
    rw [show (xs ++ b.data.toList.map B8 ++ (Builtin.zeroCells (Value.int .u8 0).cells (grownCap w (n + b.size) old e - (n + b.size))).toList).toArray = xs.toArray ++ (strCells b).toArray ++ Builtin.zeroCells (Value.int .u8 0).cells (grownCap w (n + b.size) old e - (n + b.size)) by apply Array.ext'; simp [strCells_B8]]
    exact this
  have hrun : ∃ v' w', (Builtin.append_ #[t, u] o.type #[v, .string b]).run P w = .ok v' w' ∧ Frm F w w' ∧ Sl w' (fun k => F k ∨ w.heap.size ≤ k) e 1 v' (n + b.size) (xs ++ b.data.toList.map B8) := by
    cases hown with
    | nil =>
      by_cases h0 : b.size = 0
      · have hb : b.data.toList = [] := List.eq_nil_of_length_eq_zero (by simpa using h0)
        refine ⟨.slice none 0 0, w, ?_, Frm.refl _ _, by simpa [hb, h0] using Sl.nil⟩
        have hf := run_firstCells_string (P := P) w 1 b
        rw [h0] at hf
        have hn : strCells b = [] := by rw [strCells_B8, hb]; rfl
        simp [Builtin.append_, run_underlying ht, run_underlying hu, sizeOf, typeInfo, hi, hz1, Builtin.lenOf, h0, hf]
      · obtain ⟨w', rfl, hf, hsl⟩ := hgrown 0 (by omega)
        have hr := run_append_nil_string (P := P) w t u o.type e i (.int .u8 0) ht hu hi hz0 b (by omega) (by omega) (by rw [hz2]; omega)
        have e1 : (b.data.map fun b => Value.int .u8 b.toNat) = (strCells b).toArray := by
          apply Array.ext'
          simp [strCells]
        rw [e1] at hr
        simp only [Nat.zero_add, List.nil_append, Array.empty_append] at hf hsl ⊢
        exact ⟨_, _, hr, hf, hsl⟩
    | @at_ g _ cap _ rest hF hb hx hr hn hm2 =>
      have hcap : (xs ++ rest).length = cap := by simpa using hr
      by_cases hroom : n + b.size ≤ cap
      · have hr := run_append_room_string (P := P) w t u o.type e i ht hu hi hz1 g n cap (xs ++ rest).toArray hb.out b hroom (by simpa [hcap] using hroom)
        refine ⟨_, _, hr, (Frm.refl _ _).row _ _ (fun _ => hF), ?_⟩
        have htk : (xs ++ rest).take n = xs := by rw [← hxl]; exact List.take_left
        refine .at_ (rest := (xs ++ rest).drop (n + b.size)) (.inl hF) ?_ (by simp [hxl]) ?_ hroom hm2
        · have := hb.row ((xs ++ rest).take n ++ strCells b ++ (xs ++ rest).drop (n + b.size))
          rw [htk] at this
          simpa [htk, strCells_B8] using this
        · rw [List.length_append, List.length_append, List.length_drop, hbl, hcap, hxl]; omega
      · obtain ⟨w', rfl, hf, hsl⟩ := hgrown cap (by omega)
        have hr := run_append_grow_string (P := P) w t u o.type e i (.int .u8 0) ht hu hi hz0 ⟨g, 0, none⟩ n cap xs (by rw [hz1]; simpa using hxl)
          (fun j u hu => by rw [hb.cellAdd 0 j]; simpa [List.getElem?_append_left (List.getElem?_eq_some_iff.1 hu).1] using hu) b (by omega) (by omega) (by rw [hz2]; exact growslice_fits (by omega) (by omega))
        exact ⟨_, _, hr, hf, hsl⟩
  obtain ⟨v', w', hr, hf, hsl⟩ := hrun
  unfold Oper.wp execOp
  simp only [ho, resolve, invoke, builtin, Sem.run_bind, Sem.run_pure, Result.andThen_ok, List.map_toArray, List.map_cons, List.map_nil, hs, hx, hr]
  exact hK _ _ (h v' w' hf hsl)

/-- clear(v), v of elements of one cell. -/
theorem op_clear (hgd : o.guard = none) (s : Operand) (t : TypeId) (ho : o.op = .call { callee := .builtin .clear, args := #[s], argTypes := #[t] })
    (e : TypeId) (z : Value) (ht : P.underlying t = some (.slice e)) (hz : ∀ w, (zeroValue e).run P w = .ok z w) (hz1 : z.cells = #[z]) (ho1 : z.oneCell' = true)
    {F : Nat → Prop} {v : Value} {n : Nat} {xs : List Value} (hown : Sl w F e 1 v n xs) (hs : a.eval s = v)
    (h : ∀ w', Frm F w w' → w'.heap.size = w.heap.size → Sl w' F e 1 v n (List.replicate n z) → wpList P ops Q rest (a.put o.dst (.tuple #[])) w') : wpList P ops Q (o :: rest) a w := by
  refine wpList_plain hgd fun K hK => ?_
  have hxl : xs.length = n := by simpa using hown.len
  have hrun : ∃ w', (Builtin.clear_ #[t] o.type #[v]).run P w = .ok (.tuple #[]) w' ∧ Frm F w w' ∧ w'.heap.size = w.heap.size ∧ Sl w' F e 1 v n (List.replicate n z) := by
    cases hown with
    | nil => exact ⟨w, by simp [Builtin.clear_, run_underlying ht], Frm.refl _ _, rfl, .nil⟩
    | @at_ g _ cap _ rest hF hb hx hr hn hm2 =>
      rcases Nat.eq_zero_or_pos n with h0 | h0
      · subst h0
        obtain rfl : xs = [] := List.eq_nil_of_length_eq_zero hxl
        refine ⟨w, by simp [Builtin.clear_, run_underlying ht], Frm.refl _ _, rfl, .at_ hF hb (by simp) hr hn hm2⟩
      · have hzc : (Builtin.zeroCells z.cells n).toList = List.replicate n z := by
          apply List.ext_getElem <;> simp [Builtin.zeroCells, hz1, Nat.mod_one]
        have hst := run_storeCells_at P g 0 e (List.replicate n z) 0 (xs ++ rest).toArray w hb.out (by simp; omega) (by intro u hu; rw [(List.mem_replicate.1 hu).2]; exact ho1)
        have hrl : (xs ++ rest).drop n = rest := by rw [← hxl]; exact List.drop_left
        have hq : ((xs ++ rest).toArray.toList.take (0 + 0) ++ List.replicate n z ++ (xs ++ rest).toArray.toList.drop (0 + 0 + (List.replicate n z).length)) = List.replicate n z ++ rest := by
          simp only [List.length_replicate, Nat.zero_add, List.take_zero, List.nil_append]
          rw [hrl]
        rw [hq] at hst
        refine ⟨_, ?_, (Frm.refl _ _).row g (List.replicate n z ++ rest).toArray (fun _ => hF), by simp, .at_ hF (hb.row _) (by simp) ?_ hn hm2⟩
        · have hn0 : n ≠ 0 := by omega
          simp only [Builtin.clear_]
          match n, hn0 with
          | n' + 1, _ => simp [run_underlying ht, hz, hzc, hst]
        · simp at hr ⊢; omega
  obtain ⟨w', hr, hf, hsz, hsl⟩ := hrun
  unfold Oper.wp execOp
  simp only [ho, resolve, invoke, builtin, Sem.run_bind, Sem.run_pure, Result.andThen_ok, List.map_toArray, List.map_cons, List.map_nil, hs, hr]
  exact hK _ _ (h w' hf hsz hsl)

/-- x[l:] of a slice; where l is its capacity nothing is said of the address. -/
theorem op_from (hgd : o.guard = none) (x lo : Operand) (t : TypeId) (ho : o.op = .slice t x (some lo) none none) (e : TypeId) (size : Nat) (ht : P.underlying t = some (.slice e)) (hsz : (P.info? e).map (·.size) = some size)
    (A : Option Addr) (n c : Nat) (hx : a.eval x = .slice A n c) (L : Int) (hl : a.eval lo = .int .i64 L) (l : Nat) (hL : L = l) (hle : l ≤ n) (hc : n ≤ c)
    (h : ∀ ao, (l < c → ao = A.map (·.add (l * size))) → wpList P ops Q rest (a.put o.dst (.slice ao (n - l) (c - l))) w) : wpList P ops Q (o :: rest) a w := by
  refine wpList_plain hgd fun K hK => ?_
  subst hL
  have hel : P.elem t = e := by simp [Program.elem, ht]
  have hrun := run_slice_l (P := P) (w := w) t A n c (by rw [hel]; exact ht) .i64 (l : Int) (by omega) (by omega)
  obtain ⟨i, hi, hzz⟩ := Option.map_eq_some_iff.1 hsz
  rw [hel] at hrun
  simp only [Int.toNat_natCast, sizeOf, typeInfo, Sem.run_bind, Sem.run_pure] at hrun
  have hrun' : (Instr.slice t (.slice A n c) (some (.int .i64 (l : Int))) none none).run P w = .ok (sliced A l n c size) w := by
    rw [hrun]; simp [hi, hzz]
  unfold Oper.wp execOp
  simp only [ho, hx, hl, Option.map_some, Option.map_none, Sem.run_bind, run_sliceAt_slice (P := P) (w := w) t _ _ _ _ (by rw [hel]; exact ht), hrun', Result.andThen_ok, Sem.run_pure, Oper.upon_value]
  have h' := h (if c = l then A else A.map (fun q : Addr => q.add (l * size))) (fun hlt => by rw [if_neg (by omega)])
  exact hK _ _ h'

/-- What a result is when the function leaves. -/
def RV (P : Program) (tmps : Array Value) (w : World) (r : ResultVar) (v : Value) : Prop :=
  (match r with | .tmp t => (pure (tmps.getD t undef) : Sem Value) | .cell a t => do loadVar t (← asAddr (tmps.getD a undef))).run P w = .ok v w
theorem RV.tmp {tmps : Array Value} {t : Tmp} {v : Value} (h : tmps.getD t undef = v) : RV P tmps w (.tmp t) v := by simp [RV, h]
theorem RV.cell {tmps : Array Value} {p : Tmp} {ty : TypeId} {g : Nat} {cs : List Value} {t : TypeId} {d : TypeDesc} (hp : tmps.getD p undef = .pointer (some ⟨g, 0, none⟩)) (hg : Blk w g cs t)
    (hu : P.underlying ty = some d) (hd : (match d with | .struct _ | .array _ _ => true | _ => false) = true) (hi : (P.info? ty).map (·.size) = some cs.length) : RV P tmps w (.cell p ty) (.agg cs.toArray) := by
  simp only [RV, hp, asAddr, Sem.run_bind, Sem.run_pure, Result.andThen_ok]
  exact run_loadVar_row w g t ty cs.toArray (0, 0) d hg.out hu hd (by simpa using hi)
theorem results_one {fn : Func} {r : ResultVar} {v : Value} {tmps : Array Value} (h : fn.results = #[r]) (hv : RV P tmps w r v) : (results fn tmps).run P w = .ok v w := by
  unfold results
  rw [h]
  unfold RV at hv
  simp only [List.mapM_toArray, List.mapM_cons, List.mapM_nil, Sem.run_bind, Sem.run_map]
  cases r <;> simp_all
theorem results_two {fn : Func} {r r2 : ResultVar} {v v2 : Value} {tmps : Array Value} (h : fn.results = #[r, r2]) (hv : RV P tmps w r v) (hv2 : RV P tmps w r2 v2) : (results fn tmps).run P w = .ok (.tuple #[v, v2]) w := by
  unfold results
  rw [h]
  unfold RV at hv hv2
  simp only [List.mapM_toArray, List.mapM_cons, List.mapM_nil, Sem.run_bind, Sem.run_map]
  cases r <;> cases r2 <;> simp_all
theorem results_three {fn : Func} {r r2 r3 : ResultVar} {v v2 v3 : Value} {tmps : Array Value} (h : fn.results = #[r, r2, r3]) (hv : RV P tmps w r v) (hv2 : RV P tmps w r2 v2) (hv3 : RV P tmps w r3 v3) : (results fn tmps).run P w = .ok (.tuple #[v, v2, v3]) w := by
  unfold results
  rw [h]
  unfold RV at hv hv2 hv3
  simp only [List.mapM_toArray, List.mapM_cons, List.mapM_nil, Sem.run_bind, Sem.run_map]
  cases r <;> cases r2 <;> cases r3 <;> simp_all

/-- A call of a Go function as a step of a region that draws its order ('go_region_law'). -/
theorem step_call {K : Act → World → Prop} {E : Prop} {f : FuncId} {fn : Func} {ais : Array Operand} {ts : Array TypeId} (hg : o.guard = none) (hop : o.op = .call { callee := .value (.func f), args := ais, argTypes := ts })
    (hf : P.funcs[f]? = some fn) (hname : (fn.name == "runtime.NumGoroutine") = false) (hb : fn.body.isSome = true) (args : Array Value) (hargs : ais.map a.eval = args)
    (h : Calls P f args w fun e w' => ∃ v, e = .returned v ∧ K (a.put o.dst v) w') : if Region.wanted o (yielded ops a.tmps) = true then Oper.wp P o a w K Q else E := by
  have hw : Region.wanted o (yielded ops a.tmps) = true := by simp [Region.wanted, hg]
  have h1 : fn.name ≠ "runtime.NumGoroutine" := by simpa using hname
  obtain ⟨c, hc⟩ := Option.isSome_iff_exists.1 hb
  have he : (callFunc f args).run P w = .ok (.enter f args) w := by simp [callFunc, hf, h1, hc]
  have hrun : (execOp a.eval o).run P w = .ok (.enter f args) w := by
    unfold execOp
    simp [hop, resolve, Deferred.ofValue, invoke, Act.eval, hargs, he]
  rw [if_pos hw]
  unfold Oper.wp
  rw [hrun, Oper.upon_enter]
  refine h.mono fun e w'' hh => ?_
  obtain ⟨v, rfl, hk⟩ := hh
  exact hk

/-- append(v, x...) as a step of such a region. -/
theorem step_append {K : Act → World → Prop} {E : Prop} (hgd : o.guard = none) (s x : Operand) (t : TypeId) (ho : o.op = .call { callee := .builtin .append, args := #[s, x], argTypes := #[t, t] })
    (e : TypeId) (z : Value) (size bytes : Nat) (ht : P.underlying t = some (.slice e)) (hinfo : (P.info? e).map (fun i => (i.zero, i.size, i.bytes)) = some (some z, size, bytes)) (hzs : z.cells.size = size) (hsz : 0 < size)
    {F : Nat → Prop} {v : Value} {n : Nat} {xs : List Value} (hown : Sl w F e size v n xs) (hs : a.eval s = v)
    (ad : Addr) (m c : Nat) (news : List Value) (hx : a.eval x = .slice (some ad) m c) (hl : news.length = m * size) (hnews : ∀ j u, news[j]? = some u → w.cell? (ad.add j) = some u) (h1 : ∀ u ∈ news, u.oneCell' = true)
    (h63 : n + m ≤ maxLen) (hbytes : (n + m) * bytes ≤ 140737488355328)
    (h : ∀ v' w', Frm F w w' → Sl w' (fun k => F k ∨ w.heap.size ≤ k) e size v' (n + m) (xs ++ news) → K (a.put o.dst v') w') : if Region.wanted o (yielded ops a.tmps) = true then Oper.wp P o a w K Q else E := by
  have hw : Region.wanted o (yielded ops a.tmps) = true := by simp [Region.wanted, hgd]
  rw [if_pos hw]
  obtain ⟨i, hi, hz0, hz1, hz2⟩ := info_parts hinfo
  obtain ⟨v', w', hr, h2, h3, _, h4⟩ := run_append_own_at (P := P) w 0 t o.type e i z size bytes ht hi hz0 hz1 hz2 hzs hsz v n xs hown.owns ad m c news hl hnews h1 h63 hbytes (Nat.zero_le _)
  unfold Oper.wp execOp
  simp only [ho, resolve, invoke, builtin, Sem.run_bind, Sem.run_pure, Result.andThen_ok, List.map_toArray, List.map_cons, List.map_nil, hs, hx, hr]
  refine h v' w' ((Frm.of_grown h3).mono fun k hk _ => (hown.own k hk.symm).1) (Sl.of_owns h2 fun g hg => ?_)
  rcases h4 with h4 | h4
  · exact .inl (hown.own g (h4 ▸ hg)).1
  · rw [h4] at hg
    injection hg with hg
    exact .inr (by omega)
end
end Go.Proofs.Ytoadmpochaeohaa
end
