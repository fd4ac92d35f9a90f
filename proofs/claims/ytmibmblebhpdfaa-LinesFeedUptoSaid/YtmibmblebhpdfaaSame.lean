import Derived.Test.YtmibmblebhpdfaaRef
set_option linter.unusedVariables false
set_option linter.unusedSimpArgs false
namespace Go.Proofs.Ytmibmblebhpdfaa
open Go.RowKit

/-! Two lines held against each other. -/
section
variable {P : Program} {d : Nat} {xs ys : Array Value} {f : Field} {fs : List Field} {a b : Value} {r s : Bool} {w : World}
theorem field_last (hn : (f.name == "_") = false) (ha : (part f.type xs f.offset).run P w = .ok a w) (hb : (part f.type ys f.offset).run P w = .ok b w) (he : (Op.equalIn d f.type a b).run P w = .ok r w) : (Op.eqFields d xs ys [f]).run P w = .ok r w := by
  have hn' : f.name ≠ "_" := by simpa using hn
  simp only [Op.eqFields, if_pos hn', Sem.run_bind, ha, hb, he, Result.andThen_ok]
  cases r <;> simp
theorem field_cons (hn : (f.name == "_") = false) (ha : (part f.type xs f.offset).run P w = .ok a w) (hb : (part f.type ys f.offset).run P w = .ok b w) (he : (Op.equalIn d f.type a b).run P w = .ok r w) (hr : (Op.eqFields d xs ys fs).run P w = .ok s w) : (Op.eqFields d xs ys (f :: fs)).run P w = .ok (r && s) w := by
  have hn' : f.name ≠ "_" := by simpa using hn
  rw [Op.eqFields]
  simp only [if_pos hn', Sem.run_bind, ha, hb, he, Result.andThen_ok]
  cases r
  · simp
  · simpa using hr
theorem struct_eq {t : TypeId} {fs : Array Field} (hu : P.underlying t = some (.struct fs)) (hp : P.stoodInHeld t = false) (h : (Op.eqFields d xs ys fs.toList).run P w = .ok r w) : (Op.equalIn (d + 1) t (.agg xs) (.agg ys)).run P w = .ok r w := by
  have hf : P.fieldsOf t = fs := by simp [Program.fieldsOf, hu]
  rw [run_equalIn_struct (P := P) w d t xs ys (by rw [hf]; exact hu) hp, hf]
  exact h
end

def lnEq (x0 y0 x1 y1 : Int) (x2 y2 : ByteArray) (x3 y3 : Bool) : Bool := x0 == y0 && (x1 == y1 && (x2.toList == y2.toList && (x3 == y3)))
theorem run_eqLn (d : Nat) (w : World) (x0 y0 x1 y1 : Int) (x2 y2 : ByteArray) (x3 y3 : Bool) :
    (Op.equalIn (d + 2) 31 (.agg #[.int .i64 x0, .int .i64 x1, .string x2, .bool x3]) (.agg #[.int .i64 y0, .int .i64 y1, .string y2, .bool y3])).run Try.prog w = .ok (lnEq x0 y0 x1 y1 x2 y2 x3 y3) w := by
  refine struct_eq Try.underlying31 (by kernel_rfl) ?_
  refine field_cons (by rfl) (by go_simp; rfl) (by go_simp; rfl) (by go_simp) ?_
  refine field_cons (by rfl) (by go_simp; rfl) (by go_simp; rfl) (by go_simp) ?_
  refine field_cons (by rfl) (by go_simp; rfl) (by go_simp; rfl) (by go_simp) ?_
  exact field_last (by rfl) (by go_simp; rfl) (by go_simp; rfl) (by go_simp)
theorem bs_toList (l m : List UInt8) : ((bs l).toList == (bs m).toList) = decide (l = m) := by
  rw [ByteArray.toList_eq, ByteArray.toList_eq]
  show (l == m) = decide (l = m)
  rw [Bool.eq_iff_iff]; simp
theorem lnEq_of (l m : Ln) : lnEq l.num m.num l.at_ m.at_ (bs l.text) (bs m.text) l.ended m.ended = decide (l = m) := by
  unfold lnEq
  rw [bs_toList]
  cases l; cases m
  simp only [Ln.mk.injEq]
  rw [Bool.eq_iff_iff]
  simp [and_assoc]
theorem cellsL_get (ls : List Ln) : ∀ (k : Nat) (l : Ln), ls[k]? = some l → (cellsL ls)[k * 4]? = some (.int .i64 l.num) ∧ (cellsL ls)[k * 4 + 1]? = some (.int .i64 l.at_) ∧ (cellsL ls)[k * 4 + 2]? = some (.string (bs l.text)) ∧ (cellsL ls)[k * 4 + 3]? = some (.bool l.ended) := by
  induction ls with
  | nil => intro k l h; simp at h
  | cons x xs ih =>
    intro k l h
    rw [show x :: xs = [x] ++ xs from rfl, cellsL_append, cellsL_one]
    cases k with
    | zero => simp at h; subst h; simp [Ln.cells]
    | succ k =>
      have := ih k l (by simpa using h)
      have hl : x.cells.length = 4 := rfl
      rw [List.getElem?_append_right (by omega), List.getElem?_append_right (by omega), List.getElem?_append_right (by omega), List.getElem?_append_right (by omega), hl,
        show (k + 1) * 4 - 4 = k * 4 by omega, show (k + 1) * 4 + 1 - 4 = k * 4 + 1 by omega, show (k + 1) * 4 + 2 - 4 = k * 4 + 2 by omega, show (k + 1) * 4 + 3 - 4 = k * 4 + 3 by omega]
      exact this
/-- The four cells of a line that is read. -/
theorem Rd.line {w : World} {F : Nat → Prop} {A : Option Addr} {n c : Nat} {ls : List Ln} (h : Rd w F 4 A n c (cellsL ls)) (k : Nat) (l : Ln) (hk : ls[k]? = some l) : ∃ b off, A = some ⟨b, off, none⟩ ∧ b < w.heap.size ∧
    w.cell? ⟨b, off + k * 4, none⟩ = some (.int .i64 l.num) ∧ w.cell? ⟨b, off + k * 4 + 1, none⟩ = some (.int .i64 l.at_) ∧ w.cell? ⟨b, off + k * 4 + 2, none⟩ = some (.string (bs l.text)) ∧ w.cell? ⟨b, off + k * 4 + 3, none⟩ = some (.bool l.ended) := by
  have hk' := (List.getElem?_eq_some_iff.1 hk).1
  have hn : ls.length = n := by have := h.len; rw [cellsL_len] at this; omega
  obtain ⟨b, off, hA, hb, hc⟩ := h.elem k (by omega)
  obtain ⟨h0, h1, h2, h3⟩ := cellsL_get ls k l hk
  exact ⟨b, off, hA, hb, hc 0 _ (by simpa using h0), hc 1 _ h1, hc 2 _ h2, hc 3 _ h3⟩
theorem Rd.lines {w : World} {F : Nat → Prop} {A : Option Addr} {n c : Nat} {ls : List Ln} (h : Rd w F 4 A n c (cellsL ls)) : ls.length = n := by have := h.len; rw [cellsL_len] at this; omega

attribute [local go_sem high] run_eqLn

set_option maxHeartbeats 400000 in
theorem same_calls (w : World) {F G : Nat → Prop} {A B : Option Addr} {n m c d : Nat} {ls ms : List Ln} (ha : Rd w F 4 A n c (cellsL ls)) (hb : Rd w G 4 B m d (cellsL ms)) (hn : n ≤ 4194304) (hm : m ≤ 4194304) (r : Bool) (hr : decide (ls = ms) = r) :
    Calls Try.prog 16 #[.slice A n c, .slice B m d] w fun e w' => e = .returned (.bool r) ∧ Frm (fun _ => False) w w' := by
  have hl1 := ha.lines
  have hl2 := hb.lines
  by_cases hnm : n = m
  · subst hnm
    have h0 : ((n : Int) != (n : Int)) = false := by simp
    go_enter Try.func16, Try.ntmps16
    go_wp2
    go_loopw [5] (fun i wr => ∃ k : Nat, i = .int .i64 k ∧ k ≤ n ∧ Hid (ls.take k = ms.take k) ∧ Frm (fun _ => False) w wr) (fun i _ => n - (intOf i).toNat)
    case atStart => exact ⟨0, rfl, by omega, by simp [Hid], Frm.refl _ _⟩
    case round =>
      obtain ⟨k, rfl, hk, hH, hf⟩ := hrel
      by_cases hlt : k < n
      · obtain ⟨x, e1⟩ : ∃ x, ls[k]? = some x := ⟨_, List.getElem?_eq_getElem (by omega)⟩
        obtain ⟨y, e2⟩ : ∃ y, ms[k]? = some y := ⟨_, List.getElem?_eq_getElem (by omega)⟩
        have ha' := ha.frm hf (fun _ _ f => f)
        have hb' := hb.frm hf (fun _ _ f => f)
        obtain ⟨b1, o1, rfl, l1, p0, p1, p2, p3⟩ := ha'.line k _ e1
        obtain ⟨b2, o2, rfl, l2, q0, q1, q2, q3⟩ := hb'.line k _ e2
        have HX := Lib.hid e1
        have HY := Lib.hid e2
        have HL1 := Lib.hid hl1
        have HL2 := Lib.hid hl2
        have HR := Lib.hid hr
        have hq := lnEq_of x y
        clear hr hl1 hl2 e1 e2
        by_cases hxy : x = y
        · rw [decide_eq_true hxy] at hq
          have HXY := Lib.hid hxy
          clear hxy
          go_wp2
          go_quiet (fail)
          go_wp2
          go_roundw
          case measure => simp [intOf]; omega
          case rel =>
            refine ⟨k + 1, by go_num, by omega, ?_, hf.drewN _⟩
            show ls.take (k + 1) = ms.take (k + 1)
            rw [List.take_add_one, List.take_add_one, hH.out, HX.out, HY.out, HXY.out]
        · rw [decide_eq_false hxy] at hq
          have HXY : Hid (¬ x = y) := hxy
          clear hxy
          go_wp2
          go_quiet (fail)
          go_wp2
          go_ret
          refine ⟨?_, hf.drewN _⟩
          have hne : ¬ ls = ms := by
            rintro rfl
            have h1 := HX.out.symm.trans HY.out
            injection h1 with h1
            exact HXY.out h1
          rw [← HR.out, decide_eq_false hne]
          rfl
      · have HL1 := Lib.hid hl1
        have HL2 := Lib.hid hl2
        have HR := Lib.hid hr
        clear hr hl1 hl2
        go_wp2
        go_ret
        refine ⟨?_, hf⟩
        obtain rfl : k = n := by omega
        have h1 := hH.out
        rw [List.take_of_length_le (by rw [HL1.out]; exact Nat.le_refl _), List.take_of_length_le (by rw [HL2.out]; exact Nat.le_refl _)] at h1
        rw [← HR.out, decide_eq_true h1]
        rfl
  · have h0 : ((n : Int) != (m : Int)) = true := by rw [bne_iff_ne]; omega
    have h1 : r = false := by
      rw [← hr]; apply decide_eq_false; rintro rfl; omega
    subst h1
    clear hr hl1 hl2
    go_enter Try.func16, Try.ntmps16
    go_wp2
    go_ret
    exact ⟨rfl, Frm.refl _ _⟩
end Go.Proofs.Ytmibmblebhpdfaa
