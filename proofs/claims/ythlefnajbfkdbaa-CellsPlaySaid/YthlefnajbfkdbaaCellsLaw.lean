import Derived.Test.YthlefnajbfkdbaaLawCuts
set_option linter.unusedVariables false
set_option linter.unusedSimpArgs false
namespace Go.Proofs.Ythlefnajbfkdbaa
open Go.RowKit

set_option maxHeartbeats 400000 in
/-- Two lists that are the same. -/
theorem values_calls {F G : Nat → Prop} {A0 A1 : Option Addr} {n c0 c1 : Nat} {xs : List Int} (w : World) (h0 : Rd w F 1 A0 n c0 (xs.map I64)) (h1 : Rd w G 1 A1 n c1 (xs.map I64)) (hb : n ≤ 1073741824) :
    Calls Try.prog 25 #[.slice A0 n c0, .slice A1 n c1] w fun e w' => e = .returned (.bool true) ∧ Frm (fun _ => False) w w' := by
  go_enter Try.func25, Try.ntmps25
  go_wp2_with fail
  go_loopw [5] (fun i wr => ∃ (j : Nat), i = .int .i64 j ∧ j ≤ n ∧ Frm (fun _ => False) w wr) (fun i _ => n - (intOf i).toNat)
  case atStart => exact ⟨0, rfl, by omega, Frm.refl _ _⟩
  case round =>
    obtain ⟨j, rfl, hj, hf⟩ := hrel
    by_cases hjl : j < n
    · have h0 := h0.frm hf (fun _ _ h => h)
      have h1 := h1.frm hf (fun _ _ h => h)
      obtain ⟨b, off, z, rfl, hbl, hz, hc⟩ := h0.cell1 j hjl
      obtain ⟨b', off', z', rfl, hbl', hz', hc'⟩ := h1.cell1 j hjl
      obtain rfl : z = z' := by rw [hz] at hz'; cases hz'; rfl
      have hzz : (z != z) = false := by simp
      clear hz hz'
      go_wp2_with fail
      go_region
      all_goals
        go_wp2
        go_roundw
        case measure => simp [intOf]; omega
        case rel => exact ⟨j + 1, by go_num, by omega, hf.drew⟩
    · obtain rfl : j = n := by omega
      go_wp2
      go_ret
      exact ⟨rfl, hf⟩

structure Ly where
  kind : Int
  a : Int
  b : Int
def flatY (l : List Ly) : List Value := l.flatMap fun y => [I64 y.kind, I64 y.a, I64 y.b]
theorem flatY_get (l : List Ly) : ∀ (k : Nat) (p : Ly), l[k]? = some p → (flatY l)[k * 3]? = some (I64 p.kind) ∧ (flatY l)[k * 3 + 1]? = some (I64 p.a) ∧ (flatY l)[k * 3 + 2]? = some (I64 p.b) := by
  induction l with
  | nil => intro k p h; simp at h
  | cons x l ih =>
    intro k p h
    rw [show flatY (x :: l) = [I64 x.kind, I64 x.a, I64 x.b] ++ flatY l from rfl]
    cases k with
    | zero => simp at h; subst h; simp
    | succ k =>
      have := ih k p (by simpa using h)
      have e : ([I64 x.kind, I64 x.a, I64 x.b] : List Value).length = 3 := rfl
      rw [List.getElem?_append_right (by rw [e]; omega), List.getElem?_append_right (by rw [e]; omega), List.getElem?_append_right (by rw [e]; omega), e, show (k + 1) * 3 - 3 = k * 3 by omega, show (k + 1) * 3 + 1 - 3 = k * 3 + 1 by omega, show (k + 1) * 3 + 2 - 3 = k * 3 + 2 by omega]
      exact this
theorem flatY_len (l : List Ly) : (flatY l).length = l.length * 3 := by
  induction l with
  | nil => rfl
  | cons x l ih => rw [show flatY (x :: l) = [I64 x.kind, I64 x.a, I64 x.b] ++ flatY l from rfl, List.length_append, ih]; simp; omega
theorem Rd.lay {w : World} {F : Nat → Prop} {A : Option Addr} {n c : Nat} {l : List Ly} (h : Rd w F 3 A n c (flatY l)) (k : Nat) (hk : k < n) (p : Ly) (hp : l[k]? = some p) : ∃ b off, A = some ⟨b, off, none⟩ ∧ b < w.heap.size ∧
    w.cell? ⟨b, off + k * 3, none⟩ = some (.int .i64 p.kind) ∧ w.cell? ⟨b, off + k * 3 + 1, none⟩ = some (.int .i64 p.a) ∧ w.cell? ⟨b, off + k * 3 + 2, none⟩ = some (.int .i64 p.b) := by
  obtain ⟨b, off, hA, hb, hc⟩ := h.elem k hk
  obtain ⟨h1, h2, h3⟩ := flatY_get l k p hp
  exact ⟨b, off, hA, hb, hc 0 _ h1, hc 1 _ h2, hc 2 _ h3⟩

theorem backC_two (vs : List Int) (a b : List (Int × Int)) : backC vs (a ++ b) = backC (backC vs b) a := by
  induction a with
  | nil => rfl
  | cons x a ih => simp only [List.cons_append, backC, ih]
theorem backC_len (vs : List Int) (a : List (Int × Int)) : (backC vs a).length = vs.length := by
  induction a with
  | nil => rfl
  | cons x a ih => simp only [backC, List.length_set, ih]
theorem set_back (vs : List Int) (k : Nat) (x : Int) (hk : k < vs.length) (tr : List (Int × Int)) : backC (vs.set k x) (tr ++ [((k : Int), (getC vs k).1)]) = backC vs tr := by
  have hg : getC vs k = (vs[k], true) := by rw [getC, if_neg (by omega), Int.toNat_natCast, List.getElem?_eq_getElem hk]
  rw [backC_two, hg]
  simp only [backC, Int.toNat_natCast, List.set_set]
  rw [List.set_getElem_self]

/-- Set at a place that is there. -/
theorem setN (F : Nat → Prop) (g : Nat) (vs : List Int) (tr : List (Int × Int)) (i : Nat) (x : Int) (w : World) (h : CE w F g vs tr) (hb : vs.length ≤ 1073741824) (ht : tr.length ≤ 1073741824) (hi : i < vs.length) :
    Calls Try.prog 18 #[.pointer (some ⟨g, 0, none⟩), .int .i64 i, .int .i64 x] w (SetPost F g w (vs.set i x) (tr ++ [((i : Int), (getC vs i).1)]) 0) :=
  setK F g vs tr i x _ _ w h hb ht ⟨by omega, by omega⟩ (by rw [Int.toNat_natCast]) rfl

/-- Cells of a law: they are the law's own. -/
structure KInv (W : World) (g : Nat) (vs : List Int) (tr : List (Int × Int)) (wr : World) (F : Nat → Prop) : Prop where
  ce : CE wr F g vs tr
  f : ∀ k, F k → W.heap.size ≤ k
  in_ : InC vs.length tr
theorem KInv.set {W : World} {g : Nat} {vs : List Int} {tr : List (Int × Int)} {wr w1 : World} {F : Nat → Prop} (h : KInv W g vs tr wr F) (hz : W.heap.size ≤ wr.heap.size) (i : Nat) (x : Int) (hi : i < vs.length)
    {e : Ending} (hp : SetPost F g wr (vs.set i x) (tr ++ [((i : Int), (getC vs i).1)]) 0 e w1) : KInv W g (vs.set i x) (tr ++ [((i : Int), (getC vs i).1)]) w1 (fun k => F k ∨ wr.heap.size ≤ k) := by
  refine ⟨hp.2.1, ?_, ?_⟩
  · rintro k (hk | hk)
    · exact h.f k hk
    · omega
  · intro p hp
    rw [List.length_set]
    rcases List.mem_append.1 hp with hp | hp
    · exact h.in_ p hp
    · obtain rfl : p = _ := List.mem_singleton.1 hp
      exact ⟨by simp, by simpa using hi⟩
end Go.Proofs.Ythlefnajbfkdbaa
