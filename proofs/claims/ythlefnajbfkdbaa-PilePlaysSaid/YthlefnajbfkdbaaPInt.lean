import Derived.Test.YthlefnajbfkdbaaOps
import Derived.BigQuiet
import Derived.Deep.QuietTactic
import Derived.WalkSpells
set_option linter.unusedVariables false
set_option linter.unusedSimpArgs false
namespace Go.Proofs.Ythlefnajbfkdbaa
open Go.RowKit

def I64 (z : Int) : Value := .int .i64 z
theorem infoInt : (Try.prog.info? 3).map (fun i => (i.zero, i.size, i.bytes)) = some (some (.int .i64 0), 1, 8) := by kernel_rfl
theorem sizeInt : (Try.prog.info? 3).map (·.size) = some 1 := by kernel_rfl
theorem zeroInt (w : World) : (zeroValue 3).run Try.prog w = .ok (.int .i64 0) w := by kernel_rfl
theorem i64_one (l : List Int) : ∀ v ∈ l.map I64, v.oneCell' = true := by
  intro v hv; obtain ⟨x, _, rfl⟩ := List.mem_map.1 hv; rfl
theorem blk1 {w : World} {g : Nat} {a : Value} {t : TypeId} (h : Blk w g [a] t) : w.cell? ⟨g, 0, none⟩ = some a ∧ w.frozen? ⟨g, 0, none⟩ = false ∧ g < w.heap.size := ⟨h.cell 0, h.frozen 0, h.lt⟩
theorem blk2 {w : World} {g : Nat} {a b : Value} {t : TypeId} (h : Blk w g [a, b] t) : w.cell? ⟨g, 0, none⟩ = some a ∧ w.cell? ⟨g, 1, none⟩ = some b ∧ w.frozen? ⟨g, 0, none⟩ = false ∧ w.frozen? ⟨g, 1, none⟩ = false ∧ g < w.heap.size := ⟨h.cell 0, h.cell 1, h.frozen 0, h.frozen 1, h.lt⟩
/-- A part of an owned slice: its first k elements. -/
theorem Sl.cut {w : World} {F : Nat → Prop} {e : TypeId} {size : Nat} {A : Option Addr} {n c k : Nat} {xs : List Value} (h : Sl w F e size (.slice A n c) n xs) (hk : k ≤ n) : Sl w F e size (.slice A k c) k (xs.take (k * size)) := by
  cases h with
  | nil =>
    have hk0 : k = 0 := Nat.le_zero.1 hk
    rw [hk0, Nat.zero_mul, List.take_zero]
    exact .nil
  | @at_ g _ cap _ rest hF hb hx hr hn hm =>
    have hle : k * size ≤ xs.length := by rw [hx]; exact Nat.mul_le_mul_right _ hk
    refine .at_ (rest := xs.drop (k * size) ++ rest) hF ?_ (by rw [List.length_take, Nat.min_eq_left hle]) ?_ (by omega) hm
    · rw [← List.append_assoc, List.take_append_drop]; exact hb
    · rw [← List.append_assoc, List.take_append_drop]; exact hr

/-- A pile of ints at block g. -/
def PI (w : World) (F : Nat → Prop) (g : Nat) (xs : List Int) : Prop :=
  ∃ v, Blk w g [v] 75 ∧ F g ∧ Sl w (fun k => F k ∧ k ≠ g) 3 1 v xs.length (xs.map I64)
theorem PI.low {w : World} {F : Nat → Prop} {g : Nat} {xs : List Int} (h : PI w F g xs) : PI w (fun k => F k ∧ k < w.heap.size) g xs := by
  obtain ⟨v, hB, hF, hS⟩ := h
  exact ⟨v, hB, ⟨hF, hB.lt⟩, hS.mono fun k h l => ⟨⟨h.1, l⟩, h.2⟩⟩
theorem PI.frm {S : Nat → Prop} {w w' : World} {F : Nat → Prop} {g : Nat} {xs : List Int} (h : PI w F g xs) (f : Frm S w w') (hd : ∀ k, F k → ¬ S k) : PI w' F g xs := by
  obtain ⟨v, hB, hF, hS⟩ := h
  exact ⟨v, hB.frm f (hd _ hF), hF, hS.frm f (fun k h => hd k h.1)⟩

theorem newI (w : World) : Calls Try.prog 10 #[] w fun e w' => e = .returned (.pointer (some ⟨w.heap.size, 0, none⟩)) ∧ w' = w.alloc (.cells #[.slice none 0 0] 75) := by
  go_enter Try.func10, Try.ntmps10
  go_wp2
  go_ret
  exact ⟨rfl, rfl⟩
theorem newPI (w : World) : PI (w.alloc (.cells #[.slice none 0 0] 75)) (fun k => k = w.heap.size) w.heap.size [] := ⟨_, Blk.new w [_] 75, rfl, Sl.nil⟩

set_option maxHeartbeats 400000 in
theorem pushI (F : Nat → Prop) (g : Nat) (xs : List Int) (x : Int) (w : World) (h : PI w F g xs) (hb : xs.length ≤ 1073741824) :
    Calls Try.prog 11 #[.pointer (some ⟨g, 0, none⟩), .int .i64 x] w fun e w' => e = .returned (.tuple #[]) ∧ PI w' (fun k => F k ∨ w.heap.size ≤ k) g (xs ++ [x]) ∧ Frm F w w' := by
  obtain ⟨v, hB, hF, hS⟩ := h
  obtain ⟨A, c, rfl⟩ := hS.form
  obtain ⟨c0, f0, l0⟩ := blk1 hB
  go_enter Try.func11, Try.ntmps11
  go_wp2_with (with_reducible refine stop_at 11 rfl ?_)
  unfold Stop
  refine op_append rfl _ _ _ rfl 3 _ 1 8 Try.underlying22 infoInt rfl (by omega) (hS.alloc _) rfl ⟨w.heap.size, 0, none⟩ 1 1 [I64 x] rfl rfl (fun j u hu => by rw [(Blk.new w _ 3).cellAdd 0 j, Nat.zero_add]; exact hu) (by intro u hu; simp at hu; subst hu; rfl) (by simp only [maxLen]; omega) (by omega) ?_
  intro v' w1 hf1 hs1
  have hB1 := (hB.alloc (.cells #[I64 x] 3)).frm hf1 (fun h => h.2 rfl)
  obtain ⟨A1, c1, rfl⟩ := hs1.form
  obtain ⟨c0, f0, l0⟩ := blk1 hB1
  go_wp2
  go_end0
  refine ⟨rfl, ⟨_, hB1.setSame 0 _, .inl hF, ?_⟩, (((Frm.refl F w).alloc _).then hf1 (fun i h _ => h.1)).set g 0 _ (fun _ => hF)⟩
  have hlt := hB.lt
  have := (hs1.set g 0 (.slice A1 (xs.length + 1) c1) (by rintro (h | h); exact h.2 rfl; simp at h; omega)).mono (G := fun k => (F k ∨ w.heap.size ≤ k) ∧ k ≠ g) (by rintro k (h | h) _; exact ⟨.inl h.1, h.2⟩; exact ⟨.inr (by simp at h; omega), by simp at h; omega⟩)
  simpa using this

set_option maxHeartbeats 400000 in
theorem lenI (F : Nat → Prop) (g : Nat) (xs : List Int) (w : World) (h : PI w F g xs) : Calls Try.prog 13 #[.pointer (some ⟨g, 0, none⟩)] w fun e w' => e = .returned (.int .i64 xs.length) ∧ w = w' := by
  obtain ⟨v, hB, hF, hS⟩ := h
  obtain ⟨A, c, rfl⟩ := hS.form
  obtain ⟨c0, f0, l0⟩ := blk1 hB
  go_enter Try.func13, Try.ntmps13
  go_wp2
  go_ret
  exact ⟨rfl, rfl⟩

/-- The k-th of a pile, and whether there is one. -/
def getI (xs : List Int) (k : Int) : Int × Bool := if k < 0 then (0, false) else match xs[k.toNat]? with | some x => (x, true) | none => (0, false)

set_option maxHeartbeats 400000 in
theorem atI (F : Nat → Prop) (g : Nat) (xs : List Int) (k : Int) (w : World) (h : PI w F g xs) (hb : xs.length ≤ 1073741824) (r : Int × Bool) (hr : getI xs k = r) :
    Calls Try.prog 14 #[.pointer (some ⟨g, 0, none⟩), .int .i64 k] w fun e w' => e = .returned (.tuple #[.int .i64 r.1, .bool r.2]) ∧ w = w' := by
  obtain ⟨v, hB, hF, hS⟩ := h
  obtain ⟨A, c, rfl⟩ := hS.form
  obtain ⟨c0, f0, l0⟩ := blk1 hB
  by_cases hk : k < 0
  · obtain rfl : r = (0, false) := by rw [← hr, getI, if_pos hk]
    clear hr
    go_enter Try.func14, Try.ntmps14
    go_wp2
    go_ret2
    exact ⟨rfl, rfl⟩
  · by_cases hk2 : k < xs.length
    · obtain ⟨m, rfl⟩ := Int.eq_ofNat_of_zero_le (Int.not_lt.1 hk)
      have hm : m < xs.length := by omega
      obtain rfl : r = (xs[m], true) := by rw [← hr, getI, if_neg hk, Int.toNat_natCast, List.getElem?_eq_getElem hm]
      obtain ⟨b, off, hA, _, hc⟩ := hS.rd.elem m hm
      have hc := hc 0 (I64 xs[m]) (by simp [hm])
      simp only [Nat.mul_one, Nat.add_zero] at hc
      cases hA
      generalize xs[m] = x at *
      clear hr
      unfold I64 at hc
      go_enter Try.func14, Try.ntmps14
      go_wp2
      go_ret2
      exact ⟨rfl, rfl⟩
    · have hn : xs[k.toNat]? = none := List.getElem?_eq_none (by omega)
      obtain rfl : r = (0, false) := by rw [← hr, getI, if_neg hk, hn]
      clear hr hn
      go_enter Try.func14, Try.ntmps14
      go_wp2
      go_ret2
      exact ⟨rfl, rfl⟩

set_option maxHeartbeats 400000 in
theorem topI (F : Nat → Prop) (g : Nat) (xs : List Int) (w : World) (h : PI w F g xs) (hb : xs.length ≤ 1073741824) (r : Int × Bool) (hr : getI xs (xs.length - 1) = r) :
    Calls Try.prog 36 #[.pointer (some ⟨g, 0, none⟩)] w fun e w' => e = .returned (.tuple #[.int .i64 r.1, .bool r.2]) ∧ w = w' := by
  have h' := h
  obtain ⟨v, hB, hF, hS⟩ := h
  obtain ⟨A, c, rfl⟩ := hS.form
  obtain ⟨c0, f0, l0⟩ := blk1 hB
  have HR := Lib.hid hr
  clear hr
  go_enter Try.func36, Try.ntmps36
  go_wp2_with (go_at_call 14; refine (atI F g xs _ _ h' hb r HR.out).mono ?_; rintro e w' ⟨rfl, rfl⟩)
  go_ret2
  exact ⟨rfl, rfl⟩

set_option maxHeartbeats 400000 in
theorem popI (F : Nat → Prop) (g : Nat) (xs : List Int) (w : World) (h : PI w F g xs) (hb : xs.length ≤ 1073741824) (r : Int × Bool) (hr : getI xs (xs.length - 1) = r) :
    Calls Try.prog 37 #[.pointer (some ⟨g, 0, none⟩)] w fun e w' => e = .returned (.tuple #[.int .i64 r.1, .bool r.2]) ∧ PI w' F g xs.dropLast ∧ Frm F w w' := by
  have h' := h
  obtain ⟨v, hB, hF, hS⟩ := h
  obtain ⟨A, c, rfl⟩ := hS.form
  obtain ⟨c0, f0, l0⟩ := blk1 hB
  have hcap := hS.rd.cap
  have HR := Lib.hid hr
  by_cases hx : xs = []
  · subst hx
    obtain rfl : r = (0, false) := by rw [← hr]; rfl
    clear hr
    go_enter Try.func37, Try.ntmps37
    go_wp2_with (go_at_call 36; refine (topI F g [] _ h' hb _ HR.out).mono ?_; rintro e w' ⟨rfl, rfl⟩)
    go_ret2
    exact ⟨rfl, h', Frm.refl _ _⟩
  · have hpos : 0 < xs.length := List.length_pos_iff.2 hx
    obtain ⟨x, rfl⟩ : ∃ x, r = (x, true) := by
      rw [← hr, getI, if_neg (by omega), show ((xs.length : Int) - 1).toNat = xs.length - 1 by omega, List.getElem?_eq_getElem (by omega)]
      exact ⟨_, rfl⟩
    clear hr hx
    have hw1 : IntKind.i64.wrap ((xs.length : Int) - 1) = (xs.length : Int) - 1 := IntWalk.i64_in _ (by omega)
    go_enter Try.func37, Try.ntmps37
    go_wp2_with (go_at_call 36; refine (topI F g xs _ h' hb _ HR.out).mono ?_; rintro e w' ⟨rfl, rfl⟩)
    go_region
    all_goals
      go_wp2
      go_ret2
      have hd : xs.dropLast = xs.take (xs.length - 1) := List.dropLast_eq_take
      refine ⟨rfl, ⟨_, (hB.drew).setSame 0 _, hF, ?_⟩, ((Frm.refl F w).drew).set g 0 _ (fun _ => hF)⟩
      have hcut := (((hS.cut (k := xs.length - 1) (by omega)).drew).set g 0 (.slice A (xs.length - 1) c) (fun h => h.2 rfl))
      rw [Nat.mul_one, ← List.map_take] at hcut
      rw [hd, List.length_take, Nat.min_eq_left (by omega)]
      exact hcut

theorem Sl.clip {w : World} {F : Nat → Prop} {e : TypeId} {A : Option Addr} {n c k : Nat} {xs zs : List Value} (h : Sl w F e 1 (.slice A n c) n (xs.take k ++ zs)) (hk : k ≤ n) (hx : xs.length = n) : Sl w F e 1 (.slice A k c) k (xs.take k) := by
  have := h.cut hk
  rwa [Nat.mul_one, List.take_left' (by simp; omega)] at this

set_option maxHeartbeats 800000 in
theorem cutI (F : Nat → Prop) (g : Nat) (xs : List Int) (n : Int) (w : World) (h : PI w F g xs) (hb : xs.length ≤ 1073741824) :
    Calls Try.prog 12 #[.pointer (some ⟨g, 0, none⟩), .int .i64 n] w fun e w' => e = .returned (.int .i64 (if n < 0 ∨ (xs.length : Int) < n then 1 else 0)) ∧ PI w' F g (if n < 0 ∨ (xs.length : Int) < n then xs else xs.take n.toNat) ∧ Frm F w w' := by
  have h' := h
  obtain ⟨v, hB, hF, hS⟩ := h
  obtain ⟨A, c, rfl⟩ := hS.form
  obtain ⟨c0, f0, l0⟩ := blk1 hB
  have hcap := hS.rd.cap
  by_cases hn : n < 0
  · rw [if_pos (.inl hn), if_pos (.inl hn)]
    go_enter Try.func12, Try.ntmps12
    go_wp2
    go_ret
    exact ⟨rfl, h', Frm.refl _ _⟩
  · by_cases hn2 : (xs.length : Int) < n
    · rw [if_pos (.inr hn2), if_pos (.inr hn2)]
      go_enter Try.func12, Try.ntmps12
      go_wp2
      go_ret
      exact ⟨rfl, h', Frm.refl _ _⟩
    · obtain ⟨m, rfl⟩ := Int.eq_ofNat_of_zero_le (Int.not_lt.1 hn)
      have hm : m ≤ xs.length := by omega
      have hno : ¬ ((m : Int) < 0 ∨ (xs.length : Int) < (m : Int)) := by omega
      rw [if_neg hno, if_neg hno, Int.toNat_natCast]
      clear hno
      go_enter Try.func12, Try.ntmps12
      go_wp2_with (with_reducible refine stop_at 21 rfl ?_)
      unfold Stop
      refine op_from rfl _ _ _ rfl 3 1 Try.underlying22 sizeInt A xs.length c rfl _ rfl m rfl hm hcap ?_
      intro ao hao
      go_wp2_with (with_reducible refine stop_clear (.tmp 21) 22 rfl ?_)
      unfold Stop
      generalize hq : xs.map I64 = q at hS
      generalize hl : xs.length = l at *
      cases hS with
      | nil =>
        obtain rfl : m = 0 := by omega
        obtain rfl : xs = [] := List.eq_nil_of_length_eq_zero hl
        refine op_clearB rfl _ _ rfl 3 (.int .i64 0) 1 Try.underlying22 zeroInt rfl (by intro u hu; simp [Value.cells] at hu; subst hu; rfl) ao 0 _ rfl g 0 _ 75 hB (fun h => absurd h (by omega)) (by simp) ?_
        intro w1 hf1 hz1 hB1
        simp only [List.take_zero, List.replicate_zero, List.flatten_nil, List.append_nil, List.nil_append, Nat.zero_mul, Nat.add_zero, List.drop_zero] at hB1
        obtain ⟨c0, f0, l0⟩ := blk1 hB1
        go_wp2
        go_ret
        exact ⟨rfl, ⟨_, hB1.setSame 0 _, hF, by simpa using Sl.nil⟩, ((Frm.refl F w).then hf1 (fun i h _ => by subst h; exact hF)).set g 0 _ (fun _ => hF)⟩
      | @at_ b _ _ _ rest hF2 hb2 hx2 hr2 hn2 hm2 =>
        have hql : q.length = l := by simpa using hx2
        refine op_clearB rfl _ _ rfl 3 (.int .i64 0) 1 Try.underlying22 zeroInt rfl (by intro u hu; simp [Value.cells] at hu; subst hu; rfl) ao (l - m) _ rfl b m _ 3 hb2 (fun h => by rw [hao (by omega)]; simp [addr0]) (by simp; omega) ?_
        intro w1 hf1 hz1 hb1
        have hB1 := hB.frm hf1 (fun h => hF2.2 h.symm)
        obtain ⟨c0, f0, l0⟩ := blk1 hB1
        go_wp2
        go_ret
        refine ⟨rfl, ⟨_, hB1.setSame 0 _, hF, ?_⟩, ((Frm.refl F w).then hf1 (fun i h _ => by subst h; exact hF2.1)).set g 0 _ (fun _ => hF)⟩
        have hb3 := hb1.setOther g 0 (.slice (some ⟨b, 0, none⟩) m c) hF2.2
        rw [List.length_take, hl, Nat.min_eq_left hm, List.map_take, hq]
        rw [List.take_append_of_le_length (by omega)] at hb3
        refine .at_ (rest := (List.replicate (l - m) (Value.int .i64 0).cells.toList).flatten ++ (q ++ rest).drop (m + (l - m) * 1)) hF2 ?_ (by simp; omega) ?_ (by omega) hm2
        · rw [← List.append_assoc]; exact hb3
        · have := hr2
          simp [Value.cells] at this ⊢
          omega
end Go.Proofs.Ythlefnajbfkdbaa
