import Derived.Test.YtmibmblebhpdfaaFeed
set_option linter.unusedVariables false
set_option linter.unusedSimpArgs false
namespace Go.Proofs.Ytmibmblebhpdfaa
open Go.RowKit

theorem equal_nil (A : Option Addr) (n c : Nat) (l : List UInt8) (w : World) {F : Nat → Prop} (h : Sl w F 5 1 (.slice A n c) n (l.map B8)) (r : Bool) (hr : (l == []) = r) :
    Calls Try.prog 22 #[.slice A n c, .slice none 0 0] w fun e w' => e = .returned (.bool r) ∧ w = w' := by
  have hl : l.length = n := by simpa using h.len
  have h1 : Lib.BytesIn w A n (l.map fun x => (x.toNat : Int)) := by
    intro hn
    generalize hq : l.map B8 = q at h
    cases h with
    | nil => omega
    | at_ hF hb hx hr hn2 hm =>
      subst hq
      refine ⟨_, 0, rfl, fun i hi => ?_⟩
      have hi' : i < l.length := by omega
      rw [hb.cell, Nat.zero_add, List.getElem?_append_left (by simpa using hi'), List.getElem?_map, List.getElem?_eq_getElem hi', List.getD_eq_getElem?_getD, List.getElem?_map, List.getElem?_eq_getElem hi']
      rfl
  refine (Try.bytes_Equal_all A none n c 0 0 (l.map fun x => (x.toNat : Int)) [] w (by simpa using hl) rfl h1 (Lib.BytesIn.nil _ _ _)).mono fun e w' ⟨he, hw⟩ => ⟨?_, hw.symm⟩
  rw [he, ← hr]
  congr 2
  cases l <;> rfl

set_option maxHeartbeats 400000 in
theorem close_calls (F : Nat → Prop) (g : Nat) (held : List UInt8) (at_ num : Int) (w : World) (h : Spl w F g held at_ num)
    (hb : held.length ≤ 2097152) (hn0 : 0 ≤ num) (hn : num ≤ 1152921504606846976) (ha0 : held.length ≤ at_) (ha : at_ ≤ 1152921504606846976) :
    Calls Try.prog 12 #[.pointer (some ⟨g, 0, none⟩)] w (FedPost F g w (closeL ⟨[], held, num, at_ - held.length⟩) [] 0 1) := by
  have hSpl := h.low
  obtain ⟨v, hB, hF, hS⟩ := h
  obtain ⟨A, c, rfl⟩ := hS.form
  obtain ⟨c0, c1, c2, f0, f1, f2, l0⟩ := blk3 hB
  by_cases he : held = []
  · subst he
    go_enter Try.func12, Try.ntmps12
    go_wp2_with (go_at_call 22; refine (equal_nil A _ c [] _ hS true rfl).mono ?_; rintro e w' ⟨rfl, rfl⟩)
    go_ret
    have hBf := (hB.setSame 1 (.int .i64 0)).setSame 2 (.int .i64 1)
    exact ⟨_, _, _, rfl, by simpa [closeL, cellsL] using Sl.nil (F := fun _ => False), ⟨_, hBf, hF, (hS.set g 1 _ (fun h => h.2 rfl)).set g 2 _ (fun h => h.2 rfl)⟩, ((Frm.refl _ _).set g 1 _ (fun _ => hF)).set g 2 _ (fun _ => hF), fun k h => .inl h, fun _ h => h.elim, fun _ _ h => h⟩
  · have hne : (held == []) = false := by simpa using he
    have hpos : 0 < held.length := List.length_pos_iff.2 he
    go_enter Try.func12, Try.ntmps12
    go_wp2_with (go_at_call 22; refine (equal_nil A _ c held _ hS false hne).mono ?_; rintro e w' ⟨rfl, rfl⟩)
    have hwr : IntKind.i64.wrap (at_ - held.length) = at_ - held.length := IntWalk.i64_in _ (by omega)
    go_region_law (first | (refine step_call (f := 21) rfl rfl Try.func21 (by kernel_rfl) rfl _ (by simp only [List.map_toArray, List.map_cons, List.map_nil]; rfl) ?_; (try rw [hwr]); refine (line_calls (fun k => F k ∧ k < w.heap.size) g held at_ num (at_ - held.length) ⟨#[]⟩ false _ (hSpl.frm (S := fun _ => False) ((Frm.refl _ _).drew) (fun _ _ f => f)) (by simp only [show (⟨#[]⟩ : ByteArray).size = 0 from rfl]; omega) hn0 (by omega)).mono ?_; rintro e w2 ⟨rfl, hs2, hf2⟩; refine ⟨_, rfl, ?_⟩) | (refine step_append rfl _ _ _ rfl 31 _ 4 40 Try.underlying26 infoLn rfl (by omega) (Sl.nil (F := fun _ => False)) rfl ⟨w2.heap.size, 0, none⟩ 1 1 (Ln.cells ⟨num, at_ - held.length, held, false⟩) rfl rfl (fun j u hu => by rw [(Blk.new w2 _ 31).cellAdd 0 j, Nat.zero_add]; exact hu) (by intro u hu; simp [Ln.cells] at hu; rcases hu with rfl | rfl | rfl | rfl <;> rfl) (by simp only [maxLen]; omega) (by omega) ?_; intro v' w3 hf3 hs3))
    all_goals
      have hz2 := hf2.size
      have hz3 := hf3.size
      have hs3' := (hs2.frm (S := fun _ => False) ((Frm.refl _ _).alloc (.cells (Ln.cells ⟨num, at_ - held.length, held, false⟩).toArray 31)) (fun _ _ f => f)).frm hf3 (fun k h h' => h')
      obtain ⟨hv3, hB3, hF3, hS3⟩ := hs3'
      obtain ⟨A3, c3, rfl⟩ := hS3.form
      obtain ⟨c0, c1, c2, f0, f1, f2, l3⟩ := blk3 hB3
      go_wp2
      go_ret
      have hz2' : w.heap.size ≤ w2.heap.size := hz2
      have hcl : closeL ⟨[], held, num, at_ - held.length⟩ = [⟨num, at_ - held.length, held, false⟩] := by simp [closeL, he]
      rw [hcl]
      have hBf := (hB3.setSame 1 (.int .i64 0)).setSame 2 (.int .i64 1)
      have hv : Sl w3 (fun k => w2.heap.size < k) 31 4 v' 1 (Ln.cells ⟨num, at_ - held.length, held, false⟩) := by
        have := hs3.mono (G := fun k => w2.heap.size < k) (by rintro k (h | h) _; exact h.elim; simp at h; omega)
        simpa using this
      have hg2 : ¬ w2.heap.size < g := by omega
      refine ⟨_, fun k => F k ∧ k < w.heap.size, fun k => w2.heap.size < k, rfl, by rw [cellsL_one]; exact (hv.set g 1 _ hg2).set g 2 _ hg2, ⟨_, hBf, ⟨hF, l0⟩, (hS3.set g 1 _ (fun h => h.2 rfl)).set g 2 _ (fun h => h.2 rfl)⟩, ?_, fun k h => .inl h.1, fun k h => by omega, fun k h h' => by omega⟩
      exact ((((((Frm.refl F w).drew).then hf2 (fun i h _ => h.1)).alloc _).then hf3 (fun _ h _ => h.elim)).set g 1 _ (fun _ => hF)).set g 2 _ (fun _ => hF)
end Go.Proofs.Ytmibmblebhpdfaa
