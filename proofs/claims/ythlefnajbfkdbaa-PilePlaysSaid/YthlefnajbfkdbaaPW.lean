import Derived.Test.YthlefnajbfkdbaaTEq
import Derived.Test.YthlefnajbfkdbaaRQuiet
import Derived.Deep.CutBlock
import Derived.Deep.DeepCutAuto
import Derived.Deep.QuietTactic
import Derived.BigQuiet
set_option linter.unusedVariables false
set_option linter.unusedSimpArgs false
namespace Go.Proofs.Ythlefnajbfkdbaa
open Go.RowKit

/-- A pile, its list: the law's World. -/
def PW (w : World) (F : Nat → Prop) (b g : Nat) (fv : Value) (xs : List Th) : Prop :=
  ∃ v Fp Fl, Blk w b [.pointer (some ⟨g, 0, none⟩), v, fv] 61 ∧ F b ∧ TP w Fp g xs ∧ (∀ k, Fp k → F k ∧ k ≠ b) ∧ Sl w Fl 56 2 v xs.length (flatT xs) ∧ ∀ k, Fl k → F k ∧ k ≠ b ∧ ¬ Fp k
theorem PW.frm {S : Nat → Prop} {w w' : World} {F : Nat → Prop} {b g : Nat} {fv : Value} {xs : List Th} (h : PW w F b g fv xs) (f : Frm S w w') (hd : ∀ k, F k → ¬ S k) : PW w' F b g fv xs := by
  obtain ⟨v, Fp, Fl, hB, hF, hT, hp, hS, hl⟩ := h
  exact ⟨v, Fp, Fl, hB.frm f (hd _ hF), hF, hT.frm f (fun k h => hd k (hp k h).1), hp, hS.frm f (fun k h => hd k (hl k h).1), hl⟩
theorem PW.low {w : World} {F : Nat → Prop} {b g : Nat} {fv : Value} {xs : List Th} (h : PW w F b g fv xs) : PW w (fun k => F k ∧ k < w.heap.size) b g fv xs := by
  obtain ⟨v, Fp, Fl, hB, hF, hT, hp, hS, hl⟩ := h
  exact ⟨v, _, _, hB, ⟨hF, hB.lt⟩, hT.low, fun k h => ⟨⟨(hp k h.1).1, h.2⟩, (hp k h.1).2⟩, hS.low, fun k h => ⟨⟨(hl k h.1).1, h.2⟩, (hl k h.1).2.1, fun hk => (hl k h.1).2.2 hk.1⟩⟩
theorem PW.mono {w : World} {F G : Nat → Prop} {b g : Nat} {fv : Value} {xs : List Th} (h : PW w F b g fv xs) (hG : ∀ k, F k → k < w.heap.size → G k) : PW w G b g fv xs := by
  obtain ⟨v, Fp, Fl, hB, hF, hT, hp, hS, hl⟩ := h.low
  exact ⟨v, Fp, Fl, hB, hG _ hF.1 hF.2, hT, fun k h => ⟨hG _ (hp k h).1.1 (hp k h).1.2, (hp k h).2⟩, hS, fun k h => ⟨hG _ (hl k h).1.1 (hl k h).1.2, (hl k h).2⟩⟩
theorem PW.kept {w w' : World} {row : Option Nat} {F : Nat → Prop} {b g : Nat} {fv : Value} {xs : List Th} (h : PW w F b g fv xs) (hg : w.grownBy w' row) (hr : ∀ r, row = some r → ∃ o : Obj, w.heap[r]? = some o ∧ o.isCells = false) : PW w' F b g fv xs := by
  obtain ⟨v, Fp, Fl, hB, hF, hT, hp, hS, hl⟩ := h
  exact ⟨v, Fp, Fl, hB.kept hg hr, hF, hT.kept hg hr, hp, hS.kept hg hr, hl⟩
theorem PW.lt {w : World} {F : Nat → Prop} {b g : Nat} {fv : Value} {xs : List Th} (h : PW w F b g fv xs) : b < w.heap.size := by
  obtain ⟨v, Fp, Fl, hB, _⟩ := h
  exact hB.lt

/-- The list's last one. -/
theorem lastW (p v fv : Value) (Fl : Nat → Prop) (b : Nat) (xs : List Th) (w : World) (hB : Blk w b [p, v, fv] 61) (hS : Sl w Fl 56 2 v xs.length (flatT xs)) (hb : xs.length ≤ 1073741824) (r : Th × Bool) (hr : getT xs (xs.length - 1) = r) :
    Calls Try.prog 44 #[.pointer (some ⟨b, 0, none⟩)] w (AtPost w r) := by
  obtain ⟨A, c, rfl⟩ := hS.form
  obtain ⟨c0, c1, c2, f0, f1, f2, l0⟩ := blk3 hB
  rcases List.eq_nil_or_concat xs with rfl | ⟨ys, x, rfl⟩
  · obtain rfl : (th0, false) = r := by rw [← hr]; simp [getT]
    go_enter Try.func44, Try.ntmps44
    go_wp2
    refine bodyPost_ret (results_two rfl (RV.cell rfl (Blk.new w [.int .i64 0, .string ⟨#[]⟩] 56) Try.underlying56 rfl (by kernel_rfl)) (RV.tmp rfl)) rfl ⟨rfl, (Frm.refl _ w).alloc _⟩
  · simp only [List.concat_eq_append] at *
    have hl : (ys ++ [x]).length = ys.length + 1 := by simp
    obtain rfl : (x, true) = r := by rw [← hr, getT, if_neg (by omega), show (((ys ++ [x]).length : Int) - 1).toNat = ys.length by omega]; simp
    obtain ⟨B, off, rfl, hbl, d0, d1⟩ := hS.rd.th ys.length x (by simp)
    rw [hl] at c1
    clear hr
    generalize ys.length = k at *
    go_enter Try.func44, Try.ntmps44
    go_wp2
    go_region
    all_goals
      go_wp2
      refine bodyPost_ret (results_two rfl (RV.cell rfl ((Blk.new w [.int .i64 x.n, .string x.s] 56).drew) Try.underlying56 rfl (by kernel_rfl)) (RV.tmp rfl)) rfl ⟨rfl, ((Frm.refl _ w).alloc _).drew⟩


def DoesPost (F : Nat → Prop) (b g : Nat) (fv : Value) (w : World) (xs : List Th) (e : Ending) (w' : World) : Prop :=
  e = .returned (.bool true) ∧ PW w' (fun k => F k ∨ w.heap.size ≤ k) b g fv xs ∧ Frm F w w'

set_option maxHeartbeats 1600000 in
set_option maxRecDepth 100000 in
theorem doesPush (F : Nat → Prop) (b g : Nat) (fv : Value) (xs : List Th) (n : Int) (s : ByteArray) (w : World) (h : PW w F b g fv xs) (hb : xs.length + 1 ≤ 1073741824) :
    Calls Try.prog 30 #[.pointer (some ⟨b, 0, none⟩), .int .i64 1, .int .i64 n, .string s] w (DoesPost F b g fv w (xs ++ [⟨n, s⟩])) := by
  obtain ⟨v, Fp, Fl, hB, hF, hT, hp, hS, hl⟩ := h.low
  obtain ⟨A, c, rfl⟩ := hS.form
  obtain ⟨c0, c1, c2, f0, f1, f2, l0⟩ := blk3 hB
  go_enter Try.func30, Try.ntmps30
  go_wp2_with fail
  refine (pushT Fp g xs n s w hT (by omega)).mono ?_
  rintro e w1 ⟨rfl, hT1, hf1⟩
  have hB1 := hB.frm hf1 (fun h => (hp b h).2 rfl)
  have hS1 := hS.frm hf1 (fun k h => (hl k h).2.2)
  have hz1 := hf1.size
  clear c0 c1 c2 f0 f1 f2
  obtain ⟨c0, c1, c2, f0, f1, f2, l1⟩ := blk3 hB1
  have hX := Blk.new w1 [.int .i64 n, .string s] 56
  have hS2 := hS1.alloc (.cells #[.int .i64 n, .string s] 56)
  go_wp2_with (with_reducible refine stop_at 40 rfl ?_)
  unfold Stop
  refine op_append rfl _ _ _ rfl 56 _ 2 24 Try.underlying57 infoTh rfl (by omega) hS2 rfl ⟨w1.heap.size, 0, none⟩ 1 1 [.int .i64 n, .string s] rfl rfl (fun j u hu => (hX.cellAdd 0 j).trans (by rw [Nat.zero_add]; exact hu)) (by intro u hu; simp at hu; rcases hu with rfl | rfl <;> rfl) (by simp only [maxLen]; omega) (by omega) ?_
  intro v' w3 hf3 hS3
  have hB3 := (hB1.alloc (.cells #[.int .i64 n, .string s] 56)).frm hf3 (fun h => (hl b h).2.1 rfl)
  have hT3 := (hT1.low.frm (S := fun _ => False) ((Frm.refl _ w1).alloc (.cells #[.int .i64 n, .string s] 56)) (fun _ _ h => h)).frm hf3 (fun k hk hx => by rcases hk.1 with h1 | h1; exact (hl k hx).2.2 h1; exact absurd (hl k hx).1.2 (by omega))
  obtain ⟨A3, e3, rfl⟩ := hS3.form
  have hz3 : w1.heap.size + 1 ≤ w3.heap.size := by have := hf3.size; simpa using this
  clear c0 c1 c2 f0 f1 f2
  obtain ⟨c0, c1, c2, f0, f1, f2, l3⟩ := blk3 hB3
  have hB4 := hB3.setSame 1 (.slice A3 (xs.length + 1) e3)
  have hf4 : Frm F w (w3.setCell ⟨b, 1, none⟩ (.slice A3 (xs.length + 1) e3)) := ((((hf1.mono (fun i h _ => (hp i h).1.1)).alloc (.cells #[.int .i64 n, .string s] 56)).then hf3 (fun i h _ => (hl i h).1.1)).set b 1 _ (fun _ => hF.1))
  have hne : ∀ k, ((Fp k ∨ w.heap.size ≤ k) ∧ k < w1.heap.size) → k ≠ b := fun k hk e => by rcases hk.1 with h1 | h1; exact (hp k h1).2 e; omega
  have hT4 := hT3.frm (S := fun k => k = b) ((Frm.refl (fun k => k = b) _).set b 1 (.slice A3 (xs.length + 1) e3) (fun _ => rfl)) hne
  have hS4 := hS3.set b 1 (.slice A3 (xs.length + 1) e3) (by rintro (h | h); exact (hl b h).2.1 rfl; simp at h; omega)
  have hW4 : PW (w3.setCell ⟨b, 1, none⟩ (.slice A3 (xs.length + 1) e3)) (fun k => F k ∨ w.heap.size ≤ k) b g fv (xs ++ [⟨n, s⟩]) := by
    refine ⟨_, _, _, hB4, .inl hF.1, hT4, fun k hk => ⟨?_, hne k hk⟩, by rw [List.length_append, flatT_append]; exact hS4, fun k hk => ?_⟩
    · rcases hk.1 with h1 | h1
      · exact .inl (hp k h1).1.1
      · exact .inr h1
    · rcases hk with h1 | h1
      · exact ⟨.inl (hl k h1).1.1, (hl k h1).2.1, fun hx => by rcases hx.1 with h2 | h2; exact (hl k h1).2.2 h2; exact absurd (hl k h1).1.2 (by omega)⟩
      · simp at h1
        exact ⟨.inr (by omega), by omega, fun hx => by have := hx.2; omega⟩
  go_wp2_with fail
  generalize w3.setCell ⟨b, 1, none⟩ (.slice A3 (xs.length + 1) e3) = w4 at *
  clear c0 c1 c2 f0 f1 f2 hS4 hT4 hB4
  generalize xs ++ [(⟨n, s⟩ : Th)] = ys at *
  obtain ⟨v5, Fp5, Fl5, hB5, hF5, hT5, hp5, hS5, hl5⟩ := hW4
  obtain ⟨A5, e5, rfl⟩ := hS5.form
  obtain ⟨d0, d1, d2, g0, g1, g2, l5⟩ := blk3 hB5
  have hlen := fun w h => lenT Fp5 g ys w h
  have HLE := Lib.hid hlen
  clear hlen
  have hyy : ((ys.length : Int) == (ys.length : Int)) = true := by simp
  go_upto_region 27 with fail
  go_quiet ((go_at_call 32; refine (HLE.out _ (hT5.frm (S := fun _ => False) ((Frm.refl _ _).drewN _) (fun _ _ h => h))).mono ?_; rintro e w7 ⟨rfl, rfl⟩; exact ⟨rfl, _, rfl⟩))
  go_wp2
  go_ret
  exact ⟨by first | rfl | simp, PW.frm (S := fun _ => False) ⟨_, _, _, hB5, hF5, hT5, hp5, hS5, hl5⟩ ((Frm.refl _ _).drewN _) (fun _ _ h => h), hf4.drewN _⟩

end Go.Proofs.Ythlefnajbfkdbaa
