/-
  'turn' and 'has', walked.
-/
import Derived.Test.YtamiliccnbkipaaNPlay
set_option linter.unusedVariables false
set_option linter.unusedSimpArgs false
namespace Go.Proofs.Ytamiliccnbkipaa
open Go.RowKit

def swapC (c : Nat) : Nat := if c = 1 then 2 else if c = 2 then 1 else if c = 3 then 4 else if c = 4 then 3 else c
theorem swapC_eq (c d : Nat) (h : c = swapC d) : swapC c = d := by
  subst h
  unfold swapC
  repeat' split
  all_goals omega

set_option maxHeartbeats 1600000 in
set_option maxRecDepth 100000 in
theorem turn (F : Nat → Prop) (col : Nat → Nat) (x : Nat) (A : Option Addr) (n cp : Nat) (gr co : Int) (fo : Bool) (line : ByteArray) (bn bx : Nat) (vf vt vd : Value) (st : Int) (ln lx : List Nat) (fr th td : List Int) (w : World)
    (h : PL w F col x A n cp gr co fo line bn bx vf vt vd st ln lx fr th td) :
    Calls Try.prog 31 #[.pointer (some ⟨x, 0, none⟩)] w fun e w' => e = .returned (.tuple #[]) ∧ PL w' F (fun k => swapC (col k)) x A n cp gr co fo line bx bn vt vf vd st lx [] th fr td ∧ Frm F w w' := by
  obtain ⟨c0, c4, c5, c6, c7, c8, c9, c10, l0⟩ := blk11 h.b
  obtain ⟨z5, z6, z7, z8, z9, z10⟩ := frz11 h.b
  obtain ⟨Af, cf, rfl⟩ := h.sf.form
  obtain ⟨At, ct, rfl⟩ := h.sh.form
  have hx := h.fx
  go_enter Try.func31, Try.ntmps31
  go_wp2_with fail
  go_region
  all_goals
    have hB1 := ((h.b.setSame 5 (.pointer (some ⟨bx, 0, none⟩))).setSame 6 (.pointer (some ⟨bn, 0, none⟩))).drew
    have hf1 : Frm (fun k => k = x) w (((w.setCell ⟨x, 5, none⟩ (.pointer (some ⟨bx, 0, none⟩))).setCell ⟨x, 6, none⟩ (.pointer (some ⟨bn, 0, none⟩))).drew) := (((Frm.refl (fun k => k = x) w).set x 5 _ (fun _ => rfl)).set x 6 _ (fun _ => rfl)).drew
    clear c0 c4 c5 c6 c7 c8 c9 c10 z5 z6 z7 z8 z9 z10
    go_wp2_with fail
    generalize ((w.setCell ⟨x, 5, none⟩ (.pointer (some ⟨bx, 0, none⟩))).setCell ⟨x, 6, none⟩ (.pointer (some ⟨bn, 0, none⟩))).drew = w1 at *
    obtain ⟨c0, c4, c5, c6, c7, c8, c9, c10, l1⟩ := blk11 hB1
    obtain ⟨z5, z6, z7, z8, z9, z10⟩ := frz11 hB1
    go_region
    all_goals
      have hB2 := ((hB1.setSame 7 (.slice At n ct)).setSame 8 (.slice Af n cf)).drew
      have hf2 : Frm (fun k => k = x) w1 (((w1.setCell ⟨x, 7, none⟩ (.slice At n ct)).setCell ⟨x, 8, none⟩ (.slice Af n cf)).drew) := (((Frm.refl (fun k => k = x) w1).set x 7 _ (fun _ => rfl)).set x 8 _ (fun _ => rfl)).drew
      clear c0 c4 c5 c6 c7 c8 c9 c10 z5 z6 z7 z8 z9 z10
      generalize ((w1.setCell ⟨x, 7, none⟩ (.slice At n ct)).setCell ⟨x, 8, none⟩ (.slice Af n cf)).drew = w2 at *
      obtain ⟨c0, c4, c5, c6, c7, c8, c9, c10, l1⟩ := blk11 hB2
      have hf := hf1.trans hf2
      have no : ∀ (c : Nat), 1 ≤ c → ∀ k, (F k ∧ col k = c) → ¬ (k = x) := fun c hc k hk e => by subst e; omega
      have hm2 := h.nw.frm hf (no 1 (by omega))
      go_wp2_with fail
      refine (clearM _ bn n ln w2 hm2).mono ?_
      rintro e w3 ⟨rfl, hm3, hf3⟩
      have hbn : F bn ∧ col bn = 1 := by
        obtain ⟨vw, vl, Fw, Fl, wh, hB, hF, _⟩ := h.nw
        exact hF
      have n1 : ∀ (c : Nat), c ≠ 1 → ∀ k, (F k ∧ col k = c) → ¬ (k = bn) := fun c hc k hk e => by subst e; omega
      go_wp2
      go_end0
      have sw : ∀ (c d : Nat), swapC c = d → ∀ k, (F k ∧ col k = c) → k < w3.heap.size → (F k ∧ swapC (col k) = d) := fun c d hcd k hk _ => ⟨hk.1, by rw [hk.2]; exact hcd⟩
      refine ⟨rfl, ⟨hB2.frm hf3 (fun e => by subst e; omega), ⟨hx.1, by show swapC (col x) = 0; rw [hx.2]; rfl⟩, ?_, hm3.mono (sw 1 2 rfl), ?_, ?_, ?_, h.lt, h.lf⟩, ?_⟩
      · exact ((h.nx.frm hf (no 2 (by omega))).frm hf3 (n1 2 (by omega))).mono (sw 2 1 rfl)
      · exact ((h.sh.frm hf (no 4 (by omega))).frm hf3 (n1 4 (by omega))).mono (sw 4 3 rfl)
      · exact ((h.sf.frm hf (no 3 (by omega))).frm hf3 (n1 3 (by omega))).mono (sw 3 4 rfl)
      · exact ((h.sd.frm hf (no 5 (by omega))).frm hf3 (n1 5 (by omega))).mono (sw 5 5 rfl)
      · exact (hf.mono (fun i e _ => e ▸ hx.1)).then hf3 (fun i e _ => e ▸ hbn.1)

/-- Is a byte in an instruction's set? -/
def inSet (i : Ins) (c : UInt8) : Bool :=
  bits BinOp.and IntKind.u64 ((if c.toNat / 64 = 0 then i.s0 else if c.toNat / 64 = 1 then i.s1 else if c.toNat / 64 = 2 then i.s2 else i.s3) / 2 ^ (c.toNat % 64)) 1 == 1

set_option maxHeartbeats 1600000 in
theorem hasS (i : Ins) (c : UInt8) (w : World) : Calls Try.prog 33 #[.agg #[.int .u64 i.s0, .int .u64 i.s1, .int .u64 i.s2, .int .u64 i.s3], .int .u8 c.toNat] w fun e w' => e = .returned (.bool (inSet i c)) ∧ w' = w.alloc (.cells #[.int .u64 i.s0, .int .u64 i.s1, .int .u64 i.s2, .int .u64 i.s3] 48) := by
  have hc := c.toNat_lt
  have hB := Blk.new w [.int .u64 i.s0, .int .u64 i.s1, .int .u64 i.s2, .int .u64 i.s3] 48
  have b0 := hB.cell 0
  have b1 := hB.cell 1
  have b2 := hB.cell 2
  have b3 := hB.cell 3
  simp only [List.getElem?_cons_zero, List.getElem?_cons_succ] at b0 b1 b2 b3
  go_enter Try.func33, Try.ntmps33
  go_upto_region 1 with fail
  generalize hw : w.alloc (.cells #[.int .u64 i.s0, .int .u64 i.s1, .int .u64 i.s2, .int .u64 i.s3] 48) = w1 at *
  have HW := Lib.hid hw
  clear hw
  generalize w.heap.size = b at *
  have hq : c.toNat / 64 = 0 ∨ c.toNat / 64 = 1 ∨ c.toNat / 64 = 2 ∨ c.toNat / 64 = 3 := by omega
  rcases hq with hq | hq | hq | hq
  all_goals
    go_wp2_with fail
    go_ret
    exact ⟨by simp [inSet, hq], HW.out.symm⟩
end Go.Proofs.Ytamiliccnbkipaa
