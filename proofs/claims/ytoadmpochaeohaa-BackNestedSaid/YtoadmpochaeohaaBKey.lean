/-
  Layer 20: what a configuration is told apart by.
-/
import Derived.Test.YtoadmpochaeohaaBTo
set_option linter.unusedVariables false
set_option linter.unusedSimpArgs false
set_option maxRecDepth 100000
namespace Go.Proofs.Ytoadmpochaeohaa
open Go.RowKit

def U8 (c : UInt8) : Value := .int .u8 c.toNat
theorem infoU8 : (Try.prog.info? 5).map (fun i => (i.zero, i.size, i.bytes)) = some (some (.int .u8 0), 1, 1) := by kernel_rfl

theorem put4_U8 (n : Int) : (put4 n).map U8 = [.int .u8 (n % 256), .int .u8 (n / 256 % 256), .int .u8 (n / 65536 % 256), .int .u8 (n / 16777216 % 256)] := by
  have h : ∀ z : Int, U8 (UInt8.ofNat (z % 256).toNat) = .int .u8 (z % 256) := fun z => by
    have h0 : 0 ≤ z % 256 := Int.emod_nonneg _ (by omega)
    have h1 : z % 256 < 256 := Int.emod_lt_of_pos _ (by omega)
    unfold U8
    congr 1
    rw [UInt8.toNat_ofNat', Nat.mod_eq_of_lt (by omega)]
    omega
  simp only [put4, List.map_cons, List.map_nil, h]
/-- The bytes so far: in a box. -/
def KB (w : World) (F : Nat → Prop) (b : Nat) (l : List UInt8) : Prop := ∃ v, Blk w b [v] 158 ∧ F b ∧ Sl w (fun k => F k ∧ k ≠ b) 5 1 v l.length (l.map U8)
theorem KB.frm {S : Nat → Prop} {w w' : World} {F : Nat → Prop} {b : Nat} {l : List UInt8} (h : KB w F b l) (f : Frm S w w') (hd : ∀ k, F k → ¬ S k) : KB w' F b l := by
  obtain ⟨v, hB, hF, hS⟩ := h
  exact ⟨v, hB.frm f (hd _ hF), hF, hS.frm f (fun k h => hd k h.1)⟩

set_option maxHeartbeats 800000 in
theorem putB (F : Nat → Prop) (b : Nat) (l : List UInt8) (n : Int) (w : World) (h : KB w F b l) (hl : l.length ≤ 100000) (hn : -9223372036854775808 ≤ n ∧ n ≤ 9223372036854775807) :
    Calls Try.prog 86 #[.int .i64 n, .pointer (some ⟨b, 0, none⟩)] w fun e w' => e = .returned (.tuple #[]) ∧ KB w' (fun k => F k ∨ w.heap.size ≤ k) b (l ++ put4 n) ∧ Frm F w w' := by
  obtain ⟨v, hB, hF, hS⟩ := h
  obtain ⟨A, c, rfl⟩ := hS.form
  have hlt := hB.lt
  obtain ⟨c0, f0, l0⟩ := blk1 hB
  go_enter Try.func86, Try.ntmps86
  go_wp2_with (with_reducible refine stop_at 16 rfl ?_)
  unfold Stop
  have hX := Blk.new w [.int .u8 (n % 256), .int .u8 (n / 256 % 256), .int .u8 (n / 65536 % 256), .int .u8 (n / 16777216 % 256)] 5
  have hf0 : Frm F w (w.alloc (.cells #[.int .u8 (n % 256), .int .u8 (n / 256 % 256), .int .u8 (n / 65536 % 256), .int .u8 (n / 16777216 % 256)] 5)) := (Frm.refl _ w).alloc _
  refine op_append rfl _ _ _ rfl 5 _ 1 1 Try.underlying158 infoU8 rfl (by omega) (hS.low.alloc _) rfl ⟨w.heap.size, 0, none⟩ 4 4 [.int .u8 (n % 256), .int .u8 (n / 256 % 256), .int .u8 (n / 65536 % 256), .int .u8 (n / 16777216 % 256)] rfl rfl (fun j u hu => by rw [hX.cellAdd 0 j, Nat.zero_add]; exact hu) (by intro u hu; simp at hu; rcases hu with rfl | rfl | rfl | rfl <;> rfl) (by simp only [maxLen]; omega) (by omega) ?_
  intro v3 w3 hf3 hs3
  obtain ⟨A1, e1, rfl⟩ := hs3.form
  have hB3 := (hB.alloc (.cells #[.int .u8 (n % 256), .int .u8 (n / 256 % 256), .int .u8 (n / 65536 % 256), .int .u8 (n / 16777216 % 256)] 5)).frm hf3 (fun h => h.1.2 rfl)
  have hz := (hf0.then hf3 (fun i h _ => h.1.1)).size
  have hff := hf0.then hf3 (fun i h _ => h.1.1)
  generalize w.alloc (.cells #[.int .u8 (n % 256), .int .u8 (n / 256 % 256), .int .u8 (n / 65536 % 256), .int .u8 (n / 16777216 % 256)] 5) = w1 at *
  have hz1 := hf0.size
  clear c0 f0 l0
  obtain ⟨c0, f0, l0⟩ := blk1 hB3
  go_wp2_with fail
  go_end0
  refine ⟨rfl, ⟨_, hB3.setSame 0 _, .inl hF, ?_⟩, hff.set b 0 _ (fun _ => hF)⟩
  have e : (l ++ put4 n).map U8 = l.map U8 ++ [.int .u8 (n % 256), .int .u8 (n / 256 % 256), .int .u8 (n / 65536 % 256), .int .u8 (n / 16777216 % 256)] := by rw [List.map_append, put4_U8]
  rw [e, List.length_append, show (put4 n).length = 4 from rfl]
  exact (hs3.set b 0 (.slice A1 (l.length + 4) e1) (by rintro (h | h); exact h.1.2 rfl; omega)).mono (G := fun k => (F k ∨ w.heap.size ≤ k) ∧ k ≠ b) (by rintro k (h | h) _; exact ⟨.inl h.1.1, h.1.2⟩; exact ⟨.inr (by omega), by omega⟩)
end Go.Proofs.Ytoadmpochaeohaa
