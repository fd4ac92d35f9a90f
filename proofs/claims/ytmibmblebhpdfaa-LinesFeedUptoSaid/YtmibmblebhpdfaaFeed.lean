import Derived.Test.YtmibmblebhpdfaaLine
import Derived.Test.YtmibmblebhpdfaaLinesPure
import Derived.Test.YtmibmblebhpdfaaShelf
import Derived.BigQuiet
import Derived.Deep.QuietTactic
import Derived.Deep.DeepCutAuto
set_option linter.unusedVariables false
set_option linter.unusedSimpArgs false
namespace Go.Proofs.Ytmibmblebhpdfaa
open Go.RowKit

def Ln.cells (l : Ln) : List Value := [.int .i64 l.num, .int .i64 l.at_, .string (bs l.text), .bool l.ended]
def cellsL (ls : List Ln) : List Value := ls.flatMap Ln.cells
theorem cellsL_append (a b : List Ln) : cellsL (a ++ b) = cellsL a ++ cellsL b := by simp [cellsL]
theorem cellsL_one (l : Ln) : cellsL [l] = l.cells := by simp [cellsL]
theorem cellsL_len (a : List Ln) : (cellsL a).length = a.length * 4 := by
  induction a with
  | nil => rfl
  | cons x xs ih => rw [show x :: xs = [x] ++ xs from rfl, cellsL_append, List.length_append, ih, cellsL_one]; simp [Ln.cells]; omega
theorem infoLn : (Try.prog.info? 31).map (fun i => (i.zero, i.size, i.bytes)) = some (some (.agg #[.int .i64 0, .int .i64 0, .string ⟨#[]⟩, .bool false]), 4, 40) := by kernel_rfl
theorem bs_data (s : ByteArray) : bs s.data.toList = s := rfl
theorem data_bs (l : List UInt8) : (bs l).data.toList = l := rfl
theorem bs_size (l : List UInt8) : (bs l).size = l.length := rfl

theorem idx_none (s : ByteArray) (w : World) (h : Lib.indexByte s.data.toList 10 = -1) : Calls Try.prog 20 #[.string s, .int .u8 10] w fun e w' => e = .returned (.int .i64 (-1)) ∧ w = w' :=
  (Try.strings_IndexByte s 10 w).mono fun e w' ⟨he, hw⟩ => ⟨by rw [he, show (10 : Int).toNat.toUInt8 = 10 from rfl, h], hw.symm⟩
theorem idx_some (s : ByteArray) (w : World) (k : Nat) (h : Lib.indexByte s.data.toList 10 = k) : Calls Try.prog 20 #[.string s, .int .u8 10] w fun e w' => e = .returned (.int .i64 k) ∧ w = w' :=
  (Try.strings_IndexByte s 10 w).mono fun e w' ⟨he, hw⟩ => ⟨by rw [he, show (10 : Int).toNat.toUInt8 = 10 from rfl, h], hw.symm⟩

def strLen : Value → Nat | .string s => s.size | _ => 0
theorem ext_data (s : ByteArray) (a b : Nat) : (s.extract a b).data.toList = (s.data.toList.take b).drop a := by
  rw [ByteArray.data_extract, Array.toList_extract, List.extract_eq_drop_take', List.drop_take]
/-- What holds at the head of each round of Feed. -/
structure FeedInv (F : Nat → Prop) (g : Nat) (r : Fed) (tot : Nat) (at1 : Int) (w : World) (s : ByteArray) (v : Value) (b : Int) (wr : World) (out : List Ln) (hd : List UInt8) (n : Int) (F1 F2 : Nat → Prop) : Prop where
  fed : r = (feedL b n hd s.data.toList).before out
  spl : Spl wr F1 g hd at1 n
  sl : Sl wr F2 31 4 v out.length (cellsL out)
  frm : Frm F w wr
  f1 : ∀ k, F1 k → F k ∨ w.heap.size ≤ k
  f2 : ∀ k, F2 k → w.heap.size ≤ k
  f12 : ∀ k, F1 k → ¬ F2 k
  place : b + hd.length + s.size = at1
  small : hd.length + s.size + out.length ≤ tot
  num : 0 ≤ n ∧ n ≤ 1152921504606846976 + out.length
  low : 0 ≤ b

theorem Spl.low {w : World} {F : Nat → Prop} {g : Nat} {held : List UInt8} {at_ num : Int} (h : Spl w F g held at_ num) : Spl w (fun k => F k ∧ k < w.heap.size) g held at_ num := by
  obtain ⟨v, hB, hF, hS⟩ := h
  exact ⟨v, hB, ⟨hF, hB.lt⟩, hS.mono fun k h l => ⟨⟨h.1, l⟩, h.2⟩⟩
theorem Spl.mono {w : World} {F G : Nat → Prop} {g : Nat} {held : List UInt8} {at_ num : Int} (h : Spl w F g held at_ num) (hG : ∀ k, F k → k < w.heap.size → G k) : Spl w G g held at_ num := by
  obtain ⟨v, hB, hF, hS⟩ := h
  exact ⟨v, hB, hG _ hF hB.lt, hS.mono fun k h l => ⟨hG k h.1 l, h.2⟩⟩
theorem Spl.frm {S : Nat → Prop} {w w' : World} {F : Nat → Prop} {g : Nat} {held : List UInt8} {at_ num : Int} (h : Spl w F g held at_ num) (f : Frm S w w') (hd : ∀ k, F k → ¬ S k) : Spl w' F g held at_ num := by
  obtain ⟨v, hB, hF, hS⟩ := h
  exact ⟨v, hB.frm f (hd _ hF), hF, hS.frm f (fun k h => hd k h.1)⟩

/-- What Feed and Close leave: the lines, in blocks of their own, and the splitter. -/
def FedPost (F : Nat → Prop) (g : Nat) (w : World) (ls : List Ln) (held : List UInt8) (at_ num : Int) (e : Ending) (w' : World) : Prop :=
  ∃ v F1 F2, e = .returned v ∧ Sl w' F2 31 4 v ls.length (cellsL ls) ∧ Spl w' F1 g held at_ num ∧ Frm F w w' ∧ (∀ k, F1 k → F k ∨ w.heap.size ≤ k) ∧ (∀ k, F2 k → w.heap.size ≤ k) ∧ (∀ k, F1 k → ¬ F2 k)

set_option maxHeartbeats 400000 in
theorem feed_calls (F : Nat → Prop) (g : Nat) (held : List UInt8) (at_ num : Int) (piece : ByteArray) (w : World) (h : Spl w F g held at_ num)
    (hb : held.length + piece.size ≤ 2097152) (hn0 : 0 ≤ num) (hn : num ≤ 1152921504606846976) (ha0 : held.length ≤ at_) (ha : at_ ≤ 1152921504606846976) :
    Calls Try.prog 11 #[.pointer (some ⟨g, 0, none⟩), .string piece] w (FedPost F g w (feedL (at_ - held.length) num held piece.data.toList).lines (feedL (at_ - held.length) num held piece.data.toList).held (at_ + piece.size) (feedL (at_ - held.length) num held piece.data.toList).num) := by
  obtain ⟨v, hB, hF, hS⟩ := h
  obtain ⟨A, c, rfl⟩ := hS.form
  obtain ⟨c0, c1, c2, f0, f1, f2, l0⟩ := blk3 hB
  go_enter Try.func11, Try.ntmps11
  go_wp2
  go_quiet (fail)
  go_wp2
  have hB1 := (hB.drewN nq).setSame 1 (.int .i64 (at_ + piece.size))
  have hS1 := (hS.frm (S := fun _ => False) ((Frm.refl _ _).drewN nq) (fun _ _ f => f)).set g 1 (.int .i64 (at_ + piece.size)) (fun h => h.2 rfl)
  have hW1 : Frm F w ((w.drewN nq).setCell ⟨g, 1, none⟩ (.int .i64 (at_ + piece.size))) := ((Frm.refl F w).drewN nq).set g 1 _ (fun _ => hF)
  generalize (w.drewN nq).setCell ⟨g, 1, none⟩ (.int .i64 (at_ + piece.size)) = w1 at *
  clear c0 c1 c2 f0 f1 f2 l0
  have hI : FeedInv F g (feedL (at_ - held.length) num held piece.data.toList) (held.length + piece.size) (at_ + piece.size) w piece (.slice none 0 0) (at_ - held.length) w1 [] held num (fun k => F k ∧ k < w1.heap.size) (fun _ => False) :=
    ⟨rfl, Spl.low ⟨_, hB1, hF, hS1⟩, .nil, hW1, fun k h => .inl h.1, fun _ h => h.elim, fun _ _ h => h, by omega, by simp, by simpa using ⟨hn0, by omega⟩, by omega⟩
  have hsz := hB.lt
  clear hB1 hS1 hW1 hB hS
  go_loopw [1, 5, 6] (fun p v b wr => ∃ (s : ByteArray) (b' : Int) (out : List Ln) (hd : List UInt8) (n : Int) (F1 F2 : Nat → Prop), p = .string s ∧ b = .int .i64 b' ∧ FeedInv F g (feedL (at_ - held.length) num held piece.data.toList) (held.length + piece.size) (at_ + piece.size) w s v b' wr out hd n F1 F2)
    (fun p _ _ _ => strLen p)
  case atStart => exact ⟨_, _, _, _, _, _, _, rfl, rfl, hI⟩
  case round =>
    obtain ⟨s, b', out, hd, n, F1, F2, rfl, rfl, hI⟩ := hrel
    have hss := hI.small
    have hplace := hI.place
    have hlw := hI.low
    have hnm := hI.num
    have hSpl := hI.spl
    have hSl := hI.sl
    obtain ⟨hv, hB, hF1, hS⟩ := hI.spl
    obtain ⟨A', c', rfl⟩ := hS.form
    obtain ⟨c0, c1, c2, f0, f1, f2, l0⟩ := blk3 hB
    have hsz2 := hI.frm.size
    by_cases hk : Lib.indexByte s.data.toList 10 = -1
    · go_wp2_with (first | (go_at_call 20; refine (idx_none _ _ hk).mono ?_; rintro e w' ⟨rfl, rfl⟩) | (with_reducible refine stop_at 57 rfl ?_))
      unfold Stop
      refine op_appendS rfl _ _ _ _ rfl 5 Try.underlying43 Try.underlying9 infoU8 hS rfl s rfl (by simp only [maxLen]; omega) (by omega) ?_
      intro v' w2 hf2 hs2
      have hB2 := hB.frm hf2 (fun h => h.2 rfl)
      have hSl2 := hSl.low.frm hf2 (fun k h h' => hI.f12 k h'.1 h.1)
      obtain ⟨A2, e2, rfl⟩ := hs2.form
      obtain ⟨c0, c1, c2, f0, f1, f2, l2⟩ := blk3 hB2
      go_wp2
      go_ret
      have hr := hI.fed
      rw [feedL_none _ _ _ _ (index_none hk)] at hr
      rw [hr]
      have hB3 := hB2.setSame 0 (.slice A2 (hd.length + s.size) e2)
      refine ⟨_, fun k => F1 k ∨ wr.heap.size ≤ k, fun k => F2 k ∧ k < wr.heap.size, rfl, ?_, ⟨_, hB3, .inl hF1, ?_⟩, ?_, ?_, ?_, ?_⟩
      · rw [Fed.before, List.append_nil]
        exact hSl2.set g 0 _ (fun h => hI.f12 g hF1 h.1)
      · have hh := (hs2.set g 0 (.slice A2 (hd.length + s.size) e2) (by rintro (h | h); exact h.2 rfl; omega)).mono (G := fun k => (F1 k ∨ wr.heap.size ≤ k) ∧ k ≠ g) (by rintro k (h | h) _; exact ⟨.inl h.1, h.2⟩; exact ⟨.inr h, by omega⟩)
        simp only [Fed.before]
        rw [show (hd ++ s.data.toList).length = hd.length + s.size by simp, List.map_append]
        exact hh
      · exact (hI.frm.then hf2 (fun i h hi => (hI.f1 i h.1).resolve_right (by omega))).set g 0 _ (fun _ => hF)
      · rintro k (h | h)
        · exact hI.f1 k h
        · exact .inr (by omega)
      · exact fun k h => hI.f2 k h.1
      · rintro k (h | h) h'
        · exact hI.f12 k h h'.1
        · omega
    · obtain ⟨p, q, hpq, hp, hi⟩ := index_some hk
      have hpl : p.length + 1 + q.length = s.size := by rw [← bs_data s, hpq, bs_size]; simp; omega
      have hx : (s.extract 0 p.length).data.toList = p := by rw [ext_data, hpq]; simp
      have hxs : (s.extract 0 p.length).size = p.length := by rw [← bs_data (s.extract 0 p.length), hx]; rfl
      go_wp2_with (first | (go_at_call 20; refine (idx_some _ _ p.length hi).mono ?_; rintro e w' ⟨rfl, rfl⟩) | (with_reducible refine stop_at 39 rfl ?_))
      refine (line_calls (fun k => F1 k ∧ k < wr.heap.size) g hd (at_ + piece.size) n b' (s.extract 0 p.length) true wr hSpl.low (by omega) (by omega) (by omega)).mono ?_
      rintro e w2 ⟨rfl, hs2, hf2⟩
      rw [hx]
      have hSl2 := hSl.low.frm hf2 (fun k h h' => hI.f12 k h'.1 h.1)
      have hz2 := hf2.size
      go_wp2_with (with_reducible refine stop_at 39 rfl ?_)
      unfold Stop
      refine op_append rfl _ _ _ rfl 31 _ 4 40 Try.underlying26 infoLn rfl (by omega) (hSl2.alloc _) rfl ⟨w2.heap.size, 0, none⟩ 1 1 (Ln.cells ⟨n, b', hd ++ p, true⟩) rfl rfl (fun j u hu => by rw [(Blk.new w2 _ 31).cellAdd 0 j, Nat.zero_add]; exact hu) (by intro u hu; simp [Ln.cells] at hu; rcases hu with rfl | rfl | rfl | rfl <;> rfl) (by simp only [maxLen]; omega) (by omega) ?_
      intro v' w3 hf3 hs3
      have hs3' := (hs2.frm (S := fun _ => False) ((Frm.refl _ _).alloc (.cells (Ln.cells ⟨n, b', hd ++ p, true⟩).toArray 31)) (fun _ _ f => f)).frm hf3 (fun k h h' => hI.f12 k h.1 h'.1)
      have hSpl3 := hs3'
      obtain ⟨hv3, hB3, hF3, hS3⟩ := hs3'
      obtain ⟨A3, c3, rfl⟩ := hS3.form
      obtain ⟨c0, c1, c2, f0, f1, f2, l3⟩ := blk3 hB3
      go_wp2
      have hxe : (s.extract (p.length + 1) s.size).data.toList = q := by rw [ext_data, hpq, List.take_of_length_le (by rw [← hpq]; simp)]; simp
      have hxn : (s.extract (p.length + 1) s.size).size = q.length := by rw [← bs_data (s.extract (p.length + 1) s.size), hxe]; rfl
      go_roundw
      case measure => simp only [strLen]; omega
      case rel =>
        refine ⟨_, _, out ++ [⟨n, b', hd ++ p, true⟩], [], n + 1, fun k => F1 k ∧ k < wr.heap.size, fun k => F2 k ∨ wr.heap.size ≤ k, rfl, rfl, ?_⟩
        refine ⟨?_, hSpl3, ?_, ?_, ?_, ?_, ?_, ?_, ?_, ?_, ?_⟩
        · rw [hI.fed, hxe, hpq, feedL_line _ _ _ _ _ hp, Fed.before_before]
          congr 2
          omega
        · rw [List.length_append, cellsL_append, cellsL_one]
          refine hs3.mono ?_
          rintro k (h | h) _
          · exact .inl h.1
          · exact .inr (by simp at h; omega)
        · exact ((hI.frm.then hf2 (fun i h hi => (hI.f1 i h.1).resolve_right (by omega))).alloc _).then hf3 (fun i h hi => absurd (hI.f2 i h.1) (by omega))
        · exact fun k h => hI.f1 k h.1
        · rintro k (h | h)
          · exact hI.f2 k h
          · omega
        · rintro k h (h' | h')
          · exact hI.f12 k h.1 h'
          · omega
        · simp only [hxn, List.length_nil]; omega
        · simp only [hxn, List.length_nil, List.length_append, List.length_singleton]; omega
        · simp only [List.length_append, List.length_singleton]; omega
        · omega
end Go.Proofs.Ytmibmblebhpdfaa
