/-
  Reference 14: rows, walked.
-/
import Derived.Test.YtamiliccnbkipaaRPure
import Derived.Test.YtamiliccnbkipaaRIn
import Derived.Deep.CutBlock
import Derived.Deep.DeepCutAuto
set_option linter.unusedVariables false
set_option linter.unusedSimpArgs false
namespace Go.Proofs.Ytamiliccnbkipaa
open Go.RowKit

theorem toList_size (b : ByteArray) : b.toList.length = b.size := by rw [ByteArray.toList_eq]; simp
/-- The rows from a place on are laid. -/
structure RW (l : List Ins) (line : ByteArray) (n ba lo : Nat) (W wr : World) : Prop where
  frm : Frm (fun _ => False) W wr
  ge : W.heap.size ≤ ba
  ex : ∃ cells, Blk wr ba cells 63 ∧ cells.length = line.size + 1 ∧ ∀ j, lo ≤ j → j ≤ line.size → ∃ b r, cells[j]? = some (.slice (some ⟨b, 0, none⟩) n n) ∧ Blk wr b (r.map I64) 3 ∧ GoodR l line.toList j r
theorem RW.world {l : List Ins} {line : ByteArray} {n ba lo : Nat} {W wr w1 : World} (h : RW l line n ba lo W wr) (f : Frm (fun _ => False) wr w1) : RW l line n ba lo W w1 := by
  obtain ⟨cells, hb, hl, hr⟩ := h.ex
  exact ⟨h.frm.trans f, h.ge, cells, hb.frm f (fun h => h), hl, fun j h1 h2 => by
    obtain ⟨b, r, e1, e2, e3⟩ := hr j h1 h2
    exact ⟨b, r, e1, e2.frm f (fun h => h), e3⟩⟩
theorem infoRow : (Try.prog.info? 63).map (fun i => (i.zero, i.size, i.bytes)) = some (some (.slice none 0 0), 1, 24) := by kernel_rfl
/-- A row's cell. -/
theorem row_cell {w : World} {b k : Nat} {r : List Int} (h : Blk w b (r.map I64) 3) (hk : k < r.length) : w.cell? ⟨b, k, none⟩ = some (.int .i64 (rg r k)) := by
  rw [h.cell, List.getElem?_map, List.getElem?_eq_getElem hk, rg, List.getD_eq_getElem?_getD, List.getElem?_eq_getElem hk]
  rfl
theorem row_set {w : World} {b k : Nat} {r : List Int} (h : Blk w b (r.map I64) 3) (z : Int) : Blk (w.setCell ⟨b, k, none⟩ (.int .i64 z)) b ((r.set k z).map I64) 3 := by
  have := h.setSame k (.int .i64 z)
  rw [show (r.map I64).set k (.int .i64 z) = (r.set k z).map I64 by rw [List.map_set]; rfl] at this
  exact this

/-- Between two rounds of the innermost loop. -/
def L4 (ins : List Ins) (line : ByteArray) (n br at_ : Nat) (w4 : World) (r nxt : List Int) (gv kv : Value) (wr : World) : Prop :=
  ∃ (r' : List Int) (grew : Bool) (m : Nat), gv = .bool grew ∧ kv = .int .i64 ((m : Int) - 1) ∧ m ≤ n ∧ Frm (fun k => k = br) w4 wr ∧ Blk wr br (r'.map I64) 3 ∧ r'.length = n ∧ SoundR ins line.toList at_ r' ∧
    (grew = true → phi line.size r' < phi line.size r) ∧ (grew = false → r' = r ∧ ∀ j, m ≤ j → j < n → stepR ins line.toList at_ r' nxt j ≤ rg r' j)
/-- Between two rounds of the loop that goes on till nothing grows. -/
def L3 (ins : List Ins) (line : ByteArray) (n br at_ : Nat) (w4 : World) (nxt : List Int) (g : Nat) (gv : Value) (wr : World) : Prop :=
  ∃ (r : List Int) (grew : Bool), gv = .bool grew ∧ Frm (fun k => k = br) w4 wr ∧ Blk wr br (r.map I64) 3 ∧ r.length = n ∧ SoundR ins line.toList at_ r ∧
    (grew = true → phi line.size r < g) ∧ (grew = false → ∀ j, j < n → stepR ins line.toList at_ r nxt j ≤ rg r j)

set_option maxHeartbeats 16000000 in
set_option maxRecDepth 100000 in
theorem rowsC (A : Option Addr) (n cp : Nat) (gr co : Int) (fo : Bool) (ins : List Ins) (G : Nat → Prop) (line : ByteArray) (W : World) (hrd : Rd W G 10 A n cp (flatI ins)) (hfi : Fine ins) (hok : ∀ i ∈ ins, i.ok) (hl : line.size ≤ 1048576) :
    Calls Try.prog 25 #[.agg #[.slice A n cp, .int .i64 gr, .int .i64 co, .bool fo], .string line] W fun e w' => ∃ ba, e = .returned (.slice (some ⟨ba, 0, none⟩) (line.size + 1) (line.size + 1)) ∧ RW ins line n ba 0 W w' := by
  have hil : ins.length = n := by have := hrd.len; rw [flatI_len] at this; omega
  have hn4 : n ≤ 40000 := by have := hfi.few; omega
  have hn0 : 0 < n := by have := hfi.pos; omega
  have hP := Blk.new W [.slice A n cp, .int .i64 gr, .int .i64 co, .bool fo] 24
  have hf0 : Frm (fun _ => False) W (W.alloc (.cells #[.slice A n cp, .int .i64 gr, .int .i64 co, .bool fo] 24)) := (Frm.refl _ W).alloc _
  have HFI := Lib.hid hfi
  have HOK := Lib.hid hok
  have HIL := Lib.hid hil
  have HLB := Lib.hid (toList_size line)
  clear hfi hok hil
  go_enter Try.func25, Try.ntmps25
  go_upto_region 1 with fail
  generalize W.alloc (.cells #[.slice A n cp, .int .i64 gr, .int .i64 co, .bool fo] 24) = w1 at *
  generalize hbp : W.heap.size = bp at *
  have hw1 : IntKind.i64.wrap ((line.size : Int) + 1) = (line.size : Int) + 1 := IntWalk.i64_in _ (by omega)
  go_wp2_with (with_reducible refine stop_at 16 rfl ?_)
  unfold Stop
  refine op_make rfl _ _ _ rfl 63 (.slice none 0 0) 24 Try.underlying61 infoRow rfl ((line.size : Int) + 1) rfl rfl (line.size + 1) (by omega) (by omega) (by omega) ?_
  intro ba w2 hn2 hA2
  have hz1 := hf0.size
  have hge2 := hn2.le
  have hRW : RW ins line n ba (line.size + 1) W w2 := ⟨hf0.trans hn2.frm, by rw [hbp]; omega, _, hA2, by simp, fun j h1 h2 => by omega⟩
  have hP2 := hP.past hn2
  clear hA2 hn2 hP hz1
  go_wp2_with fail
  go_loopw [6] (fun i wr => ∃ lo : Nat, i = .int .i64 ((lo : Int) - 1) ∧ lo ≤ line.size + 1 ∧ RW ins line n ba lo W wr ∧ Blk wr bp [.slice A n cp, .int .i64 gr, .int .i64 co, .bool fo] 24) (fun i _ => (intOf i + 1).toNat)
  case atStart => exact ⟨line.size + 1, by congr 1; omega, by omega, hRW, hP2⟩
  case round =>
    clear hRW hP2
    obtain ⟨lo, rfl, hlo, hRW, hP⟩ := hrel
    rcases lo with _ | at_
    · rw [show (((0 : Nat) : Int)) - 1 = -1 by omega]
      go_wp2_with fail
      go_ret
      exact ⟨ba, rfl, hRW⟩
    · rw [show (((at_ + 1 : Nat) : Int)) - 1 = (at_ : Int) by omega]
      have hat : at_ ≤ line.size := by omega
      obtain ⟨nxt, bn, HNX⟩ : ∃ (nxt : List Int) (bn : Nat), Hid (at_ < line.size → bn < wr.heap.size ∧ (∃ cells, Blk wr ba cells 63 ∧ cells[at_ + 1]? = some (.slice (some ⟨bn, 0, none⟩) n n)) ∧ Blk wr bn (nxt.map I64) 3 ∧ GoodR ins line.toList (at_ + 1) nxt) := by
        by_cases h : at_ < line.size
        · obtain ⟨cells, h1, h2, h3⟩ := hRW.ex
          obtain ⟨b, r, e1, e2, e3⟩ := h3 (at_ + 1) (by omega) (by omega)
          exact ⟨r, b, fun _ => ⟨e2.lt, ⟨cells, h1, e1⟩, e2, e3⟩⟩
        · exact ⟨[], 0, fun h' => absurd h' h⟩
      obtain ⟨p0, p1, p2, p3, g0, g1, g2, g3, lp⟩ := blk4 hP
      go_wp2_with (with_reducible refine stop_at 26 rfl ?_)
      unfold Stop
      refine op_make rfl _ _ _ rfl 3 (.int .i64 0) 8 Try.underlying63 infoInt rfl (n : Int) rfl rfl n rfl (by omega) (by omega) ?_
      intro br w3 hn3 hB3
      have hbre : br = wr.heap.size := hn3.eq
      have hRW3 := hRW.world hn3.frm
      have hP3 := hP.past hn3
      have HB := Lib.hid (⟨hbre, hn3.lt, hP.lt⟩ : br = wr.heap.size ∧ br < w3.heap.size ∧ bp < wr.heap.size)
      have HN3 := Lib.hid hn3.frm
      clear p0 p1 p2 p3 g0 g1 g2 g3 lp hn3 hbre
      go_upto_block 2 with fail
      go_cut [] from 27 to 35 (fun wx => Frm (fun k => k = br) w3 wx ∧ Blk wx br ((List.replicate n (-1 : Int)).map I64) 3)
      case first =>
        go_wp2_with fail
        go_loopw [8] (fun i wx => ∃ k : Nat, i = .int .i64 k ∧ k ≤ n ∧ Frm (fun k => k = br) w3 wx ∧ Blk wx br ((List.replicate k (-1 : Int) ++ List.replicate (n - k) 0).map I64) 3) (fun i _ => n - (intOf i).toNat)
        case atStart => exact ⟨0, rfl, by omega, Frm.refl _ _, by simpa [I64] using hB3⟩
        case round =>
          obtain ⟨k, rfl, hk, hf, hb⟩ := hrel
          by_cases hkn : k < n
          · have hlen : (List.replicate k (-1 : Int) ++ List.replicate (n - k) 0).length = n := by simp; omega
            have hc := row_cell hb (k := k) (by rw [hlen]; exact hkn)
            have hfz := hb.frozen k
            have hlb := hb.lt
            have hb2 := row_set hb (k := k) (-1)
            have he : (List.replicate k (-1 : Int) ++ List.replicate (n - k) 0).set k (-1) = List.replicate (k + 1) (-1 : Int) ++ List.replicate (n - (k + 1)) 0 := by
              rw [List.set_append_right _ _ (by simp), List.length_replicate, Nat.sub_self, show n - k = (n - (k + 1)) + 1 by omega, List.replicate_succ, List.set_cons_zero, List.replicate_succ', List.append_assoc]; rfl
            rw [he] at hb2
            have HB2 := Lib.hid hb2
            clear hb2 he hb
            go_wp2_with fail
            go_roundw
            case measure => simp [intOf] <;> omega
            case rel => exact ⟨k + 1, by go_num, by omega, hf.set br k _ (fun _ => rfl), HB2.out⟩
          · obtain rfl : k = n := by omega
            rw [Nat.sub_self, List.replicate_zero, List.append_nil] at hb
            go_wp2_with fail
            go_meet
            exact ⟨hf, hb⟩
      case rest =>
        obtain ⟨hf4, hB4⟩ := hcut
        generalize wc = w4 at *
        have hP4 := hP3.frm hf4 (by have := HB.out; omega)
        have hs0 : SoundR ins line.toList at_ (List.replicate n (-1)) := fun k => .inl (by
          rw [rg, List.getD_eq_getElem?_getD, List.getElem?_replicate]; split <;> rfl)
        have hL3 : L3 ins line n br at_ w4 nxt (phi line.size (List.replicate n (-1)) + 1) (.bool true) w4 := ⟨_, true, rfl, Frm.refl _ _, hB4, by simp, hs0, fun _ => by omega, fun h => by cases h⟩
        have hf34 : Frm (fun k => k = br) wr w4 := (HN3.out.mono (fun _ h _ => h.elim)).trans hf4
        have hG4 : Rd w4 (fun k => G k ∧ k < W.heap.size) 10 A n cp (flatI ins) := by
          have := (hrd.low.frm hRW3.frm (fun _ _ h => h))
          exact this.frm hf4 (fun k hk e => by have := HB.out; have := hRW.frm.size; omega)
        clear hB4 hs0
        go_upto_block 4 with fail
        go_cut [] from 36 to 135 (fun wx => ∃ r, Frm (fun k => k = br) w4 wx ∧ Blk wx br (r.map I64) 3 ∧ GoodR ins line.toList at_ r)
        case first =>
          go_wp2_with fail
          go_loopg [9] (phi line.size (List.replicate n (-1)) + 1) (fun g gv wx => L3 ins line n br at_ w4 nxt g gv wx)
          case atStart => exact hL3
          case round =>
            obtain ⟨r, grew, rfl, hf5, hB5, hl5, hs5, hg5, hx5⟩ := hrel
            have HS5 := Lib.hid hs5
            cases grew with
            | false =>
              have hgood : GoodR ins line.toList at_ r := ⟨by rw [HIL.out]; exact hl5, HS5.out, full_of_fix (nxt := nxt) (by rw [HIL.out]; exact hl5) (by rw [HIL.out]; exact hx5 rfl) (fun h => (HNX.out (by rw [HLB.out] at h; exact h)).2.2.2.full)⟩
              have HGD := Lib.hid hgood
              clear hgood hx5 hg5 hs5
              go_wp2_with fail
              go_meet
              exact ⟨r, hf5, hB5, HGD.out⟩
            | true =>
              have HPH := Lib.hid (hg5 rfl)
              clear hg5 hx5 hs5 hL3
              have hP5 := hP4.frm hf5 (by have := HB.out; omega)
              have hL4 : L4 ins line n br at_ w4 r nxt (.bool false) (.int .i64 ((n : Int) - 1)) wr := ⟨r, false, n, rfl, rfl, Nat.le_refl _, hf5, hB5, hl5, HS5.out, fun h => (by cases h), fun _ => ⟨rfl, fun j h1 h2 => by omega⟩⟩
              have hw2 : IntKind.i64.wrap ((n : Int) - 1) = (n : Int) - 1 := IntWalk.i64_in _ (by omega)
              have HL4 := Lib.hid hL4
              clear hL4
              go_upto_block 6 with fail
              go_wp2_with fail
              go_loopw [9, 10] (fun gv kv wx => L4 ins line n br at_ w4 r nxt gv kv wx) (fun _ kv _ => (intOf kv + 1).toNat)
              case atStart => exact HL4.out
              case round =>
                clear hP5 hf5 hB5 HL4
                obtain ⟨r', grew, m, rfl, rfl, hm, hf6, hB6, hl6, hs6, hg6, hx6⟩ := hrel
                have HI6 := Lib.hid (⟨hs6, hg6, hx6⟩ : SoundR ins line.toList at_ r' ∧ (grew = true → phi line.size r' < phi line.size r) ∧ (grew = false → r' = r ∧ ∀ j, m ≤ j → j < n → stepR ins line.toList at_ r' nxt j ≤ rg r' j))
                clear hs6 hg6 hx6
                rcases m with _ | k
                · rw [show (((0 : Nat) : Int)) - 1 = -1 by omega]
                  have hL3' : ∃ g', g' < gk ∧ L3 ins line n br at_ w4 nxt g' (.bool grew) wr := by
                    cases grew with
                    | true => exact ⟨phi line.size r' + 1, by have := HI6.out.2.1 rfl; have := HPH.out; omega, r', true, rfl, hf6, hB6, hl6, HI6.out.1, fun _ => by omega, fun h => (by cases h)⟩
                    | false => exact ⟨0, by have := HPH.out; omega, r', false, rfl, hf6, hB6, hl6, HI6.out.1, fun h => (by cases h), fun _ j hj => (HI6.out.2.2 rfl).2 j (by omega) hj⟩
                  obtain ⟨g', hg', hL3''⟩ := hL3'
                  have HL3 := Lib.hid hL3''
                  clear hL3'' hB6 hf6
                  go_wp2_with fail
                  go_roundg g'
                  case measure => exact hg'
                  case rel => exact HL3.out
                · rw [show (((k + 1 : Nat) : Int)) - 1 = (k : Int) by omega]
                  have hkn : k < n := by omega
                  obtain ⟨i, hi⟩ : ∃ i, ins[k]? = some i := ⟨_, List.getElem?_eq_getElem (by rw [HIL.out]; exact hkn)⟩
                  have hGr : Rd wr (fun k => G k ∧ k < W.heap.size) 10 A n cp (flatI ins) := hG4.frm hf6 (fun k hk e => by have := HB.out; have := hRW.frm.size; omega)
                  have hP6 := hP4.frm hf6 (by have := HB.out; omega)
                  obtain ⟨b, off, rfl, hb, hci⟩ := hGr.ins k i hi
                  have e0 := hci 0 _ rfl
                  have e1 := hci 1 _ rfl
                  have e2 := hci 2 _ rfl
                  have e3 := hci 3 _ rfl
                  have e4 := hci 4 _ rfl
                  have e5 := hci 5 _ rfl
                  have e6 := hci 6 _ rfl
                  have e7 := hci 7 _ rfl
                  have e8 := hci 8 _ rfl
                  have e9 := hci 9 _ rfl
                  rw [Nat.add_zero] at e0
                  have hiok := HOK.out i (List.mem_of_getElem? hi)
                  have HII := Lib.hid hi
                  clear hci hi
                  obtain ⟨iop, ix, iy, i_n, imn, imx, is0, is1, is2, is3⟩ := i
                  simp only at e0 e1 e2 e3 e4 e5 e6 e7 e8 e9
                  obtain ⟨p0, p1, p2, p3, g0, g1, g2, g3, lp⟩ := blk4 hP6
                  go_upto_region 17 with fail
                  have hO := Blk.new wr [.int .i64 iop, .int .i64 ix, .int .i64 iy, .int .i64 i_n, .int .i64 imn, .int .i64 imx, .int .u64 is0, .int .u64 is1, .int .u64 is2, .int .u64 is3] 50
                  have hB7 := hB6.alloc (.cells #[.int .i64 iop, .int .i64 ix, .int .i64 iy, .int .i64 i_n, .int .i64 imn, .int .i64 imx, .int .u64 is0, .int .u64 is1, .int .u64 is2, .int .u64 is3] 50)
                  have hf7 := hf6.alloc (.cells #[.int .i64 iop, .int .i64 ix, .int .i64 iy, .int .i64 i_n, .int .i64 imn, .int .i64 imx, .int .u64 is0, .int .u64 is1, .int .u64 is2, .int .u64 is3] 50)
                  clear e0 e1 e2 e3 e4 e5 e6 e7 e8 e9 p0 p1 p2 p3 g0 g1 g2 g3 lp
                  generalize wr.alloc (.cells #[.int .i64 iop, .int .i64 ix, .int .i64 iy, .int .i64 i_n, .int .i64 imn, .int .i64 imx, .int .u64 is0, .int .u64 is1, .int .u64 is2, .int .u64 is3] 50) = w7 at *
                  generalize wr.heap.size = bo at *
                  have o0 := hO.cell 0
                  have o1 := hO.cell 1
                  have o2 := hO.cell 2
                  simp only [List.getElem?_cons_zero, List.getElem?_cons_succ] at o0 o1 o2
                  have lo7 := hO.lt
                  have lb7 := hB7.lt
                  obtain ⟨v, hv⟩ : ∃ v, stepR ins line.toList at_ r' nxt k = v := ⟨_, rfl⟩
                  have hst : (if iop = 11 then (at_ : Int) else if iop = 1 then (match line.toList[at_]? with | some c => if inSet ⟨iop, ix, iy, i_n, imn, imx, is0, is1, is2, is3⟩ c then rg nxt (k + 1) else -1 | none => -1) else lmax r' (succs ins (at_ == 0) (at_ == line.toList.length) k)) = v := by
                    rw [← hv]
                    unfold stepR
                    rw [HII.out]
                    cases line.toList[at_]? <;> rfl
                  have HV := Lib.hid hv
                  have HST := Lib.hid hst
                  have HRC := Lib.hid (fun j (h : j < n) => row_cell hB7 (k := j) (by rw [hl6]; exact h))
                  clear hv hst
                  go_upto_block 8 with fail
                  go_cut [12] from 49 to 125 (fun c wx => c = .int .i64 v ∧ Frm (fun _ => False) w7 wx)
                  case first =>
                    have hsuc : ∀ b0 b1, succs ins b0 b1 k = (if iop = 2 then [ix.toNat, iy.toNat] else if iop = 3 then [ix.toNat] else if iop = 4 then (if b0 then [k + 1] else []) else if iop = 5 then (if b1 then [k + 1] else []) else if iop = 6 ∨ iop = 7 then [k + 1] else []) := fun b0 b1 => by
                      unfold succs
                      rw [HII.out]
                    have HSU := Lib.hid hsuc
                    have hk1 : IntKind.i64.wrap ((k : Int) + 1) = (k : Int) + 1 := IntWalk.i64_in _ (by omega)
                    have ha1 : IntKind.i64.wrap ((at_ : Int) + 1) = (at_ : Int) + 1 := IntWalk.i64_in _ (by omega)
                    have HNE := Lib.hid (HFI.out.next k _ HII.out)
                    clear hsuc
                    by_cases h11 : iop = 11
                    · subst h11
                      have e : v = at_ := by rw [← HST.out, if_pos rfl]
                      clear HST
                      go_wp2_with fail
                      go_meet
                      exact ⟨by rw [e], Frm.refl _ _⟩
                    by_cases h2 : iop = 2
                    · subst h2
                      obtain ⟨k1, k2, k3, k4⟩ := HFI.out.split k _ HII.out rfl
                      simp only [HIL.out] at k1 k2 k3 k4
                      obtain ⟨xn, rfl⟩ := Int.eq_ofNat_of_zero_le k1
                      obtain ⟨yn, rfl⟩ := Int.eq_ofNat_of_zero_le k3
                      have e : v = max (rg r' xn) (rg r' yn) := by
                        rw [← HST.out, if_neg (by omega), if_neg (by omega), HSU.out, if_pos rfl]
                        rfl
                      have d1 := HRC.out xn (by omega)
                      have d2 := HRC.out yn (by omega)
                      clear HST k1 k3
                      go_upto_region 22 with fail
                      go_quiet ((go_at_call 36; refine (betterC _ _ _).mono ?_; rintro e w' ⟨rfl, rfl⟩; exact ⟨rfl, _, rfl⟩))
                      go_wp2_with fail
                      go_meet
                      exact ⟨by rw [e], (Frm.refl _ _).drewN _⟩
                    by_cases h3 : iop = 3
                    · subst h3
                      obtain ⟨k1, k2⟩ := HFI.out.jump k _ HII.out rfl
                      simp only [HIL.out] at k1 k2
                      obtain ⟨xn, rfl⟩ := Int.eq_ofNat_of_zero_le k1
                      have e : v = rg r' xn := by
                        rw [← HST.out, if_neg (by omega), if_neg (by omega), HSU.out, if_neg (by omega), if_pos rfl]
                        rfl
                      have d1 := HRC.out xn (by omega)
                      clear HST k1
                      go_wp2_with fail
                      go_meet
                      exact ⟨by rw [e], Frm.refl _ _⟩
                    have t11 : (iop == 11) = false := by simpa using h11
                    have t2 : (iop == 2) = false := by simpa using h2
                    have t3 : (iop == 3) = false := by simpa using h3
                    by_cases h1 : iop = 1
                    · subst h1
                      have hk2 : k + 1 < n := by have := HNE.out (.inl rfl); rw [HIL.out] at this; exact this
                      by_cases hlt : at_ < line.size
                      · obtain ⟨hbn, ⟨cells, hcb, hce⟩, hnb, hng⟩ := HNX.out hlt
                        have hfo : Frm (fun k => k = br) _ w7 := hf34.trans hf7
                        have hcb7 := hcb.frm hfo (by have := hcb.lt; have := HB.out; omega)
                        have hnb7 := hnb.frm hfo (by have := HB.out; omega)
                        have d1 := hcb7.cell (at_ + 1)
                        rw [hce] at d1
                        have hnl : nxt.length = n := by rw [hng.len, HIL.out]
                        have d2 := row_cell hnb7 (k := k + 1) (by omega)
                        have lba := hcb7.lt
                        have lbn := hnb7.lt
                        obtain ⟨c, hcc⟩ : ∃ c, line[at_]'hlt = c := ⟨_, rfl⟩
                        have hlc : line.toList[at_]? = some c := by
                          rw [ByteArray.toList_eq, Array.getElem?_toList, Array.getElem?_eq_getElem hlt]
                          exact congrArg some hcc
                        have e : v = if inSet ⟨1, ix, iy, i_n, imn, imx, is0, is1, is2, is3⟩ c then rg nxt (k + 1) else -1 := by
                          rw [← HST.out, if_neg (by omega), if_pos rfl, hlc]
                        obtain ⟨rin, hrin⟩ : ∃ r, inSet ⟨1, ix, iy, i_n, imn, imx, is0, is1, is2, is3⟩ c = r := ⟨_, rfl⟩
                        rw [hrin] at e
                        have HE := Lib.hid e
                        have HCC := Lib.hid hcc
                        have s0 := hO.cell 6
                        have s1 := hO.cell 7
                        have s2 := hO.cell 8
                        have s3 := hO.cell 9
                        simp only [List.getElem?_cons_zero, List.getElem?_cons_succ] at s0 s1 s2 s3
                        have HAS : Hid (∀ w, Frm (fun _ => False) w7 w → Calls Try.prog 37 #[.agg #[.int .u64 is0, .int .u64 is1, .int .u64 is2, .int .u64 is3], .int .i64 c.toNat] w fun e w' => e = .returned (.bool rin) ∧ Frm (fun _ => False) w7 w') := Lib.hid (fun w hw => (refIn ⟨1, ix, iy, i_n, imn, imx, is0, is1, is2, is3⟩ hiok c w).mono (by rintro e w' ⟨rfl, rfl⟩; exact ⟨by rw [hrin], hw.alloc _⟩))
                        have HCB := Lib.hid hcb7
                        have HNB := Lib.hid hnb7
                        have hcn : (c.toNat : Int) < 256 := by have := c.toNat_lt; omega
                        have hcw : IntKind.i64.wrap (c.toNat : Int) = (c.toNat : Int) := IntWalk.i64_in _ (by omega)
                        have tlt : decide ((at_ : Int) < (line.size : Int)) = true := decide_eq_true (by omega)
                        clear HST e hlc hcb hnb hcb7 hnb7 hng hrin d1 d2 lba lbn hfo
                        go_upto_region 26 with fail
                        go_region_with (go_at_call 37; refine (HAS.out _ ((Frm.refl _ _).drew)).mono ?_; rintro e w9 ⟨rfl, hf9'⟩)
                        all_goals
                          have hcb9 := HCB.out.frm hf9' (fun h => h)
                          have hnb9 := HNB.out.frm hf9' (fun h => h)
                          have d1 := hcb9.cell (at_ + 1)
                          rw [hce] at d1
                          have d2 := row_cell hnb9 (k := k + 1) (by omega)
                          have lba := hcb9.lt
                          have lbn := hnb9.lt
                          clear hcb9 hnb9
                          cases rin with
                          | true =>
                            go_wp2_with fail
                            go_meet
                            exact ⟨by rw [HE.out]; rfl, hf9'⟩
                          | false =>
                            go_wp2_with fail
                            go_meet
                            exact ⟨by rw [HE.out]; rfl, hf9'⟩
                      · have e : v = -1 := by
                          rw [← HST.out, if_neg (by omega), if_pos rfl, List.getElem?_eq_none (by rw [HLB.out]; omega)]
                        have tlt : decide ((at_ : Int) < (line.size : Int)) = false := decide_eq_false (by omega)
                        clear HST
                        go_upto_region 26 with fail
                        go_quiet (fail)
                        go_wp2_with fail
                        go_meet
                        exact ⟨by rw [e], (Frm.refl _ _).drewN _⟩
                    have t1 : (iop == 1) = false := by simpa using h1
                    by_cases h4 : iop = 4
                    · subst h4
                      have hk2 : k + 1 < n := by have := HNE.out (.inr (.inl rfl)); rw [HIL.out] at this; exact this
                      have d1 := HRC.out (k + 1) hk2
                      have e : v = lmax r' (if (at_ == 0) = true then [k + 1] else []) := by
                        rw [← HST.out, if_neg (by omega), if_neg (by omega), HSU.out, if_neg (by omega), if_neg (by omega), if_pos rfl]
                      clear HST
                      by_cases hat0 : at_ = 0
                      · subst hat0
                        go_wp2_with fail
                        go_meet
                        exact ⟨by rw [e]; rfl, Frm.refl _ _⟩
                      · have t0 : ((at_ : Int) == 0) = false := by simpa using (by omega : ¬ (at_ : Int) = 0)
                        rw [show (at_ == 0) = false by simpa using hat0] at e
                        go_wp2_with fail
                        go_meet
                        exact ⟨by rw [e]; rfl, Frm.refl _ _⟩
                    have t4 : (iop == 4) = false := by simpa using h4
                    by_cases h5 : iop = 5
                    · subst h5
                      have hk2 : k + 1 < n := by have := HNE.out (.inr (.inr (.inl rfl))); rw [HIL.out] at this; exact this
                      have d1 := HRC.out (k + 1) hk2
                      have e : v = lmax r' (if (at_ == line.size) = true then [k + 1] else []) := by
                        rw [← HST.out, if_neg (by omega), if_neg (by omega), HSU.out, if_neg (by omega), if_neg (by omega), if_neg (by omega), if_pos rfl, HLB.out]
                      clear HST
                      by_cases hat0 : at_ = line.size
                      · have t0 : ((at_ : Int) == (line.size : Int)) = true := by rw [hat0]; simp
                        rw [show (at_ == line.size) = true by simpa using hat0] at e
                        have HAT := Lib.hid hat0
                        clear hat0
                        go_wp2_with fail
                        go_meet
                        exact ⟨by rw [e]; rfl, Frm.refl _ _⟩
                      · have t0 : ((at_ : Int) == (line.size : Int)) = false := by simpa using (by omega : ¬ (at_ : Int) = line.size)
                        rw [show (at_ == line.size) = false by simpa using hat0] at e
                        go_wp2_with fail
                        go_meet
                        exact ⟨by rw [e]; rfl, Frm.refl _ _⟩
                    have t5 : (iop == 5) = false := by simpa using h5
                    by_cases h6 : iop = 6
                    · subst h6
                      have hk2 : k + 1 < n := by have := HNE.out (.inr (.inr (.inr (.inl rfl)))); rw [HIL.out] at this; exact this
                      have d1 := HRC.out (k + 1) hk2
                      have e : v = rg r' (k + 1) := by
                        rw [← HST.out, if_neg (by omega), if_neg (by omega), HSU.out, if_neg (by omega), if_neg (by omega), if_neg (by omega), if_neg (by omega), if_pos (by omega)]
                        rfl
                      clear HST
                      go_wp2_with fail
                      go_meet
                      exact ⟨by rw [e], Frm.refl _ _⟩
                    by_cases h7 : iop = 7
                    · subst h7
                      have hk2 : k + 1 < n := by have := HNE.out (.inr (.inr (.inr (.inr rfl)))); rw [HIL.out] at this; exact this
                      have d1 := HRC.out (k + 1) hk2
                      have e : v = rg r' (k + 1) := by
                        rw [← HST.out, if_neg (by omega), if_neg (by omega), HSU.out, if_neg (by omega), if_neg (by omega), if_neg (by omega), if_neg (by omega), if_pos (by omega)]
                        rfl
                      clear HST
                      go_wp2_with fail
                      go_meet
                      exact ⟨by rw [e], Frm.refl _ _⟩
                    have t6 : (iop == 6) = false := by simpa using h6
                    have t7 : (iop == 7) = false := by simpa using h7
                    have e : v = -1 := by
                      rw [← HST.out, if_neg (by omega), if_neg (by omega), HSU.out, if_neg (by omega), if_neg (by omega), if_neg (by omega), if_neg (by omega), if_neg (by omega)]
                      rfl
                    clear HST
                    go_wp2_with fail
                    go_meet
                    exact ⟨by rw [e], Frm.refl _ _⟩
                  case rest =>
                    obtain ⟨rfl, hf8⟩ := hcut
                    generalize wc = w8 at *
                    have hB8 := hB7.frm hf8 (fun h => h)
                    have d0 := row_cell hB8 (k := k) (by omega)
                    have f0 := hB8.frozen k
                    have l8 := hB8.lt
                    have hf9 : Frm (fun k => k = br) w4 w8 := hf7.trans (hf8.mono (fun _ h _ => h.elim))
                    have hB9 := row_set hB8 (k := k) v
                    have hsn := sound_set (nxt := nxt) HI6.out.1 (fun h => (HNX.out (by rw [HLB.out] at h; exact h)).2.2.2.sound) k (by rw [hl6]; exact hkn)
                    rw [HV.out] at hsn
                    have hvl : v ≤ line.size := by
                      have := (hsn.range (by rw [HLB.out]; exact hat) k).2
                      rw [rg_set (by rw [hl6]; exact hkn), if_pos rfl, HLB.out] at this
                      exact this
                    have HSN := Lib.hid hsn
                    have HB9 := Lib.hid hB9
                    have HB8 := Lib.hid hB8
                    clear hsn hB9 hB8 hB7 hB6
                    by_cases hgr : rg r' k < v
                    · have hph := phi_set line.size r' k v (by omega) hgr hvl
                      have HPH2 := Lib.hid hph
                      have t1 : decide (rg r' k < v) = true := decide_eq_true hgr
                      clear hph
                      go_wp2_with fail
                      go_roundw
                      case measure => simp [intOf] <;> omega
                      case rel =>
                        refine ⟨r'.set k v, true, k, rfl, by congr 1, by omega, hf9.set br k _ (fun _ => rfl), HB9.out, by rw [List.length_set]; exact hl6, HSN.out, fun _ => ?_, fun h => (by cases h)⟩
                        have h1 := HPH2.out
                        cases grew with
                        | true => have := HI6.out.2.1 rfl; omega
                        | false => have := (HI6.out.2.2 rfl).1; rw [← this]; exact h1
                    · have t1 : decide (rg r' k < v) = false := decide_eq_false hgr
                      go_wp2_with fail
                      go_roundw
                      case measure => simp [intOf] <;> omega
                      case rel =>
                        refine ⟨r', grew, k, rfl, by congr 1, by omega, hf9, HB8.out, hl6, HI6.out.1, HI6.out.2.1, fun hg => ⟨(HI6.out.2.2 hg).1, fun j h1 h2 => ?_⟩⟩
                        by_cases hj : k + 1 ≤ j
                        · exact (HI6.out.2.2 hg).2 j hj h2
                        · obtain rfl : j = k := by omega
                          rw [HV.out]; omega
        case rest =>
          obtain ⟨r, hf9, hB9, hgood⟩ := hcut
          obtain ⟨cells, hA0, hcl, hrows⟩ := hRW.ex
          have hbrl := hB9.lt
          have hz9 := hf9.size
          have hz3 := hf34.size
          have hbre := HB.out.1
          have hsz := hRW.frm.size
          have hge := hRW.ge
          have hbaw := hA0.lt
          have hfw : Frm (fun k => k = br) wr wc := hf34.trans hf9
          have hA10 := hA0.frm hfw (by omega)
          have hP9 := hP4.frm hf9 (by have := HB.out; omega)
          have hrl : r.length = n := by rw [hgood.len, HIL.out]
          have hBn := hB9.ne hA10 (by decide)
          generalize wc = w9 at *
          have lba := hA10.lt
          have hset := hA10.setSame at_ (.slice (some ⟨br, 0, none⟩) n n)
          have hP10 := hP9.setOther ba at_ (.slice (some ⟨br, 0, none⟩) n n) (hP9.ne hA10 (by decide))
          have hnew : RW ins line n ba at_ W (w9.setCell ⟨ba, at_, none⟩ (.slice (some ⟨br, 0, none⟩) n n)) := by
            refine ⟨(hRW.frm.then hfw (fun i h hi => by omega)).set ba at_ _ (fun h => by omega), hge, _, hset, by rw [List.length_set]; exact hcl, fun j h1 h2 => ?_⟩
            by_cases hj : j = at_
            · subst hj
              exact ⟨br, r, List.getElem?_set_self (by omega), hB9.setOther ba j _ hBn, hgood⟩
            · obtain ⟨b', r', e1, e2, e3⟩ := hrows j (by omega) h2
              have hlb := e2.lt
              have e2' := e2.frm hfw (by omega)
              exact ⟨b', r', by rw [List.getElem?_set_ne (by omega)]; exact e1, e2'.setOther ba at_ _ (e2'.ne hA10 (by decide)), e3⟩
          have HNEW := Lib.hid hnew
          have HP10 := Lib.hid hP10
          have fz := hA10.frozen at_
          have ca := hA10.cell at_
          rw [List.getElem?_eq_getElem (by omega)] at ca
          clear hP10 hnew hset hA10 hA0 hgood hB9 hrows hbre hsz hge hbaw hz9 hz3
          go_wp2_with fail
          go_roundw
          case measure => simp [intOf] <;> omega
          case rel => exact ⟨at_, by congr 1, by omega, HNEW.out, HP10.out⟩
end Go.Proofs.Ytamiliccnbkipaa
