/-
  'come', walked.
-/
import Derived.Test.YtoadmpochaeohaaPg34
section
set_option linter.unusedVariables false
set_option linter.unusedSimpArgs false
set_option maxRecDepth 100000
namespace Go.Proofs.Ytoadmpochaeohaa
open Go.RowKit

def ints (l : List Nat) : List Int := l.map (fun n : Nat => (n : Int))
theorem ints_append (a b : List Nat) : ints (a ++ b) = ints a ++ ints b := List.map_append
theorem ints_len (a : List Nat) : (ints a).length = a.length := List.length_map _
/-- Each number's part began where it is said. -/
def Cons (th : List Int) (np : List (Nat × Int)) : Prop := ∀ p ∈ np, th[p.1]? = some p.2
theorem Cons.put {th : List Int} {np : List (Nat × Int)} (h : Cons th np) {k : Nat} (hk : k < th.length) (hno : k ∉ np.map Prod.fst) (f : Int) : Cons (th.set k f) (np ++ [(k, f)]) := by
  intro p hp
  rcases List.mem_append.1 hp with hp | hp
  · have hne : k ≠ p.1 := fun e => hno (e ▸ List.mem_map_of_mem hp)
    rw [List.getElem?_set_ne hne]
    exact h p hp
  · obtain rfl := List.mem_singleton.1 hp
    rw [List.getElem?_set_self hk]

/-- How many steps were made: as many as have come (z: how many more, ahead). -/
def Cnt (z : Int) (n : Nat) (st : Int) (m : Nat) : Prop := -(n : Int) ≤ z → z ≤ 4611686018427387904 → st = z + m
theorem Cnt.succ {z : Int} {n m : Nat} {st : Int} (h : Cnt z n st m) (hm : m + 1 ≤ n) (hn : n ≤ 40000) : Cnt z n (wrap64 (st + 1)) (m + 1) := fun h1 h2 => by
  rw [h h1 h2, show wrap64 (z + m + 1) = z + m + 1 from IntWalk.wrap64_in _ (by omega)]
  omega

/-- What 'come' holds between its rounds. -/
structure CI (w0 : World) (F : Nat → Prop) (x : Nat) (A : Option Addr) (n cp : Nat) (gr co : Int) (fo : Bool) (line : ByteArray) (bn bx : Nat) (vf vt : Value) (ln : List Nat) (fr : List Int) (ins : List Ins) (b0 b1 : Bool) (from_ : Int) (goal : List (Nat × Int)) (z : Int) (gk : Nat)
    (wr : World) (F' : Nat → Prop) (col' : Nat → Nat) (vd : Value) (st : Int) (np : List (Nat × Int)) (th : List Int) (stk : List Nat) : Prop where
  pl : PL wr F' col' x A n cp gr co fo line bn bx vf vt vd st ln (np.map Prod.fst) fr th (ints stk.reverse)
  cons : Cons th np
  come : goal = comeP ins b0 b1 from_ gk stk np
  fuel : 3 * (n - np.length) + stk.length ≤ gk
  lim : gk ≤ 3 * n + 1
  lt : ∀ j ∈ stk, j < n
  frm : Frm F w0 wr
  own : ∀ k, F' k → F k ∨ w0.heap.size ≤ k
  cnt : Cnt z n st np.length

set_option maxHeartbeats 8000000 in
set_option maxRecDepth 100000 in
theorem come (F : Nat → Prop) (col : Nat → Nat) (x : Nat) (A : Option Addr) (n cp : Nat) (gr co : Int) (fo : Bool) (line : ByteArray) (bn bx : Nat) (vf vt vd : Value) (st : Int) (ln : List Nat) (fr th td : List Int) (np : List (Nat × Int)) (ins : List Ins) (G : Nat → Prop)
    (k at_ : Nat) (from_ : Int) (w : World) (hpl : PL w F col x A n cp gr co fo line bn bx vf vt vd st ln (np.map Prod.fst) fr th td) (hrd : Rd w G 10 A n cp (flatI ins)) (hG : ∀ k, G k → ¬ F k) (hfi : Fine ins) (hc : Cons th np) (hk : k < n) (hat : at_ ≤ 9223372036854775807) (hline : line.size ≤ 9223372036854775807) :
    Calls Try.prog 59 #[.pointer (some ⟨x, 0, none⟩), .int .i64 k, .int .i64 at_, .int .i64 from_] w fun e w' => e = .returned (.tuple #[]) ∧ ∃ F' col' vd' st' th' td',
      PL w' F' col' x A n cp gr co fo line bn bx vf vt vd' st' ln ((comeL ins (at_ == 0) (at_ == line.size) from_ k np).map Prod.fst) fr th' td' ∧ Cons th' (comeL ins (at_ == 0) (at_ == line.size) from_ k np) ∧ Frm F w w' ∧ (∀ k, F' k → F k ∨ w.heap.size ≤ k) ∧ Cnt (st - np.length) n st' (comeL ins (at_ == 0) (at_ == line.size) from_ k np).length := by
  have hil : ins.length = n := by have := hrd.len; rw [flatI_len] at this; omega
  have hfew := hfi.few
  have hn4 : n ≤ 40000 := by omega
  generalize hgoal : comeL ins (at_ == 0) (at_ == line.size) from_ k np = goal
  have HGO := Lib.hid hgoal
  obtain ⟨z, hz⟩ : ∃ z : Int, st - np.length = z := ⟨_, rfl⟩
  rw [hz]
  have hcn0 : Cnt z n st np.length := fun _ _ => by omega
  clear hz
  have HIL := Lib.hid hil
  clear hgoal hil
  have hpl0 := hpl.low
  obtain ⟨At, ct, rfl⟩ := hpl.sh.form
  obtain ⟨bt, rfl, _⟩ := hpl.sh.head (by omega)
  obtain ⟨Ad, cd, rfl⟩ := hpl.sd.form
  obtain ⟨c0, c4, c5, c6, c7, c8, c9, c10, l0⟩ := blk11 hpl.b
  obtain ⟨z5, z6, z7, z8, z9, z10⟩ := frz11 hpl.b
  have hcap := hpl.sd.rd.cap
  have hcz : (0 : Int) ≤ (cd : Int) := by omega
  have hS0 := hpl0.sd.cut0.alloc (.cells #[.int .i64 (k : Int)] 3)
  have hX := Blk.new w [.int .i64 (k : Int)] 3
  go_enter Try.func59, Try.ntmps59
  go_wp2_with (with_reducible refine stop_at 18 rfl ?_)
  unfold Stop
  refine op_append rfl _ _ _ rfl 3 _ 1 8 Try.underlying73 infoInt rfl (by omega) hS0 rfl ⟨w.heap.size, 0, none⟩ 1 1 [.int .i64 (k : Int)] rfl rfl (fun j u hu => (hX.cellAdd 0 j).trans (by rw [Nat.zero_add]; exact hu)) (by intro u hu; simp at hu; subst hu; rfl) (by simp only [maxLen]; omega) (by omega) ?_
  intro v1 w1 hf1 hs1
  rw [Nat.zero_add, List.nil_append] at hs1
  obtain ⟨A1, c1, rfl⟩ := hs1.form
  have hfa : Frm (fun k => (F k ∧ k < w.heap.size) ∧ col k = 5) w w1 := ((Frm.refl _ w).alloc _).then hf1 (fun i h _ => h)
  have hz1 : w.heap.size + 1 ≤ w1.heap.size := by have := hf1.size; simpa using this
  have hpl1 := hpl.todo (F' := fun k => F k ∨ w.heap.size ≤ k) (col' := fun k => if k < w.heap.size then col k else 5) (td' := [(k : Int)]) hfa (fun k h1 h2 => h1.2)
    (hs1.mono (fun k hk _ => by
      rcases hk with hk | hk
      · exact ⟨.inl hk.1.1, by rw [if_pos hk.1.2]; exact hk.2⟩
      · simp at hk
        exact ⟨.inr (by omega), by rw [if_neg (by omega)]⟩)) (fun k h1 h2 => ⟨.inl h1, by rw [if_pos h2]⟩)
  have hf2 : Frm F w (w1.setCell ⟨x, 9, none⟩ (.slice A1 1 c1)) := (hfa.mono (fun i h _ => h.1.1)).set x 9 _ (fun _ => hpl.fx.1)
  obtain ⟨y0, y4, y5, y6, y7, y8, y9, y10, l1⟩ := blk11 (hpl.b.frm hfa (fun h => by have := h.2; have := hpl.fx.2; omega))
  obtain ⟨u5, u6, u7, u8, u9, u10⟩ := frz11 (hpl.b.frm hfa (fun h => by have := h.2; have := hpl.fx.2; omega))
  clear c0 c4 c5 c6 c7 c8 c9 c10 z5 z6 z7 z8 z9 z10
  go_wp2_with fail
  have hnp : np.length ≤ n := by have := hpl.nx.nodup.2.2; simpa using this
  have hci : CI w F x A n cp gr co fo line bn bx vf (.slice (some ⟨bt, 0, none⟩) n ct) ln fr ins (at_ == 0) (at_ == line.size) from_ goal z (3 * n + 1) (w1.setCell ⟨x, 9, none⟩ (.slice A1 1 c1)) (fun k => F k ∨ w.heap.size ≤ k) (fun k => if k < w.heap.size then col k else 5) (.slice A1 1 c1) st np th [k] :=
    ⟨hpl1, hc, by rw [← HGO.out, comeL, HIL.out], by simp only [List.length_singleton]; omega, Nat.le_refl _, fun j hj => by rw [List.mem_singleton.1 hj]; exact hk, hf2, fun k h => h, hcn0⟩
  clear y0 y4 y5 y6 y7 y8 y9 y10 u5 u6 u7 u8 u9 u10 hS0 hX hs1 hpl1 hpl0 hcap hcz
  generalize w1.setCell ⟨x, 9, none⟩ (.slice A1 1 c1) = w2 at *
  have hrd2 : ∀ wr, Frm F w wr → Rd wr G 10 A n cp (flatI ins) := fun wr hf => hrd.frm hf hG
  have HRD := Lib.hid hrd2
  have HFI := Lib.hid hfi
  have HG := Lib.hid hG
  clear hrd2 hfi hG
  go_loopg [] (3 * n + 1) (fun gk wr => ∃ F' col' vd st np th stk, CI w F x A n cp gr co fo line bn bx vf (.slice (some ⟨bt, 0, none⟩) n ct) ln fr ins (at_ == 0) (at_ == line.size) from_ goal z gk wr F' col' vd st np th stk)
  case atStart => exact ⟨_, _, _, _, _, _, _, hci⟩
  case round =>
    clear hci
    obtain ⟨F', col', vd, st, np, th, stk, hI⟩ := hrel
    have hpl := hI.pl
    obtain ⟨Ad, cd, rfl⟩ := hpl.sd.form
    obtain ⟨c0, c4, c5, c6, c7, c8, c9, c10, l0⟩ := blk11 hpl.b
    obtain ⟨z5, z6, z7, z8, z9, z10⟩ := frz11 hpl.b
    rcases stk with _ | ⟨j, stk⟩
    · have HCO := Lib.hid hI.come
      go_wp2_with fail
      go_end0
      have hnp2 : goal = np := by rw [HCO.out]; cases gk <;> rfl
      subst hnp2
      exact ⟨rfl, F', col', _, st, th, _, hpl, hI.cons, hI.frm, hI.own, hI.cnt⟩
    · have hlj : (ints (j :: stk).reverse).length = stk.length + 1 := by simp [ints]
      have hjn := hI.lt j List.mem_cons_self
      have hfu := hI.fuel
      simp only [List.length_cons] at hfu
      have hsd := hpl.low.sd
      rw [hlj] at c9 hsd
      have hts : ints (j :: stk).reverse = ints stk.reverse ++ [(j : Int)] := by rw [List.reverse_cons, ints_append]; rfl
      have hsl : (ints stk.reverse).length = stk.length := by rw [ints_len, List.length_reverse]
      rw [hts] at hsd
      obtain ⟨bd, od, z, rfl, hbd, hz, d0⟩ := hsd.rd.cell1 stk.length (by omega)
      rw [List.getElem?_append_right (by rw [hsl]; exact Nat.le_refl _), hsl, Nat.sub_self] at hz
      obtain rfl : (j : Int) = z := by simpa using hz
      have hlim := hI.lim
      obtain ⟨g, rfl⟩ : ∃ g, gk = g + 1 := ⟨gk - 1, by omega⟩
      have hcap := hsd.rd.cap
      have hwr : IntKind.i64.wrap (stk.length : Int) = (stk.length : Int) := IntWalk.i64_in _ (by omega)
      have hle0 : (0 : Int) ≤ (stk.length : Int) := by omega
      have hle1 : (stk.length : Int) ≤ (cd : Int) := by omega
      have HCO := Lib.hid hI.come
      have hcutl : Sl wr (fun k => F' k ∧ col' k = 5) 3 1 (.slice (some ⟨bd, od, none⟩) stk.length cd) (ints stk.reverse).length ((ints stk.reverse).map I64) := by
        have h1 := hpl.sd
        rw [hlj, hts] at h1
        have h2 := h1.cut (k := stk.length) (by omega)
        rw [Nat.mul_one, List.map_append, List.take_append_of_le_length (by rw [List.length_map, hsl]; exact Nat.le_refl _), List.take_of_length_le (by rw [List.length_map, hsl]; exact Nat.le_refl _)] at h2
        rw [hsl]; exact h2
      have HCUT := Lib.hid hcutl
      clear hz hts hcutl hsd
      go_upto_region 2 with fail
      go_quiet (fail)
      go_upto_region 3 with fail
      go_region
      all_goals
        have hpl3 := hpl.todo (F' := F') (col' := col') (td' := ints stk.reverse) (vd' := .slice (some ⟨bd, od, none⟩) stk.length cd) ((Frm.refl (fun _ => False) wr).drewN (nq + 1)) (fun _ h => h.elim) (HCUT.out.frm (S := fun _ => False) ((Frm.refl _ wr).drewN (nq + 1)) (fun _ _ h => h)) (fun k h1 _ => ⟨h1, rfl⟩)
        have hf3 : Frm F w ((wr.drewN (nq + 1)).setCell ⟨x, 9, none⟩ (.slice (some ⟨bd, od, none⟩) stk.length cd)) := by
          have hz := hI.frm.size
          exact (hI.frm.drewN (nq + 1)).set x 9 _ (fun hx => by rcases hI.own x hpl.fx.1 with h1 | h1; exact h1; omega)
        clear c0 c4 c5 c6 c7 c8 c9 c10 z5 z6 z7 z8 z9 z10 d0
        generalize (wr.drewN (nq + 1)).setCell ⟨x, 9, none⟩ (.slice (some ⟨bd, od, none⟩) stk.length cd) = w3 at *
        obtain ⟨c0, c4, c5, c6, c7, c8, c9, c10, l3⟩ := blk11 hpl3.b
        go_wp2_with fail
        refine (putM _ bx n j (np.map Prod.fst) w3 hpl3.nx hjn).mono ?_
        rintro e w4 ⟨rfl, hm4, hf4⟩
        have hpl4 := hpl3.next hf4 hm4
        have hf5 : Frm F w w4 := hf3.then hf4 (fun i h1 h2 => by rcases hI.own i h1.1 with h3 | h3; exact h3; omega)
        have hown5 : ∀ k, (F' k ∨ w3.heap.size ≤ k) → F k ∨ w.heap.size ≤ k := fun k hk => by
          have hz := hf3.size
          rcases hk with h1 | h1
          · exact hI.own k h1
          · exact .inr (by omega)
        have hlt5 : ∀ i ∈ stk, i < n := fun i hi => hI.lt i (List.mem_cons_of_mem _ hi)
        clear c0 c4 c5 c6 c7 c8 c9 c10
        by_cases hjm : j ∈ np.map Prod.fst
        · rw [if_pos hjm] at hpl4
          have hdj : decide (j ∉ np.map Prod.fst) = false := decide_eq_false (by simpa using hjm)
          rw [hdj]
          have HJM := Lib.hid hjm
          clear hjm hdj
          go_wp2_with fail
          go_roundg g
          case measure => omega
          case rel => exact ⟨_, _, _, _, np, th, stk, ⟨hpl4, hI.cons, by rw [HCO.out, comeP, if_pos HJM.out], by omega, by omega, hlt5, hf5, hown5, hI.cnt⟩⟩
        · rw [if_neg hjm] at hpl4
          have hdj : decide (j ∉ np.map Prod.fst) = true := decide_eq_true (by simpa using hjm)
          rw [hdj]
          have HNM := Lib.hid hjm
          have HTL := Lib.hid hsl
          have hnl : np.length + 1 ≤ n := by have := hpl4.nx.nodup.2.2; rw [List.length_append, List.length_map, List.length_singleton] at this; exact this
          have hthl : j < th.length := by rw [hpl4.lt]; exact hjn
          have HCN := Lib.hid (hI.cons.put hthl hjm from_)
          have hct : Cnt z n (wrap64 (st + 1)) (np ++ [(j, from_)]).length := by rw [List.length_append, List.length_singleton]; exact hI.cnt.succ hnl hn4
          have HCT := Lib.hid hct
          clear hct
          clear hjm hdj
          obtain ⟨c0, c4, c5, c6, c7, c8, c9, c10, l4⟩ := blk11 hpl4.b
          obtain ⟨z5, z6, z7, z8, z9, z10⟩ := frz11 hpl4.b
          obtain ⟨bt', ebt, hFbt, hbt, cur, hbc, hcur⟩ := hpl4.sh.head (by omega)
          cases ebt
          obtain ⟨yo, hyo⟩ : ∃ yo, w4.cell? ⟨bt, j, none⟩ = some yo := by
            rw [hbc.cell, hcur j (by simpa using hthl)]
            exact ⟨_, List.getElem?_eq_getElem (by simpa using hthl)⟩
          have hfz := hbc.frozen j
          have hxt : x ≠ bt := fun e => by have h1 := hFbt.2; have h2 := hpl4.fx.2; subst e; omega
          have hpl5 := (hpl4.steps (wrap64 (st + 1))).then_ hjn hFbt from_
          have hf6 : Frm F w ((w4.setCell ⟨x, 10, none⟩ (.int .i64 (wrap64 (st + 1)))).setCell ⟨bt, j, none⟩ (.int .i64 from_)) := by
            have hz := hf5.size
            exact (hf5.set x 10 _ (fun hx => by rcases hown5 x hpl4.fx.1 with h1 | h1; exact h1; omega)).set bt j _ (fun hx => by rcases hown5 bt hFbt.1 with h1 | h1; exact h1; omega)
          go_upto_region 7 with fail
          clear c0 c4 c5 c6 c7 c8 c9 c10 z5 z6 z7 z8 z9 z10 hyo hfz hbc hcur
          generalize (w4.setCell ⟨x, 10, none⟩ (.int .i64 (wrap64 (st + 1)))).setCell ⟨bt, j, none⟩ (.int .i64 from_) = w5 at *
          obtain ⟨c0, c4, c5, c6, c7, c8, c9, c10, l5⟩ := blk11 hpl5.b
          obtain ⟨i, hi⟩ : ∃ i, ins[j]? = some i := ⟨_, List.getElem?_eq_getElem (by rw [HIL.out]; exact hjn)⟩
          obtain ⟨bi, oi, rfl, hbi, hci⟩ := (HRD.out w5 hf6).ins j i hi
          have e0 := hci 0 _ rfl
          have e1 := hci 1 _ rfl
          have e2 := hci 2 _ rfl
          have e3 := hci 3 _ rfl
          have e4 := hci 4 _ rfl
          have e5 := hci 5 _ rfl
          have e6 := hci 6 _ rfl
          have e7 := hci 7 _ rfl
          have e8 := hci 8 _ rfl
          have e9 := hci 9 _ rfl
          rw [Nat.add_zero] at e0
          have HII := Lib.hid hi
          clear hci hi
          obtain ⟨iop, ix, iy, i_n, imn, imx, is0, is1, is2, is3⟩ := i
          simp only at e0 e1 e2 e3 e4 e5 e6 e7 e8 e9
          go_upto_region 8 with fail
          have hpl6 := hpl5.frm (S := fun _ => False) ((Frm.refl _ w5).alloc (.cells #[.int .i64 iop, .int .i64 ix, .int .i64 iy, .int .i64 i_n, .int .i64 imn, .int .i64 imx, .int .u64 is0, .int .u64 is1, .int .u64 is2, .int .u64 is3] 39)) (fun _ _ h => h)
          have hf7 := hf6.alloc (.cells #[.int .i64 iop, .int .i64 ix, .int .i64 iy, .int .i64 i_n, .int .i64 imn, .int .i64 imx, .int .u64 is0, .int .u64 is1, .int .u64 is2, .int .u64 is3] 39)
          have hO := Blk.new w5 [.int .i64 iop, .int .i64 ix, .int .i64 iy, .int .i64 i_n, .int .i64 imn, .int .i64 imx, .int .u64 is0, .int .u64 is1, .int .u64 is2, .int .u64 is3] 39
          clear c0 c4 c5 c6 c7 c8 c9 c10 e0 e1 e2 e3 e4 e5 e6 e7 e8 e9
          generalize w5.alloc (.cells #[.int .i64 iop, .int .i64 ix, .int .i64 iy, .int .i64 i_n, .int .i64 imn, .int .i64 imx, .int .u64 is0, .int .u64 is1, .int .u64 is2, .int .u64 is3] 39) = w6 at *
          generalize w5.heap.size = bo at *
          have o0 := hO.cell 0
          have o1 := hO.cell 1
          have o2 := hO.cell 2
          simp only [List.getElem?_cons_zero, List.getElem?_cons_succ] at o0 o1 o2
          obtain ⟨c0, c4, c5, c6, c7, c8, c9, c10, l6⟩ := blk11 hpl6.b
          obtain ⟨z5, z6, z7, z8, z9, z10⟩ := frz11 hpl6.b
          have HSP := Lib.hid (HFI.out.split j _ HII.out)
          have HJP := Lib.hid (HFI.out.jump j _ HII.out)
          have HNX := Lib.hid (HFI.out.next j _ HII.out)
          by_cases h2 : iop = 2
          · subst h2
            obtain ⟨g1, g2, g3, g4⟩ := HSP.out rfl
            rw [HIL.out] at g2 g4
            obtain ⟨ixn, rfl⟩ := Int.eq_ofNat_of_zero_le g1
            obtain ⟨iyn, rfl⟩ := Int.eq_ofNat_of_zero_le g3
            have HSU : Hid (succs ins (at_ == 0) (at_ == line.size) j = [ixn, iyn]) := by rw [Hid, succs, HII.out]; simp
            clear g1 g3
            have hS6 := hpl6.sd
            rw [hsl] at hS6
            have HS6 := Lib.hid hS6
            clear hS6
            go_upto_region 10 with fail
            go_region_law (refine step_append rfl _ _ _ rfl 3 _ 1 8 Try.underlying73 infoInt rfl (by omega) ((HS6.out.alloc (.cells #[.int .i64 (iyn : Int), .int .i64 (ixn : Int)] 3)).drew) rfl ⟨w6.heap.size, 0, none⟩ 2 2 [.int .i64 (iyn : Int), .int .i64 (ixn : Int)] rfl rfl (fun j u hu => ((Blk.new w6 [.int .i64 (iyn : Int), .int .i64 (ixn : Int)] 3).drew.cellAdd 0 j).trans (by rw [Nat.zero_add]; exact hu)) (by intro u hu; simp at hu; rcases hu with rfl | rfl <;> rfl) (by simp only [maxLen]; omega) (by omega) ?_; intro v9 w7 hf8 hs8; obtain ⟨A9, c9', rfl⟩ := hs8.form; have hf9a : Frm (fun k => (F' k ∨ w3.heap.size ≤ k) ∧ (if k < w3.heap.size then col' k else 2) = 5) w6 w7 := (((Frm.refl _ w6).alloc _).drew).then hf8 (fun _ h _ => h); obtain ⟨y0, y4, y5, y6, y7, y8, y9, y10, l7⟩ := blk11 (hpl6.b.frm hf9a (fun h => by have h1 := h.2; have h2 := hpl6.fx.2; omega)); obtain ⟨u5, u6, u7, u8, u9, u10⟩ := frz11 (hpl6.b.frm hf9a (fun h => by have h1 := h.2; have h2 := hpl6.fx.2; omega)))
            all_goals
              have hz6 := hf7.size
              have hpl9 := hpl6.todo (F' := fun k => (F' k ∨ w3.heap.size ≤ k) ∨ w6.heap.size ≤ k) (col' := fun k => if k < w6.heap.size then (if k < w3.heap.size then col' k else 2) else 5) (td' := ints (ixn :: iyn :: stk).reverse) hf9a (fun k h1 h2 => h1.2)
                (by
                  have e1 : (ints (ixn :: iyn :: stk).reverse).length = stk.length + 2 := by simp [ints]
                  have e2 : (ints (ixn :: iyn :: stk).reverse).map I64 = (ints stk.reverse).map I64 ++ [.int .i64 (iyn : Int), .int .i64 (ixn : Int)] := by simp [ints, I64]
                  rw [e1, e2]
                  exact hs8.mono (fun k hk _ => by
                    rcases hk with hk | hk
                    · refine ⟨.inl hk.1, ?_⟩
                      by_cases hkl : k < w6.heap.size
                      · rw [if_pos hkl]; exact hk.2
                      · rw [if_neg hkl]
                    · simp at hk
                      exact ⟨.inr (by omega), by rw [if_neg (by omega)]⟩)) (fun k h1 h2 => ⟨.inl h1, by rw [if_pos h2]⟩)
              have hf9 : Frm F w (w7.setCell ⟨x, 9, none⟩ (.slice A9 (stk.length + 2) c9')) := (hf7.then hf9a (fun i h1 h2 => by rcases hown5 i h1.1 with h3 | h3; exact h3; omega)).set x 9 _ (fun hx => by rcases hown5 x hpl6.fx.1 with h1 | h1; exact h1; omega)
              have hown9 : ∀ k, ((F' k ∨ w3.heap.size ≤ k) ∨ w6.heap.size ≤ k) → F k ∨ w.heap.size ≤ k := fun k hk => by rcases hk with h1 | h1; exact hown5 k h1; exact .inr (by omega)
              clear c0 c4 c5 c6 c7 c8 c9 c10 y0 y4 y5 y6 y7 y8 y9 y10
              go_wp2_with fail
              go_roundg g
              case measure => omega
              case rel => exact ⟨_, _, _, _, np ++ [(j, from_)], _, ixn :: iyn :: stk, ⟨by rw [List.map_append]; exact hpl9, HCN.out, by rw [HCO.out, comeP, if_neg HNM.out, HSU.out]; rfl, by rw [List.length_append, List.length_singleton]; (try simp only [List.length_cons]); omega, by omega, by simpa using ⟨by omega, by omega, hlt5⟩, hf9, hown9, HCT.out⟩⟩
          · by_cases h3 : iop = 3
            · subst h3
              obtain ⟨g1, g2⟩ := HJP.out rfl
              rw [HIL.out] at g2
              obtain ⟨ixn, rfl⟩ := Int.eq_ofNat_of_zero_le g1
              have HSU : Hid (succs ins (at_ == 0) (at_ == line.size) j = [ixn]) := by rw [Hid, succs, HII.out]; simp
              clear g1
              have hS6 := hpl6.sd
              rw [hsl] at hS6
              have HS6 := Lib.hid hS6
              clear hS6
              go_upto_region 12 with fail
              go_region_law (refine step_append rfl _ _ _ rfl 3 _ 1 8 Try.underlying73 infoInt rfl (by omega) ((HS6.out.alloc (.cells #[.int .i64 (ixn : Int)] 3)).drew) rfl ⟨w6.heap.size, 0, none⟩ 1 1 [.int .i64 (ixn : Int)] rfl rfl (fun j u hu => ((Blk.new w6 [.int .i64 (ixn : Int)] 3).drew.cellAdd 0 j).trans (by rw [Nat.zero_add]; exact hu)) (by intro u hu; simp at hu; subst hu; rfl) (by simp only [maxLen]; omega) (by omega) ?_; intro v9 w7 hf8 hs8; obtain ⟨A9, c9', rfl⟩ := hs8.form; have hf9a : Frm (fun k => (F' k ∨ w3.heap.size ≤ k) ∧ (if k < w3.heap.size then col' k else 2) = 5) w6 w7 := (((Frm.refl _ w6).alloc _).drew).then hf8 (fun _ h _ => h); obtain ⟨y0, y4, y5, y6, y7, y8, y9, y10, l7⟩ := blk11 (hpl6.b.frm hf9a (fun h => by have h1 := h.2; have h2 := hpl6.fx.2; omega)); obtain ⟨u5, u6, u7, u8, u9, u10⟩ := frz11 (hpl6.b.frm hf9a (fun h => by have h1 := h.2; have h2 := hpl6.fx.2; omega)))
              all_goals
                have hz6 := hf7.size
                have hpl9 := hpl6.todo (F' := fun k => (F' k ∨ w3.heap.size ≤ k) ∨ w6.heap.size ≤ k) (col' := fun k => if k < w6.heap.size then (if k < w3.heap.size then col' k else 2) else 5) (td' := ints (ixn :: stk).reverse) hf9a (fun k h1 h2 => h1.2)
                  (by
                    have e1 : (ints (ixn :: stk).reverse).length = stk.length + 1 := by simp [ints]
                    have e2 : (ints (ixn :: stk).reverse).map I64 = (ints stk.reverse).map I64 ++ [.int .i64 (ixn : Int)] := by simp [ints, I64]
                    rw [e1, e2]
                    exact hs8.mono (fun k hk _ => by
                      rcases hk with hk | hk
                      · refine ⟨.inl hk.1, ?_⟩
                        by_cases hkl : k < w6.heap.size
                        · rw [if_pos hkl]; exact hk.2
                        · rw [if_neg hkl]
                      · simp at hk
                        exact ⟨.inr (by omega), by rw [if_neg (by omega)]⟩)) (fun k h1 h2 => ⟨.inl h1, by rw [if_pos h2]⟩)
                have hf9 : Frm F w (w7.setCell ⟨x, 9, none⟩ (.slice A9 (stk.length + 1) c9')) := (hf7.then hf9a (fun i h1 h2 => by rcases hown5 i h1.1 with h3 | h3; exact h3; omega)).set x 9 _ (fun hx => by rcases hown5 x hpl6.fx.1 with h1 | h1; exact h1; omega)
                have hown9 : ∀ k, ((F' k ∨ w3.heap.size ≤ k) ∨ w6.heap.size ≤ k) → F k ∨ w.heap.size ≤ k := fun k hk => by rcases hk with h1 | h1; exact hown5 k h1; exact .inr (by omega)
                clear c0 c4 c5 c6 c7 c8 c9 c10 y0 y4 y5 y6 y7 y8 y9 y10
                go_wp2_with fail
                go_roundg g
                case measure => omega
                case rel => exact ⟨_, _, _, _, np ++ [(j, from_)], _, ixn :: stk, ⟨by rw [List.map_append]; exact hpl9, HCN.out, by rw [HCO.out, comeP, if_neg HNM.out, HSU.out]; rfl, by rw [List.length_append, List.length_singleton]; (try simp only [List.length_cons]); omega, by omega, by simpa using ⟨by omega, hlt5⟩, hf9, hown9, HCT.out⟩⟩
            · by_cases h4 : iop = 4
              · subst h4
                by_cases hb : at_ = 0
                · have hb1 : ((at_ : Int) == 0) = true := by simp [hb]
                  have HB := Lib.hid hb
                  clear hb
                  have HSU : Hid (succs ins (at_ == 0) (at_ == line.size) j = [j + 1]) := by rw [Hid, succs, HII.out]; simp [HB.out]
                  have hj1 : j + 1 < n := by have := HNX.out (by simp); rw [HIL.out] at this; exact this
                  have hS6 := (hpl6.sd).alloc (.cells #[.int .i64 ((j : Int) + 1 : Int)] 3)
                  rw [hsl] at hS6
                  have hX := Blk.new w6 [.int .i64 ((j : Int) + 1 : Int)] 3
                  go_wp2_with (with_reducible refine stop_at 124 rfl ?_)
                  unfold Stop
                  refine op_append rfl _ _ _ rfl 3 _ 1 8 Try.underlying73 infoInt rfl (by omega) hS6 rfl ⟨w6.heap.size, 0, none⟩ 1 1 [.int .i64 ((j : Int) + 1 : Int)] rfl rfl (fun j u hu => (hX.cellAdd 0 j).trans (by rw [Nat.zero_add]; exact hu)) (by intro u hu; simp at hu; subst hu; rfl) (by simp only [maxLen]; omega) (by omega) ?_
                  intro v9 w7 hf8 hs8
                  have hf9a : Frm (fun k => (F' k ∨ w3.heap.size ≤ k) ∧ (if k < w3.heap.size then col' k else 2) = 5) w6 w7 := ((Frm.refl _ w6).alloc _).then hf8 (fun _ h _ => h)
                  obtain ⟨A9, c9', rfl⟩ := hs8.form
                  have hz6 := hf7.size
                  have hpl9 := hpl6.todo (F' := fun k => (F' k ∨ w3.heap.size ≤ k) ∨ w6.heap.size ≤ k) (col' := fun k => if k < w6.heap.size then (if k < w3.heap.size then col' k else 2) else 5) (td' := ints ((j + 1) :: stk).reverse) hf9a (fun k h1 h2 => h1.2)
                    (by
                      have e1 : (ints ((j + 1) :: stk).reverse).length = stk.length + 1 := by simp [ints]
                      have e2 : (ints ((j + 1) :: stk).reverse).map I64 = (ints stk.reverse).map I64 ++ [.int .i64 ((j : Int) + 1 : Int)] := by simp [ints, I64]
                      rw [e1, e2]
                      exact hs8.mono (fun k hk _ => by
                        rcases hk with hk | hk
                        · refine ⟨.inl hk.1, ?_⟩
                          by_cases hkl : k < w6.heap.size
                          · rw [if_pos hkl]; exact hk.2
                          · rw [if_neg hkl]
                        · simp at hk
                          exact ⟨.inr (by omega), by rw [if_neg (by omega)]⟩)) (fun k h1 h2 => ⟨.inl h1, by rw [if_pos h2]⟩)
                  have hf9 : Frm F w (w7.setCell ⟨x, 9, none⟩ (.slice A9 (stk.length + 1) c9')) := (hf7.then hf9a (fun i h1 h2 => by rcases hown5 i h1.1 with h3 | h3; exact h3; omega)).set x 9 _ (fun hx => by rcases hown5 x hpl6.fx.1 with h1 | h1; exact h1; omega)
                  have hown9 : ∀ k, ((F' k ∨ w3.heap.size ≤ k) ∨ w6.heap.size ≤ k) → F k ∨ w.heap.size ≤ k := fun k hk => by rcases hk with h1 | h1; exact hown5 k h1; exact .inr (by omega)
                  obtain ⟨y0, y4, y5, y6, y7, y8, y9, y10, l7⟩ := blk11 (hpl6.b.frm hf9a (fun h => by have h1 := h.2; have h2 := hpl6.fx.2; omega))
                  obtain ⟨u5, u6, u7, u8, u9, u10⟩ := frz11 (hpl6.b.frm hf9a (fun h => by have h1 := h.2; have h2 := hpl6.fx.2; omega))
                  clear c0 c4 c5 c6 c7 c8 c9 c10
                  go_wp2_with fail
                  go_roundg g
                  case measure => omega
                  case rel => exact ⟨_, _, _, _, np ++ [(j, from_)], _, (j + 1) :: stk, ⟨by rw [List.map_append]; exact hpl9, HCN.out, by rw [HCO.out, comeP, if_neg HNM.out, HSU.out]; rfl, by rw [List.length_append, List.length_singleton]; (try simp only [List.length_cons]); omega, by omega, by simpa using ⟨hj1, hlt5⟩, hf9, hown9, HCT.out⟩⟩
                · have hb1 : ((at_ : Int) == 0) = false := by simpa using hb
                  have hb2 : ¬ ((at_ : Int) = 0) := by omega
                  have HB := Lib.hid hb
                  clear hb
                  have HSU : Hid (succs ins (at_ == 0) (at_ == line.size) j = []) := by rw [Hid, succs, HII.out]; simp [HB.out]
                  go_wp2_with fail
                  have hpl9 := hpl6
                  have hf9 := hf7
                  have hown9 := hown5
                  go_roundg g
                  case measure => omega
                  case rel => exact ⟨_, _, _, _, np ++ [(j, from_)], _, stk, ⟨by rw [List.map_append]; exact hpl9, HCN.out, by rw [HCO.out, comeP, if_neg HNM.out, HSU.out]; rfl, by rw [List.length_append, List.length_singleton]; (try simp only [List.length_cons]); omega, by omega, hlt5, hf9, hown9, HCT.out⟩⟩
              · by_cases h5 : iop = 5
                · subst h5
                  by_cases hb : at_ = line.size
                  · have hb1 : ((at_ : Int) == (line.size : Int)) = true := by simp [hb]
                    have HB := Lib.hid hb
                    clear hb
                    have HSU : Hid (succs ins (at_ == 0) (at_ == line.size) j = [j + 1]) := by rw [Hid, succs, HII.out]; simp [HB.out]
                    have hj1 : j + 1 < n := by have := HNX.out (by simp); rw [HIL.out] at this; exact this
                    have hS6 := (hpl6.sd).alloc (.cells #[.int .i64 ((j : Int) + 1 : Int)] 3)
                    rw [hsl] at hS6
                    have hX := Blk.new w6 [.int .i64 ((j : Int) + 1 : Int)] 3
                    go_wp2_with (with_reducible refine stop_at 144 rfl ?_)
                    unfold Stop
                    refine op_append rfl _ _ _ rfl 3 _ 1 8 Try.underlying73 infoInt rfl (by omega) hS6 rfl ⟨w6.heap.size, 0, none⟩ 1 1 [.int .i64 ((j : Int) + 1 : Int)] rfl rfl (fun j u hu => (hX.cellAdd 0 j).trans (by rw [Nat.zero_add]; exact hu)) (by intro u hu; simp at hu; subst hu; rfl) (by simp only [maxLen]; omega) (by omega) ?_
                    intro v9 w7 hf8 hs8
                    have hf9a : Frm (fun k => (F' k ∨ w3.heap.size ≤ k) ∧ (if k < w3.heap.size then col' k else 2) = 5) w6 w7 := ((Frm.refl _ w6).alloc _).then hf8 (fun _ h _ => h)
                    obtain ⟨A9, c9', rfl⟩ := hs8.form
                    have hz6 := hf7.size
                    have hpl9 := hpl6.todo (F' := fun k => (F' k ∨ w3.heap.size ≤ k) ∨ w6.heap.size ≤ k) (col' := fun k => if k < w6.heap.size then (if k < w3.heap.size then col' k else 2) else 5) (td' := ints ((j + 1) :: stk).reverse) hf9a (fun k h1 h2 => h1.2)
                      (by
                        have e1 : (ints ((j + 1) :: stk).reverse).length = stk.length + 1 := by simp [ints]
                        have e2 : (ints ((j + 1) :: stk).reverse).map I64 = (ints stk.reverse).map I64 ++ [.int .i64 ((j : Int) + 1 : Int)] := by simp [ints, I64]
                        rw [e1, e2]
                        exact hs8.mono (fun k hk _ => by
                          rcases hk with hk | hk
                          · refine ⟨.inl hk.1, ?_⟩
                            by_cases hkl : k < w6.heap.size
                            · rw [if_pos hkl]; exact hk.2
                            · rw [if_neg hkl]
                          · simp at hk
                            exact ⟨.inr (by omega), by rw [if_neg (by omega)]⟩)) (fun k h1 h2 => ⟨.inl h1, by rw [if_pos h2]⟩)
                    have hf9 : Frm F w (w7.setCell ⟨x, 9, none⟩ (.slice A9 (stk.length + 1) c9')) := (hf7.then hf9a (fun i h1 h2 => by rcases hown5 i h1.1 with h3 | h3; exact h3; omega)).set x 9 _ (fun hx => by rcases hown5 x hpl6.fx.1 with h1 | h1; exact h1; omega)
                    have hown9 : ∀ k, ((F' k ∨ w3.heap.size ≤ k) ∨ w6.heap.size ≤ k) → F k ∨ w.heap.size ≤ k := fun k hk => by rcases hk with h1 | h1; exact hown5 k h1; exact .inr (by omega)
                    obtain ⟨y0, y4, y5, y6, y7, y8, y9, y10, l7⟩ := blk11 (hpl6.b.frm hf9a (fun h => by have h1 := h.2; have h2 := hpl6.fx.2; omega))
                    obtain ⟨u5, u6, u7, u8, u9, u10⟩ := frz11 (hpl6.b.frm hf9a (fun h => by have h1 := h.2; have h2 := hpl6.fx.2; omega))
                    clear c0 c4 c5 c6 c7 c8 c9 c10
                    go_wp2_with fail
                    go_roundg g
                    case measure => omega
                    case rel => exact ⟨_, _, _, _, np ++ [(j, from_)], _, (j + 1) :: stk, ⟨by rw [List.map_append]; exact hpl9, HCN.out, by rw [HCO.out, comeP, if_neg HNM.out, HSU.out]; rfl, by rw [List.length_append, List.length_singleton]; (try simp only [List.length_cons]); omega, by omega, by simpa using ⟨hj1, hlt5⟩, hf9, hown9, HCT.out⟩⟩
                  · have hb1 : ((at_ : Int) == (line.size : Int)) = false := by simp; omega
                    have hb2 : ¬ ((at_ : Int) = (line.size : Int)) := by omega
                    have HB := Lib.hid hb
                    clear hb
                    have HSU : Hid (succs ins (at_ == 0) (at_ == line.size) j = []) := by rw [Hid, succs, HII.out]; simp [HB.out]
                    go_wp2_with fail
                    have hpl9 := hpl6
                    have hf9 := hf7
                    have hown9 := hown5
                    go_roundg g
                    case measure => omega
                    case rel => exact ⟨_, _, _, _, np ++ [(j, from_)], _, stk, ⟨by rw [List.map_append]; exact hpl9, HCN.out, by rw [HCO.out, comeP, if_neg HNM.out, HSU.out]; rfl, by rw [List.length_append, List.length_singleton]; (try simp only [List.length_cons]); omega, by omega, hlt5, hf9, hown9, HCT.out⟩⟩
                · by_cases h6 : iop = 6
                  · subst h6
                    have HSU : Hid (succs ins (at_ == 0) (at_ == line.size) j = [j + 1]) := by rw [Hid, succs, HII.out]; simp
                    have hj1 : j + 1 < n := by have := HNX.out (by simp); rw [HIL.out] at this; exact this
                    have hS6 := (hpl6.sd).alloc (.cells #[.int .i64 ((j : Int) + 1 : Int)] 3)
                    rw [hsl] at hS6
                    have hX := Blk.new w6 [.int .i64 ((j : Int) + 1 : Int)] 3
                    go_wp2_with (with_reducible refine stop_at 158 rfl ?_)
                    unfold Stop
                    refine op_append rfl _ _ _ rfl 3 _ 1 8 Try.underlying73 infoInt rfl (by omega) hS6 rfl ⟨w6.heap.size, 0, none⟩ 1 1 [.int .i64 ((j : Int) + 1 : Int)] rfl rfl (fun j u hu => (hX.cellAdd 0 j).trans (by rw [Nat.zero_add]; exact hu)) (by intro u hu; simp at hu; subst hu; rfl) (by simp only [maxLen]; omega) (by omega) ?_
                    intro v9 w7 hf8 hs8
                    have hf9a : Frm (fun k => (F' k ∨ w3.heap.size ≤ k) ∧ (if k < w3.heap.size then col' k else 2) = 5) w6 w7 := ((Frm.refl _ w6).alloc _).then hf8 (fun _ h _ => h)
                    obtain ⟨A9, c9', rfl⟩ := hs8.form
                    have hz6 := hf7.size
                    have hpl9 := hpl6.todo (F' := fun k => (F' k ∨ w3.heap.size ≤ k) ∨ w6.heap.size ≤ k) (col' := fun k => if k < w6.heap.size then (if k < w3.heap.size then col' k else 2) else 5) (td' := ints ((j + 1) :: stk).reverse) hf9a (fun k h1 h2 => h1.2)
                      (by
                        have e1 : (ints ((j + 1) :: stk).reverse).length = stk.length + 1 := by simp [ints]
                        have e2 : (ints ((j + 1) :: stk).reverse).map I64 = (ints stk.reverse).map I64 ++ [.int .i64 ((j : Int) + 1 : Int)] := by simp [ints, I64]
                        rw [e1, e2]
                        exact hs8.mono (fun k hk _ => by
                          rcases hk with hk | hk
                          · refine ⟨.inl hk.1, ?_⟩
                            by_cases hkl : k < w6.heap.size
                            · rw [if_pos hkl]; exact hk.2
                            · rw [if_neg hkl]
                          · simp at hk
                            exact ⟨.inr (by omega), by rw [if_neg (by omega)]⟩)) (fun k h1 h2 => ⟨.inl h1, by rw [if_pos h2]⟩)
                    have hf9 : Frm F w (w7.setCell ⟨x, 9, none⟩ (.slice A9 (stk.length + 1) c9')) := (hf7.then hf9a (fun i h1 h2 => by rcases hown5 i h1.1 with h3 | h3; exact h3; omega)).set x 9 _ (fun hx => by rcases hown5 x hpl6.fx.1 with h1 | h1; exact h1; omega)
                    have hown9 : ∀ k, ((F' k ∨ w3.heap.size ≤ k) ∨ w6.heap.size ≤ k) → F k ∨ w.heap.size ≤ k := fun k hk => by rcases hk with h1 | h1; exact hown5 k h1; exact .inr (by omega)
                    obtain ⟨y0, y4, y5, y6, y7, y8, y9, y10, l7⟩ := blk11 (hpl6.b.frm hf9a (fun h => by have h1 := h.2; have h2 := hpl6.fx.2; omega))
                    obtain ⟨u5, u6, u7, u8, u9, u10⟩ := frz11 (hpl6.b.frm hf9a (fun h => by have h1 := h.2; have h2 := hpl6.fx.2; omega))
                    clear c0 c4 c5 c6 c7 c8 c9 c10
                    go_wp2_with fail
                    go_roundg g
                    case measure => omega
                    case rel => exact ⟨_, _, _, _, np ++ [(j, from_)], _, (j + 1) :: stk, ⟨by rw [List.map_append]; exact hpl9, HCN.out, by rw [HCO.out, comeP, if_neg HNM.out, HSU.out]; rfl, by rw [List.length_append, List.length_singleton]; (try simp only [List.length_cons]); omega, by omega, by simpa using ⟨hj1, hlt5⟩, hf9, hown9, HCT.out⟩⟩
                  · by_cases h7 : iop = 7
                    · subst h7
                      have HSU : Hid (succs ins (at_ == 0) (at_ == line.size) j = [j + 1]) := by rw [Hid, succs, HII.out]; simp
                      have hj1 : j + 1 < n := by have := HNX.out (by simp); rw [HIL.out] at this; exact this
                      have hS6 := (hpl6.sd).alloc (.cells #[.int .i64 ((j : Int) + 1 : Int)] 3)
                      rw [hsl] at hS6
                      have hX := Blk.new w6 [.int .i64 ((j : Int) + 1 : Int)] 3
                      go_wp2_with (with_reducible refine stop_at 158 rfl ?_)
                      unfold Stop
                      refine op_append rfl _ _ _ rfl 3 _ 1 8 Try.underlying73 infoInt rfl (by omega) hS6 rfl ⟨w6.heap.size, 0, none⟩ 1 1 [.int .i64 ((j : Int) + 1 : Int)] rfl rfl (fun j u hu => (hX.cellAdd 0 j).trans (by rw [Nat.zero_add]; exact hu)) (by intro u hu; simp at hu; subst hu; rfl) (by simp only [maxLen]; omega) (by omega) ?_
                      intro v9 w7 hf8 hs8
                      have hf9a : Frm (fun k => (F' k ∨ w3.heap.size ≤ k) ∧ (if k < w3.heap.size then col' k else 2) = 5) w6 w7 := ((Frm.refl _ w6).alloc _).then hf8 (fun _ h _ => h)
                      obtain ⟨A9, c9', rfl⟩ := hs8.form
                      have hz6 := hf7.size
                      have hpl9 := hpl6.todo (F' := fun k => (F' k ∨ w3.heap.size ≤ k) ∨ w6.heap.size ≤ k) (col' := fun k => if k < w6.heap.size then (if k < w3.heap.size then col' k else 2) else 5) (td' := ints ((j + 1) :: stk).reverse) hf9a (fun k h1 h2 => h1.2)
                        (by
                          have e1 : (ints ((j + 1) :: stk).reverse).length = stk.length + 1 := by simp [ints]
                          have e2 : (ints ((j + 1) :: stk).reverse).map I64 = (ints stk.reverse).map I64 ++ [.int .i64 ((j : Int) + 1 : Int)] := by simp [ints, I64]
                          rw [e1, e2]
                          exact hs8.mono (fun k hk _ => by
                            rcases hk with hk | hk
                            · refine ⟨.inl hk.1, ?_⟩
                              by_cases hkl : k < w6.heap.size
                              · rw [if_pos hkl]; exact hk.2
                              · rw [if_neg hkl]
                            · simp at hk
                              exact ⟨.inr (by omega), by rw [if_neg (by omega)]⟩)) (fun k h1 h2 => ⟨.inl h1, by rw [if_pos h2]⟩)
                      have hf9 : Frm F w (w7.setCell ⟨x, 9, none⟩ (.slice A9 (stk.length + 1) c9')) := (hf7.then hf9a (fun i h1 h2 => by rcases hown5 i h1.1 with h3 | h3; exact h3; omega)).set x 9 _ (fun hx => by rcases hown5 x hpl6.fx.1 with h1 | h1; exact h1; omega)
                      have hown9 : ∀ k, ((F' k ∨ w3.heap.size ≤ k) ∨ w6.heap.size ≤ k) → F k ∨ w.heap.size ≤ k := fun k hk => by rcases hk with h1 | h1; exact hown5 k h1; exact .inr (by omega)
                      obtain ⟨y0, y4, y5, y6, y7, y8, y9, y10, l7⟩ := blk11 (hpl6.b.frm hf9a (fun h => by have h1 := h.2; have h2 := hpl6.fx.2; omega))
                      obtain ⟨u5, u6, u7, u8, u9, u10⟩ := frz11 (hpl6.b.frm hf9a (fun h => by have h1 := h.2; have h2 := hpl6.fx.2; omega))
                      clear c0 c4 c5 c6 c7 c8 c9 c10
                      go_wp2_with fail
                      go_roundg g
                      case measure => omega
                      case rel => exact ⟨_, _, _, _, np ++ [(j, from_)], _, (j + 1) :: stk, ⟨by rw [List.map_append]; exact hpl9, HCN.out, by rw [HCO.out, comeP, if_neg HNM.out, HSU.out]; rfl, by rw [List.length_append, List.length_singleton]; (try simp only [List.length_cons]); omega, by omega, by simpa using ⟨hj1, hlt5⟩, hf9, hown9, HCT.out⟩⟩
                    · have t2 : (iop == 2) = false := by simpa using h2
                      have t3 : (iop == 3) = false := by simpa using h3
                      have t4 : (iop == 4) = false := by simpa using h4
                      have t5 : (iop == 5) = false := by simpa using h5
                      have t6 : (iop == 6) = false := by simpa using h6
                      have t7 : (iop == 7) = false := by simpa using h7
                      have HSU : Hid (succs ins (at_ == 0) (at_ == line.size) j = []) := by rw [Hid, succs, HII.out]; simp [h2, h3, h4, h5, h6, h7]
                      go_wp2_with fail
                      have hpl9 := hpl6
                      have hf9 := hf7
                      have hown9 := hown5
                      go_roundg g
                      case measure => omega
                      case rel => exact ⟨_, _, _, _, np ++ [(j, from_)], _, stk, ⟨by rw [List.map_append]; exact hpl9, HCN.out, by rw [HCO.out, comeP, if_neg HNM.out, HSU.out]; rfl, by rw [List.length_append, List.length_singleton]; (try simp only [List.length_cons]); omega, by omega, hlt5, hf9, hown9, HCT.out⟩⟩
end Go.Proofs.Ytoadmpochaeohaa
end
