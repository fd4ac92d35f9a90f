/-
  Layer 20: lower, again.
-/
import Derived.Test.YtoadmpochaeohaaBBrk
import Derived.Sort.AtCall
set_option linter.unusedVariables false
set_option linter.unusedSimpArgs false
set_option maxRecDepth 100000
namespace Go.Proofs.Ytoadmpochaeohaa
open Go.RowKit

theorem lowerC (c : UInt8) (w : World) : Calls Try.prog 88 #[.int .u8 c.toNat] w fun e w' => e = .returned (.int .u8 (lowS c).toNat) ∧ w = w' := by
  have hc := c.toNat_lt
  by_cases h1 : 65 ≤ c.toNat
  · by_cases h2 : c.toNat ≤ 90
    · have e : (lowS c).toNat = c.toNat + 32 := by
        rw [lowS, if_pos ⟨UInt8.le_iff_toNat_le.2 h1, UInt8.le_iff_toNat_le.2 h2⟩, UInt8.toNat_add]
        show (c.toNat + 32) % 256 = _
        omega
      rw [e]
      clear e
      go_enter Try.func88, Try.ntmps88
      go_wp2_with fail
      go_ret
      exact ⟨by congr 1, rfl⟩
    · have e : (lowS c).toNat = c.toNat := by
        rw [lowS, if_neg (fun h => h2 (UInt8.le_iff_toNat_le.1 h.2))]
      rw [e]
      clear e
      go_enter Try.func88, Try.ntmps88
      go_wp2_with fail
      go_ret
      exact ⟨rfl, rfl⟩
  · have e : (lowS c).toNat = c.toNat := by
      rw [lowS, if_neg (fun h : (65 : UInt8) ≤ c ∧ c ≤ 90 => h1 (UInt8.le_iff_toNat_le.1 h.1))]
    rw [e]
    clear e
    go_enter Try.func88, Try.ntmps88
    go_wp2_with fail
    go_ret
    exact ⟨rfl, rfl⟩

/-- How long what a group had is, if it stands here, too. -/
def againV (fold : Bool) (line : List UInt8) (at_ : Nat) (p : Pt) : Option Nat :=
  if p.frm < 0 ∨ (line.length : Int) - at_ < p.til - p.frm then none else if sameS fold line p.frm.toNat at_ (p.til - p.frm).toNat then some (p.til - p.frm).toNat else none
def agVal (r : Option Nat) : Value := match r with | some n => .tuple #[.int .i64 n, .bool true] | none => .tuple #[.int .i64 0, .bool false]

theorem sameS_le {fold : Bool} {L : List UInt8} {a b : Nat} : ∀ {N k : Nat}, k ≤ N → sameS fold L a b N = true → sameS fold L a b k = true
  | 0, k, h, hs => by obtain rfl : k = 0 := by omega
                      exact hs
  | N + 1, k, h, hs => by
    by_cases hk : k = N + 1
    · subst hk; exact hs
    · exact sameS_le (N := N) (by omega) (by rw [sameS, Bool.and_eq_true] at hs; exact hs.1)
theorem sameS_succ {fold : Bool} {line : ByteArray} {a b k : Nat} (ha : a + k < line.size) (hb : b + k < line.size) (h : sameS fold line.toList a b k = true) :
    sameS fold line.toList a b (k + 1) = (line[a + k] == line[b + k] || (fold && lowS line[a + k] == lowS line[b + k])) := by
  have g : ∀ j (hj : j < line.size), line.toList[j]? = some (line[j]'hj) := fun j hj => by
    rw [ByteArray.toList_eq, Array.getElem?_toList, Array.getElem?_eq_getElem hj]; rfl
  rw [sameS, h, g _ ha, g _ hb, Bool.true_and]

set_option maxHeartbeats 4000000 in
theorem againC (b : Nat) (cs : List Value) (line : ByteArray) (fold : Bool) (pc : Int) (at_ : Nat) (A B : Option Addr) (n cA m d : Nat) (l : List Pt) (g : Nat) (p : Pt) (D : Nat → Prop) (w : World)
    (hB : Blk w b cs 78) (h10 : cs[10]? = some (.string line)) (h3 : cs[3]? = some (.bool fold)) (hP : Rd w D 3 A n cA (flatP l)) (hp : l[g]? = some p) (hat : at_ ≤ line.size) (hls : line.size ≤ 4611686018427387904)
    (hf1 : -1 ≤ p.frm ∧ p.frm ≤ line.size) (hf2 : -1 ≤ p.til ∧ p.til ≤ line.size) (hf3 : 0 ≤ p.frm → p.frm ≤ p.til) :
    Calls Try.prog 77 #[.pointer (some ⟨b, 0, none⟩), .agg #[.int .i64 pc, .int .i64 at_, .slice A n cA, .slice B m d], .int .i64 g] w fun e w' => e = .returned (agVal (againV fold line.toList at_ p)) ∧ Frm (fun _ => False) w w' := by
  obtain ⟨pg, pf, pt⟩ := p
  simp only at hf1 hf2 hf3
  have hX := Blk.new w [.int .i64 pc, .int .i64 at_, .slice A n cA, .slice B m d] 129
  have hf0 : Frm (fun _ => False) w (w.alloc (.cells #[.int .i64 pc, .int .i64 at_, .slice A n cA, .slice B m d] 129)) := (Frm.refl _ w).alloc _
  obtain ⟨r, hr⟩ : ∃ r, againV fold line.toList at_ ⟨pg, pf, pt⟩ = r := ⟨_, rfl⟩
  rw [hr]
  have HR := Lib.hid hr
  clear hr
  have hml : l.length = n := by have := hP.len; rw [flatP_len] at this; omega
  have hgn : g < n := by have := (List.getElem?_eq_some_iff.1 hp).1; omega
  have hlb : line.toList.length = line.size := by rw [ByteArray.toList_eq]; simp
  have HLB := Lib.hid hlb
  clear hlb
  obtain ⟨hg1, hg2, hg3⟩ := flatP_get l g _ hp
  go_enter Try.func77, Try.ntmps77
  go_upto_region 1 with fail
  generalize w.alloc (.cells #[.int .i64 pc, .int .i64 at_, .slice A n cA, .slice B m d] 129) = w1 at *
  generalize w.heap.size = bX at *
  have hB1 := hB.frm hf0 (fun h => h)
  obtain ⟨pb, po, rfl, hpb, hpc⟩ := (hP.frm hf0 (fun _ _ h => h)).elem g hgn
  have e0 := hpc 0 _ hg1
  have e1 := hpc 1 _ hg2
  have e2 := hpc 2 _ hg3
  rw [Nat.add_zero] at e0
  obtain ⟨x0, x1, x2, x3, y0, y1, y2, y3, lx⟩ := blk4 hX
  have hY := Blk.new w1 [.int .i64 pg, .int .i64 pf, .int .i64 pt] 131
  have hX2 := hX.alloc (.cells #[.int .i64 pg, .int .i64 pf, .int .i64 pt] 131)
  have hB2 := hB1.alloc (.cells #[.int .i64 pg, .int .i64 pf, .int .i64 pt] 131)
  have hff := hf0.alloc (.cells #[.int .i64 pg, .int .i64 pf, .int .i64 pt] 131)
  clear hpc hg1 hg2 hg3 hp
  go_upto_region 2 with fail
  generalize w1.alloc (.cells #[.int .i64 pg, .int .i64 pf, .int .i64 pt] 131) = w2 at *
  generalize w1.heap.size = bY at *
  clear x0 x1 x2 x3 y0 y1 y2 y3 lx e0 e1 e2
  obtain ⟨x0, x1, x2, x3, y0, y1, y2, y3, lx⟩ := blk4 hX2
  have p0 := hY.cell 0
  have p1 := hY.cell 1
  have p2 := hY.cell 2
  simp only [List.getElem?_cons_zero, List.getElem?_cons_succ] at p0 p1 p2
  have ly := hY.lt
  have b10 := hB2.cell 10
  rw [h10] at b10
  have b3 := hB2.cell 3
  rw [h3] at b3
  have lb := hB2.lt
  have hw1 : IntKind.i64.wrap (pt - pf) = pt - pf := IntWalk.i64_in _ (by omega)
  have hw2 : IntKind.i64.wrap ((line.size : Int) - at_) = (line.size : Int) - at_ := IntWalk.i64_in _ (by omega)
  by_cases h0 : pf < 0
  · have e : r = none := by rw [← HR.out, againV, if_pos (.inl h0)]
    subst e
    have t1 : decide (pf < 0) = true := decide_eq_true h0
    go_wp2_with fail
    go_quiet (fail)
    go_wp2_with fail
    go_ret2
    exact ⟨rfl, hff.drewN _⟩
  · have t1 : decide (pf < 0) = false := decide_eq_false h0
    by_cases h1 : (line.size : Int) - at_ < pt - pf
    · have e : r = none := by rw [← HR.out, againV, if_pos (.inr (by rw [HLB.out]; exact h1))]
      subst e
      have t2 : decide ((line.size : Int) - at_ < pt - pf) = true := decide_eq_true h1
      go_wp2_with fail
      go_quiet (fail)
      go_wp2_with fail
      go_ret2
      exact ⟨rfl, hff.drewN _⟩
    · have t2 : decide ((line.size : Int) - at_ < pt - pf) = false := decide_eq_false h1
      have hr2 : (if sameS fold line.toList pf.toNat at_ (pt - pf).toNat then some (pt - pf).toNat else none) = r := by
        rw [← HR.out]
        unfold againV
        rw [HLB.out]
        exact (if_neg (by rintro (h | h); exact h0 h; exact h1 h)).symm
      obtain ⟨fn, rfl⟩ := Int.eq_ofNat_of_zero_le (Int.not_lt.1 h0)
      obtain ⟨N, rfl⟩ : ∃ N : Nat, pt = fn + N := ⟨(pt - fn).toNat, by have := hf3 (by omega); omega⟩
      have hsub : (fn : Int) + N - fn = N := by omega
      rw [hsub, Int.toNat_natCast, Int.toNat_natCast] at hr2
      have HR2 := Lib.hid hr2
      have HBD : Hid (fn + N ≤ line.size ∧ at_ + N ≤ line.size) := Lib.hid ⟨by omega, by omega⟩
      clear hr2
      go_wp2_with fail
      go_quiet (fail)
      go_wp2_with fail
      go_loopw [39] (fun i wr => ∃ k : Nat, i = .int .i64 k ∧ k ≤ N ∧ Frm (fun _ => False) w2 wr ∧ Hid (sameS fold line.toList fn at_ k = true)) (fun i _ => N - (intOf i).toNat)
      case atStart => exact ⟨0, rfl, by omega, (Frm.refl _ _).drewN _, Lib.hid rfl⟩
      case round =>
        obtain ⟨k, rfl, hk, hfr, hsm⟩ := hrel
        by_cases hkn : k < N
        · have hB3 := hB2.frm hfr (fun h => h)
          have hX3 := hX2.frm hfr (fun h => h)
          have hY3 := hY.frm hfr (fun h => h)
          have b10' := hB3.cell 10
          rw [h10] at b10'
          have b3' := hB3.cell 3
          rw [h3] at b3'
          have lb' := hB3.lt
          have x1' := hX3.cell 1
          have p1' := hY3.cell 1
          simp only [List.getElem?_cons_zero, List.getElem?_cons_succ] at x1' p1'
          have lx' := hX3.lt
          have ly' := hY3.lt
          have hbd := HBD.out
          have hfl : fn + k < line.size := by omega
          have hal : at_ + k < line.size := by omega
          have hw3 : IntKind.i64.wrap ((fn : Int) + k) = (fn : Int) + k := IntWalk.i64_in _ (by omega)
          have hw4 : IntKind.i64.wrap ((at_ : Int) + k) = (at_ : Int) + k := IntWalk.i64_in _ (by omega)
          have i1 : (0 : Int) ≤ (fn : Int) + k := by omega
          have i2 : (fn : Int) + k < (line.size : Int) := by omega
          have i3 : (0 : Int) ≤ (at_ : Int) + k := by omega
          have i4 : (at_ : Int) + k < (line.size : Int) := by omega
          have n1 : ((fn : Int) + k).toNat = fn + k := by omega
          have n2 : ((at_ : Int) + k).toNat = at_ + k := by omega
          clear x0 x1 x2 x3 y0 y1 y2 y3 lx p0 p1 p2 ly b10 b3 lb hbd
          go_upto_region 8 with fail
          go_quiet (fail)
          have HSS := Lib.hid (sameS_succ hfl hal hsm.out)
          obtain ⟨x, hx⟩ : ∃ x, line[fn + k]'hfl = x := ⟨_, rfl⟩
          obtain ⟨y, hy⟩ : ∃ y, line[at_ + k]'hal = y := ⟨_, rfl⟩
          rw [hx, hy] at HSS ⊢
          have HXY := Lib.hid (⟨hx, hy⟩ : _ ∧ _)
          clear hx hy
          have hno : sameS fold line.toList fn at_ (k + 1) = false → r = none := fun h => by
            rw [← HR2.out, if_neg (fun h2 => by rw [sameS_le (k := k + 1) (by omega) h2] at h; cases h)]
          have HNO := Lib.hid hno
          have hfr2 := hfr.drewN nq
          have HL1 := Lib.hid (fun w => lowerC x w)
          have HL2 := Lib.hid (fun w => lowerC y w)
          have b3'' := (hB3.drewN nq).cell 3
          rw [h3] at b3''
          have lb'' := (hB3.drewN nq).lt
          have hff2 := hff.trans hfr2
          clear hno
          generalize wr.drewN nq = w5 at *
          by_cases hxy : x = y
          · subst hxy
            have hok : sameS fold line.toList fn at_ (k + 1) = true := by rw [HSS.out]; simp
            have HOK := Lib.hid hok
            clear hok
            go_wp2_with fail
            go_roundw
            case measure => simp [intOf] <;> omega
            case rel => exact ⟨k + 1, by go_num, by omega, hfr2, HOK⟩
          · have hne : ¬ ((x.toNat : Int) = (y.toNat : Int)) := fun h => hxy (UInt8.toNat_inj.1 (by omega))
            have t1 : ((x.toNat : Int) != (y.toNat : Int)) = true := by simpa using hne
            have hxyb : (x == y) = false := by simpa using hxy
            have HXB := Lib.hid hxyb
            clear hxyb hxy
            cases fold with
            | false =>
              obtain rfl : r = none := HNO.out (by rw [HSS.out, HXB.out]; rfl)
              go_wp2_with fail
              go_ret2
              exact ⟨rfl, hff2⟩
            | true =>
              obtain ⟨u, hu⟩ : ∃ u, lowS x = u := ⟨_, rfl⟩
              obtain ⟨v, hv⟩ : ∃ v, lowS y = v := ⟨_, rfl⟩
              rw [hu] at HL1 HSS
              rw [hv] at HL2 HSS
              clear hu hv
              by_cases huv : u = v
              · subst huv
                have hok : sameS true line.toList fn at_ (k + 1) = true := by rw [HSS.out]; simp
                have HOK := Lib.hid hok
                clear hok
                go_wp2_with (first | (go_at_call_has 88 x; refine (HL1.out _).mono ?_; rintro e w' ⟨rfl, rfl⟩) | (go_at_call_has 88 y; refine (HL2.out _).mono ?_; rintro e w' ⟨rfl, rfl⟩))
                go_roundw
                case measure => simp [intOf] <;> omega
                case rel => exact ⟨k + 1, by go_num, by omega, hfr2, HOK⟩
              · have hne2 : ¬ ((u.toNat : Int) = (v.toNat : Int)) := fun h => huv (UInt8.toNat_inj.1 (by omega))
                have t2 : ((u.toNat : Int) == (v.toNat : Int)) = false := by simpa using hne2
                have huvb : (u == v) = false := by simpa using huv
                obtain rfl : r = none := HNO.out (by rw [HSS.out, HXB.out, huvb]; rfl)
                clear huvb huv
                go_wp2_with (first | (go_at_call_has 88 x; refine (HL1.out _).mono ?_; rintro e w' ⟨rfl, rfl⟩) | (go_at_call_has 88 y; refine (HL2.out _).mono ?_; rintro e w' ⟨rfl, rfl⟩))
                go_ret2
                exact ⟨rfl, hff2⟩
        · obtain rfl : k = N := by omega
          obtain rfl : r = some k := by rw [← HR2.out, if_pos hsm.out]
          go_wp2_with fail
          go_ret2
          exact ⟨rfl, hff.trans hfr⟩
end Go.Proofs.Ytoadmpochaeohaa
