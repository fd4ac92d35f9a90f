/-
  Layer 20: the map of what has been seen, in memory.
-/
import Derived.Test.YtoadmpochaeohaaPa6
import Derived.Maps.OwnSet
import Derived.StringKeys
import Derived.Test.YtoadmpochaeohaaPa5
import Derived.Sort.AtCall
import Derived.Test.YtoadmpochaeohaaPa4
section
set_option linter.unusedVariables false
set_option linter.unusedSimpArgs false
set_option maxRecDepth 100000
namespace Go.Proofs.Ytoadmpochaeohaa
open Go.RowKit
open Go.Maps (Keyed Tidy IsMap)

abbrev DD := DataW Unit
def kL (k : Key) : Lit := .string k
def kV (k : Key) : Value := .string ⟨k.toArray⟩
def zD : DD := .lit (.int .i64 0)
def oD : DD := .lit (.int .i64 1)
theorem kL_key (k : Key) : WideAt.IsKeyLit (kL k) := trivial
theorem kL_inj {a b : Key} (h : kL a = kL b) : a = b := by injection h
/-- The datum and the list say the same. -/
def SMD (D : DD) (seen : List Key) : Prop := seen.Nodup ∧ Maps.size D = seen.length ∧ ∀ k, (k ∈ seen → D.atKey (kL k) zD = oD ∧ Maps.has D (kL k) = true) ∧ (k ∉ seen → D.atKey (kL k) zD = zD ∧ Maps.has D (kL k) = false)
def SM (w : World) (bm : Nat) (seen : List Key) : Prop := ∃ D : DD, w.ownsMap Try.prog 9 (plainElem Try.prog 3) bm seen.length D ∧ SMD D seen
theorem SM.lt {w : World} {bm : Nat} {seen : List Key} (h : SM w bm seen) : bm < w.heap.size := by
  obtain ⟨D, h, _⟩ := h; exact h.lt
theorem SM.nodup {w : World} {bm : Nat} {seen : List Key} (h : SM w bm seen) : seen.Nodup := by
  obtain ⟨D, _, h, _⟩ := h; exact h
theorem SM.frm {S : Nat → Prop} {w w' : World} {bm : Nat} {seen : List Key} (h : SM w bm seen) (f : Frm S w w') (hd : ¬ S bm) : SM w' bm seen := by
  obtain ⟨D, ho, hs⟩ := h
  have hlt := ho.lt
  obtain ⟨es, clock, hb, r⟩ := ho
  exact ⟨D, ⟨es, clock, by rw [f.block bm hlt hd]; exact hb, r⟩, hs⟩
theorem SM.new (w : World) : SM (w.alloc (.map #[] 0)) w.heap.size [] :=
  ⟨.map [], World.ownsMap_made w _ _ _, List.nodup_nil, rfl, fun k => ⟨fun h => (by simp at h), fun _ => ⟨rfl, rfl⟩⟩⟩
theorem kV_key (k : Key) (hk : k.length ≤ 100000) : keyOf Try.prog 9 (kV k) = some (kL k) := by
  have := WideMaps.keyOf_string_mk (P := Try.prog) (k := 9) Try.underlying9 (s := ⟨k.toArray⟩) (by simp only [maxLen, ByteArray.size, List.size_toArray]; omega)
  simpa [kV, kL] using this
theorem keyed9 : Keyed Try.prog 9 := Maps.string_keyed Try.underlying9
theorem SM.look {w : World} {bm : Nat} {seen : List Key} (h : SM w bm seen) (k : Key) (hk : k.length ≤ 100000) :
    (Instr.lookup 75 (.map (some bm)) (kV k) false).run Try.prog w = .ok (.int .i64 (if k ∈ seen then 1 else 0)) w := by
  obtain ⟨D, ho, hs⟩ := h
  obtain ⟨c, hrun, hat, _⟩ := ho.lookup_int keyed9 Try.underlying75 Try.underlying3 (by kernel_rfl) (kV_key k hk)
  rw [hrun]
  have := hs.2.2 k
  by_cases hm : k ∈ seen
  · rw [if_pos hm]
    have h1 := (this.1 hm).1
    unfold zD oD at h1
    rw [h1] at hat
    injection hat with hat
    injection hat with _ hat
    rw [hat]
  · rw [if_neg hm]
    have h1 := (this.2 hm).1
    unfold zD at h1
    rw [h1] at hat
    injection hat with hat
    injection hat with _ hat
    rw [hat]
theorem SM.len {w : World} {bm : Nat} {seen : List Key} (h : SM w bm seen) (ty : TypeId) : (Builtin.len_ #[75] ty #[.map (some bm)]).run Try.prog w = .ok (.int .i64 seen.length) w := by
  obtain ⟨D, ho, hs⟩ := h
  rw [ho.len Try.underlying75 ty, hs.2.1]
theorem SM.store {w : World} {bm : Nat} {seen : List Key} (h : SM w bm seen) (k : Key) (hk : k.length ≤ 100000) (hn : k ∉ seen) (hl : seen.length ≤ 1073741824) :
    ∃ w', (Instr.mapUpdate 75 (.map (some bm)) (kV k) (.int .i64 1)).run Try.prog w = .ok () w' ∧ SM w' bm (k :: seen) ∧ Frm (fun k => k = bm) w w' := by
  obtain ⟨D, ho, hs⟩ := h
  obtain ⟨w', hrun, ho', hg⟩ := ho.store keyed9 Try.underlying75 (by simp only [maxLen]; omega) (kV_key k hk) (plainElem_int (H := Unit) Try.underlying3 (q := .i64) (a := 1) (by decide))
  refine ⟨w', hrun, ⟨_, ho', ?_, ?_, ?_⟩, (Frm.of_grown hg.grown).mono fun i h _ => by injection h⟩
  · exact List.nodup_cons.2 ⟨hn, hs.1⟩
  · rw [Maps.size_put (ho.tidy keyed9), if_neg (by rw [((hs.2.2 k).2 hn).2]; simp), hs.2.1]; rfl
  · intro k'
    by_cases hkk : k' = k
    · subst hkk
      exact ⟨fun _ => ⟨Maps.atKey_put_same ho.isMap (kL_key _) _ _, Maps.has_put_same ho.isMap (kL_key _) _⟩, fun h => absurd (List.mem_cons_self ..) h⟩
    · have hne : kL k' ≠ kL k := fun h => hkk (kL_inj h)
      rw [Maps.atKey_put_other hne, Maps.has_put_other hne]
      exact ⟨fun h => (hs.2.2 k').1 (by rcases List.mem_cons.1 h with h | h; exact absurd h hkk; exact h), fun h => (hs.2.2 k').2 (fun h2 => h (List.mem_cons_of_mem _ h2))⟩
theorem ownsMap_exact {w : World} {bm n : Nat} {D : DD} (h : w.ownsMap Try.prog 9 (plainElem Try.prog 3) bm n D) : w.ownsMap Try.prog 9 (plainElem Try.prog 3) bm (Maps.size D) D := by
  obtain ⟨es, clock, hb, F, _, rfl⟩ := h
  refine ⟨es, clock, hb, F, ?_, rfl⟩
  show es.size ≤ ((es.toList.map (WideElems.rg Try.prog 9 (plainElem Try.prog 3))).foldr DataW.insert []).length
  rw [length_sorted]; simp
theorem SM.drop {w : World} {bm : Nat} {seen : List Key} (h : SM w bm seen) (k : Key) (hk : k.length ≤ 100000) (ty : TypeId) :
    ∃ w', (Builtin.delete_ #[75, 9] ty #[.map (some bm), kV k]).run Try.prog w = .ok (.tuple #[]) w' ∧ SM w' bm (seen.erase k) ∧ Frm (fun k => k = bm) w w' := by
  obtain ⟨D, ho, hs⟩ := h
  obtain ⟨w', hrun, ho', hg⟩ := ho.drop keyed9 Try.underlying75 (kV_key k hk) ty
  have hsz : Maps.size (D.del (kL k)) = (seen.erase k).length := by
    have := Maps.size_del (ho.tidy keyed9) (k := kL k)
    rw [List.length_erase]
    by_cases hm : k ∈ seen
    · rw [((hs.2.2 k).1 hm).2, hs.2.1] at this
      rw [if_pos hm]
      have hpos : 0 < seen.length := List.length_pos_of_mem hm
      simp at this; omega
    · rw [((hs.2.2 k).2 hm).2, hs.2.1] at this
      rw [if_neg hm]; simpa using this
  refine ⟨w', hrun, ⟨_, hsz ▸ ownsMap_exact ho', ?_, hsz, ?_⟩, (Frm.of_grown hg.grown).mono fun i h _ => by injection h⟩
  · exact hs.1.erase k
  · intro k'
    by_cases hkk : k' = k
    · subst hkk
      have hnm : k' ∉ seen.erase k' := fun h => (List.Nodup.mem_erase_iff hs.1).1 h |>.1 rfl
      exact ⟨fun h => absurd h hnm, fun _ => ⟨Maps.atKey_del_same _, Maps.has_del_same⟩⟩
    · have hne : kL k' ≠ kL k := fun h => hkk (kL_inj h)
      rw [Maps.atKey_del_other hne, Maps.has_del_other hne, List.Nodup.mem_erase_iff hs.1]
      exact ⟨fun h => (hs.2.2 k').1 h.2, fun h => (hs.2.2 k').2 (fun h2 => h ⟨hkk, h2⟩)⟩
end Go.Proofs.Ytoadmpochaeohaa
end

section
set_option linter.unusedVariables false
set_option linter.unusedSimpArgs false
set_option maxRecDepth 100000
namespace Go.Proofs.Ytoadmpochaeohaa
open Go.RowKit

theorem lowerC (c : UInt8) (w : World) : Calls Try.prog 88 #[.int .u8 c.toNat] w fun e w' => e = .returned (.int .u8 (lowS c).toNat) ∧ w = w' := by
  have hc := c.toNat_lt
  by_cases h1 : 65 ≤ c.toNat
  · by_cases h2 : c.toNat ≤ 90
    · have e : (lowS c).toNat = c.toNat + 32 := by
        rw [lowS, if_pos ⟨UInt8.le_iff_toNat_le.2 h1, UInt8.le_iff_toNat_le.2 h2⟩, UInt8.toNat_add]
        show (c.toNat + 32) % 256 = _
        omega
      rw [e]
      clear e
      go_enter Try.func88, Try.ntmps88
      go_wp2_with fail
      go_ret
      exact ⟨by congr 1, rfl⟩
    · have e : (lowS c).toNat = c.toNat := by
        rw [lowS, if_neg (fun h => h2 (UInt8.le_iff_toNat_le.1 h.2))]
      rw [e]
      clear e
      go_enter Try.func88, Try.ntmps88
      go_wp2_with fail
      go_ret
      exact ⟨rfl, rfl⟩
  · have e : (lowS c).toNat = c.toNat := by
      rw [lowS, if_neg (fun h : (65 : UInt8) ≤ c ∧ c ≤ 90 => h1 (UInt8.le_iff_toNat_le.1 h.1))]
    rw [e]
    clear e
    go_enter Try.func88, Try.ntmps88
    go_wp2_with fail
    go_ret
    exact ⟨rfl, rfl⟩

/-- How long what a group had is, if it stands here, too. -/
def againV (fold : Bool) (line : List UInt8) (at_ : Nat) (p : Pt) : Option Nat :=
  if p.frm < 0 ∨ (line.length : Int) - at_ < p.til - p.frm then none else if sameS fold line p.frm.toNat at_ (p.til - p.frm).toNat then some (p.til - p.frm).toNat else none
def agVal (r : Option Nat) : Value := match r with | some n => .tuple #[.int .i64 n, .bool true] | none => .tuple #[.int .i64 0, .bool false]

theorem sameS_le {fold : Bool} {L : List UInt8} {a b : Nat} : ∀ {N k : Nat}, k ≤ N → sameS fold L a b N = true → sameS fold L a b k = true
  | 0, k, h, hs => by obtain rfl : k = 0 := by omega
                      exact hs
  | N + 1, k, h, hs => by
    by_cases hk : k = N + 1
    · subst hk; exact hs
    · exact sameS_le (N := N) (by omega) (by rw [sameS, Bool.and_eq_true] at hs; exact hs.1)
theorem sameS_succ {fold : Bool} {line : ByteArray} {a b k : Nat} (ha : a + k < line.size) (hb : b + k < line.size) (h : sameS fold line.toList a b k = true) :
    sameS fold line.toList a b (k + 1) = (line[a + k] == line[b + k] || (fold && lowS line[a + k] == lowS line[b + k])) := by
  have g : ∀ j (hj : j < line.size), line.toList[j]? = some (line[j]'hj) := fun j hj => by
    rw [ByteArray.toList_eq, Array.getElem?_toList, Array.getElem?_eq_getElem hj]; rfl
  rw [sameS, h, g _ ha, g _ hb, Bool.true_and]

set_option maxHeartbeats 4000000 in
theorem againC (b : Nat) (cs : List Value) (line : ByteArray) (fold : Bool) (pc : Int) (at_ : Nat) (A B : Option Addr) (n cA m d : Nat) (l : List Pt) (g : Nat) (p : Pt) (D : Nat → Prop) (w : World)
    (hB : Blk w b cs 78) (h10 : cs[10]? = some (.string line)) (h3 : cs[3]? = some (.bool fold)) (hP : Rd w D 3 A n cA (flatP l)) (hp : l[g]? = some p) (hat : at_ ≤ line.size) (hls : line.size ≤ 4611686018427387904)
    (hf1 : -1 ≤ p.frm ∧ p.frm ≤ line.size) (hf2 : -1 ≤ p.til ∧ p.til ≤ line.size) (hf3 : 0 ≤ p.frm → p.frm ≤ p.til) :
    Calls Try.prog 77 #[.pointer (some ⟨b, 0, none⟩), .agg #[.int .i64 pc, .int .i64 at_, .slice A n cA, .slice B m d], .int .i64 g] w fun e w' => e = .returned (agVal (againV fold line.toList at_ p)) ∧ Frm (fun _ => False) w w' := by
  obtain ⟨pg, pf, pt⟩ := p
  simp only at hf1 hf2 hf3
  have hX := Blk.new w [.int .i64 pc, .int .i64 at_, .slice A n cA, .slice B m d] 129
  have hf0 : Frm (fun _ => False) w (w.alloc (.cells #[.int .i64 pc, .int .i64 at_, .slice A n cA, .slice B m d] 129)) := (Frm.refl _ w).alloc _
  obtain ⟨r, hr⟩ : ∃ r, againV fold line.toList at_ ⟨pg, pf, pt⟩ = r := ⟨_, rfl⟩
  rw [hr]
  have HR := Lib.hid hr
  clear hr
  have hml : l.length = n := by have := hP.len; rw [flatP_len] at this; omega
  have hgn : g < n := by have := (List.getElem?_eq_some_iff.1 hp).1; omega
  have hlb : line.toList.length = line.size := by rw [ByteArray.toList_eq]; simp
  have HLB := Lib.hid hlb
  clear hlb
  obtain ⟨hg1, hg2, hg3⟩ := flatP_get l g _ hp
  go_enter Try.func77, Try.ntmps77
  go_upto_region 1 with fail
  generalize w.alloc (.cells #[.int .i64 pc, .int .i64 at_, .slice A n cA, .slice B m d] 129) = w1 at *
  generalize w.heap.size = bX at *
  have hB1 := hB.frm hf0 (fun h => h)
  obtain ⟨pb, po, rfl, hpb, hpc⟩ := (hP.frm hf0 (fun _ _ h => h)).elem g hgn
  have e0 := hpc 0 _ hg1
  have e1 := hpc 1 _ hg2
  have e2 := hpc 2 _ hg3
  rw [Nat.add_zero] at e0
  obtain ⟨x0, x1, x2, x3, y0, y1, y2, y3, lx⟩ := blk4 hX
  have hY := Blk.new w1 [.int .i64 pg, .int .i64 pf, .int .i64 pt] 131
  have hX2 := hX.alloc (.cells #[.int .i64 pg, .int .i64 pf, .int .i64 pt] 131)
  have hB2 := hB1.alloc (.cells #[.int .i64 pg, .int .i64 pf, .int .i64 pt] 131)
  have hff := hf0.alloc (.cells #[.int .i64 pg, .int .i64 pf, .int .i64 pt] 131)
  clear hpc hg1 hg2 hg3 hp
  go_upto_region 2 with fail
  generalize w1.alloc (.cells #[.int .i64 pg, .int .i64 pf, .int .i64 pt] 131) = w2 at *
  generalize w1.heap.size = bY at *
  clear x0 x1 x2 x3 y0 y1 y2 y3 lx e0 e1 e2
  obtain ⟨x0, x1, x2, x3, y0, y1, y2, y3, lx⟩ := blk4 hX2
  have p0 := hY.cell 0
  have p1 := hY.cell 1
  have p2 := hY.cell 2
  simp only [List.getElem?_cons_zero, List.getElem?_cons_succ] at p0 p1 p2
  have ly := hY.lt
  have b10 := hB2.cell 10
  rw [h10] at b10
  have b3 := hB2.cell 3
  rw [h3] at b3
  have lb := hB2.lt
  have hw1 : IntKind.i64.wrap (pt - pf) = pt - pf := IntWalk.i64_in _ (by omega)
  have hw2 : IntKind.i64.wrap ((line.size : Int) - at_) = (line.size : Int) - at_ := IntWalk.i64_in _ (by omega)
  by_cases h0 : pf < 0
  · have e : r = none := by rw [← HR.out, againV, if_pos (.inl h0)]
    subst e
    have t1 : decide (pf < 0) = true := decide_eq_true h0
    go_wp2_with fail
    go_quiet (fail)
    go_wp2_with fail
    go_ret2
    exact ⟨rfl, hff.drewN _⟩
  · have t1 : decide (pf < 0) = false := decide_eq_false h0
    by_cases h1 : (line.size : Int) - at_ < pt - pf
    · have e : r = none := by rw [← HR.out, againV, if_pos (.inr (by rw [HLB.out]; exact h1))]
      subst e
      have t2 : decide ((line.size : Int) - at_ < pt - pf) = true := decide_eq_true h1
      go_wp2_with fail
      go_quiet (fail)
      go_wp2_with fail
      go_ret2
      exact ⟨rfl, hff.drewN _⟩
    · have t2 : decide ((line.size : Int) - at_ < pt - pf) = false := decide_eq_false h1
      have hr2 : (if sameS fold line.toList pf.toNat at_ (pt - pf).toNat then some (pt - pf).toNat else none) = r := by
        rw [← HR.out]
        unfold againV
        rw [HLB.out]
        exact (if_neg (by rintro (h | h); exact h0 h; exact h1 h)).symm
      obtain ⟨fn, rfl⟩ := Int.eq_ofNat_of_zero_le (Int.not_lt.1 h0)
      obtain ⟨N, rfl⟩ : ∃ N : Nat, pt = fn + N := ⟨(pt - fn).toNat, by have := hf3 (by omega); omega⟩
      have hsub : (fn : Int) + N - fn = N := by omega
      rw [hsub, Int.toNat_natCast, Int.toNat_natCast] at hr2
      have HR2 := Lib.hid hr2
      have HBD : Hid (fn + N ≤ line.size ∧ at_ + N ≤ line.size) := Lib.hid ⟨by omega, by omega⟩
      clear hr2
      go_wp2_with fail
      go_quiet (fail)
      go_wp2_with fail
      go_loopw [39] (fun i wr => ∃ k : Nat, i = .int .i64 k ∧ k ≤ N ∧ Frm (fun _ => False) w2 wr ∧ Hid (sameS fold line.toList fn at_ k = true)) (fun i _ => N - (intOf i).toNat)
      case atStart => exact ⟨0, rfl, by omega, (Frm.refl _ _).drewN _, Lib.hid rfl⟩
      case round =>
        obtain ⟨k, rfl, hk, hfr, hsm⟩ := hrel
        by_cases hkn : k < N
        · have hB3 := hB2.frm hfr (fun h => h)
          have hX3 := hX2.frm hfr (fun h => h)
          have hY3 := hY.frm hfr (fun h => h)
          have b10' := hB3.cell 10
          rw [h10] at b10'
          have b3' := hB3.cell 3
          rw [h3] at b3'
          have lb' := hB3.lt
          have x1' := hX3.cell 1
          have p1' := hY3.cell 1
          simp only [List.getElem?_cons_zero, List.getElem?_cons_succ] at x1' p1'
          have lx' := hX3.lt
          have ly' := hY3.lt
          have hbd := HBD.out
          have hfl : fn + k < line.size := by omega
          have hal : at_ + k < line.size := by omega
          have hw3 : IntKind.i64.wrap ((fn : Int) + k) = (fn : Int) + k := IntWalk.i64_in _ (by omega)
          have hw4 : IntKind.i64.wrap ((at_ : Int) + k) = (at_ : Int) + k := IntWalk.i64_in _ (by omega)
          have i1 : (0 : Int) ≤ (fn : Int) + k := by omega
          have i2 : (fn : Int) + k < (line.size : Int) := by omega
          have i3 : (0 : Int) ≤ (at_ : Int) + k := by omega
          have i4 : (at_ : Int) + k < (line.size : Int) := by omega
          have n1 : ((fn : Int) + k).toNat = fn + k := by omega
          have n2 : ((at_ : Int) + k).toNat = at_ + k := by omega
          clear x0 x1 x2 x3 y0 y1 y2 y3 lx p0 p1 p2 ly b10 b3 lb hbd
          go_upto_region 8 with fail
          go_quiet (fail)
          have HSS := Lib.hid (sameS_succ hfl hal hsm.out)
          obtain ⟨x, hx⟩ : ∃ x, line[fn + k]'hfl = x := ⟨_, rfl⟩
          obtain ⟨y, hy⟩ : ∃ y, line[at_ + k]'hal = y := ⟨_, rfl⟩
          rw [hx, hy] at HSS ⊢
          have HXY := Lib.hid (⟨hx, hy⟩ : _ ∧ _)
          clear hx hy
          have hno : sameS fold line.toList fn at_ (k + 1) = false → r = none := fun h => by
            rw [← HR2.out, if_neg (fun h2 => by rw [sameS_le (k := k + 1) (by omega) h2] at h; cases h)]
          have HNO := Lib.hid hno
          have hfr2 := hfr.drewN nq
          have HL1 := Lib.hid (fun w => lowerC x w)
          have HL2 := Lib.hid (fun w => lowerC y w)
          have b3'' := (hB3.drewN nq).cell 3
          rw [h3] at b3''
          have lb'' := (hB3.drewN nq).lt
          have hff2 := hff.trans hfr2
          clear hno
          generalize wr.drewN nq = w5 at *
          by_cases hxy : x = y
          · subst hxy
            have hok : sameS fold line.toList fn at_ (k + 1) = true := by rw [HSS.out]; simp
            have HOK := Lib.hid hok
            clear hok
            go_wp2_with fail
            go_roundw
            case measure => simp [intOf] <;> omega
            case rel => exact ⟨k + 1, by go_num, by omega, hfr2, HOK⟩
          · have hne : ¬ ((x.toNat : Int) = (y.toNat : Int)) := fun h => hxy (UInt8.toNat_inj.1 (by omega))
            have t1 : ((x.toNat : Int) != (y.toNat : Int)) = true := by simpa using hne
            have hxyb : (x == y) = false := by simpa using hxy
            have HXB := Lib.hid hxyb
            clear hxyb hxy
            cases fold with
            | false =>
              obtain rfl : r = none := HNO.out (by rw [HSS.out, HXB.out]; rfl)
              go_wp2_with fail
              go_ret2
              exact ⟨rfl, hff2⟩
            | true =>
              obtain ⟨u, hu⟩ : ∃ u, lowS x = u := ⟨_, rfl⟩
              obtain ⟨v, hv⟩ : ∃ v, lowS y = v := ⟨_, rfl⟩
              rw [hu] at HL1 HSS
              rw [hv] at HL2 HSS
              clear hu hv
              by_cases huv : u = v
              · subst huv
                have hok : sameS true line.toList fn at_ (k + 1) = true := by rw [HSS.out]; simp
                have HOK := Lib.hid hok
                clear hok
                go_wp2_with (first | (go_at_call_has 88 x; refine (HL1.out _).mono ?_; rintro e w' ⟨rfl, rfl⟩) | (go_at_call_has 88 y; refine (HL2.out _).mono ?_; rintro e w' ⟨rfl, rfl⟩))
                go_roundw
                case measure => simp [intOf] <;> omega
                case rel => exact ⟨k + 1, by go_num, by omega, hfr2, HOK⟩
              · have hne2 : ¬ ((u.toNat : Int) = (v.toNat : Int)) := fun h => huv (UInt8.toNat_inj.1 (by omega))
                have t2 : ((u.toNat : Int) == (v.toNat : Int)) = false := by simpa using hne2
                have huvb : (u == v) = false := by simpa using huv
                obtain rfl : r = none := HNO.out (by rw [HSS.out, HXB.out, huvb]; rfl)
                clear huvb huv
                go_wp2_with (first | (go_at_call_has 88 x; refine (HL1.out _).mono ?_; rintro e w' ⟨rfl, rfl⟩) | (go_at_call_has 88 y; refine (HL2.out _).mono ?_; rintro e w' ⟨rfl, rfl⟩))
                go_ret2
                exact ⟨rfl, hff2⟩
        · obtain rfl : k = N := by omega
          obtain rfl : r = some k := by rw [← HR2.out, if_pos hsm.out]
          go_wp2_with fail
          go_ret2
          exact ⟨rfl, hff.trans hfr⟩
end Go.Proofs.Ytoadmpochaeohaa
end

section
set_option linter.unusedVariables false
set_option linter.unusedSimpArgs false
set_option maxRecDepth 100000
namespace Go.Proofs.Ytoadmpochaeohaa
open Go.RowKit

/-- Where what stands still lies. -/
structure Stt where
  PA : Option Addr
  pn : Nat
  pc : Nat
  SA : Option Addr
  sn : Nat
  sc : Nat
  MA : Option Addr
  mn : Nat
  mc : Nat
  LA : Option Addr
  ln : Nat
  lc : Nat
  gr : Int
  co : Int
def cellsB (s : Stt) (m : Mc) (sv pv : Value) (line : ByteArray) (steps kept : Nat) : List Value :=
  [.slice s.PA s.pn s.pc, .int .i64 s.gr, .int .i64 s.co, .bool m.fold, .bool m.plain, .slice s.SA s.sn s.sc, .slice s.MA s.mn s.mc, .slice s.LA s.ln s.lc, sv, pv, .string line, .int .i64 steps, .int .i64 kept]
structure Sta (w : World) (D : Nat → Prop) (s : Stt) (m : Mc) : Prop where
  ins : Rd w D 10 s.PA s.pn s.pc (flatI m.ins)
  slot : Rd w D 1 s.SA s.sn s.sc (m.slot.map I64)
  most : Rd w D 1 s.MA s.mn s.mc (m.most.map I64)
  live : LvM w D s.LA s.ln s.lc m.live
theorem LvM.mono {w : World} {D G : Nat → Prop} {LA : Option Addr} {ln lc : Nat} {live : List (List Lv)} (h : LvM w D LA ln lc live) (hG : ∀ k, D k → k < w.heap.size → G k) : LvM w G LA ln lc live := by
  obtain ⟨rows, h1, h2⟩ := h
  exact ⟨rows, h1.mono hG, fun k r hk => by
    obtain ⟨A, n, c, g1, g2⟩ := h2 k r hk
    exact ⟨A, n, c, g1, g2.mono hG⟩⟩
theorem Sta.frm {S : Nat → Prop} {w w' : World} {D : Nat → Prop} {s : Stt} {m : Mc} (h : Sta w D s m) (f : Frm S w w') (hd : ∀ k, D k → ¬ S k) : Sta w' D s m :=
  ⟨h.ins.frm f hd, h.slot.frm f hd, h.most.frm f hd, h.live.frm f hd⟩
theorem Sta.mono {w : World} {D G : Nat → Prop} {s : Stt} {m : Mc} (h : Sta w D s m) (hG : ∀ k, D k → k < w.heap.size → G k) : Sta w G s m :=
  ⟨h.ins.mono hG, h.slot.mono hG, h.most.mono hG, h.live.mono hG⟩
/-- A configuration's slices. -/
structure CfR (w : World) (D : Nat → Prop) (parts : List Pt) (turns : List Tn) (A : Option Addr) (n cA : Nat) (B : Option Addr) (k d : Nat) : Prop where
  p : Rd w D 3 A n cA (flatP parts)
  t : Rd w D 2 B k d (flatN turns)
theorem CfR.frm {S : Nat → Prop} {w w' : World} {D : Nat → Prop} {parts : List Pt} {turns : List Tn} {A B : Option Addr} {n cA k d : Nat} (h : CfR w D parts turns A n cA B k d) (f : Frm S w w') (hd : ∀ k, D k → ¬ S k) : CfR w' D parts turns A n cA B k d := ⟨h.p.frm f hd, h.t.frm f hd⟩
theorem CfR.mono {w : World} {D G : Nat → Prop} {parts : List Pt} {turns : List Tn} {A B : Option Addr} {n cA k d : Nat} (h : CfR w D parts turns A n cA B k d) (hG : ∀ k, D k → k < w.heap.size → G k) : CfR w G parts turns A n cA B k d := ⟨h.p.mono hG, h.t.mono hG⟩
def FrV (w : World) (D : Nat → Prop) : Fr → Value → Prop
  | .look c, v => ∃ A n cA B k d, v = .iface 136 (.agg #[.int .i64 c.pc, .int .i64 c.at_, .slice A n cA, .slice B k d]) ∧ CfR w D c.parts c.turns A n cA B k d
  | .leave k, v => v = .iface 140 (.agg #[kV k])
theorem FrV.frm {S : Nat → Prop} {w w' : World} {D : Nat → Prop} {f : Fr} {v : Value} (h : FrV w D f v) (fr : Frm S w w') (hd : ∀ k, D k → ¬ S k) : FrV w' D f v := by
  cases f with
  | look c => obtain ⟨A, n, cA, B, k, d, e, h⟩ := h; exact ⟨A, n, cA, B, k, d, e, h.frm fr hd⟩
  | leave k => exact h
theorem FrV.mono {w : World} {D G : Nat → Prop} {f : Fr} {v : Value} (h : FrV w D f v) (hG : ∀ k, D k → k < w.heap.size → G k) : FrV w G f v := by
  cases f with
  | look c => obtain ⟨A, n, cA, B, k, d, e, h⟩ := h; exact ⟨A, n, cA, B, k, d, e, h.mono hG⟩
  | leave k => exact h
inductive F2 (R : Fr → Value → Prop) : List Fr → List Value → Prop
  | nil : F2 R [] []
  | cons {a : Fr} {b : Value} {l : List Fr} {v : List Value} (h : R a b) (t : F2 R l v) : F2 R (a :: l) (b :: v)
theorem F2.length_eq {R : Fr → Value → Prop} : ∀ {l : List Fr} {v : List Value}, F2 R l v → l.length = v.length
  | _, _, .nil => rfl
  | _, _, .cons _ t => by rw [List.length_cons, List.length_cons, t.length_eq]
theorem forall2_mono {R S : Fr → Value → Prop} (h : ∀ a b, R a b → S a b) : ∀ {l : List Fr} {v : List Value}, F2 R l v → F2 S l v
  | _, _, .nil => .nil
  | _, _, .cons h1 h2 => .cons (h _ _ h1) (forall2_mono h h2)
/-- A run's numbers. -/
structure MM (w : World) (E D : Nat → Prop) (b g bm : Nat) (s : Stt) (m : Mc) (line : ByteArray) (pile : List Fr) (seen : List Key) (steps kept : Nat) : Prop where
  obj : Blk w b (cellsB s m (.map (some bm)) (.pointer (some ⟨g, 0, none⟩)) line steps kept) 78
  bE : E b
  mE : E bm
  ne : b ≠ bm
  ps : ∃ vs, PS w (fun k => E k ∧ k ≠ b ∧ k ≠ bm) g vs.reverse ∧ F2 (FrV w D) pile vs
  map : SM w bm seen
  sta : Sta w D s m
  apart : ∀ k, D k → ¬ E k
theorem MM.frm {w w' : World} {E D : Nat → Prop} {b g bm : Nat} {s : Stt} {m : Mc} {line : ByteArray} {pile : List Fr} {seen : List Key} {steps kept : Nat} (h : MM w E D b g bm s m line pile seen steps kept) (f : Frm (fun _ => False) w w') : MM w' E D b g bm s m line pile seen steps kept := by
  obtain ⟨vs, h1, h2⟩ := h.ps
  exact ⟨h.obj.frm f (fun h => h), h.bE, h.mE, h.ne, ⟨vs, h1.frm f (fun _ _ h => h), forall2_mono (fun a b hh => hh.frm f (fun _ _ h => h)) h2⟩, h.map.frm f (fun h => h), h.sta.frm f (fun _ _ h => h), h.apart⟩
theorem MM.low {w : World} {E D : Nat → Prop} {b g bm : Nat} {s : Stt} {m : Mc} {line : ByteArray} {pile : List Fr} {seen : List Key} {steps kept : Nat} (h : MM w E D b g bm s m line pile seen steps kept) : MM w (fun k => E k ∧ k < w.heap.size) (fun k => D k ∧ k < w.heap.size) b g bm s m line pile seen steps kept := by
  obtain ⟨vs, h1, h2⟩ := h.ps
  exact ⟨h.obj, ⟨h.bE, h.obj.lt⟩, ⟨h.mE, h.map.lt⟩, h.ne, ⟨vs, h1.mono fun k hk hl => ⟨⟨hk.1, hl⟩, hk.2⟩, forall2_mono (fun a b hh => hh.mono fun k hk hl => ⟨hk, hl⟩) h2⟩, h.map, h.sta.mono fun k hk hl => ⟨hk, hl⟩, fun k hk he => h.apart k hk.1 he.1⟩
theorem MM.frmS {S : Nat → Prop} {w w' : World} {E D : Nat → Prop} {b g bm : Nat} {s : Stt} {m : Mc} {line : ByteArray} {pile : List Fr} {seen : List Key} {steps kept : Nat} (h : MM w E D b g bm s m line pile seen steps kept) (f : Frm S w w') (hE : ∀ k, E k → ¬ S k) (hD : ∀ k, D k → ¬ S k) : MM w' E D b g bm s m line pile seen steps kept := by
  obtain ⟨vs, h1, h2⟩ := h.ps
  exact ⟨h.obj.frm f (hE _ h.bE), h.bE, h.mE, h.ne, ⟨vs, h1.frm f (fun k h => hE k h.1), forall2_mono (fun a b hh => hh.frm f hD) h2⟩, h.map.frm f (hE _ h.mE), h.sta.frm f hD, h.apart⟩
/-- More that stands still. -/
theorem MM.more {w : World} {E D G : Nat → Prop} {b g bm : Nat} {s : Stt} {m : Mc} {line : ByteArray} {pile : List Fr} {seen : List Key} {steps kept : Nat} (h : MM w E D b g bm s m line pile seen steps kept) (hG : ∀ k, D k → k < w.heap.size → G k) (ha : ∀ k, G k → ¬ E k) : MM w E G b g bm s m line pile seen steps kept := by
  obtain ⟨vs, h1, h2⟩ := h.ps
  exact ⟨h.obj, h.bE, h.mE, h.ne, ⟨vs, h1, forall2_mono (fun a b hh => hh.mono hG) h2⟩, h.map, h.sta.mono hG, ha⟩
/-- What a call may leave. -/
def MX (w0 : World) (E D : Nat → Prop) (w : World) (b g bm : Nat) (s : Stt) (m : Mc) (line : ByteArray) (pile : List Fr) (seen : List Key) (steps kept : Nat) : Prop :=
  ∃ E' D' : Nat → Prop, MM w E' D' b g bm s m line pile seen steps kept ∧ (∀ k, E' k → E k ∨ w0.heap.size ≤ k) ∧ (∀ k, D k → k < w0.heap.size → D' k) ∧ Frm E w0 w

theorem toM {E D : Nat → Prop} {b g bm : Nat} {s : Stt} {m : Mc} {line : ByteArray} {pile : List Fr} {seen : List Key} {steps kept : Nat} {parts : List Pt} {turns : List Tn} {A B : Option Addr} {n cA k d : Nat} {w : World} (pc at_ q : Nat)
    (h : MM w E D b g bm s m line pile seen steps kept) (hc : CfR w D parts turns A n cA B k d) (hb : pile.length ≤ 1073741824) :
    Calls Try.prog 75 #[.pointer (some ⟨b, 0, none⟩), .agg #[.int .i64 pc, .int .i64 at_, .slice A n cA, .slice B k d], .int .i64 q] w fun e w' => e = .returned (.tuple #[]) ∧ MM w' (fun k => E k ∨ w.heap.size ≤ k) (fun k => D k ∧ k < w.heap.size) b g bm s m line (.look ⟨q, at_, parts, turns⟩ :: pile) seen steps kept ∧ Frm (fun k => E k ∧ k ≠ b ∧ k ≠ bm) w w' := by
  obtain ⟨vs, h1, h2⟩ := h.ps
  have hlen : vs.reverse.length ≤ 1073741824 := by rw [List.length_reverse, ← h2.length_eq]; exact hb
  refine (toB _ b g _ vs.reverse pc at_ q A B n cA k d w h1 h.obj rfl hlen).mono ?_
  rintro e w' ⟨rfl, p1, p2⟩
  have hbl := h.obj.lt
  have hml := h.map.lt
  have hd : ∀ k, D k → ¬ (E k ∧ k ≠ b ∧ k ≠ bm) := fun k hk he => h.apart k hk he.1
  refine ⟨rfl, ⟨h.obj.frm p2 (fun h => h.2.1 rfl), .inl h.bE, .inl h.mE, h.ne, ⟨.iface 136 (.agg #[.int .i64 q, .int .i64 at_, .slice A n cA, .slice B k d]) :: vs, ?_, ?_⟩, h.map.frm p2 (fun h => h.2.2 rfl), (h.sta.mono fun k hk hl => ⟨hk, hl⟩).frm p2 (fun k hk => hd k hk.1), fun k hk he => ?_⟩, p2⟩
  · rw [List.reverse_cons]
    exact p1.mono fun k hk _ => by rcases hk with hk | hk; exact ⟨.inl hk.1, hk.2⟩; exact ⟨.inr hk, by omega, by omega⟩
  · exact .cons ⟨A, n, cA, B, k, d, rfl, (hc.mono fun k hk hl => ⟨hk, hl⟩).frm p2 (fun k hk => hd k hk.1)⟩ (forall2_mono (fun a b hh => (hh.mono fun k hk hl => ⟨hk, hl⟩).frm p2 (fun k hk => hd k hk.1)) h2)
  · rcases he with he | he
    · exact h.apart k hk.1 he
    · omega
/-- From where a call began to where it stands. -/
structure Lk (w : World) (E D : Nat → Prop) (w1 : World) (E1 D1 : Nat → Prop) : Prop where
  e : ∀ k, E1 k → E k ∨ w.heap.size ≤ k
  d : ∀ k, D k → k < w.heap.size → D1 k
  f : Frm E w w1
theorem Lk.refl (w : World) (E D : Nat → Prop) : Lk w E D w E D := ⟨fun _ h => .inl h, fun _ h _ => h, Frm.refl _ _⟩
theorem Lk.quiet {w : World} {E D : Nat → Prop} {w1 w2 : World} {E1 D1 : Nat → Prop} (h : Lk w E D w1 E1 D1) (f : Frm (fun _ => False) w1 w2) : Lk w E D w2 E1 D1 := ⟨h.e, h.d, h.f.then f (fun _ h _ => h.elim)⟩
theorem Lk.quietS {w : World} {E D : Nat → Prop} {w1 w2 : World} {E1 D1 S : Nat → Prop} (h : Lk w E D w1 E1 D1) (f : Frm S w1 w2) (hS : ∀ k, S k → w.heap.size ≤ k) : Lk w E D w2 E1 D1 := ⟨h.e, h.d, h.f.then f (fun k hk hl => by have := hS k hk; omega)⟩
theorem brk_eq (m : Mc) (c : Cf) (i : Ins) (gg : Int) (h : m.slot[i.n.toNat]? = some gg) : bracketS m c i = { c with parts := brkS c.parts gg i.op c.at_ } := by
  unfold bracketS brkS
  simp only [List.getD_eq_getElem?_getD, h, Option.getD_some]
  split
  · rfl
  · split <;> rfl
theorem Lk.push {w : World} {E D : Nat → Prop} {w1 w2 : World} {E1 D1 S : Nat → Prop} (h : Lk w E D w1 E1 D1) (f : Frm S w1 w2) (hS : ∀ k, S k → E1 k) : Lk w E D w2 (fun k => E1 k ∨ w1.heap.size ≤ k) (fun k => D1 k ∧ k < w1.heap.size) :=
  ⟨fun k hk => by have := h.f.size; rcases hk with hk | hk; exact h.e k hk; exact .inr (by omega), fun k hk hl => ⟨h.d k hk hl, by have := h.f.size; omega⟩, h.f.then f (fun k hk hl => by rcases h.e k (hS k hk) with h | h; exact h; omega)⟩
theorem Lk.more {w : World} {E D : Nat → Prop} {w1 : World} {E1 D1 G : Nat → Prop} (h : Lk w E D w1 E1 D1) (hG : ∀ k, D1 k → G k) : Lk w E D w1 E1 G := ⟨h.e, fun k hk hl => hG k (h.d k hk hl), h.f⟩
theorem Lk.low {w : World} {E D : Nat → Prop} {w1 : World} {E1 D1 : Nat → Prop} (h : Lk w E D w1 E1 D1) : Lk w E D w1 (fun k => E1 k ∧ k < w1.heap.size) (fun k => D1 k ∧ k < w1.heap.size) := ⟨fun k hk => h.e k hk.1, fun k hk hl => ⟨h.d k hk hl, by have := h.f.size; omega⟩, h.f⟩
theorem Lk.mx {w : World} {E D : Nat → Prop} {w1 : World} {E1 D1 : Nat → Prop} {b g bm : Nat} {s : Stt} {m : Mc} {line : ByteArray} {pile : List Fr} {seen : List Key} {steps kept : Nat} (h : Lk w E D w1 E1 D1) (hM : MM w1 E1 D1 b g bm s m line pile seen steps kept) : MX w E D w1 b g bm s m line pile seen steps kept :=
  ⟨E1, D1, hM, h.e, h.d, h.f⟩
theorem MM.start {w : World} {E D : Nat → Prop} {b g bm : Nat} {s : Stt} {m : Mc} {line : ByteArray} {pile : List Fr} {seen : List Key} {steps kept : Nat} {parts : List Pt} {turns : List Tn} {A B : Option Addr} {n cA k d : Nat} (h : MM w E D b g bm s m line pile seen steps kept) (hc : CfR w D parts turns A n cA B k d) :
    ∃ E1 D1, Lk w E D w E1 D1 ∧ MM w E1 D1 b g bm s m line pile seen steps kept ∧ CfR w D1 parts turns A n cA B k d ∧ (∀ k, E1 k → k < w.heap.size) ∧ ∀ k, D1 k → k < w.heap.size :=
  ⟨_, _, ⟨fun k h => .inl h.1, fun k h l => ⟨h, l⟩, Frm.refl _ _⟩, h.low, hc.mono fun k h l => ⟨h, l⟩, fun k h => h.2, fun k h => h.2⟩
end Go.Proofs.Ytoadmpochaeohaa
end
