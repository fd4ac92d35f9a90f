/-
  'Longest' and 'Find', walked.
-/
import Derived.Test.YtoadmpochaeohaaPg35
import Derived.Test.YtoadmpochaeohaaPg41
import Derived.Test.YtoadmpochaeohaaPg44
import Derived.Test.YtoadmpochaeohaaPg34
import Derived.Test.YtoadmpochaeohaaPg45
import Derived.Laws.StructEq
section
set_option linter.unusedVariables false
set_option linter.unusedSimpArgs false
set_option maxRecDepth 100000
namespace Go.Proofs.Ytoadmpochaeohaa
open Go.RowKit

theorem withinB_true {u : Bool} {x b : Int} (h : withinB u x b = true) (hu : u = true) : 0 ≤ x ∧ x < b := by
  subst hu; simpa [withinB] using h
/-- A right, free program. -/
theorem fine_of {l : List Ins} {gr co : Int} (h : rightE l gr co = 0) (hf : freeB l = true) : Fine l := by
  unfold rightE at h
  split at h
  · cases h
  · rename_i h1
    split at h
    · cases h
    · split at h
      · cases h
      · rename_i h3
        split at h
        · rename_i h4
          have hb : ∀ (k : Nat) (i : Ins), l[k]? = some i → fineB l.length gr co k i = true := by
            intro k i hi
            have hk := (List.getElem?_eq_some_iff.1 hi).1
            have := (List.all_eq_true.1 h4) k (List.mem_range.2 hk)
            simpa [fineAt, hi] using this
          refine ⟨by omega, by omega, fun k i hi ho => ?_, fun k i hi ho => ?_, fun k i hi ho => ?_⟩
          · have := hb k i hi
            simp only [fineB, Bool.and_eq_true] at this
            obtain ⟨⟨⟨⟨⟨⟨_, _⟩, hx⟩, hy⟩, _⟩, _⟩, _⟩ := this
            have h5 := withinB_true hx (by simp [ofV, ho])
            have h6 := withinB_true hy (by simp [ofV, ho])
            omega
          · have := hb k i hi
            simp only [fineB, Bool.and_eq_true] at this
            obtain ⟨⟨⟨⟨⟨⟨_, _⟩, hx⟩, hy⟩, _⟩, _⟩, _⟩ := this
            exact withinB_true hx (by simp [ofV, ho])
          · have := hb k i hi
            simp only [fineB, Bool.and_eq_true] at this
            have h7 := this.2
            have hn : (ofV i.op).next = true := by rcases ho with ho | ho | ho | ho | ho <;> simp [ofV, ho]
            rw [hn] at h7
            simpa using h7
        · cases h
theorem begin_fine {l : List Ins} {gr co : Int} {line : ByteArray} {at_ : Int} (h : beginE l gr co line at_ = 0) : Fine l ∧ ∃ a : Nat, at_ = a ∧ a ≤ line.size := by
  unfold beginE at h
  split at h
  · rename_i h1; exact absurd h h1
  · rename_i h1
    split at h
    · cases h
    · rename_i h2
      split at h
      · cases h
      · rename_i h3
        refine ⟨fine_of (by simpa using h1) (by simpa using h2), at_.toNat, by omega, by omega⟩

theorem results_four {P : Program} {w : World} {fn : Func} {r r2 r3 r4 : ResultVar} {v v2 v3 v4 : Value} {tmps : Array Value} (h : fn.results = #[r, r2, r3, r4]) (hv : RV P tmps w r v) (hv2 : RV P tmps w r2 v2) (hv3 : RV P tmps w r3 v3) (hv4 : RV P tmps w r4 v4) : (results fn tmps).run P w = .ok (.tuple #[v, v2, v3, v4]) w := by
  unfold results
  rw [h]
  unfold RV at hv hv2 hv3 hv4
  simp only [List.mapM_toArray, List.mapM_cons, List.mapM_nil, Sem.run_bind, Sem.run_map]
  cases r <;> cases r2 <;> cases r3 <;> cases r4 <;> simp_all

/-- What is told of the steps: of how many there may be, where the numbers are small. -/
def StepsB (n : Nat) (line : ByteArray) (a : Nat) (st : Int) : Prop := (n : Int) * (line.size + 2) ≤ 4611686018427387904 → 0 ≤ st ∧ st ≤ n * ((line.size : Int) + 2 - a)

/-- The steps themselves, where the numbers are small. -/
def StepsN (n : Nat) (line : ByteArray) (st : Int) (N : Nat) : Prop := (n : Int) * (line.size + 2) ≤ 4611686018427387904 → st = N

set_option maxHeartbeats 4000000 in
set_option maxRecDepth 100000 in
theorem longC2 (A : Option Addr) (n cp : Nat) (gr co : Int) (fo : Bool) (ins : List Ins) (G : Nat → Prop) (line : ByteArray) (at_ : Int) (w : World) (hrd : Rd w G 10 A n cp (flatI ins)) (hline : line.size ≤ 9223372036854775807) :
    Calls Try.prog 28 #[.agg #[.slice A n cp, .int .i64 gr, .int .i64 co, .bool fo], .string line, .int .i64 at_] w fun e w' => Frm (fun _ => False) w w' ∧
      ((beginE ins gr co line at_ ≠ 0 ∧ e = .returned (.tuple #[.int .i64 0, .bool false, .int .i64 0, .int .i64 (beginE ins gr co line at_)])) ∨
      (beginE ins gr co line at_ = 0 ∧ ∃ st, e = .returned (.tuple #[.int .i64 (bestT (findS ins line.toList at_.toNat false)), .bool (findS ins line.toList at_.toNat false).isSome, .int .i64 st, .int .i64 0]) ∧ StepsB n line at_.toNat st ∧ StepsN n line st (findN ins line.toList at_.toNat false))) := by
  have hf0 : Frm (fun _ => False) w (w.alloc (.cells #[.slice A n cp, .int .i64 gr, .int .i64 co, .bool fo] 24)) := (Frm.refl _ w).alloc _
  have hP := Blk.new w [.slice A n cp, .int .i64 gr, .int .i64 co, .bool fo] 24
  have p0 := hP.cell 0
  have p1 := hP.cell 1
  have p2 := hP.cell 2
  have p3 := hP.cell 3
  simp only [List.getElem?_cons_zero, List.getElem?_cons_succ] at p0 p1 p2 p3
  have hlp := hP.lt
  obtain ⟨be, hbe⟩ : ∃ be, beginE ins gr co line at_ = be := ⟨_, rfl⟩
  obtain ⟨r, hr⟩ : ∃ r, findS ins line.toList at_.toNat false = r := ⟨_, rfl⟩
  rw [hbe, hr]
  have HR := Lib.hid hr
  clear hr
  go_enter Try.func28, Try.ntmps28
  go_upto_region 1 with fail
  generalize w.alloc (.cells #[.slice A n cp, .int .i64 gr, .int .i64 co, .bool fo] 24) = w1 at *
  have HBC := Lib.hid (beginC A n cp gr co fo ins (fun k => G k ∧ k < w.heap.size) line at_ w1 (hrd.low.frm hf0 (fun _ _ h => h)))
  have hRD := hrd.low.frm hf0 (fun _ _ h => h)
  have hs1 := hf0.size
  rw [hbe] at HBC
  have HBE := Lib.hid hbe
  clear hbe
  go_wp2_with fail
  refine HBC.out.mono ?_
  rintro e w2 (⟨hne, rfl, hf2⟩ | ⟨hz, x, col, bn, bx, vf, vt, rfl, hpl, hf2⟩)
  · have t1 : (be != 0) = true := by simpa using hne
    have HN := Lib.hid hne
    clear hne
    go_wp2_with fail
    refine bodyPost_ret (results_four rfl (RV.tmp rfl) (RV.tmp rfl) (RV.tmp rfl) (RV.tmp rfl)) rfl ?_
    exact ⟨hf0.trans hf2, .inl ⟨HN.out, rfl⟩⟩
  · obtain ⟨hfi, a, rfl, ha⟩ := begin_fine (HBE.out.trans hz)
    subst hz
    have hf3 : Frm (fun _ => False) w w2 := hf0.trans hf2
    have HPL := Lib.hid (play _ col x A n cp gr co fo line bn bx vf vt _ _ _ _ ins (fun k => G k ∧ k < w.heap.size) a false w2 hpl (hRD.frm hf2 (fun _ _ h => h)) (fun k h1 h2 => by omega) hfi ha hline)
    clear hpl hfi
    have hr2 := HR.out
    rw [Int.toNat_natCast] at hr2
    rw [hr2] at HPL
    clear hr2
    go_wp2_with fail
    refine HPL.out.mono ?_
    rintro e w3 ⟨rfl, hf4, st, hst, hxl, hstb⟩
    have HST := Lib.hid hstb
    clear hstb
    go_wp2_with fail
    go_region
    all_goals
      go_wp2_with fail
      refine bodyPost_ret (results_four rfl (RV.tmp rfl) (RV.tmp rfl) (RV.tmp rfl) (RV.tmp rfl)) rfl ?_
      refine ⟨?_, st, rfl, fun h => ⟨(HST.out h).1, (HST.out h).2.1⟩, fun h => (HST.out h).2.2⟩
      exact ((hf3.then hf4 (fun i hi hl => by omega)).alloc _).drew

theorem longC (A : Option Addr) (n cp : Nat) (gr co : Int) (fo : Bool) (ins : List Ins) (G : Nat → Prop) (line : ByteArray) (at_ : Int) (w : World) (hrd : Rd w G 10 A n cp (flatI ins)) (hline : line.size ≤ 9223372036854775807) :
    Calls Try.prog 28 #[.agg #[.slice A n cp, .int .i64 gr, .int .i64 co, .bool fo], .string line, .int .i64 at_] w fun e w' => Frm (fun _ => False) w w' ∧
      ((beginE ins gr co line at_ ≠ 0 ∧ e = .returned (.tuple #[.int .i64 0, .bool false, .int .i64 0, .int .i64 (beginE ins gr co line at_)])) ∨
      (beginE ins gr co line at_ = 0 ∧ ∃ st, e = .returned (.tuple #[.int .i64 (bestT (findS ins line.toList at_.toNat false)), .bool (findS ins line.toList at_.toNat false).isSome, .int .i64 st, .int .i64 0]) ∧ StepsB n line at_.toNat st)) :=
  (longC2 A n cp gr co fo ins G line at_ w hrd hline).mono (by
    rintro e w' ⟨hf, ⟨h1, h2⟩ | ⟨h1, st, h2, h3, _⟩⟩
    · exact ⟨hf, .inl ⟨h1, h2⟩⟩
    · exact ⟨hf, .inr ⟨h1, st, h2, h3⟩⟩)

set_option maxHeartbeats 4000000 in
set_option maxRecDepth 100000 in
theorem findC2 (A : Option Addr) (n cp : Nat) (gr co : Int) (fo : Bool) (ins : List Ins) (G : Nat → Prop) (line : ByteArray) (at_ : Int) (w : World) (hrd : Rd w G 10 A n cp (flatI ins)) (hline : line.size ≤ 9223372036854775807) :
    Calls Try.prog 29 #[.agg #[.slice A n cp, .int .i64 gr, .int .i64 co, .bool fo], .string line, .int .i64 at_] w fun e w' => Frm (fun _ => False) w w' ∧
      ((beginE ins gr co line at_ ≠ 0 ∧ e = .returned (.tuple #[.agg #[.int .i64 0, .int .i64 0], .bool false, .int .i64 0, .int .i64 (beginE ins gr co line at_)])) ∨
      (beginE ins gr co line at_ = 0 ∧ ∃ st, e = .returned (.tuple #[.agg #[.int .i64 (bestF (findS ins line.toList at_.toNat true)), .int .i64 (bestT (findS ins line.toList at_.toNat true))], .bool (findS ins line.toList at_.toNat true).isSome, .int .i64 st, .int .i64 0]) ∧ StepsB n line at_.toNat st ∧ StepsN n line st (findN ins line.toList at_.toNat true))) := by
  have hf0 : Frm (fun _ => False) w ((w.alloc (.cells #[.slice A n cp, .int .i64 gr, .int .i64 co, .bool fo] 24)).alloc (.cells #[.int .i64 0, .int .i64 0] 50)) := ((Frm.refl _ w).alloc _).alloc _
  have hP := (Blk.new w [.slice A n cp, .int .i64 gr, .int .i64 co, .bool fo] 24).alloc (.cells #[.int .i64 0, .int .i64 0] 50)
  have hS := Blk.new (w.alloc (.cells #[.slice A n cp, .int .i64 gr, .int .i64 co, .bool fo] 24)) [.int .i64 0, .int .i64 0] 50
  rw [World.size_alloc] at hS
  have p0 := hP.cell 0
  have p1 := hP.cell 1
  have p2 := hP.cell 2
  have p3 := hP.cell 3
  simp only [List.getElem?_cons_zero, List.getElem?_cons_succ] at p0 p1 p2 p3
  have hlp := hP.lt
  obtain ⟨be, hbe⟩ : ∃ be, beginE ins gr co line at_ = be := ⟨_, rfl⟩
  obtain ⟨r, hr⟩ : ∃ r, findS ins line.toList at_.toNat true = r := ⟨_, rfl⟩
  rw [hbe, hr]
  have HR := Lib.hid hr
  clear hr
  go_enter Try.func29, Try.ntmps29
  go_upto_region 1 with fail
  generalize (w.alloc (.cells #[.slice A n cp, .int .i64 gr, .int .i64 co, .bool fo] 24)).alloc (.cells #[.int .i64 0, .int .i64 0] 50) = w1 at *
  have HBC := Lib.hid (beginC A n cp gr co fo ins (fun k => G k ∧ k < w.heap.size) line at_ w1 (hrd.low.frm hf0 (fun _ _ h => h)))
  have hRD := hrd.low.frm hf0 (fun _ _ h => h)
  have hs1 := hf0.size
  rw [hbe] at HBC
  have HBE := Lib.hid hbe
  clear hbe
  generalize hbs : w.heap.size + 1 = bs at *
  go_wp2_with fail
  refine HBC.out.mono ?_
  rintro e w2 (⟨hne, rfl, hf2⟩ | ⟨hz, x, col, bn, bx, vf, vt, rfl, hpl, hf2⟩)
  · have t1 : (be != 0) = true := by simpa using hne
    have hS2 := hS.frm hf2 (fun h => h)
    obtain ⟨s0, s1, s2, s3, s4⟩ := blk2 hS2
    have HN := Lib.hid hne
    clear hne
    go_wp2_with fail
    refine bodyPost_ret (results_four rfl (RV.cell rfl ((hS2.setSame 0 (.int .i64 0)).setSame 1 (.int .i64 0)) Try.underlying50 rfl (by kernel_rfl)) (RV.tmp rfl) (RV.tmp rfl) (RV.tmp rfl)) rfl ?_
    exact ⟨(((hf0.trans hf2).set bs 0 _ (fun h => by omega)).set bs 1 _ (fun h => by omega)), .inl ⟨HN.out, rfl⟩⟩
  · obtain ⟨hfi, a, rfl, ha⟩ := begin_fine (HBE.out.trans hz)
    subst hz
    have hf3 : Frm (fun _ => False) w w2 := hf0.trans hf2
    have HPL := Lib.hid (play _ col x A n cp gr co fo line bn bx vf vt _ _ _ _ ins (fun k => G k ∧ k < w.heap.size) a true w2 hpl (hRD.frm hf2 (fun _ _ h => h)) (fun k h1 h2 => by omega) hfi ha hline)
    have hS2 := hS.frm hf2 (fun h => h)
    clear hpl hfi
    have hr2 := HR.out
    rw [Int.toNat_natCast] at hr2
    rw [hr2] at HPL
    clear hr2
    have hbs1 : bs < w1.heap.size := hS.lt
    go_wp2_with fail
    refine HPL.out.mono ?_
    rintro e w3 ⟨rfl, hf4, st, hst, hxl, hstb⟩
    have hS3 := hS2.frm hf4 (fun h => by omega)
    obtain ⟨s0, s1, s2, s3, s4⟩ := blk2 hS3
    have HST := Lib.hid hstb
    clear hstb
    have hS4 := hS3.alloc (.cells #[.int .i64 (bestF r), .int .i64 (bestT r)] 50)
    have hX := Blk.new w3 [.int .i64 (bestF r), .int .i64 (bestT r)] 50
    go_wp2_with fail
    go_region
    all_goals
      go_wp2_with fail
      refine bodyPost_ret (results_four rfl (RV.cell rfl ((((hS3.setSame 0 (.int .i64 (bestF r))).setSame 1 (.int .i64 (bestT r))).alloc _).drew) Try.underlying50 rfl (by kernel_rfl)) (RV.tmp rfl) (RV.tmp rfl) (RV.tmp rfl)) rfl ?_
      refine ⟨?_, st, rfl, fun h => ⟨(HST.out h).1, (HST.out h).2.1⟩, fun h => (HST.out h).2.2⟩
      exact ((((hf3.then hf4 (fun i hi hl => by omega)).set bs 0 _ (fun h => by omega)).set bs 1 _ (fun h => by omega)).alloc _).drew
theorem findC (A : Option Addr) (n cp : Nat) (gr co : Int) (fo : Bool) (ins : List Ins) (G : Nat → Prop) (line : ByteArray) (at_ : Int) (w : World) (hrd : Rd w G 10 A n cp (flatI ins)) (hline : line.size ≤ 9223372036854775807) :
    Calls Try.prog 29 #[.agg #[.slice A n cp, .int .i64 gr, .int .i64 co, .bool fo], .string line, .int .i64 at_] w fun e w' => Frm (fun _ => False) w w' ∧
      ((beginE ins gr co line at_ ≠ 0 ∧ e = .returned (.tuple #[.agg #[.int .i64 0, .int .i64 0], .bool false, .int .i64 0, .int .i64 (beginE ins gr co line at_)])) ∨
      (beginE ins gr co line at_ = 0 ∧ ∃ st, e = .returned (.tuple #[.agg #[.int .i64 (bestF (findS ins line.toList at_.toNat true)), .int .i64 (bestT (findS ins line.toList at_.toNat true))], .bool (findS ins line.toList at_.toNat true).isSome, .int .i64 st, .int .i64 0]) ∧ StepsB n line at_.toNat st)) :=
  (findC2 A n cp gr co fo ins G line at_ w hrd hline).mono (by
    rintro e w' ⟨hf, ⟨h1, h2⟩ | ⟨h1, st, h2, h3, _⟩⟩
    · exact ⟨hf, .inl ⟨h1, h2⟩⟩
    · exact ⟨hf, .inr ⟨h1, st, h2, h3⟩⟩)
end Go.Proofs.Ytoadmpochaeohaa
end

section
set_option linter.unusedVariables false
set_option linter.unusedSimpArgs false
set_option maxRecDepth 100000
namespace Go.Proofs.Ytoadmpochaeohaa
open Go.RowKit

theorem free_ops {ins : List Ins} (hf : freeB ins = true) {k : Nat} {i : Ins} (hi : ins[k]? = some i) : i.op ≠ 8 ∧ i.op ≠ 9 ∧ i.op ≠ 10 := by
  have := (List.all_eq_true.1 hf) i (List.mem_of_getElem? hi)
  simp only [freeI, Bool.not_eq_true', Bool.or_eq_false_iff, beq_eq_false_iff_ne] at this
  exact ⟨this.1, this.2.1, this.2.2⟩
theorem bracket_pc (m : Mc) (c : Cf) (i : Ins) : (bracketS m c i).at_ = c.at_ := by
  unfold bracketS
  simp only
  split
  · rfl
  · split <;> rfl
theorem succs_of {l : List Ins} {b0 b1 : Bool} {k : Nat} {i : Ins} (hi : l[k]? = some i) : succs l b0 b1 k = if i.op = 2 then [i.x.toNat, i.y.toNat] else if i.op = 3 then [i.x.toNat] else if i.op = 4 then (if b0 then [k + 1] else []) else if i.op = 5 then (if b1 then [k + 1] else []) else if i.op = 6 ∨ i.op = 7 then [k + 1] else [] := by
  unfold succs
  rw [hi]
/-- What a machine comes to, the sets come to. -/
theorem reach_al {m : Mc} {L : List UInt8} {a : Nat} (hf : freeB m.ins = true) {c : Cf} (h : Reach m L (startS m a) c) : Al m.ins L a c.at_ c.pc := by
  induction h with
  | refl => exact .start
  | @step c d h hd ih =>
    unfold onS at hd
    split at hd
    · cases hd
    · rename_i i hi
      obtain ⟨n8, n9, n10⟩ := free_ops hf hi
      have hs := fun b0 b1 => succs_of (b0 := b0) (b1 := b1) hi
      simp only at hd
      by_cases h1 : i.op = 1
      · rw [if_pos h1] at hd
        split at hd
        · rename_i x hx
          split at hd
          · rename_i hin
            rw [List.mem_singleton] at hd; subst hd
            exact .byte ih hi h1 hx hin
          · cases hd
        · cases hd
      rw [if_neg h1] at hd
      by_cases h2 : i.op = 2
      · rw [if_pos h2] at hd
        simp only [List.mem_cons, List.not_mem_nil, or_false] at hd
        rcases hd with rfl | rfl
        · exact .eps ih (by rw [hs, if_pos h2]; simp)
        · exact .eps ih (by rw [hs, if_pos h2]; simp)
      rw [if_neg h2] at hd
      by_cases h3 : i.op = 3
      · rw [if_pos h3, List.mem_singleton] at hd; subst hd
        exact .eps ih (by rw [hs, if_neg h2, if_pos h3]; simp)
      rw [if_neg h3] at hd
      by_cases h4 : i.op = 4
      · rw [if_pos h4] at hd
        split at hd
        · rename_i h0
          rw [List.mem_singleton] at hd; subst hd
          exact .eps ih (by rw [hs, if_neg h2, if_neg h3, if_pos h4, if_pos (by simpa using h0)]; simp)
        · cases hd
      rw [if_neg h4] at hd
      by_cases h5 : i.op = 5
      · rw [if_pos h5] at hd
        split at hd
        · rename_i h0
          rw [List.mem_singleton] at hd; subst hd
          exact .eps ih (by rw [hs, if_neg h2, if_neg h3, if_neg h4, if_pos h5, if_pos (by simpa using h0)]; simp)
        · cases hd
      rw [if_neg h5] at hd
      by_cases h6 : i.op = 6 ∨ i.op = 7
      · rw [if_pos h6, List.mem_singleton] at hd; subst hd
        show Al m.ins L a (bracketS m c i).at_ (c.pc + 1)
        rw [bracket_pc]
        exact .eps ih (by rw [hs, if_neg h2, if_neg h3, if_neg h4, if_neg h5, if_pos h6]; simp)
      rw [if_neg h6, if_neg n8, if_neg n9, if_neg n10] at hd
      cases hd
/-- What the sets come to, a machine comes to. -/
theorem al_reach {m : Mc} {L : List UInt8} {a p k : Nat} (h : Al m.ins L a p k) : ∃ c, Reach m L (startS m a) c ∧ c.at_ = p ∧ c.pc = k := by
  induction h with
  | start => exact ⟨startS m a, .refl, rfl, rfl⟩
  | @eps p k j h1 h2 ih =>
    obtain ⟨c, hc, rfl, rfl⟩ := ih
    cases hi : m.ins[c.pc]? with
    | none => unfold succs at h2; rw [hi] at h2; cases h2
    | some i =>
      have hon : ∀ d, d ∈ onS m L c → ∃ c', Reach m L (startS m a) c' ∧ c'.at_ = d.at_ ∧ c'.pc = d.pc := fun d hd => ⟨d, .step hc hd, rfl, rfl⟩
      rw [succs_of hi] at h2
      unfold onS at hon
      rw [hi] at hon
      simp only at hon
      by_cases q2 : i.op = 2
      · rw [if_pos q2] at h2
        rw [if_neg (by omega), if_pos q2] at hon
        simp only [List.mem_cons, List.not_mem_nil, or_false] at h2
        rcases h2 with rfl | rfl
        · exact hon { c with pc := i.x.toNat } (by simp)
        · exact hon { c with pc := i.y.toNat } (by simp)
      rw [if_neg q2] at h2
      by_cases q3 : i.op = 3
      · rw [if_pos q3, List.mem_singleton] at h2
        subst h2
        rw [if_neg (by omega), if_neg q2, if_pos q3] at hon
        exact hon { c with pc := i.x.toNat } (by simp)
      rw [if_neg q3] at h2
      by_cases q4 : i.op = 4
      · rw [if_pos q4] at h2
        split at h2
        · rename_i h0
          rw [List.mem_singleton] at h2
          subst h2
          rw [if_neg (by omega), if_neg q2, if_neg q3, if_pos q4, if_pos (by simpa using h0)] at hon
          exact hon { c with pc := c.pc + 1 } (by simp)
        · cases h2
      rw [if_neg q4] at h2
      by_cases q5 : i.op = 5
      · rw [if_pos q5] at h2
        split at h2
        · rename_i h0
          rw [List.mem_singleton] at h2
          subst h2
          rw [if_neg (by omega), if_neg q2, if_neg q3, if_neg q4, if_pos q5, if_pos (by simpa using h0)] at hon
          exact hon { c with pc := c.pc + 1 } (by simp)
        · cases h2
      rw [if_neg q5] at h2
      by_cases q6 : i.op = 6 ∨ i.op = 7
      · rw [if_pos q6, List.mem_singleton] at h2
        subst h2
        rw [if_neg (by omega), if_neg q2, if_neg q3, if_neg q4, if_neg q5, if_pos q6] at hon
        have := hon { bracketS m c i with pc := c.pc + 1 } (by simp)
        simp only [bracket_pc] at this
        exact this
      · rw [if_neg q6] at h2
        cases h2
  | @byte p k i x h1 h2 h3 h4 h5 ih =>
    obtain ⟨c, hc, rfl, rfl⟩ := ih
    refine ⟨{ c with at_ := c.at_ + 1, pc := c.pc + 1 }, .step hc ?_, rfl, rfl⟩
    unfold onS
    rw [h2]
    simp only
    rw [if_pos h3, h4]
    simp only
    rw [if_pos (show inB i x = true from h5)]
    simp
theorem hit_op {m : Mc} {c : Cf} : isHit m c = true ↔ ∃ i, m.ins[c.pc]? = some i ∧ i.op = 11 := by
  unfold isHit
  cases m.ins[c.pc]? with
  | none => simp
  | some i => simp
/-- The answer, from one place. -/
def oF (ins : List Ins) (L : List UInt8) (a : Nat) : Option Nat := (findS ins L a false).map fun p => p.2.toNat
theorem oF_some {ins : List Ins} {L : List UInt8} (hfi : Fine ins) {a : Nat} (ha : a ≤ L.length) {f t : Int} (h : findS ins L a false = some (f, t)) : f = a ∧ 0 ≤ t ∧ oF ins L a = some t.toNat := by
  obtain ⟨s, q, rfl, rfl, _, h4, _, _⟩ := (find_spec (line := L) hfi a ha false).snd f t h
  obtain rfl := h4 rfl
  exact ⟨rfl, by omega, by rw [oF, h]; rfl⟩
theorem oF_none {ins : List Ins} {L : List UInt8} {a : Nat} (h : findS ins L a false = none) : oF ins L a = none := by rw [oF, h]; rfl
theorem free_best {m : Mc} {L : List UInt8} {a : Nat} (hf : freeB m.ins = true) (hfi : Fine m.ins) (ha : a ≤ L.length) : BestIs m L a (oF m.ins L a) := by
  have S := find_spec (line := L) hfi a ha false
  refine ⟨fun e he => ?_, fun c hc hit => ?_⟩
  · unfold oF at he
    cases hr : findS m.ins L a false with
    | none => rw [hr] at he; cases he
    | some ft =>
      obtain ⟨f, t⟩ := ft
      obtain ⟨s, q, rfl, rfl, h3, h4, h5, k, i, h6, h7, h8⟩ := S.snd f t hr
      obtain rfl := h4 rfl
      rw [hr] at he
      injection he with he
      obtain ⟨c, c1, c2, c3⟩ := al_reach h6
      refine ⟨c, c1, hit_op.2 ⟨i, by rw [c3]; exact h7, h8⟩, ?_⟩
      rw [c2, ← he]; simp
  · obtain ⟨i, h7, h8⟩ := hit_op.1 hit
    have hal := reach_al hf hc
    obtain ⟨f, t, e1, e2, e3⟩ := S.all a c.at_ (Nat.le_refl _) (fun _ => rfl) (hal.lt ha) ⟨c.pc, i, hal, h7, h8⟩
    obtain ⟨g1, g2, g3⟩ := oF_some hfi ha e1
    exact ⟨_, g3, by have := e3 g1; omega⟩
/-- The answer from a place on. -/
theorem first_some {o : Nat → Option Nat} {i e : Nat} : ∀ (n a : Nat), a ≤ i → i < a + n → (∀ j, a ≤ j → j < i → o j = none) → o i = some e → firstO o n a = some (i, e)
  | 0, a, h1, h2, _, _ => by omega
  | n + 1, a, h1, h2, h3, h4 => by
    rw [firstO]
    by_cases ha : a = i
    · subst ha; rw [h4]
    · rw [h3 a (Nat.le_refl _) (by omega)]
      exact first_some n (a + 1) (by omega) (by omega) (fun j h5 h6 => h3 j (by omega) h6) h4
theorem first_none {o : Nat → Option Nat} : ∀ (n a : Nat), (∀ j, a ≤ j → j < a + n → o j = none) → firstO o n a = none
  | 0, a, _ => rfl
  | n + 1, a, h => by
    rw [firstO, h a (Nat.le_refl _) (by omega)]
    exact first_none n (a + 1) (fun j h1 h2 => h j (by omega) (by omega))
/-- The nfa's answers, told by the machine's. -/
theorem free_long {ins : List Ins} {L : List UInt8} (hfi : Fine ins) {a : Nat} (ha : a ≤ L.length) : (bestT (findS ins L a false) : Int) = ((oF ins L a).getD 0 : Nat) ∧ (findS ins L a false).isSome = (oF ins L a).isSome := by
  cases hr : findS ins L a false with
  | none => rw [oF_none hr]; exact ⟨rfl, rfl⟩
  | some ft =>
    obtain ⟨f, t⟩ := ft
    obtain ⟨h1, h2, h3⟩ := oF_some hfi ha hr
    rw [h3]
    refine ⟨?_, rfl⟩
    show t = ((t.toNat : Nat) : Int)
    omega
theorem free_find {ins : List Ins} {L : List UInt8} (hfi : Fine ins) {a : Nat} (ha : a ≤ L.length) : Value.agg #[.int .i64 (bestF (findS ins L a true)), .int .i64 (bestT (findS ins L a true))] = spanV (firstO (oF ins L) (L.length + 1 - a) a) ∧ (findS ins L a true).isSome = (firstO (oF ins L) (L.length + 1 - a) a).isSome := by
  obtain ⟨F1, F2⟩ := follows_law (line := L) hfi a ha
  cases hr : findS ins L a true with
  | none =>
    rw [first_none _ a (fun j h1 h2 => oF_none (F2 hr j h1 (by omega)))]
    exact ⟨rfl, rfl⟩
  | some ft =>
    obtain ⟨f, t⟩ := ft
    obtain ⟨i, rfl, h2, h3, h4, h5⟩ := F1 f t hr
    obtain ⟨_, g2, g3⟩ := oF_some hfi h3 h4
    rw [first_some _ a h2 (by omega) (fun j q1 q2 => oF_none (h5 j q1 q2)) g3]
    refine ⟨?_, rfl⟩
    show Value.agg #[.int .i64 (i : Int), .int .i64 t] = Value.agg #[.int .i64 (i : Int), .int .i64 ((t.toNat : Nat) : Int)]
    rw [Int.toNat_of_nonneg g2]

theorem slotP_free : ∀ (l : List Ins) (s : List Int) (n : Int), freeB l = true → slotP l s n = (s, n)
  | [], s, n, _ => rfl
  | i :: l, s, n, h => by
    rw [freeB, List.all_cons, Bool.and_eq_true] at h
    have h8 : i.op ≠ 8 := by
      have := h.1
      simp only [freeI, Bool.not_eq_true', Bool.or_eq_false_iff, beq_eq_false_iff_ne] at this
      exact this.1
    rw [slotP, if_neg (fun q => h8 q.1)]
    exact slotP_free l s n h.2
theorem ns_free {ins : List Ins} (hf : freeB ins = true) (gr co t : Nat) (fo pl : Bool) : nsS (mOf ins gr co fo pl t) = 0 := by
  show ((slotP ins (List.replicate gr (-1)) 0).1.filter (0 ≤ ·)).length = 0
  rw [slotP_free _ _ _ hf, List.filter_eq_nil_iff.2 (fun x hx => by rw [List.eq_of_mem_replicate hx]; decide)]
  rfl
theorem rad_ones {f : Nat → Nat} : ∀ l : List Nat, (∀ k, f k = 1) → radP (l.map f) = 1
  | [], _ => rfl
  | x :: l, h => by rw [List.map_cons, radP, h x, rad_ones l h]
theorem keys_free {ins : List Ins} (hf : freeB ins = true) (gr co t n : Nat) (fo pl : Bool) : keysN (mOf ins gr co fo pl t) n = ins.length * (n + 1) := by
  unfold keysN rads
  rw [ns_free hf]
  have hr1 : ∀ k, rt (mOf ins gr co fo pl t) k = 1 := by
    intro k
    unfold rt
    rw [if_neg]
    intro h
    obtain ⟨i, hi, h2⟩ := List.any_eq_true.1 h
    obtain ⟨j, hj⟩ := List.mem_iff_getElem?.1 hi
    have := (free_ops hf hj).2.2
    simp only [Bool.and_eq_true, beq_iff_eq] at h2
    exact this h2.1
  show ins.length * ((n + 1) * radP (List.map _ _)) = _
  rw [rad_ones _ hr1, Nat.mul_one]
/-- Find, if every place has its answer. -/
theorem find_ans {m : Mc} {L : List UInt8} {o : Nat → Option Nat} {F : Nat} : ∀ (n a st kp : Nat), (∀ b, a ≤ b → b < a + n → ∀ st kp, ∃ r, ranS m L F b st kp = some r ∧ r.best = o b) →
    ∃ s k, findR m L F n a st kp = some (firstO o n a, s, k) ∧ s ≤ st + n * F ∧ k ≤ max kp F
  | 0, a, st, kp, _ => ⟨st, kp, rfl, by omega, by omega⟩
  | n + 1, a, st, kp, h => by
    obtain ⟨r, h1, h2⟩ := h a (Nat.le_refl _) (by omega) st kp
    have hbd := run_bound _ _ _ _ h1
    simp only [List.length_nil, Nat.zero_add] at hbd
    have hmul : (n + 1) * F = n * F + F := by rw [Nat.add_mul, Nat.one_mul]
    rw [findR, h1, firstO]
    simp only
    rw [h2]
    cases ho : o a with
    | some e => exact ⟨r.steps, r.kept, rfl, by omega, by omega⟩
    | none =>
      obtain ⟨s, k, q1, q2, q3⟩ := find_ans n (a + 1) r.steps r.kept (fun b hb1 hb2 => h b (by omega) (by omega))
      exact ⟨s, k, q1, by omega, by omega⟩
/-- Of a free program, each machine that stands answers what the sets answer. -/
theorem free_all {ins : List Ins} {gr co t : Nat} {fo pl : Bool} {L : List UInt8} (hr : rightE ins gr co = 0) (hf : freeB ins = true) (hN : L.length ≤ 24)
    (hst : sweepM ins (slotN ins gr) (nsN ins gr) ins.length (iterM (sweepM ins (slotN ins gr) (nsN ins gr) ins.length) t (live0 ins.length (nsN ins gr))) = iterM (sweepM ins (slotN ins gr) (nsN ins gr) ins.length) t (live0 ins.length (nsN ins gr)))
    (ht : pl = true → tameOk ins fo L gr co 0) : ∃ F, F ≤ 2000001 ∧ ∀ a, a ≤ L.length → ∀ st kp, ∃ r, ranS (mOf ins gr co fo pl t) L F a st kp = some r ∧ r.best = oF ins L a := by
  obtain ⟨r1, _, _, r4, _⟩ := right_ok hr
  have hfi := fine_of hr hf
  have hW : MW (mOf ins gr co fo pl t) := new_MW hr (iterM_post (live0_shp _ _) (live0_post _ _ _ _) _).1
  have fin : ∀ F a st kp r, a ≤ L.length → ranS (mOf ins gr co fo pl t) L F a st kp = some r → r.best = oF ins L a := fun F a st kp r ha hrun =>
    best_unique (ran_answer hW (stop_full hst) (by omega) r4 ha hrun) (free_best (m := mOf ins gr co fo pl t) hf hfi ha)
  cases pl with
  | true =>
    refine ⟨5000, by omega, fun a ha st kp => ?_⟩
    obtain ⟨r, hrun⟩ := few_ends (fo := fo) (pl := true) (t := t) (st := st) (kp := kp) hr (by omega) ha (ht rfl a (Nat.zero_le _) ha)
    exact ⟨r, hrun, fin _ _ _ _ _ ha hrun⟩
  | false =>
    refine ⟨2000001, Nat.le_refl _, fun a ha st kp => ?_⟩
    obtain ⟨r, hrun, _⟩ := ran_counts (f := 2000001) (st := st) (kp := kp) hW rfl (by omega) r4 ha (by
      rw [keys_free hf]
      have : ins.length * (L.length + 1) ≤ 40000 * 25 := Nat.mul_le_mul (by omega) (by omega)
      omega)
    exact ⟨r, hrun, fin _ _ _ _ _ ha hrun⟩
end Go.Proofs.Ytoadmpochaeohaa
end

section
set_option linter.unusedVariables false
set_option linter.unusedSimpArgs false
set_option maxRecDepth 100000
namespace Go.Proofs.Ytoadmpochaeohaa
open Go.RowKit

set_option maxHeartbeats 4000000 in
theorem refFreeB (A : Option Addr) (n cp : Nat) (gr co : Int) (fo : Bool) (ins : List Ins) (G : Nat → Prop) (w : World) (hrd : Rd w G 10 A n cp (flatI ins)) (hn : n ≤ 9223372036854775807) :
    Calls Try.prog 27 #[.agg #[.slice A n cp, .int .i64 gr, .int .i64 co, .bool fo]] w fun e w' => e = .returned (.bool (freeB ins)) ∧ Frm (fun _ => False) w w' := by
  have hil : ins.length = n := by have := hrd.len; rw [flatI_len] at this; omega
  have HIL := Lib.hid hil
  clear hil
  have hf0 : Frm (fun _ => False) w (w.alloc (.cells #[.slice A n cp, .int .i64 gr, .int .i64 co, .bool fo] 24)) := (Frm.refl _ w).alloc _
  have hP := Blk.new w [.slice A n cp, .int .i64 gr, .int .i64 co, .bool fo] 24
  have p0 := hP.cell 0
  simp only [List.getElem?_cons_zero, List.getElem?_cons_succ] at p0
  go_enter Try.func27, Try.ntmps27
  go_upto_region 1 with fail
  generalize w.alloc (.cells #[.slice A n cp, .int .i64 gr, .int .i64 co, .bool fo] 24) = w1 at *
  generalize hbp : w.heap.size = bp at *
  go_wp2_with fail
  go_loopw [3] (fun i wr => ∃ (k : Nat), i = .int .i64 k ∧ k ≤ n ∧ Frm (fun _ => False) w wr ∧ Blk wr bp [.slice A n cp, .int .i64 gr, .int .i64 co, .bool fo] 24 ∧ Hid ((ins.take k).all freeI = true)) (fun i _ => n - (intOf i).toNat)
  case atStart => exact ⟨0, rfl, by omega, hf0, hP, by rw [Hid]; rfl⟩
  case round =>
    obtain ⟨k, rfl, hk, hf, hPr, HA⟩ := hrel
    clear p0
    have p0 := hPr.cell 0
    simp only [List.getElem?_cons_zero] at p0
    have lp := hPr.lt
    by_cases hkn : k < n
    · obtain ⟨i, hi⟩ : ∃ i, ins[k]? = some i := ⟨_, List.getElem?_eq_getElem (by rw [HIL.out]; exact hkn)⟩
      obtain ⟨b, off, rfl, hb, hci⟩ := (hrd.frm hf (fun _ _ h => h)).ins k i hi
      have e0 := hci 0 _ rfl
      have e1 := hci 1 _ rfl
      have e2 := hci 2 _ rfl
      have e3 := hci 3 _ rfl
      have e4 := hci 4 _ rfl
      have e5 := hci 5 _ rfl
      have e6 := hci 6 _ rfl
      have e7 := hci 7 _ rfl
      have e8 := hci 8 _ rfl
      have e9 := hci 9 _ rfl
      rw [Nat.add_zero] at e0
      have htk : ins.take (k + 1) = ins.take k ++ [i] := by rw [List.take_add_one, hi]; rfl
      have HTK := Lib.hid htk
      have HII := Lib.hid hi
      clear hci hi htk
      obtain ⟨iop, ix, iy, i_n, imn, imx, is0, is1, is2, is3⟩ := i
      simp only at e0 e1 e2 e3 e4 e5 e6 e7 e8 e9
      have hf2 := hf
      by_cases h8 : iop = 8 ∨ iop = 9 ∨ iop = 10
      · have hno : freeB ins = false := by
          rw [freeB, List.all_eq_false]
          exact ⟨_, List.mem_of_getElem? HII.out, by rcases h8 with rfl | rfl | rfl <;> simp [freeI]⟩
        have HNO := Lib.hid hno
        clear hno
        rcases h8 with rfl | rfl | rfl
        all_goals
          go_wp2_with fail
          go_ret
          exact ⟨by rw [HNO.out]; rfl, hf2⟩
      · have t8 : (iop == 8) = false := by simp; omega
        have t9 : (iop == 9) = false := by simp; omega
        have t10 : (iop == 10) = false := by simp; omega
        have H8 := Lib.hid h8
        clear h8
        go_wp2_with fail
        go_roundw
        case measure => simp [intOf] <;> omega
        case rel =>
          refine ⟨k + 1, by go_num, by omega, hf2, hPr, ?_⟩
          have := H8.out
          rw [Hid, HTK.out, List.all_append, HA.out]
          simp [freeI]
          omega
    · obtain rfl : k = n := by omega
      have hall : freeB ins = true := by have := HA.out; rw [List.take_of_length_le (by rw [HIL.out]; exact Nat.le_refl _)] at this; exact this
      have HALL := Lib.hid hall
      clear hall
      go_wp2_with fail
      go_ret
      exact ⟨by rw [HALL.out]; rfl, hf⟩

theorem begin_zero {l : List Ins} {gr co : Int} (hr : rightE l gr co = 0) (hf : freeB l = true) (line : ByteArray) (a : Int) (h0 : 0 ≤ a) (h1 : a ≤ line.size) : beginE l gr co line a = 0 := by
  unfold beginE
  rw [if_neg (by simpa using hr), if_neg (by rw [hf]; simp), if_neg (by omega)]
theorem ba_lenF (a : ByteArray) : a.toList.length = a.size := by rw [ByteArray.toList_eq]; simp
theorem fields50F : Try.prog.underlying 50 = some (.struct (Try.prog.fieldsOf 50)) := by kernel_rfl
theorem stood50F : Try.prog.stoodInHeld 50 = false := by kernel_rfl
/-- Two equal spans are equal. -/
theorem run_eqSpanF (x y : Int) (w : World) : (Op.equalIn 10000 50 (.agg #[.int .i64 x, .int .i64 y]) (.agg #[.int .i64 x, .int .i64 y])).run Try.prog w = .ok true w := by
  rw [show (10000 : Nat) = 9998 + 1 + 1 from rfl, run_equalIn_struct w (9998 + 1) 50 _ _ fields50F stood50F]
  go_simp
attribute [local go_sem high] run_eqSpanF
attribute [local go_sem] eqGuard50
/-- A machine and a program, how much has been done. -/
def One (w0 : World) (B : Nat) (D G : Nat → Prop) (b bP : Nat) (A : Option Addr) (n cp gr co : Nat) (fo : Bool) (ins : List Ins) (st : Stt) (m : Mc) (w : World) (S : Nat) : Prop :=
  ∃ s k : Nat, Idle w D b st m s k ∧ Blk w bP [.slice A n cp, .int .i64 gr, .int .i64 co, .bool fo] 24 ∧ Rd w G 10 A n cp (flatI ins) ∧ s ≤ S ∧ k ≤ 2000001 ∧ Frm (fun _ => False) w0 w ∧ B ≤ w.heap.size
/-- What a walk may ask of them. -/
structure OneT (w0 : World) (line : ByteArray) (b bP B : Nat) (A : Option Addr) (n cp gr co : Nat) (fo : Bool) (o : Nat → Option Nat) (T : World → Nat → Prop) : Prop where
  frm : ∀ w w' S, T w S → Frm (fun k => B ≤ k) w w' → T w' S
  out : ∀ w S, T w S → Frm (fun _ => False) w0 w ∧ B ≤ w.heap.size
  blk : ∀ w S, T w S → Blk w bP [.slice A n cp, .int .i64 gr, .int .i64 co, .bool fo] 24
  l1 : ∀ w S (a : Nat), T w S → S ≤ 10000000000 → a ≤ line.size → Calls Try.prog 20 #[.pointer (some ⟨b, 0, none⟩), .string line, .int .i64 a] w fun e w' => e = .returned (.tuple #[.int .i64 ((o a).getD 0 : Nat), .bool (o a).isSome, .int .i64 0]) ∧ T w' (S + 2000001) ∧ Frm (fun k => k < B) w w'
  f1 : ∀ w S (a : Nat), T w S → S ≤ 10000000000 → a ≤ line.size → Calls Try.prog 21 #[.pointer (some ⟨b, 0, none⟩), .string line, .int .i64 a] w fun e w' => e = .returned (.tuple #[spanV (firstO o (line.size + 1 - a) a), .bool (firstO o (line.size + 1 - a) a).isSome, .int .i64 0]) ∧ T w' (S + 50000025) ∧ Frm (fun k => k < B) w w'
  l2 : ∀ w S (a : Nat), T w S → a ≤ line.size → Calls Try.prog 28 #[.agg #[.slice A n cp, .int .i64 gr, .int .i64 co, .bool fo], .string line, .int .i64 a] w fun e w' => ∃ st : Int, e = .returned (.tuple #[.int .i64 ((o a).getD 0 : Nat), .bool (o a).isSome, .int .i64 st, .int .i64 0]) ∧ T w' S ∧ Frm (fun k => k < B) w w'
  f2 : ∀ w S (a : Nat), T w S → a ≤ line.size → Calls Try.prog 29 #[.agg #[.slice A n cp, .int .i64 gr, .int .i64 co, .bool fo], .string line, .int .i64 a] w fun e w' => ∃ st : Int, e = .returned (.tuple #[spanV (firstO o (line.size + 1 - a) a), .bool (firstO o (line.size + 1 - a) a).isSome, .int .i64 st, .int .i64 0]) ∧ T w' S ∧ Frm (fun k => k < B) w w'
theorem one_T {w0 : World} {line : ByteArray} {B : Nat} {D G : Nat → Prop} {b bP : Nat} {A : Option Addr} {n cp gr co : Nat} {fo : Bool} {ins : List Ins} {st : Stt} {m : Mc} {F : Nat} (hl : line.size ≤ 24)
    (hW : MW m) (hi : 0 < m.ins.length) (hd : ∀ k, D k → k ≠ bP ∧ k < B) (hg : ∀ k, G k → k ≠ b ∧ k < B) (hb : b < B) (hbP : bP < B) (hne : b ≠ bP) (hg0 : w0.heap.size ≤ b)
    (hF : F ≤ 2000001) (hr : rightE ins gr co = 0) (hf : freeB ins = true)
    (ho : ∀ a, a ≤ line.size → ∀ st kp, ∃ r, ranS m line.toList F a st kp = some r ∧ r.best = oF ins line.toList a) :
    OneT w0 line b bP B A n cp gr co fo (oF ins line.toList) (One w0 B D G b bP A n cp gr co fo ins st m) := by
  have hfi := fine_of hr hf
  have hla := ba_lenF line
  constructor
  · rintro w w' S ⟨s1, k1, h1, h2, h3, q1, q3, q5, q6⟩ hf
    exact ⟨s1, k1, h1.frm hf (by omega) (fun k h => by have := hd k h; omega), h2.frm hf (by omega), h3.frm hf (fun k h => by have := hg k h; omega), q1, q3, q5.then hf (fun q hq hl => by have := q5.size; omega), by have := hf.size; omega⟩
  · rintro w S ⟨s1, k1, h1, h2, h3, q1, q3, q5, q6⟩
    exact ⟨q5, q6⟩
  · rintro w S ⟨s1, k1, h1, h2, h3, q1, q3, q5, q6⟩
    exact h2
  · rintro w S a ⟨s1, k1, h1, h2, h3, q1, q3, q5, q6⟩ hS ha
    obtain ⟨r, hr, hb⟩ := ho a ha s1 k1
    have hbd := run_bound _ _ _ _ hr
    simp only [List.length_nil, Nat.zero_add] at hbd
    refine (longestB (line := line) a _ r hW h1 ha (by omega) hi hr (by omega) (by omega) (by omega)).mono ?_
    rintro e w' ⟨rfl, h1', hf⟩
    rw [hb]
    exact ⟨rfl, ⟨r.steps, r.kept, h1', h2.frm hf (fun e => hne e.symm), h3.frm hf (fun k h e => (hg k h).1 e), by omega, by omega, q5.then hf (fun q hq hl => by omega), by have := hf.size; omega⟩, hf.mono (fun k _ h => by omega)⟩
  · rintro w S a ⟨s1, k1, h1, h2, h3, q1, q3, q5, q6⟩ hS ha
    obtain ⟨s, k, hr, r1, r2⟩ := find_ans (m := m) (L := line.toList) (o := oF ins line.toList) (F := F) (line.size + 1 - a) a s1 k1 (fun b _ h st kp => ho b (by omega) st kp)
    have : (line.size + 1 - a) * F ≤ 25 * 2000001 := Nat.mul_le_mul (by omega) hF
    refine (findB (line := line) a _ _ hW h1 ha (by omega) hi hr (by omega) (by omega) (by omega)).mono ?_
    rintro e w' ⟨rfl, h1', hf⟩
    exact ⟨rfl, ⟨s, k, h1', h2.frm hf (fun e => hne e.symm), h3.frm hf (fun k h e => (hg k h).1 e), by omega, by omega, q5.then hf (fun q hq hl => by omega), by have := hf.size; omega⟩, hf.mono (fun k _ h => by omega)⟩
  · rintro w S a ⟨s1, k1, h1, h2, h3, q1, q3, q5, q6⟩ ha
    obtain ⟨g1, g2⟩ := free_long (L := line.toList) hfi (a := a) (by omega)
    refine (longC A n cp gr co fo ins G line a w h3 (by omega)).mono ?_
    rintro e w' ⟨hf, ⟨hne, _⟩ | ⟨_, st3, rfl, _⟩⟩
    · exact absurd (begin_zero hr ‹freeB ins = true› line a (by omega) (by omega)) hne
    · refine ⟨st3, ?_, ⟨s1, k1, h1.frm hf (fun h => h) (fun _ _ h => h), h2.frm hf (fun h => h), h3.frm hf (fun _ _ h => h), q1, q3, q5.trans hf, by have := hf.size; omega⟩, hf.mono (fun _ h _ => h.elim)⟩
      rw [Int.toNat_natCast, g1, g2]
  · rintro w S a ⟨s1, k1, h1, h2, h3, q1, q3, q5, q6⟩ ha
    obtain ⟨g1, g2⟩ := free_find (L := line.toList) hfi (a := a) (by omega)
    rw [hla] at g1 g2
    refine (findC A n cp gr co fo ins G line a w h3 (by omega)).mono ?_
    rintro e w' ⟨hf, ⟨hne, _⟩ | ⟨_, st3, rfl, _⟩⟩
    · exact absurd (begin_zero hr ‹freeB ins = true› line a (by omega) (by omega)) hne
    · refine ⟨st3, ?_, ⟨s1, k1, h1.frm hf (fun h => h) (fun _ _ h => h), h2.frm hf (fun h => h), h3.frm hf (fun _ _ h => h), q1, q3, q5.trans hf, by have := hf.size; omega⟩, hf.mono (fun _ h _ => h.elim)⟩
      rw [Int.toNat_natCast, g1, g2]
/-- Between two places. -/
def FrL (T : World → Nat → Prop) (N : Nat) (i : Value) (wr : World) : Prop := ∃ k S : Nat, i = .int .i64 k ∧ k ≤ N + 1 ∧ S ≤ k * 52000026 ∧ T wr S
end Go.Proofs.Ytoadmpochaeohaa
end
