/-
  'Longest' and 'Find', walked.
-/
import Derived.Test.YtamiliccnbkipaaNBegin
import Derived.Test.YtamiliccnbkipaaNPlayC
set_option linter.unusedVariables false
set_option linter.unusedSimpArgs false
namespace Go.Proofs.Ytamiliccnbkipaa
open Go.RowKit

theorem withinB_true {u : Bool} {x b : Int} (h : withinB u x b = true) (hu : u = true) : 0 ≤ x ∧ x < b := by
  subst hu; simpa [withinB] using h
/-- A right, free program. -/
theorem fine_of {l : List Ins} {gr co : Int} (h : rightE l gr co = 0) (hf : freeB l = true) : Fine l := by
  unfold rightE at h
  split at h
  · cases h
  · rename_i h1
    split at h
    · cases h
    · split at h
      · cases h
      · rename_i h3
        split at h
        · rename_i h4
          have hb : ∀ (k : Nat) (i : Ins), l[k]? = some i → fineB l.length gr co k i = true := by
            intro k i hi
            have hk := (List.getElem?_eq_some_iff.1 hi).1
            have := (List.all_eq_true.1 h4) k (List.mem_range.2 hk)
            simpa [fineAt, hi] using this
          refine ⟨by omega, by omega, fun k i hi ho => ?_, fun k i hi ho => ?_, fun k i hi ho => ?_⟩
          · have := hb k i hi
            simp only [fineB, Bool.and_eq_true] at this
            obtain ⟨⟨⟨⟨⟨⟨_, _⟩, hx⟩, hy⟩, _⟩, _⟩, _⟩ := this
            have h5 := withinB_true hx (by simp [ofV, ho])
            have h6 := withinB_true hy (by simp [ofV, ho])
            omega
          · have := hb k i hi
            simp only [fineB, Bool.and_eq_true] at this
            obtain ⟨⟨⟨⟨⟨⟨_, _⟩, hx⟩, hy⟩, _⟩, _⟩, _⟩ := this
            exact withinB_true hx (by simp [ofV, ho])
          · have := hb k i hi
            simp only [fineB, Bool.and_eq_true] at this
            have h7 := this.2
            have hn : (ofV i.op).next = true := by rcases ho with ho | ho | ho | ho | ho <;> simp [ofV, ho]
            rw [hn] at h7
            simpa using h7
        · cases h
theorem begin_fine {l : List Ins} {gr co : Int} {line : ByteArray} {at_ : Int} (h : beginE l gr co line at_ = 0) : Fine l ∧ ∃ a : Nat, at_ = a ∧ a ≤ line.size := by
  unfold beginE at h
  split at h
  · rename_i h1; exact absurd h h1
  · rename_i h1
    split at h
    · cases h
    · rename_i h2
      split at h
      · cases h
      · rename_i h3
        refine ⟨fine_of (by simpa using h1) (by simpa using h2), at_.toNat, by omega, by omega⟩

theorem results_four {P : Program} {w : World} {fn : Func} {r r2 r3 r4 : ResultVar} {v v2 v3 v4 : Value} {tmps : Array Value} (h : fn.results = #[r, r2, r3, r4]) (hv : RV P tmps w r v) (hv2 : RV P tmps w r2 v2) (hv3 : RV P tmps w r3 v3) (hv4 : RV P tmps w r4 v4) : (results fn tmps).run P w = .ok (.tuple #[v, v2, v3, v4]) w := by
  unfold results
  rw [h]
  unfold RV at hv hv2 hv3 hv4
  simp only [List.mapM_toArray, List.mapM_cons, List.mapM_nil, Sem.run_bind, Sem.run_map]
  cases r <;> cases r2 <;> cases r3 <;> cases r4 <;> simp_all

/-- What is told of the steps: of how many there may be, where the numbers are small. -/
def StepsB (n : Nat) (line : ByteArray) (a : Nat) (st : Int) : Prop := (n : Int) * (line.size + 2) ≤ 4611686018427387904 → 0 ≤ st ∧ st ≤ n * ((line.size : Int) + 2 - a)

/-- The steps themselves, where the numbers are small. -/
def StepsN (n : Nat) (line : ByteArray) (st : Int) (N : Nat) : Prop := (n : Int) * (line.size + 2) ≤ 4611686018427387904 → st = N

set_option maxHeartbeats 4000000 in
set_option maxRecDepth 100000 in
theorem longC2 (A : Option Addr) (n cp : Nat) (gr co : Int) (fo : Bool) (ins : List Ins) (G : Nat → Prop) (line : ByteArray) (at_ : Int) (w : World) (hrd : Rd w G 10 A n cp (flatI ins)) (hline : line.size ≤ 9223372036854775807) :
    Calls Try.prog 11 #[.agg #[.slice A n cp, .int .i64 gr, .int .i64 co, .bool fo], .string line, .int .i64 at_] w fun e w' => Frm (fun _ => False) w w' ∧
      ((beginE ins gr co line at_ ≠ 0 ∧ e = .returned (.tuple #[.int .i64 0, .bool false, .int .i64 0, .int .i64 (beginE ins gr co line at_)])) ∨
      (beginE ins gr co line at_ = 0 ∧ ∃ st, e = .returned (.tuple #[.int .i64 (bestT (findS ins line.toList at_.toNat false)), .bool (findS ins line.toList at_.toNat false).isSome, .int .i64 st, .int .i64 0]) ∧ StepsB n line at_.toNat st ∧ StepsN n line st (findN ins line.toList at_.toNat false))) := by
  have hf0 : Frm (fun _ => False) w (w.alloc (.cells #[.slice A n cp, .int .i64 gr, .int .i64 co, .bool fo] 24)) := (Frm.refl _ w).alloc _
  have hP := Blk.new w [.slice A n cp, .int .i64 gr, .int .i64 co, .bool fo] 24
  have p0 := hP.cell 0
  have p1 := hP.cell 1
  have p2 := hP.cell 2
  have p3 := hP.cell 3
  simp only [List.getElem?_cons_zero, List.getElem?_cons_succ] at p0 p1 p2 p3
  have hlp := hP.lt
  obtain ⟨be, hbe⟩ : ∃ be, beginE ins gr co line at_ = be := ⟨_, rfl⟩
  obtain ⟨r, hr⟩ : ∃ r, findS ins line.toList at_.toNat false = r := ⟨_, rfl⟩
  rw [hbe, hr]
  have HR := Lib.hid hr
  clear hr
  go_enter Try.func11, Try.ntmps11
  go_upto_region 1 with fail
  generalize w.alloc (.cells #[.slice A n cp, .int .i64 gr, .int .i64 co, .bool fo] 24) = w1 at *
  have HBC := Lib.hid (beginC A n cp gr co fo ins (fun k => G k ∧ k < w.heap.size) line at_ w1 (hrd.low.frm hf0 (fun _ _ h => h)))
  have hRD := hrd.low.frm hf0 (fun _ _ h => h)
  have hs1 := hf0.size
  rw [hbe] at HBC
  have HBE := Lib.hid hbe
  clear hbe
  go_wp2_with fail
  refine HBC.out.mono ?_
  rintro e w2 (⟨hne, rfl, hf2⟩ | ⟨hz, x, col, bn, bx, vf, vt, rfl, hpl, hf2⟩)
  · have t1 : (be != 0) = true := by simpa using hne
    have HN := Lib.hid hne
    clear hne
    go_wp2_with fail
    refine bodyPost_ret (results_four rfl (RV.tmp rfl) (RV.tmp rfl) (RV.tmp rfl) (RV.tmp rfl)) rfl ?_
    exact ⟨hf0.trans hf2, .inl ⟨HN.out, rfl⟩⟩
  · obtain ⟨hfi, a, rfl, ha⟩ := begin_fine (HBE.out.trans hz)
    subst hz
    have hf3 : Frm (fun _ => False) w w2 := hf0.trans hf2
    have HPL := Lib.hid (play _ col x A n cp gr co fo line bn bx vf vt _ _ _ _ ins (fun k => G k ∧ k < w.heap.size) a false w2 hpl (hRD.frm hf2 (fun _ _ h => h)) (fun k h1 h2 => by omega) hfi ha hline)
    clear hpl hfi
    have hr2 := HR.out
    rw [Int.toNat_natCast] at hr2
    rw [hr2] at HPL
    clear hr2
    go_wp2_with fail
    refine HPL.out.mono ?_
    rintro e w3 ⟨rfl, hf4, st, hst, hxl, hstb⟩
    have HST := Lib.hid hstb
    clear hstb
    go_wp2_with fail
    go_region
    all_goals
      go_wp2_with fail
      refine bodyPost_ret (results_four rfl (RV.tmp rfl) (RV.tmp rfl) (RV.tmp rfl) (RV.tmp rfl)) rfl ?_
      refine ⟨?_, st, rfl, fun h => ⟨(HST.out h).1, (HST.out h).2.1⟩, fun h => (HST.out h).2.2⟩
      exact ((hf3.then hf4 (fun i hi hl => by omega)).alloc _).drew

theorem longC (A : Option Addr) (n cp : Nat) (gr co : Int) (fo : Bool) (ins : List Ins) (G : Nat → Prop) (line : ByteArray) (at_ : Int) (w : World) (hrd : Rd w G 10 A n cp (flatI ins)) (hline : line.size ≤ 9223372036854775807) :
    Calls Try.prog 11 #[.agg #[.slice A n cp, .int .i64 gr, .int .i64 co, .bool fo], .string line, .int .i64 at_] w fun e w' => Frm (fun _ => False) w w' ∧
      ((beginE ins gr co line at_ ≠ 0 ∧ e = .returned (.tuple #[.int .i64 0, .bool false, .int .i64 0, .int .i64 (beginE ins gr co line at_)])) ∨
      (beginE ins gr co line at_ = 0 ∧ ∃ st, e = .returned (.tuple #[.int .i64 (bestT (findS ins line.toList at_.toNat false)), .bool (findS ins line.toList at_.toNat false).isSome, .int .i64 st, .int .i64 0]) ∧ StepsB n line at_.toNat st)) :=
  (longC2 A n cp gr co fo ins G line at_ w hrd hline).mono (by
    rintro e w' ⟨hf, ⟨h1, h2⟩ | ⟨h1, st, h2, h3, _⟩⟩
    · exact ⟨hf, .inl ⟨h1, h2⟩⟩
    · exact ⟨hf, .inr ⟨h1, st, h2, h3⟩⟩)

set_option maxHeartbeats 4000000 in
set_option maxRecDepth 100000 in
theorem findC2 (A : Option Addr) (n cp : Nat) (gr co : Int) (fo : Bool) (ins : List Ins) (G : Nat → Prop) (line : ByteArray) (at_ : Int) (w : World) (hrd : Rd w G 10 A n cp (flatI ins)) (hline : line.size ≤ 9223372036854775807) :
    Calls Try.prog 16 #[.agg #[.slice A n cp, .int .i64 gr, .int .i64 co, .bool fo], .string line, .int .i64 at_] w fun e w' => Frm (fun _ => False) w w' ∧
      ((beginE ins gr co line at_ ≠ 0 ∧ e = .returned (.tuple #[.agg #[.int .i64 0, .int .i64 0], .bool false, .int .i64 0, .int .i64 (beginE ins gr co line at_)])) ∨
      (beginE ins gr co line at_ = 0 ∧ ∃ st, e = .returned (.tuple #[.agg #[.int .i64 (bestF (findS ins line.toList at_.toNat true)), .int .i64 (bestT (findS ins line.toList at_.toNat true))], .bool (findS ins line.toList at_.toNat true).isSome, .int .i64 st, .int .i64 0]) ∧ StepsB n line at_.toNat st ∧ StepsN n line st (findN ins line.toList at_.toNat true))) := by
  have hf0 : Frm (fun _ => False) w ((w.alloc (.cells #[.slice A n cp, .int .i64 gr, .int .i64 co, .bool fo] 24)).alloc (.cells #[.int .i64 0, .int .i64 0] 37)) := ((Frm.refl _ w).alloc _).alloc _
  have hP := (Blk.new w [.slice A n cp, .int .i64 gr, .int .i64 co, .bool fo] 24).alloc (.cells #[.int .i64 0, .int .i64 0] 37)
  have hS := Blk.new (w.alloc (.cells #[.slice A n cp, .int .i64 gr, .int .i64 co, .bool fo] 24)) [.int .i64 0, .int .i64 0] 37
  rw [World.size_alloc] at hS
  have p0 := hP.cell 0
  have p1 := hP.cell 1
  have p2 := hP.cell 2
  have p3 := hP.cell 3
  simp only [List.getElem?_cons_zero, List.getElem?_cons_succ] at p0 p1 p2 p3
  have hlp := hP.lt
  obtain ⟨be, hbe⟩ : ∃ be, beginE ins gr co line at_ = be := ⟨_, rfl⟩
  obtain ⟨r, hr⟩ : ∃ r, findS ins line.toList at_.toNat true = r := ⟨_, rfl⟩
  rw [hbe, hr]
  have HR := Lib.hid hr
  clear hr
  go_enter Try.func16, Try.ntmps16
  go_upto_region 1 with fail
  generalize (w.alloc (.cells #[.slice A n cp, .int .i64 gr, .int .i64 co, .bool fo] 24)).alloc (.cells #[.int .i64 0, .int .i64 0] 37) = w1 at *
  have HBC := Lib.hid (beginC A n cp gr co fo ins (fun k => G k ∧ k < w.heap.size) line at_ w1 (hrd.low.frm hf0 (fun _ _ h => h)))
  have hRD := hrd.low.frm hf0 (fun _ _ h => h)
  have hs1 := hf0.size
  rw [hbe] at HBC
  have HBE := Lib.hid hbe
  clear hbe
  generalize hbs : w.heap.size + 1 = bs at *
  go_wp2_with fail
  refine HBC.out.mono ?_
  rintro e w2 (⟨hne, rfl, hf2⟩ | ⟨hz, x, col, bn, bx, vf, vt, rfl, hpl, hf2⟩)
  · have t1 : (be != 0) = true := by simpa using hne
    have hS2 := hS.frm hf2 (fun h => h)
    obtain ⟨s0, s1, s2, s3, s4⟩ := blk2 hS2
    have HN := Lib.hid hne
    clear hne
    go_wp2_with fail
    refine bodyPost_ret (results_four rfl (RV.cell rfl ((hS2.setSame 0 (.int .i64 0)).setSame 1 (.int .i64 0)) Try.underlying37 rfl (by kernel_rfl)) (RV.tmp rfl) (RV.tmp rfl) (RV.tmp rfl)) rfl ?_
    exact ⟨(((hf0.trans hf2).set bs 0 _ (fun h => by omega)).set bs 1 _ (fun h => by omega)), .inl ⟨HN.out, rfl⟩⟩
  · obtain ⟨hfi, a, rfl, ha⟩ := begin_fine (HBE.out.trans hz)
    subst hz
    have hf3 : Frm (fun _ => False) w w2 := hf0.trans hf2
    have HPL := Lib.hid (play _ col x A n cp gr co fo line bn bx vf vt _ _ _ _ ins (fun k => G k ∧ k < w.heap.size) a true w2 hpl (hRD.frm hf2 (fun _ _ h => h)) (fun k h1 h2 => by omega) hfi ha hline)
    have hS2 := hS.frm hf2 (fun h => h)
    clear hpl hfi
    have hr2 := HR.out
    rw [Int.toNat_natCast] at hr2
    rw [hr2] at HPL
    clear hr2
    have hbs1 : bs < w1.heap.size := hS.lt
    go_wp2_with fail
    refine HPL.out.mono ?_
    rintro e w3 ⟨rfl, hf4, st, hst, hxl, hstb⟩
    have hS3 := hS2.frm hf4 (fun h => by omega)
    obtain ⟨s0, s1, s2, s3, s4⟩ := blk2 hS3
    have HST := Lib.hid hstb
    clear hstb
    have hS4 := hS3.alloc (.cells #[.int .i64 (bestF r), .int .i64 (bestT r)] 37)
    have hX := Blk.new w3 [.int .i64 (bestF r), .int .i64 (bestT r)] 37
    go_wp2_with fail
    go_region
    all_goals
      go_wp2_with fail
      refine bodyPost_ret (results_four rfl (RV.cell rfl ((((hS3.setSame 0 (.int .i64 (bestF r))).setSame 1 (.int .i64 (bestT r))).alloc _).drew) Try.underlying37 rfl (by kernel_rfl)) (RV.tmp rfl) (RV.tmp rfl) (RV.tmp rfl)) rfl ?_
      refine ⟨?_, st, rfl, fun h => ⟨(HST.out h).1, (HST.out h).2.1⟩, fun h => (HST.out h).2.2⟩
      exact ((((hf3.then hf4 (fun i hi hl => by omega)).set bs 0 _ (fun h => by omega)).set bs 1 _ (fun h => by omega)).alloc _).drew
theorem findC (A : Option Addr) (n cp : Nat) (gr co : Int) (fo : Bool) (ins : List Ins) (G : Nat → Prop) (line : ByteArray) (at_ : Int) (w : World) (hrd : Rd w G 10 A n cp (flatI ins)) (hline : line.size ≤ 9223372036854775807) :
    Calls Try.prog 16 #[.agg #[.slice A n cp, .int .i64 gr, .int .i64 co, .bool fo], .string line, .int .i64 at_] w fun e w' => Frm (fun _ => False) w w' ∧
      ((beginE ins gr co line at_ ≠ 0 ∧ e = .returned (.tuple #[.agg #[.int .i64 0, .int .i64 0], .bool false, .int .i64 0, .int .i64 (beginE ins gr co line at_)])) ∨
      (beginE ins gr co line at_ = 0 ∧ ∃ st, e = .returned (.tuple #[.agg #[.int .i64 (bestF (findS ins line.toList at_.toNat true)), .int .i64 (bestT (findS ins line.toList at_.toNat true))], .bool (findS ins line.toList at_.toNat true).isSome, .int .i64 st, .int .i64 0]) ∧ StepsB n line at_.toNat st)) :=
  (findC2 A n cp gr co fo ins G line at_ w hrd hline).mono (by
    rintro e w' ⟨hf, ⟨h1, h2⟩ | ⟨h1, st, h2, h3, _⟩⟩
    · exact ⟨hf, .inl ⟨h1, h2⟩⟩
    · exact ⟨hf, .inr ⟨h1, st, h2, h3⟩⟩)

end Go.Proofs.Ytamiliccnbkipaa
