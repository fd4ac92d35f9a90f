/-
  NfaAhead, walked: it answers true.
-/
import Derived.Test.YtamiliccnbkipaaNLawE
import Derived.Test.YtamiliccnbkipaaNAheadP
import Derived.Test.YtamiliccnbkipaaNBound
set_option linter.unusedVariables false
set_option linter.unusedSimpArgs false
namespace Go.Proofs.Ytamiliccnbkipaa
open Go.RowKit

theorem toList_append (a b : ByteArray) : (a ++ b).toList = a.toList ++ b.toList := by
  rw [ByteArray.toList_eq, ByteArray.toList_eq, ByteArray.toList_eq]; simp
theorem size_append (a b : ByteArray) : (a ++ b).size = a.size + b.size := by
  rw [← toList_len, toList_append, List.length_append, toList_len, toList_len]

set_option maxHeartbeats 8000000 in
set_option maxRecDepth 100000 in
theorem lawA (A : Option Addr) (n cp : Nat) (gr co : Int) (fo : Bool) (ins : List Ins) (ahead line : ByteArray) (W : World) (hrd : Rd W (fun _ => True) 10 A n cp (flatI ins)) (hcp : cp ≤ maxLen) (ha : ahead.size ≤ 1048576) (hl : line.size ≤ 1048576) :
    Calls Try.prog 6 #[.agg #[.slice A n cp, .int .i64 gr, .int .i64 co, .bool fo], .string ahead, .string line] W fun e W' => e = .returned (.bool true) ∧ Frm (fun _ => False) W W' := by
  have hn : n ≤ 9223372036854775807 := Nat.le_trans hrd.cap (by simpa [maxLen] using hcp)
  have hf0 : Frm (fun _ => False) W (W.alloc (.cells #[.slice A n cp, .int .i64 gr, .int .i64 co, .bool fo] 24)) := (Frm.refl _ W).alloc _
  have hP := Blk.new W [.slice A n cp, .int .i64 gr, .int .i64 co, .bool fo] 24
  have hr0 := hrd.frm hf0 (fun _ _ h => h)
  go_enter Try.func6, Try.ntmps6
  go_upto_region 1 with fail
  generalize W.alloc (.cells #[.slice A n cp, .int .i64 gr, .int .i64 co, .bool fo] 24) = w1 at *
  go_wp2_with fail
  refine (knownC w1).mono ?_
  rintro e w2 ⟨rfl, hf2⟩
  have hP2 := hP.frm hf2 (fun h => h)
  have HH := Lib.hid (hasOpC A n cp gr co fo ins (fun _ => True) 4 w2 (hr0.frm hf2 (fun _ _ h => h)) hn)
  obtain ⟨c0, c1, c2, c3, g0, g1, g2, g3, l0⟩ := blk4 hP2
  go_wp2_with fail
  refine HH.out.mono ?_
  rintro e w3 ⟨rfl, hf3⟩
  have hP3 := hP2.frm hf3 (fun h => h)
  have hr3 := (hr0.frm hf2 (fun _ _ h => h)).frm hf3 (fun _ _ h => h)
  have HL := Lib.hid (longC A n cp gr co fo ins (fun _ => True) line 0 w3 hr3 (by omega))
  clear c0 c1 c2 c3 g0 g1 g2 g3 l0
  obtain ⟨c0, c1, c2, c3, g0, g1, g2, g3, l0⟩ := blk4 hP3
  go_wp2_with fail
  refine HL.out.mono ?_
  rintro e w4 ⟨hf4, ⟨hne, rfl⟩ | ⟨hz, st, rfl, _⟩⟩
  · have t1 : (beginE ins gr co line 0 != 0) = true := by simpa using hne
    have hfin := ((hf0.trans hf2).trans hf3).trans hf4
    clear hne
    go_wp2_with fail
    go_ret
    exact ⟨rfl, hfin⟩
  · have hP4 := hP3.frm hf4 (fun h => h)
    cases hh : hasOp ins 4 with
    | true =>
      have hfin := ((hf0.trans hf2).trans hf3).trans hf4
      go_wp2_with fail
      go_ret
      exact ⟨rfl, hfin⟩
    | false =>
      have hfi := (begin_fine hz).1
      have hno := no_op hh
      have hsz := size_append ahead line
      have hb1 := begin_zero hz (ahead ++ line) ahead.size (by omega) (by omega)
      have hla := ahead_law (line := line.toList) (ahead := ahead.toList) hno false 0 (by omega)
      have hlb := ahead_law (line := line.toList) (ahead := ahead.toList) hno true 0 (by omega)
      have hba := find_bounds (l := ins) (line := line.toList) 0 false (by omega)
      have hbb := find_bounds (l := ins) (line := line.toList) 0 true (by omega)
      rw [Nat.zero_add, toList_len] at hla hlb
      rw [toList_len] at hba hbb
      have hr4 := hr3.frm hf4 (fun _ _ h => h)
      have HL2 := Lib.hid (longC A n cp gr co fo ins (fun _ => True) (ahead ++ line) ahead.size w4 hr4 (by omega))
      rw [show (0 : Int).toNat = 0 from rfl]
      rw [Int.toNat_natCast, toList_append, hla] at HL2
      have HZ := Lib.hid hz
      have HZ1 := Lib.hid hb1
      have HLB := Lib.hid hlb
      have HNN := Lib.hid hno
      have HSZ := Lib.hid hsz
      generalize findS ins line.toList 0 false = r at *
      obtain ⟨r2, hr2⟩ : ∃ r2, findS ins line.toList 0 true = r2 := ⟨_, rfl⟩
      rw [hr2] at hbb HLB
      have HR2 := Lib.hid hr2
      have HBA := Lib.hid hba
      have HBB := Lib.hid hbb
      clear hz hb1 hh hla hlb hno hsz hr2 hba hbb c0 c1 c2 c3 g0 g1 g2 g3 l0
      obtain ⟨c0, c1, c2, c3, g0, g1, g2, g3, l0⟩ := blk4 hP4
      go_wp2_with fail
      refine HL2.out.mono ?_
      rintro e w5 ⟨hf5, ⟨hne, _⟩ | ⟨_, st2, rfl, _⟩⟩
      · exact absurd HZ1.out hne
      · have hP5 := hP4.frm hf5 (fun h => h)
        have hr5 := hr4.frm hf5 (fun _ _ h => h)
        have HF := Lib.hid (findC A n cp gr co fo ins (fun _ => True) line 0 w5 hr5 (by omega))
        rw [show (0 : Int).toNat = 0 from rfl, HR2.out] at HF
        clear c0 c1 c2 c3 g0 g1 g2 g3 l0
        obtain ⟨c0, c1, c2, c3, g0, g1, g2, g3, l0⟩ := blk4 hP5
        go_wp2_with fail
        refine HF.out.mono ?_
        rintro e w6 ⟨hf6, ⟨hne, _⟩ | ⟨_, st3, rfl, _⟩⟩
        · exact absurd HZ.out hne
        · have hP6 := (hP5.frm hf6 (fun h => h)).alloc (.cells #[.int .i64 (bestF r2), .int .i64 (bestT r2)] 37)
          have hS6 := Blk.new w6 [.int .i64 (bestF r2), .int .i64 (bestT r2)] 37
          have hr6 := (hr5.frm hf6 (fun _ _ h => h)).alloc (.cells #[.int .i64 (bestF r2), .int .i64 (bestT r2)] 37)
          have hf7 := (((((hf0.trans hf2).trans hf3).trans hf4).trans hf5).trans hf6).alloc (.cells #[.int .i64 (bestF r2), .int .i64 (bestT r2)] 37)
          clear c0 c1 c2 c3 g0 g1 g2 g3 l0
          go_upto_region 9 with fail
          generalize w6.alloc (.cells #[.int .i64 (bestF r2), .int .i64 (bestT r2)] 37) = w7 at *
          generalize w6.heap.size = b6 at *
          have HF2 := Lib.hid (findC A n cp gr co fo ins (fun _ => True) (ahead ++ line) ahead.size w7 hr6 (by have := HSZ.out; omega))
          rw [Int.toNat_natCast, toList_append, HLB.out] at HF2
          obtain ⟨c0, c1, c2, c3, g0, g1, g2, g3, l0⟩ := blk4 hP6
          go_wp2_with fail
          refine HF2.out.mono ?_
          rintro e w8 ⟨hf8, ⟨hne, _⟩ | ⟨_, st4, rfl, _⟩⟩
          · exact absurd HZ1.out hne
          · have hS8 := hS6.frm hf8 (fun h => h)
            obtain ⟨s0, s1, z0, z1, ls⟩ := blk2 hS8
            have hfin := (hf7.trans hf8).alloc (.cells #[.int .i64 (bestF (shB ahead.size r2)), .int .i64 (bestT (shB ahead.size r2))] 37)
            clear c0 c1 c2 c3 g0 g1 g2 g3 l0
            rcases r with _ | ⟨f, t⟩
            · rcases r2 with _ | ⟨f2, t2⟩
              · simp only [shB, Option.map_none, bestF, bestT, Option.isSome_none] at *
                go_wp2_with fail
                go_ret
                exact ⟨rfl, hfin⟩
              · have hb2 := HBB.out f2 t2 rfl
                have hw1 : IntKind.i64.wrap (f2 + (ahead.size : Int)) = f2 + (ahead.size : Int) := IntWalk.i64_in _ (by omega)
                have hw2 : IntKind.i64.wrap (t2 + (ahead.size : Int)) = t2 + (ahead.size : Int) := IntWalk.i64_in _ (by omega)
                simp only [shB, Option.map_none, Option.map_some, bestF, bestT, Option.isSome_none, Option.isSome_some] at *
                go_wp2_with fail
                go_ret
                exact ⟨rfl, hfin⟩
            · have hb1 := HBA.out f t rfl
              have hw0 : IntKind.i64.wrap (t + (ahead.size : Int)) = t + (ahead.size : Int) := IntWalk.i64_in _ (by omega)
              rcases r2 with _ | ⟨f2, t2⟩
              · simp only [shB, Option.map_none, Option.map_some, bestF, bestT, Option.isSome_none, Option.isSome_some] at *
                go_wp2_with fail
                go_ret
                exact ⟨rfl, hfin⟩
              · have hb2 := HBB.out f2 t2 rfl
                have hw1 : IntKind.i64.wrap (f2 + (ahead.size : Int)) = f2 + (ahead.size : Int) := IntWalk.i64_in _ (by omega)
                have hw2 : IntKind.i64.wrap (t2 + (ahead.size : Int)) = t2 + (ahead.size : Int) := IntWalk.i64_in _ (by omega)
                simp only [shB, Option.map_none, Option.map_some, bestF, bestT, Option.isSome_none, Option.isSome_some] at *
                go_wp2_with fail
                go_ret
                exact ⟨rfl, hfin⟩
end Go.Proofs.Ytamiliccnbkipaa
