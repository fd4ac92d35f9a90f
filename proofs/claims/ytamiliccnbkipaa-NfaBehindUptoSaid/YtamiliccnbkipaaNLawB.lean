/-
  NfaBehind, walked: it answers true.
-/
import Derived.Test.YtamiliccnbkipaaNLawA
import Derived.Test.YtamiliccnbkipaaNBehindP
set_option linter.unusedVariables false
set_option linter.unusedSimpArgs false
namespace Go.Proofs.Ytamiliccnbkipaa
open Go.RowKit

theorem toList_extract (b : ByteArray) (n : Nat) (h : n ≤ b.size) : (b.extract 0 n).toList = b.toList.take n := by
  rw [ByteArray.toList_eq, ByteArray.toList_eq, ByteArray.data_extract, Array.toList_extract]
  simp [List.extract]

set_option maxHeartbeats 8000000 in
set_option maxRecDepth 100000 in
theorem lawB (A : Option Addr) (n cp : Nat) (gr co : Int) (fo : Bool) (ins : List Ins) (line more : ByteArray) (W : World) (hrd : Rd W (fun _ => True) 10 A n cp (flatI ins)) (hcp : cp ≤ maxLen) (hl : line.size ≤ 1048576) (hm : more.size ≤ 1048576) :
    Calls Try.prog 7 #[.agg #[.slice A n cp, .int .i64 gr, .int .i64 co, .bool fo], .string line, .string more] W fun e W' => e = .returned (.bool true) ∧ Frm (fun _ => False) W W' := by
  have hn : n ≤ 9223372036854775807 := Nat.le_trans hrd.cap (by simpa [maxLen] using hcp)
  have hf0 : Frm (fun _ => False) W (W.alloc (.cells #[.slice A n cp, .int .i64 gr, .int .i64 co, .bool fo] 24)) := (Frm.refl _ W).alloc _
  have hP := Blk.new W [.slice A n cp, .int .i64 gr, .int .i64 co, .bool fo] 24
  have hr0 := hrd.frm hf0 (fun _ _ h => h)
  go_enter Try.func7, Try.ntmps7
  go_upto_region 1 with fail
  generalize W.alloc (.cells #[.slice A n cp, .int .i64 gr, .int .i64 co, .bool fo] 24) = w1 at *
  go_wp2_with fail
  refine (knownC w1).mono ?_
  rintro e w2 ⟨rfl, hf2⟩
  have hP2 := hP.frm hf2 (fun h => h)
  have HH := Lib.hid (hasOpC A n cp gr co fo ins (fun _ => True) 5 w2 (hr0.frm hf2 (fun _ _ h => h)) hn)
  obtain ⟨c0, c1, c2, c3, g0, g1, g2, g3, l0⟩ := blk4 hP2
  go_wp2_with fail
  refine HH.out.mono ?_
  rintro e w3 ⟨rfl, hf3⟩
  have hP3 := hP2.frm hf3 (fun h => h)
  have hr3 := (hr0.frm hf2 (fun _ _ h => h)).frm hf3 (fun _ _ h => h)
  have HL := Lib.hid (longC A n cp gr co fo ins (fun _ => True) line 0 w3 hr3 (by omega))
  clear c0 c1 c2 c3 g0 g1 g2 g3 l0
  obtain ⟨c0, c1, c2, c3, g0, g1, g2, g3, l0⟩ := blk4 hP3
  go_wp2_with fail
  refine HL.out.mono ?_
  rintro e w4 ⟨hf4, ⟨hne, rfl⟩ | ⟨hz, st, rfl, _⟩⟩
  · have t1 : (beginE ins gr co line 0 != 0) = true := by simpa using hne
    have hfin := ((hf0.trans hf2).trans hf3).trans hf4
    clear hne
    go_wp2_with fail
    go_ret
    exact ⟨rfl, hfin⟩
  · have hP4 := hP3.frm hf4 (fun h => h)
    have hfin := ((hf0.trans hf2).trans hf3).trans hf4
    cases hh : hasOp ins 5 with
    | true =>
      go_wp2_with fail
      go_ret
      exact ⟨rfl, hfin⟩
    | false =>
      rw [show (0 : Int).toNat = 0 from rfl]
      obtain ⟨r, hr⟩ : ∃ r, findS ins line.toList 0 false = r := ⟨_, rfl⟩
      rw [hr]
      rcases r with _ | ⟨f, t⟩
      · simp only [bestT, Option.isSome_none]
        go_wp2_with fail
        go_ret
        exact ⟨rfl, hfin⟩
      · have hfi := (begin_fine hz).1
        have hno := no_op hh
        have hb := find_bounds (l := ins) (line := line.toList) 0 false (by omega) f t hr
        rw [toList_len] at hb
        obtain ⟨m, rfl⟩ : ∃ m : Nat, t = m := ⟨t.toNat, by omega⟩
        have hsz := size_append line more
        have hex : (line.extract 0 m).size = m := by
          rw [← toList_len, toList_extract line m (by omega), List.length_take, toList_len]; omega
        have hb1 := begin_zero hz (line ++ more) 0 (by omega) (by omega)
        have hb2 := begin_zero hz (line.extract 0 m) 0 (by omega) (by omega)
        obtain ⟨⟨g2', t2, hla, hle⟩, g3', hlb⟩ := behind_law ins hno line.toList more.toList f m (by rw [toList_len]; omega) hr
        have hb3 := find_bounds (l := ins) (line := line.toList ++ more.toList) 0 false (by omega) g2' t2 hla
        have hr4 := hr3.frm hf4 (fun _ _ h => h)
        have HL2 := Lib.hid (longC A n cp gr co fo ins (fun _ => True) (line ++ more) 0 w4 hr4 (by omega))
        rw [show (0 : Int).toNat = 0 from rfl, toList_append, hla] at HL2
        have hlb2 : findS ins (line.extract 0 m).toList 0 false = some (g3', (m : Int)) := by rw [toList_extract line m (by omega)]; exact hlb
        have HZ1 := Lib.hid hb1
        have HZ2 := Lib.hid hb2
        have HLB := Lib.hid hlb2
        have HSZ := Lib.hid (⟨hsz, hex⟩ : _ ∧ _)
        have hml : m ≤ line.size := by omega
        have hmz : (0 : Int) ≤ (m : Int) := by omega
        have hml2 : (m : Int) ≤ (line.size : Int) := by omega
        have hge : decide ((m : Int) ≤ t2) = true := decide_eq_true hle
        have hgt : decide (t2 < (m : Int)) = false := decide_eq_false (by omega)
        simp only [bestT, Option.isSome_some] at *
        clear hr hz hb1 hb2 hb3 hla hlb hlb2 hno hsz hex hh hb c0 c1 c2 c3 g0 g1 g2 g3 l0
        obtain ⟨c0, c1, c2, c3, g0, g1, g2, g3, l0⟩ := blk4 hP4
        go_wp2_with fail
        refine HL2.out.mono ?_
        rintro e w5 ⟨hf5, ⟨hne, _⟩ | ⟨_, st2, rfl, _⟩⟩
        · exact absurd HZ1.out hne
        · have hP5 := hP4.frm hf5 (fun h => h)
          have hr5 := hr4.frm hf5 (fun _ _ h => h)
          have HL3 : ∀ w', Frm (fun _ => False) w5 w' → Calls Try.prog 11 #[.agg #[.slice A n cp, .int .i64 gr, .int .i64 co, .bool fo], .string (line.extract 0 m), .int .i64 0] w' fun e w'' => Frm (fun _ => False) w' w'' ∧ ∃ st, e = .returned (.tuple #[.int .i64 m, .bool true, .int .i64 st, .int .i64 0]) := by
            intro w' hf
            refine (longC A n cp gr co fo ins (fun _ => True) (line.extract 0 m) 0 w' (hr5.frm hf (fun _ _ h => h)) (by have := HSZ.out.2; omega)).mono ?_
            rintro e w'' ⟨hf6, ⟨hne, _⟩ | ⟨_, st3, rfl, _⟩⟩
            · exact absurd HZ2.out hne
            · refine ⟨hf6, st3, ?_⟩
              rw [show (0 : Int).toNat = 0 from rfl, HLB.out]
              rfl
          have HL4 := Lib.hid HL3
          clear HL3 c0 c1 c2 c3 g0 g1 g2 g3 l0
          obtain ⟨c0, c1, c2, c3, g0, g1, g2, g3, l0⟩ := blk4 hP5
          have hfin5 := hfin.trans hf5
          simp only [bestT, Option.isSome_some]
          go_wp2_with fail
          go_region_law (refine step_call (f := 11) rfl rfl Try.func11 (by kernel_rfl) rfl _ (by simp only [List.map_toArray, List.map_cons, List.map_nil]; rfl) ?_; refine (HL4.out _ ((Frm.refl _ _).drew)).mono ?_; rintro e w6 ⟨hf6, st3, rfl⟩; refine ⟨_, rfl, ?_⟩)
          all_goals
            have hfin6 := (hfin5.drew).trans hf6
            go_wp2_with fail
            go_ret
            exact ⟨rfl, hfin6⟩
end Go.Proofs.Ytamiliccnbkipaa
