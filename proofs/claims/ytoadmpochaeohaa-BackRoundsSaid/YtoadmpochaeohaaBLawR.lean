/-
  Layer 20: BackRounds' law, walked.
-/
import Derived.Test.YtoadmpochaeohaaBPick
set_option linter.unusedVariables false
set_option linter.unusedSimpArgs false
set_option maxRecDepth 100000
namespace Go.Proofs.Ytoadmpochaeohaa
open Go.RowKit

def roundP (k a : Nat) : List Ins := (List.range k).map (fun (i : Nat) => I0 2 ((i : Int) + 1) (a : Int))
theorem roundP_snoc (k a : Nat) : roundP (k + 1) a = roundP k a ++ [I0 2 ((k : Int) + 1) a] := by unfold roundP; rw [List.range_succ, List.map_append]; rfl
theorem flatI_app (l m : List Ins) : flatI (l ++ m) = flatI l ++ flatI m := by simp [flatI]
/-- Between two instructions. -/
def RB (w0 : World) (bP kk a : Nat) (i : Value) (wr : World) : Prop :=
  ∃ (k : Nat) (v : Value), i = .int .i64 k ∧ k ≤ kk ∧ Frm (fun q => q = bP) w0 wr ∧ Blk wr bP [v, .int .i64 0, .int .i64 0, .bool false] 24 ∧ Sl wr (fun q => w0.heap.size ≤ q) 39 10 v k (flatI (roundP k a))

attribute [local go_sem high] run_eqSpan13
attribute [local go_sem] eqGuard50

set_option maxHeartbeats 16000000 in
theorem lawRoundsB (k0 at0 : Int) (pl : Bool) (w : World) (hk1 : -9223372036854775808 ≤ k0 ∧ k0 ≤ 9223372036854775807) (ha1 : -9223372036854775808 ≤ at0 ∧ at0 ≤ 9223372036854775807) :
    Calls Try.prog 9 #[.int .i64 k0, .int .i64 at0, .bool pl] w fun e w' => e = .returned (.bool true) ∧ Frm (fun _ => False) w w' := by
  have HK := Lib.hid (knownC w)
  obtain ⟨kk, hkk⟩ : ∃ kk : Nat, 1 + pickN k0 6 = kk := ⟨_, rfl⟩
  have hkb : 1 ≤ kk ∧ kk ≤ 6 := by have := pickN_lt k0 6 (by omega); omega
  have HPK := Lib.hid (fun w => pick_calls k0 6 w hk1.1 hk1.2 (by omega) (by omega))
  have HPA := Lib.hid (fun w => pick_calls at0 (kk : Int) w ha1.1 ha1.2 (by omega) (by omega))
  obtain ⟨a, ha⟩ : ∃ a : Nat, pickN at0 kk = a := ⟨_, rfl⟩
  have hab : a < kk := by have := pickN_lt at0 kk (by omega); omega
  rw [ha] at HPA
  have hw1 : IntKind.i64.wrap (1 + (pickN k0 6 : Int)) = (kk : Int) := by rw [IntWalk.i64_in _ (by omega)]; omega
  obtain ⟨s1, k1, s2, k2, s3, k3, hT⟩ := roundT kk a pl (by omega) hab
  have HT := Lib.hid hT
  clear ha hT hkk
  go_enter Try.func9, Try.ntmps9
  go_wp2_with fail
  refine HK.out.mono ?_
  rintro e w1 ⟨rfl, hf1⟩
  go_wp2_with fail
  refine (HPK.out w1).mono ?_
  rintro e w1' ⟨rfl, rfl⟩
  have hP := Blk.new w1 [.slice none 0 0, .int .i64 0, .int .i64 0, .bool false] 24
  have hf2 := hf1.alloc (.cells #[.slice none 0 0, .int .i64 0, .int .i64 0, .bool false] 24)
  have hzw := hf1.size
  clear hf1
  go_upto_region 4 with fail
  generalize w1.alloc (.cells #[.slice none 0 0, .int .i64 0, .int .i64 0, .bool false] 24) = w2 at *
  obtain ⟨bP, hbP⟩ : ∃ bP, w1.heap.size = bP := ⟨_, rfl⟩
  simp only [hbP] at hP hzw ⊢
  clear hbP
  have hlP := hP.lt
  have hrb : RB w2 bP kk a (.int .i64 0) w2 := ⟨0, _, rfl, by omega, Frm.refl _ _, hP, Sl.nil⟩
  have HRB := Lib.hid hrb
  clear hrb hP
  go_wp2_with fail
  go_loopw [9] (fun i wr => RB w2 bP kk a i wr) (fun i _ => kk - (intOf i).toNat)
  case atStart => exact HRB.out
  case round =>
    clear HRB
    obtain ⟨k, v, rfl, hk, hfr, hP, hS⟩ := hrel
    obtain ⟨A, c, rfl⟩ := hS.form
    by_cases hkk : k < kk
    · obtain ⟨x0, x1, x2, x3, y0, y1, y2, y3, lx⟩ := blk4 hP
      have hw2 : IntKind.i64.wrap ((k : Int) + 1) = ((k + 1 : Nat) : Int) := by rw [IntWalk.i64_in _ (by omega)]; omega
      go_upto_region 7 with fail
      go_wp2_with fail
      go_region_law (first
        | (refine step_call (f := 22) rfl rfl Try.func22 (by kernel_rfl) rfl _ (by simp only [List.map_toArray, List.map_cons, List.map_nil]; rfl) ?_; refine (HPA.out _).mono ?_; rintro e w' ⟨rfl, rfl⟩; refine ⟨_, rfl, ?_⟩)
        | (refine step_append rfl _ _ _ rfl 39 _ 10 80 Try.underlying22 infoIns rfl (by omega) ((hS.low.alloc (.cells #[.int .i64 2, .int .i64 ((k : Int) + 1), .int .i64 (a : Int), .int .i64 0, .int .i64 0, .int .i64 0, .int .u64 0, .int .u64 0, .int .u64 0, .int .u64 0] 39)).drew) rfl ⟨wr.heap.size, 0, none⟩ 1 1 [.int .i64 2, .int .i64 ((k : Int) + 1), .int .i64 (a : Int), .int .i64 0, .int .i64 0, .int .i64 0, .int .u64 0, .int .u64 0, .int .u64 0, .int .u64 0] rfl rfl (fun j u hu => ((Blk.new wr [.int .i64 2, .int .i64 ((k : Int) + 1), .int .i64 (a : Int), .int .i64 0, .int .i64 0, .int .i64 0, .int .u64 0, .int .u64 0, .int .u64 0, .int .u64 0] 39).drew.cellAdd 0 j).trans (by rw [Nat.zero_add]; exact hu)) (flatI_one [I0 2 ((k : Int) + 1) (a : Int)]) (by simp only [maxLen]; omega) (by omega) ?_; intro v3 w3 hf3 hs3; obtain ⟨A9, c9, rfl⟩ := hs3.form; have hP3 := ((hP.alloc (.cells #[.int .i64 2, .int .i64 ((k : Int) + 1), .int .i64 (a : Int), .int .i64 0, .int .i64 0, .int .i64 0, .int .u64 0, .int .u64 0, .int .u64 0, .int .u64 0] 39)).drew).frm hf3 (fun h => by have := h.1; omega); obtain ⟨g0, g1, g2, g3, h0, h1, h2, h3, lg⟩ := blk4 hP3))
      all_goals
        have HR : Hid (RB w2 bP kk a (.int .i64 ((k + 1 : Nat) : Int)) (w3.setCell ⟨bP, 0, none⟩ (.slice A9 (k + 1) c9))) := Lib.hid ⟨k + 1, _, rfl, by omega, ((hfr.alloc _).drew.then hf3 (fun q h hl => by have := h.1; omega)).set bP 0 _ (fun _ => rfl), hP3.setSame 0 _, by
          have hz := hfr.size
          rw [roundP_snoc, flatI_app]
          exact (hs3.set bP 0 (.slice A9 (k + 1) c9) (by rintro (h | h); have := h.1; omega; have : (wr.alloc (.cells #[.int .i64 2, .int .i64 ((k : Int) + 1), .int .i64 (a : Int), .int .i64 0, .int .i64 0, .int .i64 0, .int .u64 0, .int .u64 0, .int .u64 0, .int .u64 0] 39)).drew.heap.size = (wr.alloc (.cells #[.int .i64 2, .int .i64 ((k : Int) + 1), .int .i64 (a : Int), .int .i64 0, .int .i64 0, .int .i64 0, .int .u64 0, .int .u64 0, .int .u64 0, .int .u64 0] 39)).heap.size := rfl; have h9 : wr.heap.size ≤ (wr.alloc (.cells #[.int .i64 2, .int .i64 ((k : Int) + 1), .int .i64 (a : Int), .int .i64 0, .int .i64 0, .int .i64 0, .int .u64 0, .int .u64 0, .int .u64 0, .int .u64 0] 39)).heap.size := ((Frm.refl (fun _ => False) wr).alloc _).size; omega)).mono (by
            have h9 : wr.heap.size ≤ (wr.alloc (.cells #[.int .i64 2, .int .i64 ((k : Int) + 1), .int .i64 (a : Int), .int .i64 0, .int .i64 0, .int .i64 0, .int .u64 0, .int .u64 0, .int .u64 0, .int .u64 0] 39)).drew.heap.size := ((Frm.refl (fun _ => False) wr).alloc _).drew.size
            rintro q (h | h) _
            · exact h.1
            · show w2.heap.size ≤ q; omega)⟩
        clear x0 x1 x2 x3 y0 y1 y2 y3 lx g0 g1 g2 g3 h0 h1 h2 h3 lg hs3 hf3 hP3 hP hS
        go_wp2_with fail
        go_roundw
        case measure => simp [intOf] <;> omega
        case rel => exact HR.out
    · obtain rfl : k = kk := by omega
      obtain ⟨x0, x1, x2, x3, y0, y1, y2, y3, lx⟩ := blk4 hP
      have hw3 : IntKind.i64.wrap ((k : Int) + 2) = (k : Int) + 2 := IntWalk.i64_in _ (by omega)
      have HSM := Lib.hid smallC
      have hzr := hfr.size
      go_upto_region 8 with fail
      go_cut [] from 42 to 55 (fun wx => ∃ v', Frm (fun q => q = bP) w2 wx ∧ Blk wx bP [v', .int .i64 0, .int .i64 0, .bool false] 24 ∧ Sl wx (fun q => w2.heap.size ≤ q) 39 10 v' (k + 3) (flatI (roundL k a)))
      case first =>
        go_wp2_with fail
        go_region_law (first
          | (refine step_call (f := 22) rfl rfl Try.func22 (by kernel_rfl) rfl _ (by simp only [List.map_toArray, List.map_cons, List.map_nil]; rfl) ?_; refine (HPA.out _).mono ?_; rintro e w' ⟨rfl, rfl⟩; refine ⟨_, rfl, ?_⟩)
          | (refine step_call (f := 23) rfl rfl Try.func23 (by kernel_rfl) rfl _ (by simp only [List.map_toArray, List.map_cons, List.map_nil]; rfl) ?_; refine (HSM.out _).mono ?_; rintro e w4 ⟨rfl, hf4⟩; refine ⟨_, rfl, ?_⟩; have hS4 := hS.drew.frm hf4 (fun _ _ h => h); have hP4 := hP.drew.frm hf4 (fun h => h); have hz4 := hf4.size; obtain ⟨x0, x1, x2, x3, y0, y1, y2, y3, lx⟩ := blk4 hP4)
          | (refine step_append rfl _ _ _ rfl 39 _ 10 80 Try.underlying22 infoIns rfl (by omega) (hS4.low.alloc (.cells #[.int .i64 1, .int .i64 0, .int .i64 0, .int .i64 0, .int .i64 0, .int .i64 0, .int .u64 0, .int .u64 8589934592, .int .u64 0, .int .u64 0, .int .i64 2, .int .i64 (a : Int), .int .i64 ((k : Int) + 2), .int .i64 0, .int .i64 0, .int .i64 0, .int .u64 0, .int .u64 0, .int .u64 0, .int .u64 0, .int .i64 11, .int .i64 0, .int .i64 0, .int .i64 0, .int .i64 0, .int .i64 0, .int .u64 0, .int .u64 0, .int .u64 0, .int .u64 0] 39)) rfl ⟨w4.heap.size, 0, none⟩ 3 3 [.int .i64 1, .int .i64 0, .int .i64 0, .int .i64 0, .int .i64 0, .int .i64 0, .int .u64 0, .int .u64 8589934592, .int .u64 0, .int .u64 0, .int .i64 2, .int .i64 (a : Int), .int .i64 ((k : Int) + 2), .int .i64 0, .int .i64 0, .int .i64 0, .int .u64 0, .int .u64 0, .int .u64 0, .int .u64 0, .int .i64 11, .int .i64 0, .int .i64 0, .int .i64 0, .int .i64 0, .int .i64 0, .int .u64 0, .int .u64 0, .int .u64 0, .int .u64 0] rfl rfl (fun j u hu => ((Blk.new w4 [.int .i64 1, .int .i64 0, .int .i64 0, .int .i64 0, .int .i64 0, .int .i64 0, .int .u64 0, .int .u64 8589934592, .int .u64 0, .int .u64 0, .int .i64 2, .int .i64 (a : Int), .int .i64 ((k : Int) + 2), .int .i64 0, .int .i64 0, .int .i64 0, .int .u64 0, .int .u64 0, .int .u64 0, .int .u64 0, .int .i64 11, .int .i64 0, .int .i64 0, .int .i64 0, .int .i64 0, .int .i64 0, .int .u64 0, .int .u64 0, .int .u64 0, .int .u64 0] 39).cellAdd 0 j).trans (by rw [Nat.zero_add]; exact hu)) (flatI_one [IA, I0 2 (a : Int) ((k : Int) + 2), I0 11 0 0]) (by simp only [maxLen]; omega) (by omega) ?_; intro v3 w3 hf3 hs3; obtain ⟨A9, c9, rfl⟩ := hs3.form; have hP3 := ((hP4.alloc (.cells #[.int .i64 1, .int .i64 0, .int .i64 0, .int .i64 0, .int .i64 0, .int .i64 0, .int .u64 0, .int .u64 8589934592, .int .u64 0, .int .u64 0, .int .i64 2, .int .i64 (a : Int), .int .i64 ((k : Int) + 2), .int .i64 0, .int .i64 0, .int .i64 0, .int .u64 0, .int .u64 0, .int .u64 0, .int .u64 0, .int .i64 11, .int .i64 0, .int .i64 0, .int .i64 0, .int .i64 0, .int .i64 0, .int .u64 0, .int .u64 0, .int .u64 0, .int .u64 0] 39))).frm hf3 (fun h => by have := h.1; omega); obtain ⟨g0, g1, g2, g3, h0, h1, h2, h3, lg⟩ := blk4 hP3))
        all_goals
          have h9 : w4.heap.size ≤ (w4.alloc (.cells #[.int .i64 1, .int .i64 0, .int .i64 0, .int .i64 0, .int .i64 0, .int .i64 0, .int .u64 0, .int .u64 8589934592, .int .u64 0, .int .u64 0, .int .i64 2, .int .i64 (a : Int), .int .i64 ((k : Int) + 2), .int .i64 0, .int .i64 0, .int .i64 0, .int .u64 0, .int .u64 0, .int .u64 0, .int .u64 0, .int .i64 11, .int .i64 0, .int .i64 0, .int .i64 0, .int .i64 0, .int .i64 0, .int .u64 0, .int .u64 0, .int .u64 0, .int .u64 0] 39)).heap.size := ((Frm.refl (fun _ => False) w4).alloc _).size
          have h8 : wr.heap.size ≤ w4.heap.size := hz4
          have HR : Hid (Frm (fun q => q = bP) w2 (w3.setCell ⟨bP, 0, none⟩ (.slice A9 (k + 3) c9)) ∧ Blk (w3.setCell ⟨bP, 0, none⟩ (.slice A9 (k + 3) c9)) bP [.slice A9 (k + 3) c9, .int .i64 0, .int .i64 0, .bool false] 24 ∧ Sl (w3.setCell ⟨bP, 0, none⟩ (.slice A9 (k + 3) c9)) (fun q => w2.heap.size ≤ q) 39 10 (.slice A9 (k + 3) c9) (k + 3) (flatI (roundL k a))) := Lib.hid
            ⟨(((hfr.drew.trans (hf4.mono (fun _ h _ => h.elim))).alloc _).then hf3 (fun q h hl => by have := h.1; omega)).set bP 0 _ (fun _ => rfl), hP3.setSame 0 _, by
              have e : roundL k a = roundP k a ++ [IA, I0 2 (a : Int) ((k : Int) + 2), I0 11 0 0] := rfl
              rw [e, flatI_app]
              exact (hs3.set bP 0 (.slice A9 (k + 3) c9) (by rintro (h | h); have := h.1; omega; omega)).mono (by
                rintro q (h | h) _
                · exact h.1
                · show w2.heap.size ≤ q; omega)⟩
          clear x0 x1 x2 x3 y0 y1 y2 y3 lx g0 g1 g2 g3 h0 h1 h2 h3 lg hs3 hf3 hP3 hP4 hS4
          go_wp2_with fail
          go_meet
          exact ⟨_, HR.out⟩
      case rest =>
        obtain ⟨v', hfx, hPx, hSx⟩ := hcut
        obtain ⟨A9, c9, rfl⟩ := hSx.form
        obtain ⟨w5, hw5⟩ : ∃ w5, w5 = wc := ⟨_, rfl⟩
        subst hw5
        have HN := Lib.hid (newMk A9 (k + 3) c9 0 0 false pl (roundL k a) _ w5 0 hSx.rd HT.out.r HT.out.st)
        have hf5 : Frm (fun _ => False) w w5 := hf2.then hfx (fun q hq hl => by omega)
        have hb1 := HT.out.b
        have hgu := eqGuard50
        clear x0 x1 x2 x3 y0 y1 y2 y3 lx hP hS hfr hfx hSx hf2
        obtain ⟨x0, x1, x2, x3, y0, y1, y2, y3, lx⟩ := blk4 hPx
        go_wp2_with fail
        refine HN.out.mono ?_
        rintro e w6 ⟨b, st, D, rfl, hI6, hW, hb6, hD6, hf6⟩
        have HW := Lib.hid hW
        have hlen : 0 < (mOf (roundL k a) 0 0 false pl 0).ins.length := by show 0 < (roundL k a).length; simp [roundL]
        have HLEN := Lib.hid hlen
        have HL := Lib.hid (longestK (line := ⟨#[97, 97, 97, 98]⟩) [97, 97, 97, 98] 0 5000 s1 k1 (some 3) (by rw [ByteArray.toList_eq]) hW hI6 (Nat.zero_le _) (by decide) hlen HT.out.l (by omega) (by omega) (by omega))
        have hff := hf5.trans hf6
        have hzb := hf5.size
        clear x0 x1 x2 x3 y0 y1 y2 y3 lx hPx hW hI6 hf6 hf5 hD6 hlen HN
        go_wp2_with fail
        refine HL.out.mono ?_
        rintro e w7 ⟨rfl, hI7, hf7⟩
        have hff7 := hff.then hf7 (fun q hq hl => by omega)
        have HF1 := Lib.hid (findB (line := ⟨#[98, 97, 97, 98]⟩) 0 5000 _ HW.out hI7 (by decide) (by decide) HLEN.out (by rw [show (⟨#[98, 97, 97, 98]⟩ : ByteArray).toList = [98, 97, 97, 98] from baab_list]; exact HT.out.f1) (by omega) (by rw [show (⟨#[98, 97, 97, 98]⟩ : ByteArray).size = 4 from rfl]; omega) (by omega))
        simp only [spanV, Option.isSome_some] at HF1
        clear hI7 hf7 hff
        go_wp2_with fail
        refine HF1.out.mono ?_
        rintro e w8 ⟨rfl, hI8, hf8⟩
        have hff8 := hff7.then hf8 (fun q hq hl => by omega)
        have hlb8 : b < w8.heap.size := by obtain ⟨_, _, _, h⟩ := hI8.obj; exact h.lt
        have HI8 := Lib.hid hI8
        have HF8 := Lib.hid hff8
        clear hI8 hf8 hff7 hff8
        have hS9 := Blk.new w8 [.int .i64 1, .int .i64 3] 50
        have hf89 : Frm (fun _ => False) w8 (w8.alloc (.cells #[.int .i64 1, .int .i64 3] 50)) := (Frm.refl _ _).alloc _
        go_upto_region 14 with fail
        generalize w8.alloc (.cells #[.int .i64 1, .int .i64 3] 50) = w9 at *
        obtain ⟨bS, hbS⟩ : ∃ bS, w8.heap.size = bS := ⟨_, rfl⟩
        simp only [hbS] at hS9 hlb8 ⊢
        clear hbS
        have hI9 := HI8.out.low.frm hf89 (fun h => h) (fun _ _ h => h)
        have HF2 := Lib.hid (findB (line := ⟨#[98, 98]⟩) 0 5000 _ HW.out hI9 (by decide) (by decide) HLEN.out (by rw [show (⟨#[98, 98]⟩ : ByteArray).toList = [98, 98] by rw [ByteArray.toList_eq]]; exact HT.out.f2) (by omega) (by rw [show (⟨#[98, 98]⟩ : ByteArray).size = 2 from rfl]; first | omega | (simp only; omega)) (by first | omega | (simp only; omega)))
        simp only [spanV, Option.isSome_none] at HF2
        clear hI9
        go_wp2_with fail
        refine HF2.out.mono ?_
        rintro e w10 ⟨rfl, hI10, hf10⟩
        have hS10 := hS9.frm hf10 (fun e => by omega)
        have hff10 := (HF8.out.trans hf89).then hf10 (fun q hq hl => by omega)
        have hS11 := hS10.alloc (.cells #[.int .i64 0, .int .i64 0] 50)
        have hff11 := hff10.alloc (.cells #[.int .i64 0, .int .i64 0] 50)
        clear hI10 hf10 hS9 hf89 hS10 hff10
        go_upto_region 15 with fail
        generalize w10.alloc (.cells #[.int .i64 0, .int .i64 0] 50) = w11 at *
        have a0 := hS11.cell 0
        have a1 := hS11.cell 1
        simp only [List.getElem?_cons_zero, List.getElem?_cons_succ] at a0 a1
        have la := hS11.lt
        clear hS11
        go_wp2_with fail
        go_ret
        exact ⟨rfl, hff11⟩
end Go.Proofs.Ytoadmpochaeohaa
