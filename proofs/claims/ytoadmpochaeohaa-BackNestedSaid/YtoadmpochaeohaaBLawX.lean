/-
  Layer 20: BackNested's law, walked.
-/
import Derived.Test.YtoadmpochaeohaaBNestP
import Derived.Test.YtoadmpochaeohaaBRef16
import Derived.Test.YtoadmpochaeohaaBRow
import Derived.StillTailTactics
set_option linter.unusedVariables false
set_option linter.unusedSimpArgs false
set_option maxRecDepth 100000
namespace Go.Proofs.Ytoadmpochaeohaa
open Go.RowKit

theorem flatI_app_ (l m : List Ins) : flatI (l ++ m) = flatI l ++ flatI m := by simp [flatI]
theorem headL_snoc (D u e : Nat) : headL D u (e + 1) = headL D u e ++ [zI e, tI e (if u ≤ e then 3 * D + 1 - e else 0)] := by
  unfold headL; rw [List.range_succ, List.flatMap_append]; rfl
theorem nest_set (D u : Nat) (h4 : D ≤ 4) (hu : u < D) : (flatI (nestU D (u + 1) ++ [jI u])).set (10 * (2 * u + 1) + 2) (.int .i64 ((3 * D + 1 - u : Nat) : Int)) = flatI (nestU D u) := by
  obtain h | h | h | h : D = 1 ∨ D = 2 ∨ D = 3 ∨ D = 4 := by omega
  · subst h; obtain rfl : u = 0 := by omega
    rfl
  · subst h; obtain rfl | rfl : u = 0 ∨ u = 1 := by omega
    all_goals rfl
  · subst h; obtain rfl | rfl | rfl : u = 0 ∨ u = 1 ∨ u = 2 := by omega
    all_goals rfl
  · subst h; obtain rfl | rfl | rfl | rfl : u = 0 ∨ u = 1 ∨ u = 2 ∨ u = 3 := by omega
    all_goals rfl
theorem nestU_len (D u : Nat) (hu : u ≤ D) : (flatI (nestU D u)).length = 10 * (3 * D + 1 - u) := by
  rw [flatI_len]
  unfold nestU headL tailL
  have : ∀ n, ((List.range n).map fun _ : Nat => 2).sum = 2 * n := by
    intro n
    induction n with
    | zero => rfl
    | succ n ih => rw [List.range_succ, List.map_append, List.sum_append, ih]; simp; omega
  simp [this]
  omega
theorem nest_back (D k : Nat) (h1 : 1 ≤ D) (h4 : D ≤ 4) (hk : k ≤ 40) : backN (nestL D) 0 D (k + 1) = 16 * (3 * D + 2) * (k + 2) * 4 ^ D := by
  unfold backN
  rw [nestL_len, show refsN (nestL D) 0 = [] from List.eq_nil_of_length_eq_zero (refs_len _ _)]
  unfold grpN
  rw [List.foldl_nil, timesN_eq (show 16 * (3 * D + 2) ≤ 4611686018427387904 by omega), show k + 1 + 1 = k + 2 from rfl]
  have hb : 16 * (3 * D + 2) * (k + 2) ≤ 100000 := by
    have := Nat.mul_le_mul (show 16 * (3 * D + 2) ≤ 224 by omega) (show k + 2 ≤ 42 by omega)
    omega
  rw [timesN_eq (by omega)]
  generalize 16 * (3 * D + 2) * (k + 2) = b at *
  have hz : (bndN (nestL D) D).zip (trnN (nestL D) D) = List.replicate D (0, true) := by
    obtain h | h | h | h : D = 1 ∨ D = 2 ∨ D = 3 ∨ D = 4 := by omega
    all_goals subst h; rfl
  rw [hz]
  clear hz
  unfold conN
  obtain h | h | h | h : D = 1 ∨ D = 2 ∨ D = 3 ∨ D = 4 := by omega
  · subst h
    simp only [List.replicate_succ, List.replicate_zero, List.foldl_cons, List.foldl_nil, if_true]
    simp only [Int.toNat_zero, Nat.zero_add]
    rw [timesN_eq (by omega)]
  · subst h
    simp only [List.replicate_succ, List.replicate_zero, List.foldl_cons, List.foldl_nil, if_true]
    simp only [Int.toNat_zero, Nat.zero_add]
    rw [timesN_eq (a := b) (by omega), timesN_eq (by omega)]
    omega
  · subst h
    simp only [List.replicate_succ, List.replicate_zero, List.foldl_cons, List.foldl_nil, if_true]
    simp only [Int.toNat_zero, Nat.zero_add]
    rw [timesN_eq (a := b) (by omega), timesN_eq (a := b * (2 * 2)) (by omega), timesN_eq (by omega)]
    omega
  · subst h
    simp only [List.replicate_succ, List.replicate_zero, List.foldl_cons, List.foldl_nil, if_true]
    simp only [Int.toNat_zero, Nat.zero_add]
    rw [timesN_eq (a := b) (by omega), timesN_eq (a := b * (2 * 2)) (by omega), timesN_eq (a := b * (2 * 2) * (2 * 2)) (by omega), timesN_eq (by omega)]
    omega
/-- Between two heads. -/
def NB1 (w0 : World) (bP D : Nat) (i : Value) (wr : World) : Prop :=
  ∃ (d : Nat) (v : Value), i = .int .i64 d ∧ d ≤ D ∧ Frm (fun q => q = bP) w0 wr ∧ Blk wr bP [v, .int .i64 0, .int .i64 D, .bool false] 24 ∧ Sl wr (fun q => w0.heap.size ≤ q) 39 10 v (2 * d) (flatI (headL D D d))
/-- Between two ends. -/
def NB2 (w0 : World) (bP D : Nat) (i : Value) (wr : World) : Prop :=
  ∃ (u : Nat) (v : Value), i = .int .i64 ((u : Int) - 1) ∧ u ≤ D ∧ Frm (fun q => q = bP) w0 wr ∧ Blk wr bP [v, .int .i64 0, .int .i64 D, .bool false] 24 ∧ Sl wr (fun q => w0.heap.size ≤ q) 39 10 v (3 * D + 1 - u) (flatI (nestU D u))

set_option maxHeartbeats 16000000 in
theorem lawNestB (d0 k0 : Int) (w : World) (hd1 : -9223372036854775808 ≤ d0 ∧ d0 ≤ 9223372036854775807) (hk1 : -9223372036854775808 ≤ k0 ∧ k0 ≤ 9223372036854775807) :
    Calls Try.prog 8 #[.int .i64 d0, .int .i64 k0] w fun e w' => e = .returned (.bool true) ∧ Frm (fun _ => False) w w' := by
  have HK := Lib.hid (knownC w)
  have HP1 := Lib.hid (fun w => pick_calls d0 4 w hd1.1 hd1.2 (by omega) (by omega))
  have HP2 := Lib.hid (fun w => pick_calls k0 41 w hk1.1 hk1.2 (by omega) (by omega))
  have hpd := pickN_lt d0 4 (by omega)
  have hpk := pickN_lt k0 41 (by omega)
  generalize pickN d0 4 = pd at *
  generalize pickN k0 41 = k at *
  obtain ⟨D, hD⟩ : ∃ D : Nat, 1 + pd = D := ⟨_, rfl⟩
  have hDb : 1 ≤ D ∧ D ≤ 4 := by omega
  have hw1 : IntKind.i64.wrap (1 + (pd : Int)) = (D : Int) := by rw [IntWalk.i64_in _ (by omega)]; omega
  clear hD
  go_enter Try.func8, Try.ntmps8
  go_wp2_with fail
  refine HK.out.mono ?_
  rintro e w1 ⟨rfl, hf1⟩
  go_wp2_with fail
  refine (HP1.out w1).mono ?_
  rintro e w1' ⟨rfl, rfl⟩
  go_wp2_with fail
  refine (HP2.out w1).mono ?_
  rintro e w1' ⟨rfl, rfl⟩
  have hP := Blk.new w1 [.slice none 0 0, .int .i64 0, .int .i64 D, .bool false] 24
  have hf2 := hf1.alloc (.cells #[.slice none 0 0, .int .i64 0, .int .i64 D, .bool false] 24)
  have hzw := hf1.size
  clear hf1
  go_upto_region 5 with fail
  generalize w1.alloc (.cells #[.slice none 0 0, .int .i64 0, .int .i64 D, .bool false] 24) = w2 at *
  obtain ⟨bP, hbP⟩ : ∃ bP, w1.heap.size = bP := ⟨_, rfl⟩
  simp only [hbP] at hP hzw ⊢
  clear hbP
  have hlP := hP.lt
  have hrb : NB1 w2 bP D (.int .i64 0) w2 := ⟨0, _, rfl, by omega, Frm.refl _ _, hP, Sl.nil⟩
  have HRB := Lib.hid hrb
  clear hrb hP
  go_wp2_with fail
  go_loopw [7] (fun i wr => NB1 w2 bP D i wr) (fun i _ => D - (intOf i).toNat)
  case atStart => exact HRB.out
  case round =>
    clear HRB
    obtain ⟨d, v, rfl, hd, hfr, hP, hS⟩ := hrel
    obtain ⟨A, c, rfl⟩ := hS.form
    by_cases hdd : d < D
    · obtain ⟨x0, x1, x2, x3, y0, y1, y2, y3, lx⟩ := blk4 hP
      obtain ⟨e2, he2⟩ : ∃ e, 2 * d + 2 = e := ⟨_, rfl⟩
      have hw2 : IntKind.i64.wrap ((d : Int) + 1) = ((d + 1 : Nat) : Int) := by rw [IntWalk.i64_in _ (by omega)]; omega
      have hw3 : IntKind.i64.wrap (2 * (d : Int)) = 2 * (d : Int) := IntWalk.i64_in _ (by omega)
      have hw4 : IntKind.i64.wrap (2 * (d : Int) + 2) = (e2 : Int) := by rw [IntWalk.i64_in _ (by omega)]; omega
      have HE2 := Lib.hid he2
      clear he2
      go_wp2_with (with_reducible refine stop_at 38 rfl ?_)
      unfold Stop
      refine op_append rfl _ _ _ rfl 39 _ 10 80 Try.underlying22 infoIns rfl (by omega) (hS.low.alloc (.cells #[.int .i64 9, .int .i64 0, .int .i64 0, .int .i64 d, .int .i64 0, .int .i64 0, .int .u64 0, .int .u64 0, .int .u64 0, .int .u64 0, .int .i64 10, .int .i64 e2, .int .i64 0, .int .i64 d, .int .i64 0, .int .i64 (-1), .int .u64 0, .int .u64 0, .int .u64 0, .int .u64 0] 39)) rfl ⟨wr.heap.size, 0, none⟩ 2 2 [.int .i64 9, .int .i64 0, .int .i64 0, .int .i64 d, .int .i64 0, .int .i64 0, .int .u64 0, .int .u64 0, .int .u64 0, .int .u64 0, .int .i64 10, .int .i64 e2, .int .i64 0, .int .i64 d, .int .i64 0, .int .i64 (-1), .int .u64 0, .int .u64 0, .int .u64 0, .int .u64 0] rfl rfl (fun j u hu => ((Blk.new wr [.int .i64 9, .int .i64 0, .int .i64 0, .int .i64 d, .int .i64 0, .int .i64 0, .int .u64 0, .int .u64 0, .int .u64 0, .int .u64 0, .int .i64 10, .int .i64 e2, .int .i64 0, .int .i64 d, .int .i64 0, .int .i64 (-1), .int .u64 0, .int .u64 0, .int .u64 0, .int .u64 0] 39).cellAdd 0 j).trans (by rw [Nat.zero_add]; exact hu)) (flatI_one [zI d, ⟨10, e2, 0, d, 0, -1, 0, 0, 0, 0⟩]) (by simp only [maxLen]; omega) (by omega) ?_
      intro v3 w3 hf3 hs3
      obtain ⟨A9, c9, rfl⟩ := hs3.form
      have hP3 := (hP.alloc (.cells #[.int .i64 9, .int .i64 0, .int .i64 0, .int .i64 d, .int .i64 0, .int .i64 0, .int .u64 0, .int .u64 0, .int .u64 0, .int .u64 0, .int .i64 10, .int .i64 e2, .int .i64 0, .int .i64 d, .int .i64 0, .int .i64 (-1), .int .u64 0, .int .u64 0, .int .u64 0, .int .u64 0] 39)).frm hf3 (fun h => by have := h.1; omega)
      have h9 : wr.heap.size ≤ (wr.alloc (.cells #[.int .i64 9, .int .i64 0, .int .i64 0, .int .i64 d, .int .i64 0, .int .i64 0, .int .u64 0, .int .u64 0, .int .u64 0, .int .u64 0, .int .i64 10, .int .i64 e2, .int .i64 0, .int .i64 d, .int .i64 0, .int .i64 (-1), .int .u64 0, .int .u64 0, .int .u64 0, .int .u64 0] 39)).heap.size := ((Frm.refl (fun _ => False) wr).alloc _).size
      have hzr := hfr.size
      have HR : Hid (NB1 w2 bP D (.int .i64 ((d + 1 : Nat) : Int)) (w3.setCell ⟨bP, 0, none⟩ (.slice A9 (2 * d + 2) c9))) := Lib.hid ⟨d + 1, _, rfl, by omega, ((hfr.alloc _).then hf3 (fun q h hl => by have := h.1; omega)).set bP 0 _ (fun _ => rfl), hP3.setSame 0 _, by
        have e : headL D D (d + 1) = headL D D d ++ [zI d, ⟨10, e2, 0, d, 0, -1, 0, 0, 0, 0⟩] := by rw [headL_snoc, if_neg (by omega)]; unfold tI; rw [HE2.out]; rfl
        rw [e, flatI_app_]
        exact (hs3.set bP 0 (.slice A9 (2 * d + 2) c9) (by rintro (h | h); have := h.1; omega; omega)).mono (by
          rintro q (h | h) _
          · exact h.1
          · show w2.heap.size ≤ q; omega)⟩
      obtain ⟨g0, g1, g2, g3, h0, h1, h2, h3, lg⟩ := blk4 hP3
      clear x0 x1 x2 x3 y0 y1 y2 y3 lx hs3 hf3 hP3 hP hS h9
      go_wp2_with fail
      go_roundw
      case measure => simp [intOf] <;> omega
      case rel => first | exact HR.out | (have h := HR.out; rw [show (((d + 1 : Nat) : Int)) = (d : Int) + 1 by omega] at h; exact h)
    · obtain rfl : d = D := by omega
      obtain ⟨x0, x1, x2, x3, y0, y1, y2, y3, lx⟩ := blk4 hP
      have HSM := Lib.hid smallC
      have hzr := hfr.size
      go_upto_region 9 with fail
      go_cut [] from 40 to 46 (fun wx => ∃ v', Frm (fun q => q = bP) w2 wx ∧ Blk wx bP [v', .int .i64 0, .int .i64 d, .bool false] 24 ∧ Sl wx (fun q => w2.heap.size ≤ q) 39 10 v' (2 * d + 1) (flatI (nestU d d)))
      case first =>
        go_wp2_with fail
        go_region_law (first
          | (refine step_call (f := 23) rfl rfl Try.func23 (by kernel_rfl) rfl _ (by simp only [List.map_toArray, List.map_cons, List.map_nil]; rfl) ?_; refine (HSM.out _).mono ?_; rintro e w4 ⟨rfl, hf4⟩; refine ⟨_, rfl, ?_⟩; have hS4 := hS.drew.frm hf4 (fun _ _ h => h); have hP4 := hP.drew.frm hf4 (fun h => h); have hz4 := hf4.size; obtain ⟨x0, x1, x2, x3, y0, y1, y2, y3, lx⟩ := blk4 hP4)
          | (refine step_append rfl _ _ _ rfl 39 _ 10 80 Try.underlying22 infoIns rfl (by omega) (hS4.low.alloc (.cells #[.int .i64 1, .int .i64 0, .int .i64 0, .int .i64 0, .int .i64 0, .int .i64 0, .int .u64 0, .int .u64 8589934592, .int .u64 0, .int .u64 0] 39)) rfl ⟨w4.heap.size, 0, none⟩ 1 1 [.int .i64 1, .int .i64 0, .int .i64 0, .int .i64 0, .int .i64 0, .int .i64 0, .int .u64 0, .int .u64 8589934592, .int .u64 0, .int .u64 0] rfl rfl (fun j u hu => ((Blk.new w4 [.int .i64 1, .int .i64 0, .int .i64 0, .int .i64 0, .int .i64 0, .int .i64 0, .int .u64 0, .int .u64 8589934592, .int .u64 0, .int .u64 0] 39).cellAdd 0 j).trans (by rw [Nat.zero_add]; exact hu)) (flatI_one [IA]) (by simp only [maxLen]; omega) (by omega) ?_; intro v3 w3 hf3 hs3; obtain ⟨A9, c9, rfl⟩ := hs3.form; have hP3 := ((hP4.alloc (.cells #[.int .i64 1, .int .i64 0, .int .i64 0, .int .i64 0, .int .i64 0, .int .i64 0, .int .u64 0, .int .u64 8589934592, .int .u64 0, .int .u64 0] 39))).frm hf3 (fun h => by have := h.1; omega); obtain ⟨g0, g1, g2, g3, h0, h1, h2, h3, lg⟩ := blk4 hP3))
        all_goals
          have h9 : w4.heap.size ≤ (w4.alloc (.cells #[.int .i64 1, .int .i64 0, .int .i64 0, .int .i64 0, .int .i64 0, .int .i64 0, .int .u64 0, .int .u64 8589934592, .int .u64 0, .int .u64 0] 39)).heap.size := ((Frm.refl (fun _ => False) w4).alloc _).size
          have h8 : wr.heap.size ≤ w4.heap.size := hz4
          have HR : Hid (Frm (fun q => q = bP) w2 (w3.setCell ⟨bP, 0, none⟩ (.slice A9 (2 * d + 1) c9)) ∧ Blk (w3.setCell ⟨bP, 0, none⟩ (.slice A9 (2 * d + 1) c9)) bP [.slice A9 (2 * d + 1) c9, .int .i64 0, .int .i64 d, .bool false] 24 ∧ Sl (w3.setCell ⟨bP, 0, none⟩ (.slice A9 (2 * d + 1) c9)) (fun q => w2.heap.size ≤ q) 39 10 (.slice A9 (2 * d + 1) c9) (2 * d + 1) (flatI (nestU d d))) := Lib.hid
            ⟨(((hfr.drew.trans (hf4.mono (fun _ h _ => h.elim))).alloc _).then hf3 (fun q h hl => by have := h.1; omega)).set bP 0 _ (fun _ => rfl), hP3.setSame 0 _, by
              have e : nestU d d = headL d d d ++ [IA] := by unfold nestU tailL; rw [Nat.sub_self]; rfl
              rw [e, flatI_app_]
              exact (hs3.set bP 0 (.slice A9 (2 * d + 1) c9) (by rintro (h | h); have := h.1; omega; omega)).mono (by
                rintro q (h | h) _
                · exact h.1
                · show w2.heap.size ≤ q; omega)⟩
          clear x0 x1 x2 x3 y0 y1 y2 y3 lx g0 g1 g2 g3 h0 h1 h2 h3 lg hs3 hf3 hP3 hP4 hS4
          go_wp2_with fail
          go_meet
          exact ⟨_, HR.out⟩
      case rest =>
        obtain ⟨v', hfx, hPx, hSx⟩ := hcut
        obtain ⟨w5, hw5⟩ : ∃ w5, w5 = wc := ⟨_, rfl⟩
        subst hw5
        have hnb : NB2 w2 bP d (.int .i64 ((d : Int) - 1)) w5 := ⟨d, v', rfl, by omega, hfx, hPx, by rw [show 3 * d + 1 - d = 2 * d + 1 by omega]; exact hSx⟩
        have HNB := Lib.hid hnb
        have hwd : IntKind.i64.wrap ((d : Int) - 1) = (d : Int) - 1 := IntWalk.i64_in _ (by omega)
        clear hnb x0 x1 x2 x3 y0 y1 y2 y3 lx hP hS hfr hfx hPx hSx hzr
        go_wp2_with fail
        go_loopw [8] (fun i wr => NB2 w2 bP d i wr) (fun i _ => (intOf i + 1).toNat)
        case atStart => exact HNB.out
        case round =>
          clear HNB
          obtain ⟨u1, v, rfl, hu, hfr, hP, hS⟩ := hrel
          obtain ⟨A, c, rfl⟩ := hS.form
          have hzr := hfr.size
          by_cases hu0 : u1 = 0
          · subst hu0
            rw [show (((0 : Nat) : Int) - 1) = (-1 : Int) by omega]
            obtain ⟨n1, hn1⟩ : ∃ n1, 3 * d + 1 = n1 := ⟨_, rfl⟩
            obtain ⟨n2, hn2⟩ : ∃ n2, n1 + 1 = n2 := ⟨_, rfl⟩
            rw [Nat.sub_zero, hn1] at hP hS
            have hnb : n1 ≤ 100 := by omega
            have HN := Lib.hid (⟨hn1, hn2⟩ : _ ∧ _)
            obtain ⟨x0, x1, x2, x3, y0, y1, y2, y3, lx⟩ := blk4 hP
            clear hn1 hn2
            go_wp2_with (with_reducible refine stop_at 76 rfl ?_)
            unfold Stop
            refine op_append rfl _ _ _ rfl 39 _ 10 80 Try.underlying22 infoIns rfl (by omega) (hS.low.alloc (.cells #[.int .i64 11, .int .i64 0, .int .i64 0, .int .i64 0, .int .i64 0, .int .i64 0, .int .u64 0, .int .u64 0, .int .u64 0, .int .u64 0] 39)) rfl ⟨wr.heap.size, 0, none⟩ 1 1 [.int .i64 11, .int .i64 0, .int .i64 0, .int .i64 0, .int .i64 0, .int .i64 0, .int .u64 0, .int .u64 0, .int .u64 0, .int .u64 0] rfl rfl (fun j u hu => ((Blk.new wr [.int .i64 11, .int .i64 0, .int .i64 0, .int .i64 0, .int .i64 0, .int .i64 0, .int .u64 0, .int .u64 0, .int .u64 0, .int .u64 0] 39).cellAdd 0 j).trans (by rw [Nat.zero_add]; exact hu)) (flatI_one [I0 11 0 0]) (by simp only [maxLen]; omega) (by omega) ?_
            intro v3 w3 hf3 hs3
            rw [HN.out.2] at hs3
            obtain ⟨A9, c9, rfl⟩ := hs3.form
            have hP3 := (hP.alloc (.cells #[.int .i64 11, .int .i64 0, .int .i64 0, .int .i64 0, .int .i64 0, .int .i64 0, .int .u64 0, .int .u64 0, .int .u64 0, .int .u64 0] 39)).frm hf3 (fun h => by have := h.1; omega)
            have h9 : wr.heap.size ≤ (wr.alloc (.cells #[.int .i64 11, .int .i64 0, .int .i64 0, .int .i64 0, .int .i64 0, .int .i64 0, .int .u64 0, .int .u64 0, .int .u64 0, .int .u64 0] 39)).heap.size := ((Frm.refl (fun _ => False) wr).alloc _).size
            have hfr3 := ((hfr.alloc (.cells #[.int .i64 11, .int .i64 0, .int .i64 0, .int .i64 0, .int .i64 0, .int .i64 0, .int .u64 0, .int .u64 0, .int .u64 0, .int .u64 0] 39)).then hf3 (fun q h hl => by have := h.1; omega))
            have hs3' : Sl w3 (fun q => w2.heap.size ≤ q) 39 10 (.slice A9 n2 c9) n2 (flatI (nestL d)) := by
              unfold nestL
              rw [flatI_app_]
              exact hs3.mono (by
                rintro q (h | h) _
                · exact h.1
                · show w2.heap.size ≤ q; omega)
            clear hs3 hf3 hfr hP hS x0 x1 x2 x3 y0 y1 y2 y3 lx
            have hP4 := hP3.setSame 0 (.slice A9 n2 c9)
            have hfr4 := hfr3.set bP 0 (.slice A9 n2 c9) (fun _ => rfl)
            have hs4 := (hs3'.set bP 0 (.slice A9 n2 c9) (by omega)).rd
            simp only [List.set_cons_zero] at hP4
            obtain ⟨x0, x1, x2, x3, y0, y1, y2, y3, lx⟩ := blk4 hP3
            clear hs3' hfr3
            go_upto_region 16 with fail
            clear x0 x1 x2 x3 y0 y1 y2 y3 lx hP3
            generalize w3.setCell ⟨bP, 0, none⟩ (.slice A9 n2 c9) = w4 at *
            have HNT := Lib.hid (nestT d hDb.1 hDb.2)
            have HNW := Lib.hid (newMk A9 n2 c9 0 d false false (nestL d) _ w4 0 hs4 HNT.out.r (stopB0 _))
            have hf4 : Frm (fun _ => False) w w4 := hf2.then hfr4 (fun q hq hl => by omega)
            have hz4 := hf4.size
            have hs4b := hs4
            obtain ⟨x0, x1, x2, x3, y0, y1, y2, y3, lx⟩ := blk4 hP4
            clear hfr4 hs4
            go_wp2_with fail
            refine HNW.out.mono ?_
            rintro e w6 ⟨b, st, D6, rfl, hI6, hW, hb6, hD6, hf6⟩
            have hff := hf4.trans hf6
            have hP6 := hP4.frm hf6 (fun h => h)
            have hs6 := hs4b.frm hf6 (fun _ _ h => h)
            have hbne : bP ≠ b := by have := hP4.lt; omega
            have HI6 := Lib.hid (⟨hI6, hW⟩ : _ ∧ _)
            have HRO := Lib.hid (rowB k w6 (by omega))
            have hlow := hs4b.low
            have hs6l := hlow.frm hf6 (fun _ _ h => h)
            clear x0 x1 x2 x3 y0 y1 y2 y3 lx hP4 hI6 hW hD6 hf6 HNW hf4 hs4b hlow hs6
            go_wp2_with fail
            refine HRO.out.mono ?_
            rintro e w6' ⟨sl, rfl, hsl, rfl⟩
            have hs1 : sl.size = k := by rw [← ba_size, hsl]; simp
            have hline : (sl ++ ⟨#[98]⟩).toList = aLine k := by rw [ba_app, hsl, ByteArray.toList_eq]; rfl
            have hlsz : (sl ++ ⟨#[98]⟩ : ByteArray).size = k + 1 := by rw [← ba_size, hline]; simp [aLine]
            obtain ⟨r, hr, hbest, hstp, hkp, hstb⟩ := nest_ran d k hDb.1 hDb.2 (by omega)
            have hbd := run_bound _ _ _ _ hr
            have hkpb : r.kept ≤ 1000000 := by have := hbd.2; simpa using this
            have HL := Lib.hid (longestB (line := sl ++ ⟨#[98]⟩) 0 1000000 r HI6.out.2 HI6.out.1 (by omega) (by omega) (by show 0 < (nestL d).length; rw [nestL_len]; omega) (by rw [hline]; exact hr) (by omega) (by omega) (by omega))
            rw [hbest] at HL
            clear hr hbest hline hbd
            obtain ⟨sN, hsN⟩ : ∃ sN, r.steps = sN := ⟨_, rfl⟩
            obtain ⟨kN, hkN⟩ : ∃ sN, r.kept = sN := ⟨_, rfl⟩
            rw [hsN] at HL hstp hstb
            rw [hkN] at HL hkp hkpb
            clear hsN hkN
            obtain ⟨nl, hnl⟩ : ∃ nl, k + 1 = nl := ⟨_, rfl⟩
            rw [hnl] at hlsz
            have hbk : sN ≤ backN (nestL d) 0 d nl := by rw [← hnl, nest_back d k hDb.1 hDb.2 (by omega)]; exact hstp
            generalize hbN : backN (nestL d) 0 d nl = bN at hbk
            have hnlb : nl ≤ 1000 := by omega
            have HBN := Lib.hid hbN
            clear hbN hnl hstp
            go_wp2_with fail
            refine HL.out.mono ?_
            rintro e w7 ⟨rfl, hI7, hf7⟩
            clear HL
            generalize sl ++ ⟨#[98]⟩ = line at *
            have hff7 := hff.then hf7 (fun q hq hl => by omega)
            have hP7 := hP6.frm hf7 hbne
            have hs7 := hs6l.frm hf7 (fun q hq e => by have := hq.2; omega)
            have hkb : kN ≤ 1000000 := hkpb
            obtain ⟨sv, pv, l7, hB7⟩ := hI7.obj
            have HBC : Hid (∀ w', Frm (fun _ => False) w7 w' → Calls Try.prog 26 #[.agg #[.slice A9 n2 c9, .int .i64 0, .int .i64 d, .bool false], .int .i64 nl] w' fun e w'' => e = .returned (.int .i64 bN) ∧ Frm (fun _ => False) w' w'') := Lib.hid fun w' hf => by
              have := backC A9 n2 c9 0 d false (nestL d) _ nl w' (hs7.frm hf (fun _ _ h => h)) HNT.out.r (by omega)
              rw [HBN.out] at this
              exact this
            have HST : Hid (∀ w', Frm (fun _ => False) w7 w' → Calls Try.prog 14 #[.pointer (some ⟨b, 0, none⟩)] w' fun e w'' => e = .returned (.int .i64 sN) ∧ w' = w'') := Lib.hid fun w' hf => stepsC b _ _ w' (hB7.frm hf (fun h => h)) rfl
            have HKP : Hid (∀ w', Frm (fun _ => False) w7 w' → Calls Try.prog 15 #[.pointer (some ⟨b, 0, none⟩)] w' fun e w'' => e = .returned (.int .i64 kN) ∧ w' = w'') := Lib.hid fun w' hf => keptC b _ _ w' (hB7.frm hf (fun h => h)) rfl
            have HPX : Hid (∀ w', Frm (fun _ => False) w7 w' → Blk w' bP [.slice A9 n2 c9, .int .i64 0, .int .i64 d, .bool false] 24) := Lib.hid fun w' hf => hP7.frm hf (fun h => h)
            clear hI7 hB7 hP7 hs7 hf7 hff hP6 hs6l HI6
            have d1 : decide ((sN : Int) ≤ (bN : Int)) = true := decide_eq_true (by omega)
            have d2 : decide ((0 : Int) < (kN : Int)) = true := decide_eq_true (by omega)
            have d2n : decide (0 < kN) = true := decide_eq_true (by omega)
            have d1n : decide (sN ≤ bN) = true := decide_eq_true (by omega)
            obtain ⟨x0, x1, x2, x3, y0, y1, y2, y3, lx⟩ := blk4 (HPX.out w7 (Frm.refl _ _))
            go_upto_region 21 with fail
            clear HRO HN HSM HNT HK HP1 HP2
            go_still_tail 16, (by kernel_rfl)
            have HST2 : Calls Try.prog 14 #[.pointer (some ⟨b, 0, none⟩)] w7.drew fun e w'' => e = .returned (.int .i64 sN) ∧ w'' = w7.drew := (HST.out w7.drew (Frm.refl _ _).drew).mono (fun e w'' h => ⟨h.1, h.2.symm⟩)
            still_call HST2
            clear HST2
            repeat still_step
            refine wpStill_nil ?_
            change wpList _ _ _ _ _ w7.drew
            have HBC2 := Lib.hid (HBC.out w7.drew (Frm.refl _ _).drew)
            have HKP2 : Hid (∀ w', Frm (fun _ => False) w7.drew w' → Calls Try.prog 15 #[.pointer (some ⟨b, 0, none⟩)] w' fun e w'' => e = .returned (.int .i64 kN) ∧ w' = w'') := Lib.hid fun w' hf => HKP.out w' ((Frm.refl _ _).drew.trans hf)
            have hff8 : Frm (fun _ => False) w w7.drew := hff7.drew
            clear x0 x1 x2 x3 y0 y1 y2 y3 lx HST HBC HKP HPX hff7
            generalize w7.drew = w8 at *
            go_wp2_with fail
            refine HBC2.out.mono ?_
            rintro e w9 ⟨rfl, hf9⟩
            go_wp2_with fail
            refine (HKP2.out w9 hf9).mono ?_
            rintro e w' ⟨rfl, rfl⟩
            go_wp2_with fail
            go_ret
            exact ⟨rfl, hff8.trans hf9⟩
          · obtain ⟨u, rfl⟩ : ∃ u, u1 = u + 1 := ⟨u1 - 1, by omega⟩
            rw [show (((u + 1 : Nat) : Int) - 1) = (u : Int) by omega]
            obtain ⟨n1, hn1⟩ : ∃ n1, 3 * d + 1 - (u + 1) = n1 := ⟨_, rfl⟩
            obtain ⟨n2, hn2⟩ : ∃ n2, n1 + 1 = n2 := ⟨_, rfl⟩
            obtain ⟨p1, hp1⟩ : ∃ p1, 2 * u + 1 = p1 := ⟨_, rfl⟩
            rw [hn1] at hP hS
            have hw2 : IntKind.i64.wrap (2 * (u : Int)) = 2 * (u : Int) := IntWalk.i64_in _ (by omega)
            have hw3 : IntKind.i64.wrap (2 * (u : Int) + 1) = (p1 : Int) := by rw [IntWalk.i64_in _ (by omega)]; omega
            have hw4 : IntKind.i64.wrap ((u : Int) - 1) = (u : Int) - 1 := IntWalk.i64_in _ (by omega)
            have d1 : decide ((0 : Int) ≤ (u : Int)) = true := decide_eq_true (by omega)
            have hpn : p1 < n2 := by omega
            have hnb : n1 ≤ 100 := by omega
            have HN := Lib.hid (⟨hn1, hn2, hp1⟩ : _ ∧ _ ∧ _)
            obtain ⟨x0, x1, x2, x3, y0, y1, y2, y3, lx⟩ := blk4 hP
            clear hn1 hn2 hp1
            go_wp2_with (with_reducible refine stop_at 60 rfl ?_)
            unfold Stop
            refine op_append rfl _ _ _ rfl 39 _ 10 80 Try.underlying22 infoIns rfl (by omega) (hS.low.alloc (.cells #[.int .i64 3, .int .i64 p1, .int .i64 0, .int .i64 0, .int .i64 0, .int .i64 0, .int .u64 0, .int .u64 0, .int .u64 0, .int .u64 0] 39)) rfl ⟨wr.heap.size, 0, none⟩ 1 1 [.int .i64 3, .int .i64 p1, .int .i64 0, .int .i64 0, .int .i64 0, .int .i64 0, .int .u64 0, .int .u64 0, .int .u64 0, .int .u64 0] rfl rfl (fun j u hu => ((Blk.new wr [.int .i64 3, .int .i64 p1, .int .i64 0, .int .i64 0, .int .i64 0, .int .i64 0, .int .u64 0, .int .u64 0, .int .u64 0, .int .u64 0] 39).cellAdd 0 j).trans (by rw [Nat.zero_add]; exact hu)) (flatI_one [I0 3 p1 0]) (by simp only [maxLen]; omega) (by omega) ?_
            intro v3 w3 hf3 hs3
            rw [HN.out.2.1] at hs3
            obtain ⟨A9, c9, rfl⟩ := hs3.form
            have hP3 := (hP.alloc (.cells #[.int .i64 3, .int .i64 p1, .int .i64 0, .int .i64 0, .int .i64 0, .int .i64 0, .int .u64 0, .int .u64 0, .int .u64 0, .int .u64 0] 39)).frm hf3 (fun h => by have := h.1; omega)
            have h9 : wr.heap.size ≤ (wr.alloc (.cells #[.int .i64 3, .int .i64 p1, .int .i64 0, .int .i64 0, .int .i64 0, .int .i64 0, .int .u64 0, .int .u64 0, .int .u64 0, .int .u64 0] 39)).heap.size := ((Frm.refl (fun _ => False) wr).alloc _).size
            have hfr3 := ((hfr.alloc (.cells #[.int .i64 3, .int .i64 p1, .int .i64 0, .int .i64 0, .int .i64 0, .int .i64 0, .int .u64 0, .int .u64 0, .int .u64 0, .int .u64 0] 39)).then hf3 (fun q h hl => by have := h.1; omega))
            have hs3' : Sl w3 (fun q => w2.heap.size ≤ q) 39 10 (.slice A9 n2 c9) n2 (flatI (nestU d (u + 1) ++ [jI u])) := by
              have e : nestU d (u + 1) ++ [jI u] = nestU d (u + 1) ++ [I0 3 p1 0] := by unfold jI; rw [HN.out.2.2]
              rw [e, flatI_app_]
              exact hs3.mono (by
                rintro q (h | h) _
                · exact h.1
                · show w2.heap.size ≤ q; omega)
            clear hs3 hf3 hfr hP hS x0 x1 x2 x3 y0 y1 y2 y3 lx
            have hP4 := hP3.setSame 0 (.slice A9 n2 c9)
            have hfr4 := hfr3.set bP 0 (.slice A9 n2 c9) (fun _ => rfl)
            have hs4 := hs3'.set bP 0 (.slice A9 n2 c9) (by omega)
            simp only [List.set_cons_zero] at hP4
            obtain ⟨x0, x1, x2, x3, y0, y1, y2, y3, lx⟩ := blk4 hP3
            clear hs3' hfr3
            go_upto_region 14 with fail
            clear x0 x1 x2 x3 y0 y1 y2 y3 lx hP3
            generalize w3.setCell ⟨bP, 0, none⟩ (.slice A9 n2 c9) = w4 at *
            obtain ⟨b9, rfl, hb9, hb9l, cur, hcur, hcx⟩ := hs4.head (by omega)
            obtain ⟨x0, x1, x2, x3, y0, y1, y2, y3, lx⟩ := blk4 hP4
            have hxl : (flatI (nestU d (u + 1) ++ [jI u])).length = 10 * n2 := by rw [flatI_app_, List.length_append, nestU_len d (u + 1) hu]; have := HN.out; simp [flatI, jI, I0, Ins.cells]; omega
            obtain ⟨v0, hv0⟩ : ∃ v0, (flatI (nestU d (u + 1) ++ [jI u]))[p1 * 10 + 2]? = some v0 := ⟨_, List.getElem?_eq_getElem (by rw [hxl]; omega)⟩
            have c0 : w4.cell? ⟨b9, p1 * 10 + 2, none⟩ = some v0 := by rw [hcur.cell, hcx _ (by rw [hxl]; omega), hv0]
            have cf := hcur.frozen (p1 * 10 + 2)
            have HR : Hid (NB2 w2 bP d (.int .i64 ((u : Int) - 1)) (w4.setCell ⟨b9, p1 * 10 + 2, none⟩ (.int .i64 n2))) := Lib.hid ⟨u, _, rfl, by omega, hfr4.set b9 _ _ (fun h => by omega), hP4.setOther b9 _ _ (by omega), by
              have := hs4.putAt (j := p1 * 10 + 2) (by rw [hxl]; omega) (.int .i64 n2)
              have hns := nest_set d u hDb.2 (by omega)
              rw [show 10 * (2 * u + 1) + 2 = p1 * 10 + 2 by have := HN.out; omega, show 3 * d + 1 - u = n2 by have := HN.out; omega] at hns
              rw [hns] at this
              rw [show 3 * d + 1 - u = n2 by have := HN.out; omega]
              exact this⟩
            clear hs4 hcx hcur hP4 hfr4 hv0 hxl
            go_wp2_with fail
            go_roundw
            case measure => simp [intOf] <;> omega
            case rel => exact HR.out
end Go.Proofs.Ytoadmpochaeohaa
