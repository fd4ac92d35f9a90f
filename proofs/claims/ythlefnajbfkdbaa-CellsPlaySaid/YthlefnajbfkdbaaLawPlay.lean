import Derived.Test.YthlefnajbfkdbaaLawPlayNo
import Derived.Deep.RegionWith
set_option linter.unusedVariables false
set_option linter.unusedSimpArgs false
namespace Go.Proofs.Ythlefnajbfkdbaa
open Go.RowKit

/-- Cells and the document's cells, after the same calls. -/
structure PlayInv (W : World) (g h N : Nat) (l : List (Int × Int)) (tr : List (Int × Int)) (wr : World) (F G : Nat → Prop) : Prop where
  ce : CE wr F g (vsOf N l) tr
  rc : RC wr G h N l
  f : ∀ k, F k → W.heap.size ≤ k
  g : ∀ k, G k → W.heap.size ≤ k
  fg : ∀ k, F k → ¬ G k
  frm : Frm (fun _ => False) W wr
  inl : InC N l
  int : InC N tr
  len : tr.length = l.length
  back : ∀ k, k ≤ l.length → backC (vsOf N l) (tr.drop k) = vsOf N (l.take k)
theorem PlayInv.low {W : World} {g h N : Nat} {l tr : List (Int × Int)} {wr : World} {F G : Nat → Prop} (H : PlayInv W g h N l tr wr F G) : PlayInv W g h N l tr wr (fun k => F k ∧ k < wr.heap.size) (fun k => G k ∧ k < wr.heap.size) :=
  ⟨H.ce.low, H.rc.low, fun k hk => H.f k hk.1, fun k hk => H.g k hk.1, fun k h1 h2 => H.fg k h1.1 h2.1, H.frm, H.inl, H.int, H.len, H.back⟩
theorem PlayInv.world {W : World} {g h N : Nat} {l tr : List (Int × Int)} {wr w1 : World} {F G : Nat → Prop} (H : PlayInv W g h N l tr wr F G) (f : Frm (fun _ => False) wr w1) : PlayInv W g h N l tr w1 F G :=
  ⟨H.ce.frm f (fun _ _ h => h), H.rc.frm f (fun _ _ h => h), H.f, H.g, H.fg, H.frm.trans f, H.inl, H.int, H.len, H.back⟩

/-- Set on both. -/
theorem PlayInv.set {W : World} {g h N : Nat} {l tr : List (Int × Int)} {wr w1 w2 : World} {F G : Nat → Prop} (H : PlayInv W g h N l tr wr F G) (i : Nat) (x : Int) (hi : i < N)
    (hr : RC w1 (fun k => (G k ∧ k < wr.heap.size) ∨ wr.heap.size ≤ k) h N (l ++ [((i : Int), x)])) (hf1 : Frm (fun k => G k ∧ k < wr.heap.size) wr w1)
    {e : Ending} (hp : SetPost (fun k => F k ∧ k < wr.heap.size) g w1 ((vsOf N l).set i x) (tr ++ [((i : Int), (getC (vsOf N l) i).1)]) 0 e w2) :
    PlayInv W g h N (l ++ [((i : Int), x)]) (tr ++ [((i : Int), (getC (vsOf N l) i).1)]) w2 (fun k => (F k ∧ k < wr.heap.size) ∨ w1.heap.size ≤ k) (fun k => ((G k ∧ k < wr.heap.size) ∨ wr.heap.size ≤ k) ∧ k < w1.heap.size) := by
  obtain ⟨_, hC, hf2⟩ := hp
  have hz := H.frm.size
  have hz1 := hf1.size
  have hvs : vsOf N (l ++ [((i : Int), x)]) = (vsOf N l).set i x := by rw [vsOf_append, Int.toNat_natCast]
  have hiv : i < (vsOf N l).length := by rw [vsOf_len]; exact hi
  refine ⟨by rw [hvs]; exact hC, hr.low.frm hf2 ?_, ?_, ?_, ?_, ?_, ?_, ?_, by rw [List.length_append, List.length_append, H.len]; rfl, ?_⟩
  · rintro k ⟨h1, h2⟩ ⟨h3, h4⟩
    rcases h1 with h1 | h1
    · exact H.fg k h3 h1.1
    · omega
  · rintro k (h1 | h1)
    · exact H.f k h1.1
    · omega
  · rintro k ⟨h1 | h1, h2⟩
    · exact H.g k h1.1
    · omega
  · rintro k (h1 | h1) ⟨h2 | h2, h3⟩
    · exact H.fg k h1.1 h2.1
    · omega
    · omega
    · omega
  · exact (H.frm.then hf1 (fun i h hi => by have := H.g i h.1; omega)).then hf2 (fun i h hi => by have := H.f i h.1; omega)
  · intro p hp
    rcases List.mem_append.1 hp with hp | hp
    · exact H.inl p hp
    · obtain rfl : p = _ := List.mem_singleton.1 hp
      exact ⟨by simp, by simpa using hi⟩
  · intro p hp
    rcases List.mem_append.1 hp with hp | hp
    · exact H.int p hp
    · obtain rfl : p = _ := List.mem_singleton.1 hp
      exact ⟨by simp, by simpa using hi⟩
  · intro k hk
    rw [hvs]
    rw [List.length_append, List.length_singleton] at hk
    by_cases hkl : k ≤ l.length
    · rw [List.drop_append_of_le_length (by rw [H.len]; exact hkl), set_back _ i x hiv, H.back k hkl, List.take_append_of_le_length hkl]
    · obtain rfl : k = l.length + 1 := by omega
      rw [List.drop_eq_nil_of_le (by rw [List.length_append, H.len]; simp), List.take_of_length_le (by simp), hvs]
      rfl

/-- Back on both. -/
theorem PlayInv.backs {W : World} {g h N : Nat} {l tr : List (Int × Int)} {wr w1 w2 : World} {F G : Nat → Prop} (H : PlayInv W g h N l tr wr F G) (m : Nat) (hm : m ≤ l.length)
    (hr : RC w1 (fun k => (G k ∧ k < wr.heap.size) ∨ wr.heap.size ≤ k) h N (l.take m)) (hf1 : Frm (fun k => G k ∧ k < wr.heap.size) wr w1)
    {e : Ending} (hp : BackPost (fun k => F k ∧ k < wr.heap.size) g w1 (backC (vsOf N l) (tr.drop m)) (tr.take m) 0 e w2) :
    PlayInv W g h N (l.take m) (tr.take m) w2 (fun k => F k ∧ k < wr.heap.size) (fun k => ((G k ∧ k < wr.heap.size) ∨ wr.heap.size ≤ k) ∧ k < w1.heap.size) := by
  obtain ⟨_, hC, hf2⟩ := hp
  have hz := H.frm.size
  have hz1 := hf1.size
  rw [H.back m hm] at hC
  refine ⟨hC, hr.low.frm hf2 ?_, ?_, ?_, ?_, ?_, fun p hp => H.inl p (List.mem_of_mem_take hp), fun p hp => H.int p (List.mem_of_mem_take hp), by rw [List.length_take, List.length_take, H.len], ?_⟩
  · rintro k ⟨h1, h2⟩ ⟨h3, h4⟩
    rcases h1 with h1 | h1
    · exact H.fg k h3 h1.1
    · omega
  · rintro k h1
    exact H.f k h1.1
  · rintro k ⟨h1 | h1, h2⟩
    · exact H.g k h1.1
    · omega
  · rintro k h1 ⟨h2 | h2, h3⟩
    · exact H.fg k h1.1 h2.1
    · omega
  · exact (H.frm.then hf1 (fun i h hi => by have := H.g i h.1; omega)).then hf2 (fun i h hi => by have := H.f i h.1; omega)
  · intro k hk
    rw [List.length_take] at hk
    rw [← H.back m hm, ← backC_two, ← drop_two tr k m (by omega), H.back k (by omega), take_two l k m (by omega)]

theorem PlayInv.ceSame {W : World} {g h N : Nat} {l tr : List (Int × Int)} {wr w1 : World} {F G : Nat → Prop} (H : PlayInv W g h N l tr wr F G) (hC : CE w1 (fun k => F k ∨ wr.heap.size ≤ k) g (vsOf N l) tr) (hf : Frm F wr w1) :
    PlayInv W g h N l tr w1 (fun k => F k ∨ wr.heap.size ≤ k) (fun k => G k ∧ k < wr.heap.size) := by
  have hz := H.frm.size
  refine ⟨hC, H.rc.low.frm hf (fun k h h' => H.fg k h' h.1), ?_, fun k h => H.g k h.1, ?_, H.frm.then hf (fun i h hi => by have := H.f i h; omega), H.inl, H.int, H.len, H.back⟩
  · rintro k (h1 | h1)
    · exact H.f k h1
    · omega
  · rintro k (h1 | h1) ⟨h2, h3⟩
    · exact H.fg k h1 h2
    · omega
theorem PlayInv.frame {W : World} {g h N : Nat} {l tr : List (Int × Int)} {wr w1 : World} {F G S : Nat → Prop} (H : PlayInv W g h N l tr wr F G) (f : Frm S wr w1) (hF : ∀ k, F k → ¬ S k) (hG : ∀ k, G k → ¬ S k) (hS : ∀ k, S k → k < W.heap.size → False) : PlayInv W g h N l tr w1 F G :=
  ⟨H.ce.frm f hF, H.rc.frm f hG, H.f, H.g, H.fg, H.frm.then f (fun i h hi => hS i h hi), H.inl, H.int, H.len, H.back⟩
theorem getC_val (vs : List Int) (i : Nat) (hi : i < vs.length) : getC vs i = ((getC vs i).1, true) := by
  rw [getC, if_neg (by omega), Int.toNat_natCast, List.getElem?_eq_getElem hi]
theorem getC_no (vs : List Int) (i : Int) (hi : i < 0 ∨ (vs.length : Int) ≤ i) : getC vs i = (0, false) := by
  rw [getC]
  by_cases h : i < 0
  · rw [if_pos h]
  · rw [if_neg h, List.getElem?_eq_none (by omega)]

set_option maxHeartbeats 8000000 in
set_option maxRecDepth 100000 in
theorem lawPlay (N : Int) (A0 : Option Addr) (n c0 : Nat) (zs : List Ly) (W : World) (hN0 : -9223372036854775808 ≤ N) (hN1 : N ≤ 9223372036854775807)
    (hrd0 : Rd W (fun _ => True) 3 A0 n c0 (flatY zs)) (hz0 : ∀ z ∈ zs, -9223372036854775808 ≤ z.kind ∧ z.kind ≤ 9223372036854775807) :
    Calls Try.prog 4 #[.int .i64 N, .slice A0 n c0] W fun e W' => e = .returned (.bool true) ∧ Frm (fun _ => False) W W' := by
  have HZ0 := Lib.hid hz0
  clear hz0
  have hzl : zs.length = n := by have := hrd0.len; rw [flatY_len] at this; omega
  have HZL := Lib.hid hzl
  clear hzl
  by_cases hN : N < 0 ∨ 100000 < N
  · exact lawPlayNo N _ W hN
  · obtain ⟨M, rfl⟩ := Int.eq_ofNat_of_zero_le (show 0 ≤ N by omega)
    have hM1 : ¬ ((M : Int) < 0) := by omega
    have hM2 : ¬ ((100000 : Int) < M) := by omega
    clear hN
    go_enter Try.func4, Try.ntmps4
    go_wp2_with fail
    refine (known_calls W).mono ?_
    rintro e w0 ⟨rfl, hf0⟩
    have hs0 := hf0.size
    go_wp2_with fail
    have hq : (M : Int).tmod 3001 = ((M % 3001 : Nat) : Int) := rfl
    try rw [hq]
    have hq2 : ((M : Int) % 3001) = ((M % 3001 : Nat) : Int) := rfl
    try rw [hq2]
    have hQ : M % 3001 ≤ 3000 := by omega
    clear hq hq2
    generalize M % 3001 = Q at *
    refine (newC Q w0 (by omega)).mono ?_
    rintro e w1 ⟨g, rfl, hC, hf1⟩
    have hs1 := hf1.size
    have hz1 := hf0.trans hf1
    have hR : RC (w1.alloc (.cells #[.int .i64 Q, .slice none 0 0] 40)) (fun k => k = w1.heap.size) w1.heap.size Q [] := ⟨_, Blk.new w1 [_, _] 40, rfl, Sl.nil⟩
    have hI : PlayInv W g w1.heap.size Q [] [] (w1.alloc (.cells #[.int .i64 Q, .slice none 0 0] 40)) (fun k => w0.heap.size ≤ k ∧ k < w1.heap.size) (fun k => k = w1.heap.size) :=
      ⟨(hC.low.frm (S := fun _ => False) ((Frm.refl _ _).alloc _) (fun _ _ h => h)), hR, fun k h => by have := h.1; omega, fun k h => by have := hz1.size; omega, fun k h h' => by have := h.2; omega, hz1.alloc _, fun p hp => by simp at hp, fun p hp => by simp at hp, rfl, fun k hk => by simp at hk; subst hk; rfl⟩
    clear hf0 hf1 hz1 hR hC
    go_wp2_with fail
    generalize w1.alloc (.cells #[.int .i64 Q, .slice none 0 0] 40) = w2 at *
    generalize w1.heap.size = h at *
    go_loopw [11] (fun i wr => ∃ (k : Nat) (l tr : List (Int × Int)) (F G : Nat → Prop), i = .int .i64 k ∧ k ≤ 300 ∧ Hid (l.length ≤ k) ∧ PlayInv W g h Q l tr wr F G) (fun i _ => 300 - (intOf i).toNat)
    case atStart => exact ⟨0, [], [], _, _, rfl, by omega, Nat.zero_le _, hI⟩
    case round =>
      obtain ⟨k, l, tr, F, G, rfl, hk, HL, hI⟩ := hrel
      have hz : W.heap.size ≤ wr.heap.size := hI.frm.size
      by_cases hlt : k < n ∧ k < 300
      · obtain ⟨h1, h2⟩ := hlt
        have hrd := hrd0.frm hI.frm (fun _ _ f => f)
        obtain ⟨y, hy⟩ : ∃ y, zs[k]? = some y := ⟨_, List.getElem?_eq_getElem (by rw [HZL.out]; exact h1)⟩
        obtain ⟨b, off, rfl, hbl, d0, d1, d2⟩ := hrd.lay k h1 y hy
        obtain ⟨hya, hyb⟩ := HZ0.out y (List.mem_of_getElem? hy)
        clear hy
        obtain ⟨yk, ya, yb⟩ := y
        simp only at hya hyb d0 d1 d2
        go_wp2_with fail
        refine (pick_calls yk 4 _ hya hyb (by decide) (by decide)).mono ?_
        rintro e w' ⟨rfl, rfl⟩
        have hp := pickN_lt yk 4 (by decide)
        generalize pickN yk 4 = p at *
        have hI2 := hI.low.world ((Frm.refl _ _).alloc (.cells #[.int .i64 yk, .int .i64 ya, .int .i64 yb] 42))
        have hL := Blk.new wr [.int .i64 yk, .int .i64 ya, .int .i64 yb] 42
        generalize hw2 : wr.alloc (.cells #[.int .i64 yk, .int .i64 ya, .int .i64 yb] 42) = w3 at *
        generalize hbk : wr.heap.size = bk at *
        generalize hFF : (fun i => F i ∧ i < bk) = F1 at *
        generalize hGG : (fun i => G i ∧ i < bk) = G1 at *
        have HF1 : Hid (∀ i, F1 i → i < bk) := by subst hFF; exact fun i h => h.2
        have HG1 : Hid (∀ i, G1 i → i < bk) := by subst hGG; exact fun i h => h.2
        clear hFF hGG hw2 hI
        obtain ⟨e0, e1, e2, _, _, _, l2⟩ := blk3 hL
        have hll : l.length ≤ 300 := by have := HL.out; omega
        have htl : tr.length ≤ 300 := by rw [hI2.len]; exact hll
        have hvl : (vsOf Q l).length ≤ 1073741824 := by rw [vsOf_len]; omega
        go_upto_block 2 with fail
        go_cut [13] from 69 to 204 (fun ok wx => ok = .bool true ∧ ∃ (l' tr' : List (Int × Int)) (F' G' : Nat → Prop), Hid (l'.length ≤ k + 1) ∧ PlayInv W g h Q l' tr' wx F' G')
        case first =>
          rcases p with _ | _ | _ | _ | p
          · by_cases hin : ya < 0 ∨ (Q : Int) ≤ ya
            · have hs := setC F1 g (vsOf Q l) tr ya yb w3 hI2.ce hvl (by omega)
              rw [if_pos (by rw [vsOf_len]; exact hin), if_pos (by rw [vsOf_len]; exact hin), if_pos (by rw [vsOf_len]; exact hin)] at hs
              have hr := setRNo G1 h Q l ya yb w3 hI2.rc hin
              have HS := Lib.hid hs
              have HR := Lib.hid hr
              clear hs hr hin
              go_wp2_with fail
              refine HR.out.mono ?_
              rintro e w' ⟨rfl, rfl⟩
              go_wp2_with fail
              refine HS.out.mono ?_
              rintro e w4 ⟨rfl, hC4, hf4⟩
              go_wp2_with fail
              go_meet
              exact ⟨rfl, l, tr, _, _, by have := HL.out; show _ ≤ _; omega, hI2.ceSame hC4 hf4⟩
            · obtain ⟨q, rfl⟩ := Int.eq_ofNat_of_zero_le (show 0 ≤ ya by omega)
              have hqN : q < Q := by omega
              have hr := setRYes _ h Q l q yb w3 hI2.rc.low (by omega) (by omega) (by omega)
              have hs := fun w h => setN (fun k => F1 k ∧ k < w3.heap.size) g (vsOf Q l) tr q yb w h hvl (by omega) (by rw [vsOf_len]; exact hqN)
              have HS := Lib.hid hs
              have HR := Lib.hid hr
              clear hs hr hin
              go_wp2_with fail
              refine HR.out.mono ?_
              rintro e w4 ⟨rfl, hr4, hf4⟩
              have hC4 := hI2.ce.low.frm hf4 (fun k h h' => hI2.fg k h.1 h'.1)
              have hL4 := hL.frm hf4 (fun h => absurd (HG1.out _ h.1) (by omega))
              obtain ⟨e0, e1, e2, _, _, _, l2⟩ := blk3 hL4
              go_wp2_with fail
              refine (HS.out w4 hC4).mono ?_
              intro e w5 hp5
              obtain rfl := hp5.1
              go_wp2_with fail
              go_meet
              exact ⟨rfl, _, _, _, _, by have := HL.out; show List.length _ ≤ _; rw [List.length_append, List.length_singleton]; omega, hI2.set q yb hqN hr4 hf4 hp5⟩
          · by_cases hin : ya < 0 ∨ (Q : Int) ≤ ya
            · have hr := getRNo G1 h Q l ya w3 hI2.rc hin
              have hs := getCalls F1 g (vsOf Q l) tr ya w3 hI2.ce hvl (0, false) (getC_no _ _ (by rw [vsOf_len]; exact hin))
              have HS := Lib.hid hs
              have HR := Lib.hid hr
              clear hs hr hin
              go_wp2_with fail
              refine HR.out.mono ?_
              rintro e w' ⟨rfl, rfl⟩
              go_wp2_with fail
              refine HS.out.mono ?_
              rintro e w' ⟨rfl, rfl⟩
              go_wp2_with fail
              go_meet
              exact ⟨rfl, l, tr, _, _, by have := HL.out; show _ ≤ _; omega, hI2⟩
            · obtain ⟨q, rfl⟩ := Int.eq_ofNat_of_zero_le (show 0 ≤ ya by omega)
              have hqN : q < Q := by omega
              have hr := getRYes G1 h Q l q w3 hI2.rc hqN hI2.inl (by omega)
              have hs := getCalls F1 g (vsOf Q l) tr q w3 hI2.ce hvl _ (getC_val _ q (by rw [vsOf_len]; exact hqN))
              generalize (getC (vsOf Q l) q).1 = x at hr hs
              have HS := Lib.hid hs
              have HR := Lib.hid hr
              have hxx : (x == x) = true := by simp
              clear hs hr hin
              go_wp2_with fail
              refine HR.out.mono ?_
              rintro e w' ⟨rfl, rfl⟩
              go_wp2_with fail
              refine HS.out.mono ?_
              rintro e w' ⟨rfl, rfl⟩
              go_wp2_with fail
              go_meet
              exact ⟨rfl, l, tr, _, _, by have := HL.out; show _ ≤ _; omega, hI2⟩
          · by_cases hin : ya < 0 ∨ (l.length : Int) < ya
            · have hr := backRNo G1 h Q l ya w3 hI2.rc hin
              have hs := backNo F1 g (vsOf Q l) tr ya w3 hI2.ce (by rw [hI2.len]; exact hin)
              have HS := Lib.hid hs
              have HR := Lib.hid hr
              clear hs hr hin
              go_wp2_with fail
              refine HR.out.mono ?_
              rintro e w' ⟨rfl, rfl⟩
              go_wp2_with fail
              refine HS.out.mono ?_
              rintro e w' ⟨rfl, rfl⟩
              go_wp2_with fail
              go_meet
              exact ⟨rfl, l, tr, _, _, by have := HL.out; show _ ≤ _; omega, hI2⟩
            · obtain ⟨q, rfl⟩ := Int.eq_ofNat_of_zero_le (show 0 ≤ ya by omega)
              have hqN : q ≤ l.length := by omega
              have hr := backR _ h Q l q w3 hI2.rc.low hqN (by omega)
              have hs := fun w h => backYes (fun k => F1 k ∧ k < w3.heap.size) g (vsOf Q l) tr q w h (by rw [hI2.len]; exact hqN) (by rw [vsOf_len]; exact hI2.int) hvl (by omega)
              have HS := Lib.hid hs
              have HR := Lib.hid hr
              clear hs hr hin
              go_wp2_with fail
              refine HR.out.mono ?_
              rintro e w4 ⟨rfl, hr4, hf4⟩
              have hC4 := hI2.ce.low.frm hf4 (fun k h h' => hI2.fg k h.1 h'.1)
              have hL4 := hL.frm hf4 (fun h => absurd (HG1.out _ h.1) (by omega))
              obtain ⟨e0, e1, e2, _, _, _, l2⟩ := blk3 hL4
              go_wp2_with fail
              refine (HS.out w4 hC4).mono ?_
              intro e w5 hp5
              obtain rfl := hp5.1
              go_wp2_with fail
              go_meet
              exact ⟨rfl, _, _, _, _, by have := HL.out; show List.length _ ≤ _; rw [List.length_take]; omega, hI2.backs q hqN hr4 hf4 hp5⟩
          · have hr := valuesR G1 h Q l w3 hI2.rc hI2.inl (by omega) (by omega)
            have HR := Lib.hid hr
            clear hr
            go_wp2_with fail
            refine HR.out.mono ?_
            rintro e w4 ⟨v4, rfl, hs4, hf4⟩
            obtain ⟨A4, c4, rfl⟩ := hs4.form
            have hI4 := hI2.world hf4
            go_wp2_with fail
            refine (valuesC F1 g (vsOf Q l) tr w4 hI4.ce hvl).mono ?_
            rw [vsOf_len]
            rintro e w5 ⟨v5, rfl, hs5, hf5⟩
            obtain ⟨A5, c5, rfl⟩ := hs5.form
            have hI5 := hI4.world hf5
            have hw5 := (hs4.low.rd).frm hf5 (fun _ _ h => h)
            go_wp2_with fail
            refine (values_calls w5 hs5.rd hw5 (by omega)).mono ?_
            rintro e w6 ⟨rfl, hf6⟩
            have hI6 := hI5.world hf6
            have hw6 := hw5.frm hf6 (fun _ _ h => h)
            have hs6 := hs5.low.frm hf6 (fun _ _ h => h)
            have hz4 := hf4.size
            have hz5 := hf5.size
            have hz6 := hf6.size
            have hbk3 : bk < w3.heap.size := l2
            have hWb : W.heap.size ≤ bk := hz
            go_upto_block 3 with fail
            go_cut [] from 169 to 177 (fun wx => Frm (fun k => w4.heap.size ≤ k ∧ k < w5.heap.size) w6 wx)
            case first =>
              go_wp2_with fail
              go_loopw [25] (fun i wr => ∃ (j : Nat) (xs : List Int), i = .int .i64 j ∧ j ≤ Q ∧ Hid (xs.length = Q) ∧ Sl wr (fun k => w4.heap.size ≤ k ∧ k < w5.heap.size) 3 1 (.slice A5 Q c5) Q (xs.map I64) ∧ Frm (fun k => w4.heap.size ≤ k ∧ k < w5.heap.size) w6 wr) (fun i _ => Q - (intOf i).toNat)
              case atStart => exact ⟨0, vsOf Q l, rfl, by omega, vsOf_len Q l, hs6, Frm.refl _ _⟩
              case round =>
                obtain ⟨j, xs, rfl, hj, HXL, hs, hf⟩ := hrel
                by_cases hjl : j < Q
                · obtain ⟨b2, rfl, hFb, hbl2, cur, hbc, hcur⟩ := hs.head (by omega)
                  have hc : ∃ y, wr.cell? ⟨b2, j, none⟩ = some y := by
                    rw [hbc.cell, hcur j (by rw [List.length_map, HXL.out]; exact hjl)]
                    exact ⟨_, List.getElem?_eq_getElem (by rw [List.length_map, HXL.out]; exact hjl)⟩
                  obtain ⟨y, hy⟩ := hc
                  have hfy := hbc.frozen j
                  clear hcur
                  go_wp2
                  go_roundw
                  case measure => simp [intOf] <;> omega
                  case rel =>
                    refine ⟨j + 1, xs.set j 99, by go_num, by omega, by show List.length _ = _; rw [List.length_set]; exact HXL.out, ?_, hf.set b2 j _ (fun _ => hFb)⟩
                    rw [List.map_set]
                    exact hs.put hjl (I64 99)
                · obtain rfl : j = Q := by omega
                  go_wp2_with fail
                  go_meet
                  exact hf
            case rest =>
              have hf7 := hcut
              generalize wc = w7 at *
              have hI7 := hI6.frame hf7 (fun k h h' => by have := HF1.out k h; have := h'.1; omega) (fun k h h' => by have := HG1.out k h; have := h'.1; omega) (fun k h hk => by have := h.1; omega)
              have hw7 := hw6.frm hf7 (fun k h h' => by have := h.2; have := h'.1; omega)
              go_wp2_with fail
              refine (valuesC F1 g (vsOf Q l) tr w7 hI7.ce hvl).mono ?_
              rw [vsOf_len]
              rintro e w8 ⟨v8, rfl, hs8, hf8⟩
              obtain ⟨A8, c8, rfl⟩ := hs8.form
              have hI8 := hI7.world hf8
              have hw8 := hw7.frm hf8 (fun _ _ h => h)
              have hz7 := hf7.size
              have hz8 := hf8.size
              go_wp2_with (with_reducible refine stop_at 181 rfl ?_)
              unfold Stop
              refine op_append rfl _ _ _ rfl 3 _ 1 8 Try.underlying22 infoInt rfl (by omega) (hs8.low.alloc _) rfl ⟨w8.heap.size, 0, none⟩ 2 2 [I64 1, I64 2] rfl rfl (fun j u hu => by rw [(Blk.new w8 _ 3).cellAdd 0 j, Nat.zero_add]; exact hu) (by intro u hu; simp at hu; rcases hu with rfl | rfl <;> rfl) (by simp only [maxLen]; omega) (by omega) ?_
              intro v9 w9 hf9 hs9
              obtain ⟨A9, c9, rfl⟩ := hs9.form
              have hF9 := ((Frm.refl (fun k => w7.heap.size ≤ k ∧ k < w8.heap.size) w8).alloc (.cells #[I64 1, I64 2] 3)).then hf9 (fun i h _ => h)
              have hI9 := hI8.frame hF9 (fun k h h' => by have := HF1.out k h; have := h'.1; omega) (fun k h h' => by have := HG1.out k h; have := h'.1; omega) (fun k h hk => by have := h.1; omega)
              have hw9 := hw8.frm hF9 (fun k h h' => by have := h.2; have := h'.1; omega)
              have hcap9 := hs9.rd.cap
              have hcut9 := (hs9.cut (k := Q) (by omega)).rd
              rw [Nat.mul_one, List.take_left' (by simp [vsOf_len])] at hcut9
              have hsub : IntKind.i64.wrap (((Q + 2 : Nat) : Int) - 2) = (Q : Int) := by rw [IntWalk.i64_in _ (by omega)]; omega
              go_wp2_with fail
              refine (values_calls w9 hcut9 hw9 (by omega)).mono ?_
              rintro e w10 ⟨rfl, hf10⟩
              go_wp2_with fail
              go_meet
              exact ⟨rfl, l, tr, _, _, by have := HL.out; show _ ≤ _; omega, hI9.world hf10⟩
          · exact absurd hp (by omega)
        case rest =>
          obtain ⟨rfl, l', tr', F', G', HL', hI⟩ := hcut
          generalize wc = w4 at *
          have hlen' := hI.len
          have hmk := markC F' g _ tr' _ (hI.ce.frm (S := fun _ => False) ((Frm.refl _ _).drew) (fun _ _ h => h))
          rw [hlen'] at hmk
          have HMK := Lib.hid hmk
          clear hmk hlen'
          obtain ⟨rv, rB, rG, rS⟩ := hI.rc
          obtain ⟨c0, c1, f0, f1, l0⟩ := blk2 rB
          obtain ⟨rA, rc, rfl⟩ := rS.form
          have hll : (l'.length != l'.length) = false := by simp
          clear hll
          have hll : ((l'.length : Int) != (l'.length : Int)) = false := by simp
          go_wp2_with fail
          go_region_with (go_at_call 26; refine HMK.out.mono ?_; rintro e w' ⟨rfl, rfl⟩)
          all_goals
            go_wp2
            go_roundw
            case measure => simp [intOf] <;> omega
            case rel => exact ⟨k + 1, l', tr', F', G', by go_num, by omega, HL', hI.world ((Frm.refl _ _).drew)⟩
      · go_wp2_with fail
        all_goals
          go_ret
          exact ⟨rfl, hI.frm⟩
end Go.Proofs.Ythlefnajbfkdbaa
