import Derived.Test.YthlefnajbfkdbaaKnown
set_option linter.unusedVariables false
set_option linter.unusedSimpArgs false
namespace Go.Proofs.Ythlefnajbfkdbaa
open Go.RowKit

/-- A pile and a list that has the same. -/
structure CInv (W : World) (P : Nat) (xs : List Int) (v : Value) (wr : World) (F1 F2 : Nat → Prop) : Prop where
  pi : PI wr F1 P xs
  sl : Sl wr F2 3 1 v xs.length (xs.map I64)
  frm : Frm (fun _ => False) W wr
  f1 : ∀ k, F1 k → W.heap.size ≤ k
  f2 : ∀ k, F2 k → W.heap.size ≤ k
  f12 : ∀ k, F1 k → ¬ F2 k
theorem CInv.low {W : World} {P : Nat} {xs : List Int} {v : Value} {wr : World} {F1 F2 : Nat → Prop} (h : CInv W P xs v wr F1 F2) : CInv W P xs v wr (fun k => F1 k ∧ k < wr.heap.size) (fun k => F2 k ∧ k < wr.heap.size) :=
  ⟨h.pi.low, h.sl.low, h.frm, fun k hk => h.f1 k hk.1, fun k hk => h.f2 k hk.1, fun k hk hk2 => h.f12 k hk.1 hk2.1⟩

theorem getI_last (xs : List Int) : getI xs xs.length = (0, false) := by
  rw [getI, if_neg (by omega), Int.toNat_natCast, List.getElem?_eq_none (Nat.le_refl _)]
theorem getI_at (xs : List Int) (k : Nat) (x : Int) (h : xs[k]? = some x) : getI xs k = (x, true) := by
  rw [getI, if_neg (by omega), Int.toNat_natCast, h]

theorem Rd.cell1 {w : World} {F : Nat → Prop} {A : Option Addr} {n c : Nat} {xs : List Int} (h : Rd w F 1 A n c (xs.map I64)) (k : Nat) (hk : k < n) : ∃ b off z, A = some ⟨b, off, none⟩ ∧ b < w.heap.size ∧ xs[k]? = some z ∧ w.cell? ⟨b, off + k, none⟩ = some (.int .i64 z) := by
  have hl : xs.length = n := by simpa using h.len
  obtain ⟨b, off, rfl, hb, hc⟩ := h.elem k hk
  have hz : xs[k]? = some xs[k] := List.getElem?_eq_getElem (by omega)
  refine ⟨b, off, _, rfl, hb, hz, ?_⟩
  have := hc 0 (.int .i64 xs[k]) (by rw [Nat.mul_one, Nat.add_zero, List.getElem?_map, hz]; rfl)
  simpa using this

theorem Rd.cell2 {w : World} {F : Nat → Prop} {b off n c : Nat} {xs : List Int} (h : Rd w F 1 (some ⟨b, off, none⟩) n c (xs.map I64)) (k : Nat) (hk : k < n) (z : Int) (hz : xs[k]? = some z) : w.cell? ⟨b, off + k, none⟩ = some (.int .i64 z) := by
  obtain ⟨b', off', z', e, hb, hz', hc⟩ := h.cell1 k hk
  cases e
  rw [hz] at hz'; cases hz'
  exact hc

theorem CInv.step {W : World} {P : Nat} {xs xs' : List Int} {v v' : Value} {wr w1 w2 : World} {F1 F2 G1 G2 : Nat → Prop} (h : CInv W P xs v wr F1 F2)
    (hp : PI w1 G1 P xs') (hf : Frm (fun k => F1 k ∧ k < wr.heap.size) wr w1) (hG1 : ∀ k, G1 k → (F1 k ∧ k < wr.heap.size) ∨ wr.heap.size ≤ k)
    (hf2 : Frm (fun k => F2 k ∧ k < wr.heap.size) w1 w2) (hsl : Sl w2 G2 3 1 v' xs'.length (xs'.map I64)) (hG2 : ∀ k, G2 k → (F2 k ∧ k < wr.heap.size) ∨ w1.heap.size ≤ k) :
    CInv W P xs' v' w2 (fun k => G1 k ∧ k < w1.heap.size) G2 := by
  have z0 := h.frm.size
  have z1 := hf.size
  refine ⟨hp.low.frm hf2 (fun k hk hk2 => ?_), hsl, ?_, ?_, ?_, ?_⟩
  · rcases hG1 k hk.1 with h1 | h1
    · exact h.f12 k h1.1 hk2.1
    · omega
  · exact (h.frm.then hf (fun i hi hl => absurd (h.f1 i hi.1) (by omega))).then hf2 (fun i hi hl => absurd (h.f2 i hi.1) (by omega))
  · rintro k ⟨hk, _⟩
    rcases hG1 k hk with h1 | h1
    · exact h.f1 k h1.1
    · omega
  · rintro k hk
    rcases hG2 k hk with hk | hk
    · exact h.f2 k hk.1
    · omega
  · rintro k ⟨hk, hl⟩ hk2
    rcases hG2 k hk2 with hk2 | hk2
    · rcases hG1 k hk with h1 | h1
      · exact h.f12 k h1.1 hk2.1
      · omega
    · omega

set_option maxHeartbeats 4000000 in
set_option maxRecDepth 100000 in
theorem lawCuts (A0 : Option Addr) (n c0 : Nat) (zs : List Int) (A1 : Option Addr) (m c1 : Nat) (ys : List Int) (W : World) (hrd0 : Rd W (fun _ => True) 1 A0 n c0 (zs.map I64)) (hrd1 : Rd W (fun _ => True) 1 A1 m c1 (ys.map I64)) :
    Calls Try.prog 3 #[.slice A0 n c0, .slice A1 m c1] W fun e W' => e = .returned (.bool true) ∧ Frm (fun _ => False) W W' := by
  go_enter Try.func3, Try.ntmps3
  go_wp2_with fail
  refine (known_calls W).mono ?_
  rintro e w0 ⟨rfl, hf0⟩
  have hs0 := hf0.size
  go_wp2_with fail
  refine (newI w0).mono ?_
  rintro e w1 ⟨rfl, rfl⟩
  have hI : CInv W w0.heap.size [] (.slice none 0 0) (w0.alloc (.cells #[.slice none 0 0] 75)) (fun k => k = w0.heap.size) (fun _ => False) :=
    ⟨newPI w0, Sl.nil, hf0.alloc _, fun k h => by omega, fun _ h => h.elim, fun _ _ h => h⟩
  generalize w0.alloc (.cells #[.slice none 0 0] 75) = w1 at *
  generalize w0.heap.size = P at *
  clear hf0
  go_wp2_with fail
  go_loopw [7, 8] (fun v i wr => ∃ (k : Nat) (xs : List Int) (F1 F2 : Nat → Prop), i = .int .i64 k ∧ k ≤ 300 ∧ xs.length ≤ k ∧ CInv W P xs v wr F1 F2) (fun _ i _ => 300 - (intOf i).toNat)
  case atStart => exact ⟨0, [], _, _, rfl, by omega, by simp, hI⟩
  case round =>
    obtain ⟨k, xs, F1, F2, rfl, hk, hx, hI⟩ := hrel
    have hsl := hI.sl
    obtain ⟨A2, c2, rfl⟩ := hsl.form
    by_cases hlt : k < n ∧ k < 300
    · obtain ⟨h1, h2⟩ := hlt
      have hrd := hrd0.frm hI.frm (fun _ _ f => f)
      obtain ⟨b, off, z, rfl, hbl, hz, hc⟩ := hrd.cell1 k h1
      have HZ := Lib.hid hz
      clear hz
      go_wp2_with fail
      refine (pushI _ P xs z wr hI.low.pi (by omega)).mono ?_
      rintro e w2 ⟨rfl, hp2, hf2⟩
      have hsl2 := hI.low.sl.frm hf2 (fun k h h' => hI.f12 k h'.1 h.1)
      have z2 := hf2.size
      have zr := hI.frm.size
      have hF2 : Frm (fun _ => False) W w2 := hI.frm.then hf2 (fun i h hi => by have := hI.f1 i h.1; omega)
      have hrd := hrd0.frm hF2 (fun _ _ f => f)
      have hc := hrd.cell2 k h1 z HZ.out
      have hbl : b < w2.heap.size := by omega
      go_wp2_with (with_reducible refine stop_at 46 rfl ?_)
      unfold Stop
      refine op_append rfl _ _ _ rfl 3 _ 1 8 Try.underlying22 infoInt rfl (by omega) (hsl2.alloc _) rfl ⟨w2.heap.size, 0, none⟩ 1 1 [I64 z] rfl rfl (fun j u hu => by rw [(Blk.new w2 _ 3).cellAdd 0 j, Nat.zero_add]; exact hu) (by intro u hu; simp at hu; subst hu; rfl) (by simp only [maxLen]; omega) (by omega) ?_
      intro v' w3 hf3 hs3
      have hF3 := ((Frm.refl (fun k => F2 k ∧ k < wr.heap.size) w2).alloc (.cells #[I64 z] 3)).then hf3 (fun i h _ => h)
      have hlast := hs3
      rw [show xs.map I64 ++ [I64 z] = (xs ++ [z]).map I64 by simp, show xs.length + 1 = (xs ++ [z]).length by simp] at hs3
      have hI3 : CInv W P (xs ++ [z]) v' w3 (fun k => ((F1 k ∧ k < wr.heap.size) ∨ wr.heap.size ≤ k) ∧ k < w2.heap.size) (fun k => (F2 k ∧ k < wr.heap.size) ∨ (w2.alloc (.cells #[I64 z] 3)).heap.size ≤ k) :=
        hI.step hp2 hf2 (by rintro k (h | h); exact .inl h; exact .inr h) hF3 hs3 (by rintro k (h | h); exact .inl h; exact .inr (by simp at h; omega))
      clear hs3 hlast hF3 hf3 hsl2 hp2
      have hxl : (xs ++ [z]).length = xs.length + 1 := by simp
      obtain ⟨A3, c3, hv'⟩ := hI3.sl.form
      rw [hv'] at hI3
      rw [hv']
      clear hv'
      generalize xs ++ [z] = xs1 at *
      have hF3 := hI3.frm
      have z3 := hF3.size
      by_cases hm : k < m
      · have hrd := hrd1.frm hF3 (fun _ _ f => f)
        obtain ⟨b1, off1, y, rfl, hbl1, hy, hc1⟩ := hrd.cell1 k hm
        have HY := Lib.hid hy
        clear hy
        go_wp2_with fail
        refine (cutI _ P xs1 y w3 hI3.low.pi (by omega)).mono ?_
        rintro e w4 ⟨rfl, hp4, hf4⟩
        have hsl4 := hI3.low.sl.frm hf4 (fun k h h' => hI3.f12 k h'.1 h.1)
        have hF4 : Frm (fun _ => False) W w4 := hI3.frm.then hf4 (fun i h hi => by have := hI3.f1 i h.1; omega)
        by_cases hy1 : y < 0
        · rw [if_pos (Or.inl hy1)] at hp4 ⊢
          have hI4 := hI3.step hp4 hf4 (fun k h => .inl h) (Frm.refl _ w4) hsl4 (fun k h => .inl h)
          go_wp2
          go_roundw
          case measure => simp [intOf]; omega
          case rel => exact ⟨k + 1, xs1, _, _, by go_num, by omega, by omega, by rw [hxl] at hI4; exact hI4⟩
        · by_cases hy2 : (xs1.length : Int) < y
          · rw [if_pos (Or.inr hy2)] at hp4 ⊢
            have hI4 := hI3.step hp4 hf4 (fun k h => .inl h) (Frm.refl _ w4) hsl4 (fun k h => .inl h)
            go_wp2
            go_roundw
            case measure => simp [intOf]; omega
            case rel => exact ⟨k + 1, xs1, _, _, by go_num, by omega, by omega, by rw [hxl] at hI4; exact hI4⟩
          · have hno : ¬ (y < 0 ∨ (xs1.length : Int) < y) := by omega
            rw [if_neg hno] at hp4 ⊢
            obtain ⟨q, rfl⟩ := Int.eq_ofNat_of_zero_le (Int.not_lt.1 hy1)
            have hq : q ≤ xs1.length := by omega
            have hcap := hsl4.rd.cap
            have hcut := (hsl4.cut (k := q) (by omega))
            rw [Nat.mul_one, ← List.map_take] at hcut
            have htl : (xs1.take q).length = q := by rw [List.length_take]; omega
            rw [Int.toNat_natCast] at hp4
            have hI4 := hI3.step hp4 hf4 (fun k h => .inl h) (Frm.refl _ w4) (by rw [htl]; exact hcut) (fun k h => .inl h)
            have HTL := Lib.hid htl
            clear htl
            go_wp2
            go_roundw
            case measure => simp [intOf]; omega
            case rel => exact ⟨k + 1, xs1.take q, _, _, by go_num, by omega, by rw [HTL.out]; omega, hI4⟩
      · go_wp2
        go_roundw
        case measure => simp [intOf]; omega
        case rel => exact ⟨k + 1, xs1, _, _, by go_num, by omega, by omega, by rw [hxl] at hI3; exact hI3⟩
    · have hz := hI.frm.size
      go_wp2_with fail
      all_goals
        refine (lenI _ P xs wr hI.pi).mono ?_
        rintro e w' ⟨rfl, rfl⟩
        clear hlt
        have HI := Lib.hid hI
        clear hI hsl
        go_wp2_with fail
        go_loopw [11] (fun i wr' => ∃ (j : Nat), i = .int .i64 j ∧ j ≤ xs.length ∧ wr' = wr) (fun i _ => xs.length - (intOf i).toNat)
        case atStart => exact ⟨0, rfl, by omega, rfl⟩
        case round =>
          obtain ⟨j, rfl, hj, rfl⟩ := hrel
          have hI := HI.out
          by_cases hjl : j < xs.length
          · obtain ⟨b, off, z, rfl, hbl, hz, hc⟩ := hI.sl.rd.cell1 j hjl
            have hg := getI_at xs j z hz
            clear hz
            go_wp2_with fail
            refine (atI _ P xs j _ hI.pi (by omega) _ hg).mono ?_
            rintro e w' ⟨rfl, rfl⟩
            clear hg
            go_wp2
            go_roundw
            case measure => simp [intOf]; omega
            case rel => exact ⟨j + 1, by go_num, by omega, trivial⟩
          · obtain rfl : j = xs.length := by omega
            go_wp2_with fail
            refine (atI _ P xs xs.length _ hI.pi (by omega) _ (getI_last xs)).mono ?_
            rintro e w' ⟨rfl, rfl⟩
            go_wp2
            go_ret
            exact ⟨rfl, hI.frm⟩
end Go.Proofs.Ythlefnajbfkdbaa
