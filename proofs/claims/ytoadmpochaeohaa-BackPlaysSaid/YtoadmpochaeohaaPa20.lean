/-
  Reference 14: is a byte in a set? lower, Alike; begun, with.
-/
import Derived.Test.YtoadmpochaeohaaPa19
import Derived.WalkSmall
section
set_option linter.unusedVariables false
set_option linter.unusedSimpArgs false
set_option maxRecDepth 100000
namespace Go.Proofs.Ytoadmpochaeohaa
open Go.RowKit

/-- The words of its set are words. -/
def Ins.ok (i : Ins) : Prop := (0 ≤ i.s0 ∧ i.s0 ≤ 18446744073709551615) ∧ (0 ≤ i.s1 ∧ i.s1 ≤ 18446744073709551615) ∧ (0 ≤ i.s2 ∧ i.s2 ≤ 18446744073709551615) ∧ (0 ≤ i.s3 ∧ i.s3 ≤ 18446744073709551615)
theorem bit_of (S : Int) (m : Nat) (h : 0 ≤ S ∧ S ≤ 18446744073709551615) : ((S / 2 ^ m).tmod 2 == 1) = (bits BinOp.and IntKind.u64 (S / 2 ^ m) 1 == 1) := by
  have h2 : (0 : Int) < 2 ^ m := Int.pow_pos (by omega)
  have h0 : 0 ≤ S / 2 ^ m := Int.ediv_nonneg h.1 (by omega)
  have h1 : S / 2 ^ m ≤ S := Int.ediv_le_self _ h.1
  rw [and_one_u64 _ h0 (by omega), Int.tmod_eq_emod_of_nonneg h0]
set_option maxHeartbeats 1600000 in
theorem refIn (i : Ins) (hi : i.ok) (c : UInt8) (w : World) : Calls Try.prog 68 #[.agg #[.int .u64 i.s0, .int .u64 i.s1, .int .u64 i.s2, .int .u64 i.s3], .int .i64 c.toNat] w fun e w' => e = .returned (.bool (inB i c)) ∧ Frm (fun _ => False) w w' := by
  have hc := c.toNat_lt
  have hB := Blk.new w [.int .u64 i.s0, .int .u64 i.s1, .int .u64 i.s2, .int .u64 i.s3] 37
  have hf : Frm (fun _ => False) w (w.alloc (.cells #[.int .u64 i.s0, .int .u64 i.s1, .int .u64 i.s2, .int .u64 i.s3] 37)) := (Frm.refl _ _).alloc _
  have b0 := hB.cell 0
  have b1 := hB.cell 1
  have b2 := hB.cell 2
  have b3 := hB.cell 3
  simp only [List.getElem?_cons_zero, List.getElem?_cons_succ] at b0 b1 b2 b3
  go_enter Try.func68, Try.ntmps68
  go_upto_region 1 with fail
  generalize w.alloc (.cells #[.int .u64 i.s0, .int .u64 i.s1, .int .u64 i.s2, .int .u64 i.s3] 37) = w1 at *
  generalize w.heap.size = b at *
  have hq : c.toNat / 64 = 0 ∨ c.toNat / 64 = 1 ∨ c.toNat / 64 = 2 ∨ c.toNat / 64 = 3 := by omega
  rcases hq with hq | hq | hq | hq
  all_goals
    go_wp2_with fail
    go_ret
    refine ⟨?_, hf⟩
    simp only [inB, hq, if_true, Nat.reduceEqDiff, if_false]
    first | (rw [bit_of _ _ hi.1]; rfl) | (rw [bit_of _ _ hi.2.1]; rfl) | (rw [bit_of _ _ hi.2.2.1]; rfl) | (rw [bit_of _ _ hi.2.2.2]; rfl)
theorem lowerR (c : UInt8) (w : World) : Calls Try.prog 84 #[.int .u8 c.toNat] w fun e w' => e = .returned (.int .u8 (lowS c).toNat) ∧ w = w' := by
  have hc := c.toNat_lt
  by_cases h1 : 65 ≤ c.toNat
  · by_cases h2 : c.toNat ≤ 90
    · have e : (lowS c).toNat = c.toNat + 32 := by
        rw [lowS, if_pos ⟨UInt8.le_iff_toNat_le.2 h1, UInt8.le_iff_toNat_le.2 h2⟩, UInt8.toNat_add]
        show (c.toNat + 32) % 256 = _
        omega
      rw [e]
      clear e
      go_enter Try.func84, Try.ntmps84
      go_wp2_with fail
      go_ret
      exact ⟨by congr 1, rfl⟩
    · have e : (lowS c).toNat = c.toNat := by
        rw [lowS, if_neg (fun h => h2 (UInt8.le_iff_toNat_le.1 h.2))]
      rw [e]
      clear e
      go_enter Try.func84, Try.ntmps84
      go_wp2_with fail
      go_ret
      exact ⟨rfl, rfl⟩
  · have e : (lowS c).toNat = c.toNat := by
      rw [lowS, if_neg (fun h : (65 : UInt8) ≤ c ∧ c ≤ 90 => h1 (UInt8.le_iff_toNat_le.1 h.1))]
    rw [e]
    clear e
    go_enter Try.func84, Try.ntmps84
    go_wp2_with fail
    go_ret
    exact ⟨rfl, rfl⟩
set_option maxHeartbeats 1600000 in
theorem alikeC (x y : UInt8) (fo : Bool) (w : World) : Calls Try.prog 70 #[.int .u8 x.toNat, .int .u8 y.toNat, .bool fo] w fun e w' => e = .returned (.bool (x == y || (fo && lowS x == lowS y))) ∧ w = w' := by
  have HL1 := Lib.hid (fun w => lowerR x w)
  have HL2 := Lib.hid (fun w => lowerR y w)
  obtain ⟨r, hr⟩ : ∃ r, (x == y || (fo && lowS x == lowS y)) = r := ⟨_, rfl⟩
  rw [hr]
  have HR := Lib.hid hr
  clear hr
  by_cases hxy : x = y
  · subst hxy
    obtain rfl : r = true := by rw [← HR.out]; simp
    have t0 : ((x.toNat : Int) == (x.toNat : Int)) = true := by simp
    go_enter Try.func70, Try.ntmps70
    go_wp2_with fail
    go_ret
    exact ⟨rfl, rfl⟩
  · have hne : ¬ ((x.toNat : Int) = (y.toNat : Int)) := fun h => hxy (UInt8.toNat_inj.1 (by omega))
    have t1 : ((x.toNat : Int) == (y.toNat : Int)) = false := by simpa using hne
    have hb : (x == y) = false := by simpa using hxy
    rw [hb, Bool.false_or] at HR
    clear hb hxy
    cases fo with
    | false =>
      obtain rfl : r = false := by rw [← HR.out]; rfl
      go_enter Try.func70, Try.ntmps70
      go_wp2_with fail
      go_ret
      exact ⟨rfl, rfl⟩
    | true =>
      obtain ⟨u, hu⟩ : ∃ u, lowS x = u := ⟨_, rfl⟩
      obtain ⟨v, hv⟩ : ∃ v, lowS y = v := ⟨_, rfl⟩
      rw [hu] at HL1 HR
      rw [hv] at HL2 HR
      clear hu hv
      have t2 : ((u.toNat : Int) == (v.toNat : Int)) = r := by
        rw [← HR.out]
        by_cases h : u = v
        · subst h; simp
        · have : ¬ ((u.toNat : Int) = (v.toNat : Int)) := fun h2 => h (UInt8.toNat_inj.1 (by omega))
          rw [show ((u.toNat : Int) == (v.toNat : Int)) = false by simpa using this, Bool.true_and]
          exact (by simpa using h : (u == v) = false).symm
      clear HR
      go_enter Try.func70, Try.ntmps70
      go_wp2_with (first | (go_at_call_has 84 x; refine (HL1.out _).mono ?_; rintro e w' ⟨rfl, rfl⟩) | (go_at_call_has 84 y; refine (HL2.out _).mono ?_; rintro e w' ⟨rfl, rfl⟩))
      go_ret
      exact ⟨rfl, rfl⟩
theorem infoI : (Try.prog.info? 3).map (fun i => (i.zero, i.size, i.bytes)) = some (some (.int .i64 0), 1, 8) := by kernel_rfl
theorem oneI (l : List Int) : ∀ u ∈ l.map I64, u.oneCell' = true := by
  intro u hu
  obtain ⟨z, _, rfl⟩ := List.mem_map.1 hu
  rfl
/-- Between two numbers. -/
def BG (w0 : World) (z : Int) (n : Nat) (v i : Value) (wr : World) : Prop := ∃ k : Nat, i = .int .i64 k ∧ k ≤ n ∧ Frm (fun _ => False) w0 wr ∧ Sl wr (fun q => w0.heap.size ≤ q) 3 1 v k ((List.replicate k z).map I64)
set_option maxHeartbeats 1600000 in
theorem begunC (n : Nat) (z : Int) (w : World) (hn : n ≤ 1000) : Calls Try.prog 47 #[.int .i64 n, .int .i64 z] w fun e w' => ∃ v, e = .returned v ∧ Sl w' (fun q => w.heap.size ≤ q) 3 1 v n ((List.replicate n z).map I64) ∧ Frm (fun _ => False) w w' := by
  have h0 : BG w z n (.slice none 0 0) (.int .i64 0) w := ⟨0, rfl, by omega, Frm.refl _ _, Sl.nil⟩
  have H0 := Lib.hid h0
  clear h0
  go_enter Try.func47, Try.ntmps47
  go_wp2_with fail
  go_loopw [5, 6] (fun v i wr => BG w z n v i wr) (fun _ i _ => n - (intOf i).toNat)
  case atStart => exact H0.out
  case round =>
    clear H0
    obtain ⟨k, rfl, hk, hfr, hS⟩ := hrel
    obtain ⟨A, c, rfl⟩ := hS.form
    by_cases hkn : k < n
    · have hwk : IntKind.i64.wrap ((k : Int) + 1) = ((k + 1 : Nat) : Int) := by rw [IntWalk.i64_in _ (by omega)]; omega
      go_wp2_with (with_reducible refine stop_at 15 rfl ?_)
      unfold Stop
      refine op_append rfl _ _ _ rfl 3 _ 1 8 Try.underlying73 infoI rfl (by omega) (hS.low.alloc (.cells #[.int .i64 z] 3)) rfl ⟨wr.heap.size, 0, none⟩ 1 1 [.int .i64 z] rfl rfl (fun j u hu => ((Blk.new wr [.int .i64 z] 3).cellAdd 0 j).trans (by rw [Nat.zero_add]; exact hu)) (oneI [z]) (by simp only [maxLen]; omega) (by omega) ?_
      intro v3 w3 hf3 hs3
      have hz := hfr.size
      have h9 : wr.heap.size ≤ (wr.alloc (.cells #[.int .i64 z] 3)).heap.size := ((Frm.refl (fun _ => False) wr).alloc _).size
      have HR : Hid (BG w z n v3 (.int .i64 ((k + 1 : Nat) : Int)) w3) := Lib.hid ⟨k + 1, rfl, by omega, (hfr.alloc _).then hf3 (fun q h hl => by have := h.1; omega), by
        rw [List.replicate_succ', List.map_append]
        exact hs3.mono (by
          rintro q (h | h) _
          · exact h.1
          · show w.heap.size ≤ q; omega)⟩
      obtain ⟨A9, c9, rfl⟩ := hs3.form
      clear hs3 hf3 hS hfr
      go_wp2_with fail
      go_roundw
      case measure => simp [intOf] <;> omega
      case rel => first | exact HR.out | (have h := HR.out; rw [show (((k + 1 : Nat) : Int)) = (k : Int) + 1 by omega] at h; exact h)
    · obtain rfl : k = n := by omega
      go_wp2_with fail
      go_ret
      exact ⟨_, rfl, hS, hfr⟩
set_option maxHeartbeats 1600000 in
theorem withC (A : Option Addr) (n c k : Nat) (x : Int) (l : List Int) (G : Nat → Prop) (w : World) (hrd : Rd w G 1 A n c (l.map I64)) (hk : k < n) (hn : n ≤ 1000) : Calls Try.prog 69 #[.slice A n c, .int .i64 k, .int .i64 x] w fun e w' => ∃ B d, e = .returned (.slice B n d) ∧ Sl w' (fun q => w.heap.size ≤ q) 3 1 (.slice B n d) n ((l.set k x).map I64) ∧ Frm (fun _ => False) w w' := by
  have hl : l.length = n := by have := hrd.len; simpa using this
  go_enter Try.func69, Try.ntmps69
  go_wp2_with (with_reducible refine stop_at 9 rfl ?_)
  unfold Stop
  refine op_appendRd rfl _ _ _ rfl 3 _ 1 8 Try.underlying73 infoI rfl (by omega) (F := fun q => w.heap.size ≤ q) (n := 0) (xs := []) Sl.nil rfl hrd rfl (oneI l) (by simp only [maxLen]; omega) (by omega) ?_
  intro v3 w3 hf3 hs3
  rw [Nat.zero_add, List.nil_append] at hs3
  obtain ⟨A9, c9, rfl⟩ := hs3.form
  have hs4 : Sl w3 (fun q => w.heap.size ≤ q) 3 1 (.slice A9 n c9) n (l.map I64) := hs3.mono (by rintro q (h | h) _ <;> exact h)
  have hf4 : Frm (fun _ => False) w w3 := hf3.mono (fun q h hl => by omega)
  clear hs3 hf3
  obtain ⟨b9, rfl, hb9, hb9l, cur, hcur, hcx⟩ := hs4.head (by omega)
  obtain ⟨v0, hv0⟩ : ∃ v0, (l.map I64)[k]? = some v0 := ⟨_, List.getElem?_eq_getElem (by simpa [hl] using hk)⟩
  have c0 : w3.cell? ⟨b9, k, none⟩ = some v0 := by rw [hcur.cell, hcx _ (by simpa [hl] using hk), hv0]
  have cf := hcur.frozen k
  have hs5 := hs4.putAt (j := k) (by simpa [hl] using hk) (I64 x)
  rw [← List.map_set] at hs5
  have hf5 := hf4.set b9 k (I64 x) (fun h => by omega)
  have H5 := Lib.hid (⟨hs5, hf5⟩ : _ ∧ _)
  clear hs5 hf5 hs4 hf4 hcur hcx hv0
  go_wp2_with fail
  go_ret
  exact ⟨_, _, rfl, H5.out.1, H5.out.2⟩
end Go.Proofs.Ytoadmpochaeohaa
end
