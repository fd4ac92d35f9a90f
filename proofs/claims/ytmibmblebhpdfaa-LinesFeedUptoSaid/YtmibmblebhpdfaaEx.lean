import Derived.Test.YtmibmblebhpdfaaSame
set_option linter.unusedVariables false
set_option linter.unusedSimpArgs false
namespace Go.Proofs.Ytmibmblebhpdfaa
open Go.RowKit

theorem pick_calls (c n : Int) (w : World) (hc0 : -9223372036854775808 ≤ c) (hc1 : c ≤ 9223372036854775807) (hn : 1 ≤ n) (hn1 : n ≤ 9223372036854775807) :
    Calls Try.prog 10 #[.int .i64 c, .int .i64 n] w fun e w' => ∃ k : Nat, e = .returned (.int .i64 k) ∧ (k : Int) < n ∧ w = w' := by
  have key : ∀ x : Int, 0 ≤ x → ∃ k : Nat, x % n = k ∧ (k : Int) < n := fun x hx =>
    ⟨(x % n).toNat, by have := Int.emod_nonneg x (show n ≠ 0 by omega); omega, by have := Int.emod_nonneg x (show n ≠ 0 by omega); have := Int.emod_lt_of_pos x (show 0 < n by omega); omega⟩
  by_cases h : c < 0
  · go_enter Try.func10, Try.ntmps10
    go_wp2
    go_ret
    obtain ⟨k, hk, hk2⟩ := key (-(c + 1)) (by omega)
    have e1 : (-(c + 1)) % n = (-(c + 1)).tmod n := (Int.tmod_eq_emod_of_nonneg (by omega)).symm
    exact ⟨k, by rw [← hk, e1, Int.neg_tmod]; rfl, hk2, rfl⟩
  · go_enter Try.func10, Try.ntmps10
    go_wp2
    go_ret
    obtain ⟨k, hk, hk2⟩ := key c (by omega)
    exact ⟨k, by rw [← hk]; rfl, hk2, rfl⟩

theorem Sl.two {w : World} {F : Nat → Prop} {v : Value} {l m : Ln} (h : Sl w F 31 4 v 2 (cellsL [l, m])) : ∃ b c, v = .slice (some ⟨b, 0, none⟩) 2 c ∧ b < w.heap.size ∧
    w.cell? ⟨b, 0, none⟩ = some (.int .i64 l.num) ∧ w.cell? ⟨b, 1, none⟩ = some (.int .i64 l.at_) ∧ w.cell? ⟨b, 2, none⟩ = some (.string (bs l.text)) ∧ w.cell? ⟨b, 3, none⟩ = some (.bool l.ended) ∧
    w.cell? ⟨b, 4, none⟩ = some (.int .i64 m.num) ∧ w.cell? ⟨b, 5, none⟩ = some (.int .i64 m.at_) ∧ w.cell? ⟨b, 6, none⟩ = some (.string (bs m.text)) ∧ w.cell? ⟨b, 7, none⟩ = some (.bool m.ended) := by
  generalize hq : cellsL [l, m] = q at h
  generalize hn : (2 : Nat) = n at h
  cases h with
  | nil => cases hn
  | at_ hF hb hx hr hn2 hm =>
    subst hq; subst hn
    exact ⟨_, _, rfl, hb.lt, hb.cell 0, hb.cell 1, hb.cell 2, hb.cell 3, hb.cell 4, hb.cell 5, hb.cell 6, hb.cell 7⟩
theorem Sl.single {w : World} {F : Nat → Prop} {v : Value} {l : Ln} (h : Sl w F 31 4 v 1 (cellsL [l])) : ∃ b c, v = .slice (some ⟨b, 0, none⟩) 1 c ∧ b < w.heap.size ∧
    w.cell? ⟨b, 0, none⟩ = some (.int .i64 l.num) ∧ w.cell? ⟨b, 1, none⟩ = some (.int .i64 l.at_) ∧ w.cell? ⟨b, 2, none⟩ = some (.string (bs l.text)) ∧ w.cell? ⟨b, 3, none⟩ = some (.bool l.ended) := by
  generalize hq : cellsL [l] = q at h
  generalize hn : (1 : Nat) = n at h
  cases h with
  | nil => cases hn
  | at_ hF hb hx hr hn2 hm =>
    subst hq; subst hn
    exact ⟨_, _, rfl, hb.lt, hb.cell 0, hb.cell 1, hb.cell 2, hb.cell 3⟩
theorem Sl.none_ {w : World} {F : Nat → Prop} {v : Value} {xs : List Value} (h : Sl w F 31 4 v 0 xs) : ∃ A c, v = .slice A 0 c := h.form

attribute [local go_sem high] run_eqLn

set_option maxHeartbeats 1000000 in
theorem examples_calls (w : World) : Calls Try.prog 8 #[] w fun e w' => e = .returned (.bool true) ∧ Frm (fun _ => False) w w' := by
  go_enter Try.func8, Try.ntmps8
  go_wp2_with fail
  refine (split_calls ⟨#[97, 10, 98]⟩ w (by decide)).mono ?_
  rintro e w1 ⟨v1, rfl, hv1, hf1⟩
  rw [show splitL [97, 10, 98] = [⟨1, 0, [97], true⟩, ⟨2, 2, [98], false⟩] from by decide] at hv1
  have q0 : lnEq 1 1 0 0 (bs [97]) ⟨#[97]⟩ true true = true := (lnEq_of ⟨1, 0, [97], true⟩ ⟨1, 0, [97], true⟩).trans (by decide)
  have q1 : lnEq 2 2 2 2 (bs [98]) ⟨#[98]⟩ false false = true := (lnEq_of ⟨2, 2, [98], false⟩ ⟨2, 2, [98], false⟩).trans (by decide)
  obtain ⟨b1, c1, rfl, l1, p0, p1, p2, p3, p4, p5, p6, p7⟩ := Sl.two hv1
  go_wp2_with fail
  refine (new_calls _).mono ?_
  rintro e w' ⟨rfl, rfl⟩
  have hsp := new_spl w1
  go_wp2_with fail
  refine (feed_calls (fun k => k = w1.heap.size) w1.heap.size [] 0 1 ⟨#[97, 98]⟩ _ hsp (by decide) (by omega) (by omega) (by simp) (by omega)).mono ?_
  rintro e w2 ⟨v2, F1, F2, rfl, hv2, hs2, hf2, hF1, hF2, hF12⟩
  rw [show feedL (0 - (([] : List UInt8).length : Int)) 1 [] (⟨#[97, 98]⟩ : ByteArray).data.toList = ⟨[], [97, 98], 1, 0⟩ from by decide] at hv2 hs2
  obtain ⟨A2, c2, rfl⟩ := Sl.none_ hv2
  go_wp2_with fail
  refine (held_calls _ _ _ _ _ _ hs2).mono ?_
  rintro e w' ⟨rfl, rfl⟩
  go_wp2_with fail
  refine (feed_calls _ w1.heap.size _ _ _ ⟨#[99, 10, 100]⟩ _ hs2 (by decide) (by omega) (by omega) (by decide) (by decide)).mono ?_
  rintro e w3 ⟨v3, G1, G2, rfl, hv3, hs3, hf3, hG1, hG2, hG12⟩
  rw [show feedL (0 + ((⟨#[97, 98]⟩ : ByteArray).size : Int) - (([97, 98] : List UInt8).length : Int)) 1 [97, 98] (⟨#[99, 10, 100]⟩ : ByteArray).data.toList = ⟨[⟨1, 0, [97, 98, 99], true⟩], [100], 2, 4⟩ from by decide] at hv3 hs3
  obtain ⟨b3, c3, rfl, l3, r0, r1, r2, r3⟩ := Sl.single hv3
  go_wp2_with fail
  refine (at_calls _ _ _ _ _ _ hs3).mono ?_
  rintro e w' ⟨rfl, rfl⟩
  go_wp2_with fail
  refine (close_calls _ w1.heap.size _ _ _ _ hs3.low (by decide) (by omega) (by omega) (by decide) (by decide)).mono ?_
  rintro e w4 ⟨v4, H1, H2, rfl, hv4, hs4, hf4, hH1, hH2, hH12⟩
  have hv3' := hv3.low.frm hf4 (fun k h h' => hG12 k h'.1 h.1)
  obtain ⟨b3', c3', hbb, l3, r0, r1, r2, r3⟩ := Sl.single hv3'
  cases hbb
  rw [show closeL ⟨[], [100], 2, 0 + ((⟨#[97, 98]⟩ : ByteArray).size : Int) + ((⟨#[99, 10, 100]⟩ : ByteArray).size : Int) - (([100] : List UInt8).length : Int)⟩ = [⟨2, 4, [100], false⟩] from by decide] at hv4
  obtain ⟨b4, c4, rfl, l4, s0, s1, s2, s3⟩ := Sl.single hv4
  have qs : (bs [97, 98, 99]).toList = [97, 98, 99] := by rw [ByteArray.toList_eq]; rfl
  go_wp2_with (go_at_call 14; refine (at_calls _ _ _ _ _ _ hs4).mono ?_; rintro e w' ⟨rfl, rfl⟩)
  go_ret
  have z1 := hf1.size
  have z2 := hf2.size
  have z3 := hf3.size
  simp at z2
  refine ⟨rfl, ((((hf1.alloc _).then hf2 (fun i h hi => by omega)).then hf3 (fun i h hi => ?_)).then hf4 (fun i h hi => ?_))⟩
  · rcases hF1 i h with h | h
    · omega
    · simp at h; omega
  · rcases hG1 i h.1 with h | h
    · rcases hF1 i h with h | h
      · omega
      · simp at h; omega
    · omega
end Go.Proofs.Ytmibmblebhpdfaa
