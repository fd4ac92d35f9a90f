/-
  Layer 20: fresh, walked.
-/
import Derived.Test.YtoadmpochaeohaaBOnAll
import Derived.Test.YtoadmpochaeohaaBTurn
set_option linter.unusedVariables false
set_option linter.unusedSimpArgs false
set_option maxRecDepth 100000
namespace Go.Proofs.Ytoadmpochaeohaa
open Go.RowKit

theorem pushM {E D : Nat → Prop} {b g bm : Nat} {s : Stt} {m : Mc} {line : ByteArray} {pile : List Fr} {seen : List Key} {steps kept : Nat} {w : World} (ty : TypeId) (xv : Value) (f : Fr)
    (h : MM w E D b g bm s m line pile seen steps kept) (hf : FrV w D f (.iface ty xv)) (hb : pile.length ≤ 1073741824) :
    Calls Try.prog 53 #[.pointer (some ⟨g, 0, none⟩), .iface ty xv] w fun e w' => e = .returned (.tuple #[]) ∧ MM w' (fun k => E k ∨ w.heap.size ≤ k) (fun k => D k ∧ k < w.heap.size) b g bm s m line (f :: pile) seen steps kept ∧ Frm (fun k => E k ∧ k ≠ b ∧ k ≠ bm) w w' := by
  obtain ⟨vs, h1, h2⟩ := h.ps
  have hlen : vs.reverse.length ≤ 1073741824 := by rw [List.length_reverse, ← h2.length_eq]; exact hb
  refine (pushB _ g vs.reverse ty xv w h1 hlen).mono ?_
  rintro e w' ⟨rfl, p1, p2⟩
  have hbl := h.obj.lt
  have hml := h.map.lt
  have hd : ∀ k, D k → ¬ (E k ∧ k ≠ b ∧ k ≠ bm) := fun k hk he => h.apart k hk he.1
  refine ⟨rfl, ⟨h.obj.frm p2 (fun h => h.2.1 rfl), .inl h.bE, .inl h.mE, h.ne, ⟨.iface ty xv :: vs, ?_, ?_⟩, h.map.frm p2 (fun h => h.2.2 rfl), (h.sta.mono fun k hk hl => ⟨hk, hl⟩).frm p2 (fun k hk => hd k hk.1), fun k hk he => ?_⟩, p2⟩
  · rw [List.reverse_cons]
    exact p1.mono fun k hk _ => by rcases hk with hk | hk; exact ⟨.inl hk.1, hk.2⟩; exact ⟨.inr hk, by omega, by omega⟩
  · exact .cons ((hf.mono fun k hk hl => ⟨hk, hl⟩).frm p2 (fun k hk => hd k hk.1)) (forall2_mono (fun a b hh => (hh.mono fun k hk hl => ⟨hk, hl⟩).frm p2 (fun k hk => hd k hk.1)) h2)
  · rcases he with he | he
    · exact h.apart k hk.1 he
    · omega
theorem MM.setMap {w w' : World} {E D : Nat → Prop} {b g bm : Nat} {s : Stt} {m : Mc} {line : ByteArray} {pile : List Fr} {seen seen' : List Key} {steps kept : Nat} (h : MM w E D b g bm s m line pile seen steps kept) (f : Frm (fun k => k = bm) w w') (hs : SM w' bm seen') : MM w' E D b g bm s m line pile seen' steps kept := by
  obtain ⟨vs, h1, h2⟩ := h.ps
  have hd : ∀ k, D k → ¬ (k = bm) := fun k hk e => h.apart k hk (e ▸ h.mE)
  exact ⟨h.obj.frm f h.ne, h.bE, h.mE, h.ne, ⟨vs, h1.frm f (fun k hk => hk.2.2), forall2_mono (fun a b hh => hh.frm f hd) h2⟩, hs, h.sta.frm f hd, h.apart⟩
/-- A number of the object is written. -/
theorem MM.setObj {w w' : World} {E D : Nat → Prop} {b g bm : Nat} {s : Stt} {m : Mc} {line : ByteArray} {pile : List Fr} {seen : List Key} {steps kept steps' kept' : Nat} (h : MM w E D b g bm s m line pile seen steps kept) (f : Frm (fun k => k = b) w w') (hs : Blk w' b (cellsB s m (.map (some bm)) (.pointer (some ⟨g, 0, none⟩)) line steps' kept') 78) : MM w' E D b g bm s m line pile seen steps' kept' := by
  obtain ⟨vs, h1, h2⟩ := h.ps
  have hd : ∀ k, D k → ¬ (k = b) := fun k hk e => h.apart k hk (e ▸ h.bE)
  exact ⟨hs, h.bE, h.mE, h.ne, ⟨vs, h1.frm f (fun k hk => hk.2.1), forall2_mono (fun a b hh => hh.frm f hd) h2⟩, h.map.frm f (fun e => h.ne e.symm), h.sta.frm f hd, h.apart⟩
theorem Lk.eff {w : World} {E D : Nat → Prop} {w1 w2 : World} {E1 D1 S : Nat → Prop} (h : Lk w E D w1 E1 D1) (f : Frm S w1 w2) (hS : ∀ k, S k → E1 k) : Lk w E D w2 E1 D1 :=
  ⟨h.e, h.d, h.f.then f (fun k hk hl => by rcases h.e k (hS k hk) with h | h; exact h; omega)⟩
theorem keyS_len (m : Mc) (c : Cf) : (keyS m c).length = 8 + 12 * c.parts.length + 4 * c.turns.length := by
  unfold keyS
  rw [List.length_append, List.length_append, List.length_append, keyPs_len, keyTn_len]
  rfl
/-- What fresh leaves. -/
def FreshPost (w : World) (E D : Nat → Prop) (b g bm : Nat) (s : Stt) (m : Mc) (line : ByteArray) (pile : List Fr) (seen : List Key) (steps kept : Nat) (c : Cf) (e : Ending) (w' : World) : Prop :=
  if keyS m c ∈ seen then e = .returned (.bool false) ∧ MX w E D w' b g bm s m line pile seen steps kept
  else e = .returned (.bool true) ∧ MX w E D w' b g bm s m line (if m.plain then .leave (keyS m c) :: pile else pile) (keyS m c :: seen) steps (if m.plain then kept else max kept (seen.length + 1))

set_option maxHeartbeats 16000000 in
theorem freshM {E D : Nat → Prop} {b g bm : Nat} {s : Stt} {m : Mc} {line : ByteArray} {pile : List Fr} {seen : List Key} {steps kept : Nat} {A B : Option Addr} {n cA k d : Nat} {w : World} (c : Cf) (hW : MW m) (hcw : CW m line.size c)
    (hM : MM w E D b g bm s m line pile seen steps kept) (hc : CfR w D c.parts c.turns A n cA B k d) (hb : pile.length ≤ 1073741000) (hls : line.size ≤ 900000) (hsl : seen.length ≤ 1073741000) (hkp : kept ≤ 4611686018427387904) :
    Calls Try.prog 55 #[.pointer (some ⟨b, 0, none⟩), .agg #[.int .i64 c.pc, .int .i64 c.at_, .slice A n cA, .slice B k d]] w (FreshPost w E D b g bm s m line pile seen steps kept c) := by
  obtain ⟨pc, at_, parts, turns⟩ := c
  have hpc := hcw.pc
  have hat := hcw.at_
  simp only at hc hpc hat ⊢
  obtain ⟨lvs, hlv⟩ : ∃ r, m.live[pc]? = some r := ⟨_, List.getElem?_eq_getElem (by rw [hW.live]; exact hpc)⟩
  have hkd : keyS m ⟨pc, at_, parts, turns⟩ = put4 pc ++ put4 at_ ++ keyPs lvs 0 parts ++ turns.flatMap (keyTn at_) := by
    unfold keyS
    simp only [List.getD_eq_getElem?_getD, hlv, Option.getD_some]
  have hkl := keyS_len m ⟨pc, at_, parts, turns⟩
  have hnp : parts.length = nsS m := hcw.np
  have hnt : turns.length = m.most.length := hcw.nt
  have hns := hW.ns
  have hnm := hW.nm
  simp only at hkl
  have hkl2 : (keyS m ⟨pc, at_, parts, turns⟩).length ≤ 100000 := by omega
  have hX := Blk.new w [.int .i64 pc, .int .i64 at_, .slice A n cA, .slice B k d] 129
  have hf0 : Frm (fun _ => False) w (w.alloc (.cells #[.int .i64 pc, .int .i64 at_, .slice A n cA, .slice B k d] 129)) := (Frm.refl _ w).alloc _
  obtain ⟨E1, D1, hL, hM0, hC0, hEl, hDl⟩ := hM.start hc
  have hM1 := hM0.frm hf0
  have hC1 := hC0.frm hf0 (fun _ _ h => h)
  have hL1 := hL.quiet hf0
  have hpn : n = parts.length := by have := hc.p.len; rw [flatP_len] at this; omega
  have htk : k = turns.length := by have := hc.t.len; rw [flatN_len] at this; omega
  have HKC := Lib.hid (keyC b _ s.LA s.ln s.lc m.live pc at_ A B n cA k d parts turns lvs D1 _ hM1.obj rfl hM1.sta.live hlv (by have := hW.row _ _ hlv; omega) hC1.p hC1.t (by omega) (by omega) (by have := hW.ni; omega) (by omega)
    (fun p hp => by have := hcw.p p hp; simp only at this; omega) (fun t ht => by have := hcw.t t ht; simp only at this; omega))
  rw [← hkd] at HKC
  obtain ⟨P, hP⟩ : ∃ P, FreshPost w E D b g bm s m line pile seen steps kept ⟨pc, at_, parts, turns⟩ = P := ⟨_, rfl⟩
  rw [hP]
  have HP := Lib.hid hP
  clear hP hkd hlv hC0 hM0 hL hpn htk hnp hnt hkl hns hnm
  generalize hK : keyS m ⟨pc, at_, parts, turns⟩ = K at *
  have HK := Lib.hid hK
  clear hK
  go_enter Try.func55, Try.ntmps55
  go_upto_region 1 with fail
  generalize w.alloc (.cells #[.int .i64 pc, .int .i64 at_, .slice A n cA, .slice B k d] 129) = w1 at *
  generalize hbX : w.heap.size = bX at *
  have HBX := Lib.hid hbX
  clear hbX
  obtain ⟨x0, x1, x2, x3, y0, y1, y2, y3, lx⟩ := blk4 hX
  go_wp2_with fail
  refine HKC.out.mono ?_
  rintro e w2 ⟨rfl, hf2⟩
  have hM2 := hM1.frm hf2
  have hL2 := hL1.quiet hf2
  have hlook := hM2.map.look K hkl2
  unfold kV at hlook
  obtain ⟨SB, hSB⟩ : ∃ SB : ByteArray, (⟨K.toArray⟩ : ByteArray) = SB := ⟨_, rfl⟩
  rw [hSB] at hlook ⊢
  have HSB := Lib.hid hSB
  have HL2 := Lib.hid hL2
  clear hSB hL2 hL1 hM1 hf2 hf0 x0 x1 x2 x3 y0 y1 y2 y3 lx hX hC1
  have b8 := hM2.obj.cell 8
  have b4 := hM2.obj.cell 4
  have b9 := hM2.obj.cell 9
  have b12 := hM2.obj.cell 12
  have b12f := hM2.obj.frozen 12
  simp only [cellsB, List.getElem?_cons_zero, List.getElem?_cons_succ] at b8 b4 b9 b12
  have lb := hM2.obj.lt
  by_cases hin : K ∈ seen
  · rw [if_pos hin] at hlook
    go_wp2_with fail
    rw [← HP.out]
    unfold FreshPost
    rw [HK.out, if_pos hin]
    exact ⟨rfl, HL2.out.mx hM2⟩
  · rw [if_neg hin] at hlook
    obtain ⟨w3, hst, hsm3, hf3⟩ := hM2.map.store K hkl2 hin (by omega)
    unfold kV at hst
    rw [HSB.out] at hst
    go_upto_region 5 with fail
    have hM3 := hM2.setMap hf3 hsm3
    have HL3 := Lib.hid (HL2.out.eff hf3 (fun k h => h ▸ hM2.mE))
    clear b8 b4 b9 b12 b12f lb hf3 hlook hst
    have b8 := hM3.obj.cell 8
    have b4 := hM3.obj.cell 4
    have b9 := hM3.obj.cell 9
    have b12 := hM3.obj.cell 12
    have b12f := hM3.obj.frozen 12
    simp only [cellsB, List.getElem?_cons_zero, List.getElem?_cons_succ] at b8 b4 b9 b12
    have lb := hM3.obj.lt
    obtain ⟨pl, hpl⟩ : ∃ pl, m.plain = pl := ⟨_, rfl⟩
    rw [hpl] at b4
    have HPL := Lib.hid hpl
    clear hpl
    cases pl with
    | true =>
      have HPU := Lib.hid (pushM 140 (.agg #[.string SB]) (.leave K) hM3 (by show _ = _; unfold kV; rw [HSB.out]) (by omega))
      go_wp2_with fail
      refine HPU.out.mono ?_
      rintro e w9 ⟨rfl, hM9, hf9⟩
      go_wp2_with fail
      rw [← HP.out]
      unfold FreshPost
      rw [HK.out, if_neg hin, HPL.out, if_pos rfl, if_pos rfl]
      exact ⟨rfl, (HL3.out.push hf9 (fun k h => h.1)).mx hM9⟩
    | false =>
      have hlen : ∀ ty, (Builtin.len_ #[75] ty #[.map (some bm)]).run Try.prog w3.drew = .ok (.int .i64 ((seen.length + 1 : Nat) : Int)) w3.drew := fun ty => (hM3.map.frm (S := fun _ => False) ((Frm.refl _ _).drew) (fun h => h)).len ty
      obtain ⟨SL, hSL⟩ : ∃ SL : Nat, seen.length + 1 = SL := ⟨_, rfl⟩
      rw [hSL] at hlen
      have HSL := Lib.hid hSL
      clear hSL
      have hmax : ∀ (w : World) (ty : TypeId), (Builtin.max_ #[3, 3] ty #[.int .i64 kept, .int .i64 SL]).run Try.prog w = .ok (.int .i64 ((max kept SL : Nat) : Int)) w := fun w ty => by
        have hm : (if kept < SL then (SL : Int) else kept) = ((max kept SL : Nat) : Int) := by rw [Nat.max_def]; split <;> split <;> omega
        simp [Builtin.max_, Builtin.max2, hm]
      have hB9 := (hM3.obj.setSame 12 (.int .i64 ((max kept SL : Nat) : Int))).drew
      have hf9 : Frm (fun k => k = b) w3 (w3.setCell ⟨b, 12, none⟩ (.int .i64 ((max kept SL : Nat) : Int))).drew := ((Frm.refl (fun k => k = b) w3).set b 12 _ (fun _ => rfl)).drew
      obtain ⟨KM, hKM⟩ : ∃ KM : Nat, max kept SL = KM := ⟨_, rfl⟩
      rw [hKM] at hB9 hf9
      simp only [hKM] at hmax
      have HKM := Lib.hid hKM
      clear hKM
      go_wp2_with fail
      go_region
      all_goals
        go_wp2_with fail
        rw [← HP.out]
        unfold FreshPost
        rw [HK.out, if_neg hin, HPL.out, if_neg (by simp), if_neg (by simp), HSL.out, HKM.out]
        exact ⟨rfl, (HL3.out.eff hf9 (fun k h => h ▸ hM3.bE)).mx (hM3.setObj hf9 hB9)⟩
end Go.Proofs.Ytoadmpochaeohaa
