/-
  Reference 14: a table of texts: Add, walked: was it not there?
-/
import Derived.Test.YtoadmpochaeohaaPa34
import Derived.Test.YtoadmpochaeohaaPp0
import Derived.Deep.RegionHeld3
import Derived.StillTailTactics
section
set_option linter.unusedVariables false
set_option linter.unusedSimpArgs false
set_option maxRecDepth 100000
namespace Go.Proofs.Ytoadmpochaeohaa
open Go.RowKit

/-- Between two texts of the old table. -/
def AIx (w0 : World) (Fs : Nat → Prop) (bX bN : Nat) (x0 x1 x2 x3 x4 x5 : Value) (old : List (List UInt8)) (N many : Nat) (i : Value) (wr : World) : Prop :=
  ∃ (k : Nat) (ss : List (List UInt8)), i = .int .i64 k ∧ k ≤ old.length ∧ ss.length = N ∧ tknS ss ≤ tknS (old.take k) ∧ (∀ s ∈ ss, s.length ≤ 1000000) ∧ Blk wr bN (ss.map SV) 9 ∧ Frm (fun q => q = bN) w0 wr ∧ Hid (TbOk ss ∧ ∀ u, u ≠ [] → (u ∈ ss ↔ u ∈ old.take k))
set_option maxHeartbeats 8000000 in
theorem addX (bX : Nat) (x0 x1 x2 x3 x4 x5 : Value) (ss : List (List UInt8)) (v : Value) (many : Nat) (t : List UInt8) (Fs : Nat → Prop) (w : World) (hT : TbM w Fs bX x0 x1 x2 x3 x4 x5 ss v many) (hm : many ≤ 100000) (ht : t.length ≤ 1000000) (hF : ¬ Fs bX) (ts : List (List UInt8)) (hX : TbX ss ts) (ht0 : t ≠ []) :
    Calls Try.prog 48 #[.pointer (some ⟨bX, 6, none⟩), .string ⟨t.toArray⟩] w fun e w' => ∃ (b : Bool) (ss' : List (List UInt8)) (v' : Value), e = .returned (.bool b) ∧ TbM w' (fun q => Fs q ∨ w.heap.size ≤ q) bX x0 x1 x2 x3 x4 x5 ss' v' (if b then many + 1 else many) ∧ (TbX ss' (if b then t :: ts else ts) ∧ b = decide (t ∉ ts)) ∧ Frm (fun q => q = bX ∨ Fs q) w w' := by
  obtain ⟨hO, hS, hcn, hln, hsz⟩ := hT
  obtain ⟨A, c, rfl⟩ := hS.form
  obtain ⟨n, hn⟩ : ∃ n, ss.length = n := ⟨_, rfl⟩
  rw [hn] at hO hS hln
  have HS := Lib.hid (⟨hS, hn, hcn⟩ : _ ∧ _ ∧ _)
  have HSZ := Lib.hid hsz
  clear hsz
  have HF := Lib.hid hF
  have HX := Lib.hid hX
  have HT0 := Lib.hid ht0
  clear hX ht0
  have o6 := hO.cell 6
  have o7 := hO.cell 7
  simp only [List.getElem?_cons_zero, List.getElem?_cons_succ] at o6 o7
  have lo := hO.lt
  have hw1 : IntKind.i64.wrap (2 * (many : Int)) = 2 * (many : Int) := IntWalk.i64_in _ (by omega)
  clear hS hn hcn hF
  obtain ⟨bb, hbb⟩ : ∃ bb, decide (n ≤ 2 * many) = bb := ⟨_, rfl⟩
  have d1 : decide ((n : Int) ≤ 2 * (many : Int)) = bb := by rw [← hbb]; congr 1; apply propext; omega
  have HBB := Lib.hid hbb
  clear hbb
  go_enter Try.func48, Try.ntmps48
  go_wp2_with fail
  go_quiet (fail)
  have hdr : Frm (fun _ => False) w (w.drewN nq) := (Frm.refl _ w).drewN nq
  have hO1 := hO.drewN nq
  have hS1 := HS.out.1.frm hdr (fun _ _ h => h)
  have hzd : w.heap.size = (w.drewN nq).heap.size := rfl
  clear o6 o7 lo hO
  generalize w.drewN nq = w1 at *
  have o6 := hO1.cell 6
  have o7 := hO1.cell 7
  simp only [List.getElem?_cons_zero, List.getElem?_cons_succ] at o6 o7
  have lo := hO1.lt
  have of6 := hO1.frozen 6
  go_upto_if 18 with (fail)
  go_cut [5, 6] from 19 to 56 (fun _ _ wx => ∃ (ss2 : List (List UInt8)) (v2 : Value), Blk wx bX [x0, x1, x2, x3, x4, x5, v2, .int .i64 many] 111 ∧ Sl wx (fun q => Fs q ∨ w.heap.size ≤ q) 9 1 v2 ss2.length (ss2.map SV) ∧ tknS ss2 ≤ many ∧ tknS ss2 < ss2.length ∧ ss2.length ≤ 4 * many + 16 ∧ (∀ s ∈ ss2, s.length ≤ 1000000) ∧ Hid (TbX ss2 ts) ∧ Frm (fun q => q = bX ∨ Fs q) w wx)
  case first =>
    cases bb with
    | false =>
      have hlt : ¬ n ≤ 2 * many := of_decide_eq_false HBB.out
      have HFIN : Hid (∃ (ss2 : List (List UInt8)) (v2 : Value), Blk w1 bX [x0, x1, x2, x3, x4, x5, v2, .int .i64 many] 111 ∧ Sl w1 (fun q => Fs q ∨ w.heap.size ≤ q) 9 1 v2 ss2.length (ss2.map SV) ∧ tknS ss2 ≤ many ∧ tknS ss2 < ss2.length ∧ ss2.length ≤ 4 * many + 16 ∧ (∀ s ∈ ss2, s.length ≤ 1000000) ∧ Hid (TbX ss2 ts) ∧ Frm (fun q => q = bX ∨ Fs q) w w1) := Lib.hid
        ⟨ss, .slice A n c, hO1, by rw [HS.out.2.1]; exact hS1.mono (fun q h _ => .inl h), HS.out.2.2, by have := HS.out.2; omega, by have := HS.out.2; omega, HSZ.out, HX, hdr.mono (fun _ h _ => h.elim)⟩
      clear hO1 hS1 hdr
      go_wp2_with fail
      go_meet
      exact HFIN.out
    | true =>
      have hle : n ≤ 2 * many := of_decide_eq_true HBB.out
      obtain ⟨N, hN⟩ : ∃ N, 2 * n + 16 = N := ⟨_, rfl⟩
      have hmk := mk107 N (by omega)
      have hw2 : IntKind.i64.wrap (2 * (n : Int)) = 2 * (n : Int) := IntWalk.i64_in _ (by omega)
      have hw3 : IntKind.i64.wrap (2 * (n : Int) + 16) = (N : Int) := by rw [IntWalk.i64_in _ (by omega)]; omega
      have hNX : w1.heap.size ≠ bX := by omega
      have hset : Frm (fun q => q = bX) w1 (w1.setCell ⟨bX, 6, none⟩ (.slice (some ⟨w1.heap.size, 0, none⟩) N N)) := (Frm.refl _ _).set bX 6 _ (fun _ => rfl)
      have hO2 := hO1.setSame 6 (.slice (some ⟨w1.heap.size, 0, none⟩) N N)
      simp only [List.set_cons_zero, List.set_cons_succ] at hO2
      have hO3 := hO2.alloc (.cells (Array.replicate N (.string ⟨#[]⟩)) 9)
      have hB3 := Blk.newAt (w := w1.setCell ⟨bX, 6, none⟩ (.slice (some ⟨w1.heap.size, 0, none⟩) N N)) (n := w1.heap.size) (List.replicate N (.string ⟨#[]⟩)) 9 (by simp)
      rw [List.toArray_replicate] at hB3
      have hS3 := (hS1.low.frm hset (fun q hq e => HF.out (e ▸ hq.1))).alloc (.cells (Array.replicate N (.string ⟨#[]⟩)) 9)
      have hf3 : Frm (fun q => q = bX ∨ Fs q) w _ := ((hdr.mono (fun _ h _ => h.elim)).then hset (fun q hq _ => .inl hq)).alloc (.cells (Array.replicate N (.string ⟨#[]⟩)) 9)
      have hNb : N ≤ 1000000 := by omega
      have HN := Lib.hid hN
      clear hO1 hS1 hdr hO2 hset hN d1
      go_upto_region 4 with fail
      generalize ((w1.setCell ⟨bX, 6, none⟩ (.slice (some ⟨w1.heap.size, 0, none⟩) N N)).alloc (.cells (Array.replicate N (.string ⟨#[]⟩)) 9)) = w3 at *
      obtain ⟨bN, hbN⟩ : ∃ b, w1.heap.size = b := ⟨_, rfl⟩
      simp only [hbN] at hB3 hO3 hS3 hNX lo hzd ⊢
      clear hbN o6 o7 of6 hmk
      have h0 : AIx w3 Fs bX bN x0 x1 x2 x3 x4 x5 ss N many (.int .i64 0) w3 := ⟨0, List.replicate N [], rfl, Nat.zero_le _, by simp, by rw [tkn_rep]; exact Nat.zero_le _, fun s hs => by rw [List.eq_of_mem_replicate hs]; exact Nat.zero_le _, by simpa [SV] using hB3, Frm.refl _ _, Lib.hid ⟨tb_rep N, fun u hu => by
        rw [List.take_zero]
        exact ⟨fun h => absurd (List.eq_of_mem_replicate h) hu, fun h => by cases h⟩⟩⟩
      have H0 := Lib.hid h0
      clear h0 hB3
      go_wp2_with fail
      go_loopw [6] (fun i wr => AIx w3 Fs bX bN x0 x1 x2 x3 x4 x5 ss N many i wr) (fun i _ => n - (intOf i).toNat)
      case atStart => exact H0.out
      case round =>
        clear H0
        obtain ⟨k, sn, rfl, hk, hsl, htk, hsz2, hB, hfr, HSN⟩ := hrel
        rw [HS.out.2.1] at hk
        have hO4 := hO3.frm hfr (fun e => hNX e.symm)
        have hS4 := hS3.frm hfr (fun q hq e => by have := hq.2; omega)
        have HTK := Lib.hid (⟨hsl, htk, hsz2⟩ : _ ∧ _ ∧ _)
        clear hsl htk hsz2
        by_cases hkn : k < n
        · obtain ⟨s, hs⟩ : ∃ s, ss[k]? = some s := ⟨_, List.getElem?_eq_getElem (by rw [HS.out.2.1]; exact hkn)⟩
          have hwk : IntKind.i64.wrap ((k : Int) + 1) = ((k + 1 : Nat) : Int) := by rw [IntWalk.i64_in _ (by omega)]; omega
          obtain ⟨b9, rfl, hFb, hbl, cur, hcur, hcx⟩ := hS4.head (by omega)
          have hcu : wr.cell? ⟨b9, k, none⟩ = some (.string ⟨s.toArray⟩) := by rw [hcur.cell, hcx _ (by rw [List.length_map, HS.out.2.1]; exact hkn), List.getElem?_map, hs]; rfl
          have htk1 : tknS (ss.take (k + 1)) = tknS (ss.take k) + if s = [] then 0 else 1 := by rw [List.take_add_one, hs, Option.toList_some, tkn_snoc]
          have hssz := HSZ.out s (List.mem_of_getElem? hs)
          have HT1 := Lib.hid htk1
          have HSK := Lib.hid hs
          have o6 := hO4.cell 6
          simp only [List.getElem?_cons_zero, List.getElem?_cons_succ] at o6
          have lo' := hO4.lt
          have HCUR : Hid (∀ k2, World.cell? (wr.drew.setCell ⟨bN, k2, none⟩ (.string ⟨s.toArray⟩)) ⟨b9, k, none⟩ = some (.string ⟨s.toArray⟩) ∧ World.cell? (wr.drew.setCell ⟨bN, k2, none⟩ (.string ⟨s.toArray⟩)) ⟨bX, 6, none⟩ = some (.slice (some ⟨bN, 0, none⟩) N N)) := Lib.hid fun k2 => ⟨by rw [(hcur.drew.setOther bN k2 _ (by have := hFb.2; omega)).cell, ← hcur.cell]; exact hcu, (hO4.drew.setOther bN k2 _ (fun e => hNX e.symm)).cell 6⟩
          clear hs htk1 hcur hcx
          by_cases he : s = []
          · subst he
            have HR : Hid (AIx w3 Fs bX bN x0 x1 x2 x3 x4 x5 ss N many (.int .i64 ((k + 1 : Nat) : Int)) wr) := Lib.hid ⟨k + 1, sn, rfl, by rw [HS.out.2.1]; omega, HTK.out.1, by rw [HT1.out, if_pos rfl]; exact HTK.out.2.1, HTK.out.2.2, hB, hfr, Lib.hid ⟨HSN.out.1, tb_skip HSN.out.2 HSK.out⟩⟩
            clear hB hfr hO4 hS4
            go_wp2_with fail
            go_roundw
            case measure => simp [intOf] <;> omega
            case rel => first | exact HR.out | (have h := HR.out; rw [show (((k + 1 : Nat) : Int)) = (k : Int) + 1 by omega] at h; exact h)
          · have t3 : s.isEmpty = false := by simpa using he
            have hslb : Sl wr (fun q => q = bN) 9 1 (.slice (some ⟨bN, 0, none⟩) N N) sn.length (sn.map SV) := by
              rw [HTK.out.1]
              exact .at_ (rest := []) rfl (by simpa using hB) (by simp [HTK.out.1]) (by simp [HTK.out.1]) (Nat.le_refl _) (by simp only [maxLen]; omega)
            have hsk := tkn_take ss k
            have HSL := Lib.hid (slotX bX 6 _ 111 sn _ ⟨s.toArray⟩ (fun q => q = bN) wr.drew hO4.drew rfl hslb.drew (by have := HTK.out.1; have := HTK.out.2.1; have := HN.out; omega) (by show s.toArray.size ≤ 1000000; simpa using hssz) (by rw [HTK.out.1]; omega))
            have HB := Lib.hid hB
            have hlB := hB.lt
            have HAX : Hid (∀ k2, k2 < N → ∃ u, wr.cell? ⟨bN, k2, none⟩ = some (.string u) ∧ wr.frozen? ⟨bN, k2, none⟩ = false) := Lib.hid fun k2 hk2 => by
              obtain ⟨u, hu⟩ : ∃ u, sn[k2]? = some u := ⟨_, List.getElem?_eq_getElem (by rw [HTK.out.1]; exact hk2)⟩
              exact ⟨_, by rw [HB.out.cell, List.getElem?_map, hu]; rfl, HB.out.frozen k2⟩
            have HNX : Hid (∀ k2, k2 < N → SlotAt sn s k2 → AIx w3 Fs bX bN x0 x1 x2 x3 x4 x5 ss N many (.int .i64 ((k + 1 : Nat) : Int)) (wr.drew.setCell ⟨bN, k2, none⟩ (.string ⟨s.toArray⟩))) := Lib.hid fun k2 hk2 hsa => ⟨k + 1, sn.set k2 s, rfl, by rw [HS.out.2.1]; omega, by rw [List.length_set]; exact HTK.out.1, by
                have h1 := tkn_set s sn k2
                have h2 := HTK.out.2.1
                rw [HT1.out, if_neg he]; omega, fun u hu => by
                rcases List.mem_or_eq_of_mem_set hu with hu | rfl
                · exact HTK.out.2.2 u hu
                · exact hssz, by
                have := HB.out.drew.setSame k2 (SV s)
                rwa [← List.map_set] at this, hfr.drew.set bN k2 _ (fun _ => rfl), Lib.hid (tb_more HSN.out.1 HSN.out.2 HSK.out hsa (by rw [HTK.out.1]; exact hk2))⟩
            have hlen2 := HTK.out.1
            clear hB hslb hsk
            rw [hlen2] at HSL
            clear hlen2
            go_wp2_with fail
            go_region_held3 (fun w' => w'.cell? ⟨bX, 6, none⟩ = some (.slice (some ⟨bN, 0, none⟩) N N) ∧ w'.cell? ⟨b9, k, none⟩ = some (.string ⟨s.toArray⟩)) (first | exact ⟨o6, hcu⟩ | exact ⟨qc.2, qc.1⟩)
              (first
                | (go_at_call 67; refine HSL.out.mono ?_; rintro e w' ⟨k2, rfl, hk2, hsa, rfl⟩; obtain ⟨u2, hc2, hf2⟩ := HAX.out k2 hk2; have HNX2 := Lib.hid (HNX.out k2 hk2 hsa); have qc := HCUR.out k2))
            all_goals
              clear HSL HB HAX HNX
              go_wp2_with fail
              go_roundw
              case measure => simp [intOf] <;> omega
              case rel => first | exact HNX2.out | (have h := HNX2.out; rw [show (((k + 1 : Nat) : Int)) = (k : Int) + 1 by omega] at h; exact h)
        · obtain rfl : k = n := by omega
          have hall : ss.take k = ss := List.take_of_length_le (by rw [HS.out.2.1]; exact Nat.le_refl _)
          have htk2 := HTK.out
          rw [hall] at htk2
          have HFIN : Hid (∃ (ss2 : List (List UInt8)) (v2 : Value), Blk wr bX [x0, x1, x2, x3, x4, x5, v2, .int .i64 many] 111 ∧ Sl wr (fun q => Fs q ∨ w.heap.size ≤ q) 9 1 v2 ss2.length (ss2.map SV) ∧ tknS ss2 ≤ many ∧ tknS ss2 < ss2.length ∧ ss2.length ≤ 4 * many + 16 ∧ (∀ s ∈ ss2, s.length ≤ 1000000) ∧ Hid (TbX ss2 ts) ∧ Frm (fun q => q = bX ∨ Fs q) w wr) := Lib.hid
            ⟨sn, .slice (some ⟨bN, 0, none⟩) N N, hO4, by
              rw [htk2.1]
              exact .at_ (rest := []) (.inr (by omega)) (by simpa using hB) (by simp [htk2.1]) (by simp [htk2.1]) (Nat.le_refl _) (by simp only [maxLen]; omega), by have := HS.out.2.2; omega, by have := tkn_le ss; have := HS.out.2; have := HN.out; omega, by have := HN.out; omega, htk2.2.2, Lib.hid ⟨HSN.out.1, fun u hu => by rw [HSN.out.2 u hu, hall, HX.out.mem u hu]⟩, hf3.then hfr (fun q hq hl => by omega)⟩
          clear hB hfr hO4 hS4 htk2
          go_wp2_with fail
          go_meet
          exact HFIN.out
  case rest =>
    obtain ⟨ss2, v2, hO2, hS2, hc2, hc3, hl2, hz2, HX2, hf2⟩ := hcut
    obtain ⟨A2, c2, rfl⟩ := hS2.form
    obtain ⟨w2, hwn⟩ : ∃ w, w = wc := ⟨_, rfl⟩
    subst hwn
    have hFX : ¬ (Fs bX ∨ w.heap.size ≤ bX) := by
      rintro (h | h)
      · exact HF.out h
      · omega
    clear o6 o7 lo of6 hO1 hS1 hdr d1 hln hw1 hzd
    have HSL := Lib.hid (slotX bX 6 _ 111 ss2 _ ⟨t.toArray⟩ _ w2 hO2 rfl hS2 hc3 (by show t.toArray.size ≤ 1000000; simpa using ht) (by omega))
    obtain ⟨N, hN⟩ : ∃ N, ss2.length = N := ⟨_, rfl⟩
    rw [hN] at HSL hO2 hS2 hl2 hc3
    have HL := Lib.hid (⟨hN, hc2, hz2⟩ : _ ∧ _ ∧ _)
    clear hN hz2
    go_wp2_with fail
    refine HSL.out.mono ?_
    rintro e w' ⟨k, rfl, hkN, hsa, hww⟩
    subst hww
    obtain ⟨u, hu⟩ : ∃ u, ss2[k]? = some u := ⟨_, List.getElem?_eq_getElem (by rw [HL.out.1]; exact hkN)⟩
    obtain ⟨b9, rfl, hFb, hbl, cur, hcur, hcx⟩ := hS2.head (by omega)
    have hcu : w2.cell? ⟨b9, k, none⟩ = some (.string ⟨u.toArray⟩) := by rw [hcur.cell, hcx _ (by rw [List.length_map, HL.out.1]; exact hkN), List.getElem?_map, hu]; rfl
    have hcf := hcur.frozen k
    have HSA := Lib.hid (⟨hsa, hu⟩ : SlotAt ss2 t k ∧ _)
    have o6 := hO2.cell 6
    have o7 := hO2.cell 7
    simp only [List.getElem?_cons_zero, List.getElem?_cons_succ] at o6 o7
    have lo := hO2.lt
    have hb9X : b9 ≠ bX := fun e => hFX (e ▸ hFb)
    clear hcur hcx HSL hu hsa
    by_cases hue : u = []
    · subst hue
      obtain ⟨m1, hm1⟩ : ∃ m1, many + 1 = m1 := ⟨_, rfl⟩
      have hwm : IntKind.i64.wrap ((many : Int) + 1) = (m1 : Int) := by rw [IntWalk.i64_in _ (by omega)]; omega
      have hset1 : Frm (fun q => q = b9) w2 (w2.setCell ⟨b9, k, none⟩ (.string ⟨t.toArray⟩)) := (Frm.refl _ w2).set b9 k _ (fun _ => rfl)
      have hO3 := hO2.frm hset1 (fun e => hb9X e.symm)
      have hS3 := hS2.putAt (j := k) (by rw [List.length_map, HL.out.1]; exact hkN) (SV t)
      rw [← List.map_set] at hS3
      have hO4 := hO3.setSame 7 (.int .i64 m1)
      simp only [List.set_cons_zero, List.set_cons_succ] at hO4
      have hS4 := hS3.set bX 7 (.int .i64 m1) hFX
      have hf4 : Frm (fun q => q = bX ∨ Fs q) w ((w2.setCell ⟨b9, k, none⟩ (.string ⟨t.toArray⟩)).setCell ⟨bX, 7, none⟩ (.int .i64 m1)) := (hf2.then hset1 (fun q hq hl => by
        have e : q = b9 := hq
        subst e
        rcases hFb with h | h
        · exact .inr h
        · omega)).set bX 7 _ (fun _ => .inl rfl)
      have HFIN : Hid (∃ (b : Bool) (ss' : List (List UInt8)) (v' : Value), (Ending.returned (.bool true)) = .returned (.bool b) ∧ TbM ((w2.setCell ⟨b9, k, none⟩ (.string ⟨t.toArray⟩)).setCell ⟨bX, 7, none⟩ (.int .i64 m1)) (fun q => Fs q ∨ w.heap.size ≤ q) bX x0 x1 x2 x3 x4 x5 ss' v' (if b then many + 1 else many) ∧ (TbX ss' (if b then t :: ts else ts) ∧ b = decide (t ∉ ts)) ∧ Frm (fun q => q = bX ∨ Fs q) w ((w2.setCell ⟨b9, k, none⟩ (.string ⟨t.toArray⟩)).setCell ⟨bX, 7, none⟩ (.int .i64 m1))) := Lib.hid
        ⟨true, ss2.set k t, .slice (some ⟨b9, 0, none⟩) N c2, rfl, by
          rw [if_pos rfl, hm1]
          exact ⟨hO4, by rw [List.length_set, HL.out.1]; exact hS4, by have := tkn_set t ss2 k; have := HL.out.2.1; omega, by rw [List.length_set, HL.out.1]; omega, fun s hs => by
            rcases List.mem_or_eq_of_mem_set hs with hs | rfl
            · exact HL.out.2.2 s hs
            · exact ht⟩, by
          obtain ⟨g1, g2⟩ := tb_put HX2.out HT0.out HSA.out.1 (by rw [HL.out.1]; exact hkN) HSA.out.2
          exact ⟨by rw [if_pos rfl]; exact g1, by simp [g2]⟩, hf4⟩
      have o7' := hO3.cell 7
      simp only [List.getElem?_cons_zero, List.getElem?_cons_succ] at o7'
      have lo' := hO3.lt
      have of7 := hO3.frozen 7
      clear hS3 hS4 hO4 hf4 hset1 hO2 hS2 hf2 hO3 hm1
      go_wp2_with fail
      go_ret
      exact HFIN.out
    · have t1 : u.isEmpty = false := by simpa using hue
      have HFIN : Hid (∃ (b : Bool) (ss' : List (List UInt8)) (v' : Value), (Ending.returned (.bool false)) = .returned (.bool b) ∧ TbM w2 (fun q => Fs q ∨ w.heap.size ≤ q) bX x0 x1 x2 x3 x4 x5 ss' v' (if b then many + 1 else many) ∧ (TbX ss' (if b then t :: ts else ts) ∧ b = decide (t ∉ ts)) ∧ Frm (fun q => q = bX ∨ Fs q) w w2) := Lib.hid
        ⟨false, ss2, .slice (some ⟨b9, 0, none⟩) N c2, rfl, by
          rw [if_neg (by simp)]
          exact ⟨hO2, by rw [HL.out.1]; exact hS2, HL.out.2.1, by rw [HL.out.1]; exact hl2, HL.out.2.2⟩, by
          have g := tb_has HX2.out HT0.out HSA.out.1 HSA.out.2 hue
          exact ⟨by rw [if_neg (by simp)]; exact HX2.out, by simp [g]⟩, hf2⟩
      clear hO2 hS2 hf2 hue
      go_wp2_with fail
      go_ret
      exact HFIN.out
end Go.Proofs.Ytoadmpochaeohaa
end
