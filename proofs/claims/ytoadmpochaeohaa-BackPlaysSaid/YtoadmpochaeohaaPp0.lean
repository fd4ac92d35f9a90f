/-
  Reference 14: a table of texts: slot, walked: where a text stands, or would stand.
-/
import Derived.Test.YtoadmpochaeohaaPa33
section
set_option linter.unusedVariables false
set_option linter.unusedSimpArgs false
set_option maxRecDepth 100000
namespace Go.Proofs.Ytoadmpochaeohaa
open Go.RowKit

/-- Where the search for a text begins. -/
def hashN (l : List UInt8) (j : Nat) : Nat := (l.take j).foldl (fun h c => (h * 33 + c.toNat) % 1000003) 5381
def hashS (l : List UInt8) : Nat := hashN l l.length
theorem hashN_succ {l : List UInt8} {j : Nat} {c : UInt8} (h : l[j]? = some c) : hashN l (j + 1) = (hashN l j * 33 + c.toNat) % 1000003 := by
  unfold hashN
  rw [List.take_add_one, h, Option.toList_some, List.foldl_append]
  rfl
theorem hashN_lt (l : List UInt8) : ∀ j, hashN l j ≤ 1000003 := by
  intro j
  induction j with
  | zero => show 5381 ≤ 1000003; omega
  | succ j ih =>
    cases h : l[j]? with
    | none =>
      have hl : l.length ≤ j := by
        rcases Nat.lt_or_ge j l.length with h2 | h2
        · rw [List.getElem?_eq_getElem h2] at h; cases h
        · exact h2
      unfold hashN at ih ⊢
      rwa [List.take_of_length_le (by omega), ← List.take_of_length_le hl]
    | some c => rw [hashN_succ h]; exact Nat.le_of_lt (Nat.mod_lt _ (by decide))
/-- On the way to the j-th place there stood other texts. -/
def Way (ss : List (List UInt8)) (t : List UInt8) (n h0 j : Nat) : Prop := ∀ i, i < j → ∃ s, ss[(h0 + i) % n]? = some s ∧ s ≠ [] ∧ s ≠ t
/-- Where a text stands, or would stand. -/
def SlotAt (ss : List (List UInt8)) (t : List UInt8) (k : Nat) : Prop := ∃ j, k = (hashS t % ss.length + j) % ss.length ∧ Way ss t ss.length (hashS t % ss.length) j ∧ (ss[k]? = some [] ∨ ss[k]? = some t)
set_option maxHeartbeats 8000000 in
theorem slotX (bX o : Nat) (cs : List Value) (tX : TypeId) (ss : List (List UInt8)) (v : Value) (x : ByteArray) (Fs : Nat → Prop) (w : World) (hX : Blk w bX cs tX) (hc : cs[o]? = some v) (hS : Sl w Fs 9 1 v ss.length (ss.map SV)) (hcnt : tknS ss < ss.length) (hx : x.size ≤ 1000000) (hl : ss.length ≤ 1000000) :
    Calls Try.prog 67 #[.pointer (some ⟨bX, o, none⟩), .string x] w fun e w' => ∃ k : Nat, e = .returned (.int .i64 k) ∧ k < ss.length ∧ SlotAt ss x.data.toList k ∧ w = w' := by
  obtain ⟨em, hem⟩ := tkn_empty hcnt
  have heml := (List.getElem?_eq_some_iff.1 hem).1
  obtain ⟨n, hn⟩ : ∃ n, ss.length = n := ⟨_, rfl⟩
  obtain ⟨A, c, rfl⟩ := hS.form
  obtain ⟨b9, rfl, hFb, hbl, cur, hcur, hcx⟩ := hS.head (by omega)
  rw [hn] at heml hl hc hS ⊢
  have o0 : w.cell? ⟨bX, o, none⟩ = some (.slice (some ⟨b9, 0, none⟩) n c) := by rw [hX.cell, hc]
  have lo := hX.lt
  have hcell : ∀ k, k < n → ∃ s, ss[k]? = some s ∧ w.cell? ⟨b9, k, none⟩ = some (.string ⟨s.toArray⟩) := fun k hk => by
    obtain ⟨s, hs⟩ : ∃ s, ss[k]? = some s := ⟨_, List.getElem?_eq_getElem (by omega)⟩
    exact ⟨s, hs, by rw [hcur.cell, hcx _ (by rw [List.length_map]; omega), List.getElem?_map, hs]; rfl⟩
  have HCELL := Lib.hid hcell
  have HEM := Lib.hid (⟨hem, hn⟩ : _ ∧ _)
  clear hcell hem hn hcx hcur hX hc hS hcnt
  go_enter Try.func67, Try.ntmps67
  go_wp2_with fail
  go_loopw [5, 6] (fun hv i wr => ∃ j h : Nat, i = .int .i64 j ∧ j ≤ x.size ∧ hv = .int .i64 h ∧ h ≤ 1000003 ∧ wr = w ∧ Hid (h = hashN x.data.toList j)) (fun _ i _ => x.size - (intOf i).toNat)
  case atStart => exact ⟨0, 5381, rfl, Nat.zero_le _, rfl, by omega, rfl, Lib.hid rfl⟩
  case round =>
    obtain ⟨j, h, rfl, hj, rfl, hh, rfl, HH⟩ := hrel
    by_cases hjl : j < x.size
    · obtain ⟨cb, hcb⟩ : ∃ cb, x[j]'hjl = cb := ⟨_, rfl⟩
      obtain ⟨cn, hcn, hwc⟩ : ∃ cn : Nat, cn < 256 ∧ wrap64 (cb.toNat : Int) = (cn : Int) := ⟨cb.toNat, cb.toNat_lt, IntWalk.wrap64_in _ (by have := cb.toNat_lt; omega)⟩
      have hwk : IntKind.i64.wrap ((j : Int) + 1) = ((j + 1 : Nat) : Int) := by rw [IntWalk.i64_in _ (by omega)]; omega
      have hxj : x.data.toList[j]? = some cb := by rw [← hcb]; exact List.getElem?_eq_getElem (by simpa using hjl)
      have hcn2 : cb.toNat = cn := by have := IntWalk.wrap64_in (cb.toNat : Int) (by have := cb.toNat_lt; omega); omega
      obtain ⟨h3, hh3⟩ : ∃ h3, h * 33 = h3 := ⟨_, rfl⟩
      obtain ⟨h4, hh4⟩ : ∃ h4, h3 + cn = h4 := ⟨_, rfl⟩
      have hw1 : IntKind.i64.wrap ((h : Int) * 33) = (h3 : Int) := by rw [IntWalk.i64_in _ (by omega)]; omega
      have hw2 : IntKind.i64.wrap ((h3 : Int) + cn) = (h4 : Int) := by rw [IntWalk.i64_in _ (by omega)]; omega
      have HX5 : Hid (h4 % 1000003 = hashN x.data.toList (j + 1)) := Lib.hid (by rw [hashN_succ hxj, ← HH.out, hcn2, ← hh4, ← hh3])
      clear hh3 hh4 hxj hcn2
      obtain ⟨h5, hh5b, HH5, hm1⟩ : ∃ h5 : Nat, h5 ≤ 1000003 ∧ Hid (h5 = hashN x.data.toList (j + 1)) ∧ (h4 : Int).tmod 1000003 = (h5 : Int) := ⟨h4 % 1000003, Nat.le_of_lt (Nat.mod_lt _ (by decide)), HX5, by rw [Int.tmod_eq_emod_of_nonneg (Int.natCast_nonneg _)]; rfl⟩
      go_wp2_with fail
      go_roundw
      case measure => simp [intOf] <;> omega
      case rel => exact ⟨j + 1, h5, by go_num, by omega, rfl, hh5b, by first | rfl | trivial, HH5⟩
    · obtain rfl : j = x.size := by omega
      obtain ⟨k0, hk0n, HK0, hm1⟩ : ∃ k0 : Nat, k0 < n ∧ Hid (k0 = hashS x.data.toList % n) ∧ (h : Int).tmod (n : Int) = (k0 : Int) := ⟨h % n, Nat.mod_lt _ (by omega), Lib.hid (by rw [HH.out]; rfl), by rw [Int.tmod_eq_emod_of_nonneg (Int.natCast_nonneg _)]; rfl⟩
      have hnz : (n : Int) ≠ 0 := by omega
      go_wp2_with fail
      go_loopw [7] (fun i wx => ∃ k : Nat, i = .int .i64 k ∧ k < n ∧ wx = wr ∧ Hid (∃ j, k = (k0 + j) % n ∧ Way ss x.data.toList n k0 j)) (fun i _ => (em + n - (intOf i).toNat) % n)
      case atStart => exact ⟨k0, rfl, hk0n, rfl, Lib.hid ⟨0, by rw [Nat.add_zero, Nat.mod_eq_of_lt hk0n], fun i hi => by omega⟩⟩
      case round =>
        obtain ⟨k, rfl, hkn, hwx, HJ⟩ := hrel
        subst hwx
        obtain ⟨s, hs, hcs⟩ := HCELL.out k hkn
        have HS := Lib.hid hs
        obtain ⟨t, rfl⟩ : ∃ t : List UInt8, x = ⟨t.toArray⟩ := ⟨x.data.toList, by simp⟩
        clear hs
        by_cases h0 : s = []
        · subst h0
          have t1 : (([] : List UInt8) != []) = false := rfl
          go_wp2_with fail
          go_ret
          refine ⟨k, rfl, hkn, ?_, rfl⟩
          obtain ⟨j, h1, h2⟩ := HJ.out
          refine ⟨j, ?_, ?_, .inl HS.out⟩
          · rw [HEM.out.2, ← HK0.out]; exact h1
          · rw [HEM.out.2, ← HK0.out]; exact h2
        · have t1 : (s != []) = true := by simpa using h0
          have t3 : s.isEmpty = false := by simpa using h0
          by_cases h1 : s = t
          · have t2 : (s == t) = true := by simpa using h1
            have HST := Lib.hid h1
            clear h1 h0
            go_wp2_with fail
            go_ret
            refine ⟨k, rfl, hkn, ?_, rfl⟩
            obtain ⟨j, h1, h2⟩ := HJ.out
            refine ⟨j, ?_, ?_, .inr (by rw [HS.out, HST.out])⟩
            · rw [HEM.out.2, ← HK0.out]; exact h1
            · rw [HEM.out.2, ← HK0.out]; exact h2
          · have t2 : (s == t) = false := by simpa using h1
            have hke : k ≠ em := by
              rintro rfl
              have h3 := HS.out
              rw [HEM.out.1] at h3
              injection h3 with h3
              exact h0 h3.symm
            obtain ⟨k1, hk1⟩ : ∃ k1, k + 1 = k1 := ⟨_, rfl⟩
            have hwk : IntKind.i64.wrap ((k : Int) + 1) = (k1 : Int) := by rw [IntWalk.i64_in _ (by omega)]; omega
            obtain ⟨k2, hk2, hk2n, hm2⟩ : ∃ k2 : Nat, k1 % n = k2 ∧ k2 < n ∧ (k1 : Int).tmod (n : Int) = (k2 : Int) := ⟨k1 % n, rfl, Nat.mod_lt _ (by omega), by rw [Int.tmod_eq_emod_of_nonneg (Int.natCast_nonneg _)]; rfl⟩
            have hms : (em + n - k2) % n < (em + n - k) % n := by
              by_cases hlast : k1 = n
              · have : k2 = 0 := by rw [← hk2, hlast, Nat.mod_self]
                subst this
                have e1 : (em + n - 0) % n = em := by rw [Nat.sub_zero, Nat.add_mod_right, Nat.mod_eq_of_lt heml]
                have e2 : (em + n - k) % n = em + n - k := Nat.mod_eq_of_lt (by omega)
                omega
              · have : k2 = k1 := by rw [← hk2]; exact Nat.mod_eq_of_lt (by omega)
                subst this
                by_cases hlt : k < em
                · have e1 : (em + n - k2) % n = em - k2 := by rw [show em + n - k2 = em - k2 + n by omega, Nat.add_mod_right, Nat.mod_eq_of_lt (by omega)]
                  have e2 : (em + n - k) % n = em - k := by rw [show em + n - k = em - k + n by omega, Nat.add_mod_right, Nat.mod_eq_of_lt (by omega)]
                  omega
                · have e1 : (em + n - k2) % n = em + n - k2 := Nat.mod_eq_of_lt (by omega)
                  have e2 : (em + n - k) % n = em + n - k := Nat.mod_eq_of_lt (by omega)
                  omega
            have HMS := Lib.hid hms
            have HJ2 : Hid (∃ j, k2 = (k0 + j) % n ∧ Way ss t n k0 j) := by
              obtain ⟨j, h3, h4⟩ := HJ.out
              refine Lib.hid ⟨j + 1, by rw [← hk2, ← hk1, h3, Nat.mod_add_mod]; rfl, fun i hi => ?_⟩
              by_cases hij : i = j
              · subst hij
                exact ⟨s, by rw [← h3]; exact HS.out, h0, h1⟩
              · exact h4 i (by omega)
            clear hms hk2 hk1 h0 h1 hke
            go_wp2_with fail
            go_roundw
            case measure => simp [intOf]; exact HMS.out
            case rel => exact ⟨k2, rfl, hk2n, by first | rfl | trivial, HJ2⟩
end Go.Proofs.Ytoadmpochaeohaa
end

section
set_option linter.unusedVariables false
set_option linter.unusedSimpArgs false
set_option maxRecDepth 100000
namespace Go.Proofs.Ytoadmpochaeohaa
/-- What stands in it is found. -/
def TbOk (ss : List (List UInt8)) : Prop := ∀ (p : Nat) (s : List UInt8), ss[p]? = some s → s ≠ [] → ∃ j, p = (hashS s % ss.length + j) % ss.length ∧ Way ss s ss.length (hashS s % ss.length) j
theorem slot_mem {ss : List (List UInt8)} {t : List UInt8} {k : Nat} (hT : TbOk ss) (ht : t ≠ []) (hk : SlotAt ss t k) : ss[k]? = some t ↔ t ∈ ss := by
  refine ⟨List.mem_of_getElem?, fun hm => ?_⟩
  obtain ⟨p, hp⟩ := List.getElem?_of_mem hm
  obtain ⟨j', h1, h2⟩ := hT p t hp ht
  obtain ⟨j, h3, h4, h5⟩ := hk
  rcases Nat.lt_trichotomy j' j with h | h | h
  · obtain ⟨s, g1, g2, g3⟩ := h4 j' h
    rw [← h1, hp] at g1
    injection g1 with g1
    exact absurd g1.symm g3
  · subst h
    rw [h3, ← h1]; exact hp
  · obtain ⟨s, g1, g2, g3⟩ := h2 j h
    rw [← h3] at g1
    rcases h5 with h5 | h5
    · rw [h5] at g1; injection g1 with g1; exact absurd g1.symm g2
    · exact h5
theorem way_set {ss : List (List UInt8)} {s t : List UInt8} {n h0 j k : Nat} (hw : Way ss s n h0 j) (hk : ss[k]? = some [] ∨ ss[k]? = some t) : Way (ss.set k t) s n h0 j := by
  intro i hi
  obtain ⟨s', g1, g2, g3⟩ := hw i hi
  by_cases e : k = (h0 + i) % n
  · rw [e] at hk
    rcases hk with hk | hk
    · rw [hk] at g1; injection g1 with g1; exact absurd g1.symm g2
    · rw [hk] at g1; injection g1 with g1
      subst g1
      have hl := (List.getElem?_eq_some_iff.1 hk).1
      exact ⟨t, by rw [List.getElem?_set, if_pos e, if_pos (by rw [e]; exact hl)], g2, g3⟩
  · exact ⟨s', by rw [List.getElem?_set, if_neg e]; exact g1, g2, g3⟩
theorem tb_set {ss : List (List UInt8)} {t : List UInt8} {k : Nat} (hT : TbOk ss) (hk : SlotAt ss t k) (hkl : k < ss.length) : TbOk (ss.set k t) := by
  obtain ⟨j, h3, h4, h5⟩ := hk
  intro p s hp hs
  rw [List.length_set]
  by_cases e : k = p
  · subst e
    rw [List.getElem?_set, if_pos rfl, if_pos hkl] at hp
    injection hp with hp
    subst hp
    exact ⟨j, h3, way_set h4 h5⟩
  · rw [List.getElem?_set, if_neg e] at hp
    obtain ⟨j', h1, h2⟩ := hT p s hp hs
    exact ⟨j', h1, way_set h2 h5⟩
theorem tb_mem {ss : List (List UInt8)} {s t : List UInt8} {k : Nat} (hs : s ≠ []) (hk : SlotAt ss t k) (hkl : k < ss.length) : s ∈ ss.set k t ↔ s ∈ ss ∨ s = t := by
  obtain ⟨_, _, _, h5⟩ := hk
  constructor
  · exact List.mem_or_eq_of_mem_set
  · rintro (h | rfl)
    · obtain ⟨p, hp⟩ := List.getElem?_of_mem h
      by_cases e : k = p
      · subst e
        rcases h5 with h5 | h5
        · rw [h5] at hp; injection hp with hp; exact absurd hp.symm hs
        · rw [h5] at hp; injection hp with hp
          subst hp
          exact List.mem_of_getElem? (i := k) (by rw [List.getElem?_set, if_pos rfl, if_pos hkl])
      · exact List.mem_of_getElem? (i := p) (by rw [List.getElem?_set, if_neg e]; exact hp)
    · exact List.mem_of_getElem? (i := k) (by rw [List.getElem?_set, if_pos rfl, if_pos hkl])
theorem tb_rep (n : Nat) : TbOk (List.replicate n []) := fun p s hp hs => absurd (List.eq_of_mem_replicate (List.mem_of_getElem? hp)) hs
/-- A table that holds some texts. -/
structure TbX (ss ts : List (List UInt8)) : Prop where
  ok : TbOk ss
  mem : ∀ s, s ≠ [] → (s ∈ ss ↔ s ∈ ts)
theorem TbX.nil : TbX [] [] := ⟨fun p s hp _ => by simp at hp, fun s _ => Iff.rfl⟩
/-- While a table is laid anew: what has been carried over. -/
theorem tb_more {sn old : List (List UInt8)} {s : List UInt8} {k k2 : Nat} (hT : TbOk sn) (hm : ∀ u, u ≠ [] → (u ∈ sn ↔ u ∈ old.take k)) (hs : old[k]? = some s) (hsa : SlotAt sn s k2) (hkl : k2 < sn.length) : TbOk (sn.set k2 s) ∧ ∀ u, u ≠ [] → (u ∈ sn.set k2 s ↔ u ∈ old.take (k + 1)) := by
  refine ⟨tb_set hT hsa hkl, fun u hu => ?_⟩
  rw [tb_mem hu hsa hkl, List.take_add_one, hs, Option.toList_some, List.mem_append, List.mem_singleton, hm u hu]
theorem tb_skip {sn old : List (List UInt8)} {k : Nat} (hm : ∀ u, u ≠ [] → (u ∈ sn ↔ u ∈ old.take k)) (hs : old[k]? = some []) : ∀ u, u ≠ [] → (u ∈ sn ↔ u ∈ old.take (k + 1)) := fun u hu => by
  rw [List.take_add_one, hs, Option.toList_some, List.mem_append, List.mem_singleton, hm u hu]
  exact ⟨fun h => .inl h, fun h => h.elim id (fun e => absurd e hu)⟩
/-- A text more. -/
theorem tb_put {ss ts : List (List UInt8)} {t : List UInt8} {k : Nat} (hX : TbX ss ts) (ht : t ≠ []) (hsa : SlotAt ss t k) (hkl : k < ss.length) (hu : ss[k]? = some []) : TbX (ss.set k t) (t :: ts) ∧ t ∉ ts := by
  refine ⟨⟨tb_set hX.ok hsa hkl, fun u hu => ?_⟩, fun h => ?_⟩
  · rw [tb_mem hu hsa hkl, hX.mem u hu, List.mem_cons]
    exact ⟨fun h => h.elim .inr .inl, fun h => h.elim .inr .inl⟩
  · have := (slot_mem hX.ok ht hsa).2 ((hX.mem t ht).2 h)
    rw [hu] at this
    injection this with this
    exact ht this.symm
theorem tb_has {ss ts : List (List UInt8)} {t u : List UInt8} {k : Nat} (hX : TbX ss ts) (ht : t ≠ []) (hsa : SlotAt ss t k) (hu : ss[k]? = some u) (hn : u ≠ []) : t ∈ ts := by
  obtain ⟨_, _, _, h5⟩ := hsa
  rcases h5 with h5 | h5
  · rw [h5] at hu; injection hu with hu; exact absurd hu.symm hn
  · exact (hX.mem t ht).1 (List.mem_of_getElem? h5)
end Go.Proofs.Ytoadmpochaeohaa
end
