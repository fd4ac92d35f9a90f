/-
  Layer 20: what New makes of a right program, in plain Lean.
-/
import Derived.Test.YtoadmpochaeohaaBOnAll
import Derived.Test.YtoadmpochaeohaaBMark
import Derived.Test.YtoadmpochaeohaaNRightC
set_option linter.unusedVariables false
set_option linter.unusedSimpArgs false
set_option maxRecDepth 100000
namespace Go.Proofs.Ytoadmpochaeohaa
open Go.RowKit

theorem right_ok {ins : List Ins} {gr co : Int} (h : rightE ins gr co = 0) : ins.length ≤ 40000 ∧ (0 ≤ gr ∧ gr ≤ 30) ∧ (0 ≤ co ∧ co ≤ 40) ∧ 0 < ins.length ∧ ∀ (k : Nat) (i : Ins), ins[k]? = some i → fineB ins.length gr co k i = true := by
  unfold rightE at h
  split at h
  · cases h
  split at h
  · cases h
  split at h
  · cases h
  split at h
  · rename_i h1 h2 h3 h4
    refine ⟨by omega, by omega, by omega, by omega, fun k i hi => ?_⟩
    have hk := (List.getElem?_eq_some_iff.1 hi).1
    have := List.all_eq_true.1 h4 k (List.mem_range.2 hk)
    unfold fineAt at this
    rwa [hi] at this
  · cases h
/-- What a fine instruction is. -/
structure FineI (n : Nat) (gr co : Int) (k : Nat) (i : Ins) : Prop where
  op : 1 ≤ i.op ∧ i.op ≤ 11
  x : i.op = 2 ∨ i.op = 3 ∨ i.op = 10 → 0 ≤ i.x ∧ i.x < n
  y : i.op = 2 ∨ i.op = 10 → 0 ≤ i.y ∧ i.y < n
  g : i.op = 6 ∨ i.op = 7 ∨ i.op = 8 → 0 ≤ i.n ∧ i.n < gr
  c : i.op = 9 ∨ i.op = 10 → 0 ≤ i.n ∧ i.n < co
  nx : i.op ≠ 2 → i.op ≠ 3 → i.op ≠ 10 → i.op ≠ 11 → k + 1 < n
  b : i.op = 10 → 0 ≤ i.mn ∧ i.mn ≤ 255 ∧ i.mx ≤ 255 ∧ -1 ≤ i.mx
theorem fine_ok {n : Nat} {gr co : Int} {k : Nat} {i : Ins} (h : fineB n gr co k i = true) : FineI n gr co k i := by
  obtain ⟨op, x, y, nn, mn, mx, s0, s1, s2, s3⟩ := i
  unfold fineB at h
  simp only [Bool.and_eq_true] at h
  obtain ⟨⟨⟨⟨⟨⟨h1, h2⟩, h3⟩, h4⟩, h5⟩, h6⟩, h7⟩ := h
  by_cases e1 : op = 1
  · subst e1; simp [ofV, withinB, boundsB] at h1 h3 h4 h5 h6 h7
    exact ⟨by simp, by simp, by simp, by simp, by simp, fun _ _ _ _ => h7, by simp⟩
  by_cases e2 : op = 2
  · subst e2; simp [ofV, withinB, boundsB] at h1 h3 h4 h5 h6 h7
    exact ⟨by simp, fun _ => h3, fun _ => h4, by simp, by simp, by simp, by simp⟩
  by_cases e3 : op = 3
  · subst e3; simp [ofV, withinB, boundsB] at h1 h3 h4 h5 h6 h7
    exact ⟨by simp, fun _ => h3, by simp, by simp, by simp, by simp, by simp⟩
  by_cases e4 : op = 4
  · subst e4; simp [ofV, withinB, boundsB] at h1 h3 h4 h5 h6 h7
    exact ⟨by simp, by simp, by simp, by simp, by simp, fun _ _ _ _ => h7, by simp⟩
  by_cases e5 : op = 5
  · subst e5; simp [ofV, withinB, boundsB] at h1 h3 h4 h5 h6 h7
    exact ⟨by simp, by simp, by simp, by simp, by simp, fun _ _ _ _ => h7, by simp⟩
  by_cases e6 : op = 6
  · subst e6; simp [ofV, withinB, boundsB] at h1 h3 h4 h5 h6 h7
    exact ⟨by simp, by simp, by simp, fun _ => h5, by simp, fun _ _ _ _ => h7, by simp⟩
  by_cases e7 : op = 7
  · subst e7; simp [ofV, withinB, boundsB] at h1 h3 h4 h5 h6 h7
    exact ⟨by simp, by simp, by simp, fun _ => h5, by simp, fun _ _ _ _ => h7, by simp⟩
  by_cases e8 : op = 8
  · subst e8; simp [ofV, withinB, boundsB] at h1 h3 h4 h5 h6 h7
    exact ⟨by simp, by simp, by simp, fun _ => h5, by simp, fun _ _ _ _ => h7, by simp⟩
  by_cases e9 : op = 9
  · subst e9; simp [ofV, withinB, boundsB] at h1 h3 h4 h5 h6 h7
    exact ⟨by simp, by simp, by simp, by simp, fun _ => h5, fun _ _ _ _ => h7, by simp⟩
  by_cases e10 : op = 10
  · subst e10; simp [ofV, withinB, boundsB] at h1 h3 h4 h5 h6 h7
    exact ⟨by simp, fun _ => h3, fun _ => h4, by simp, fun _ => h5, by simp, fun _ => by simp only; omega⟩
  by_cases e11 : op = 11
  · subst e11
    exact ⟨by simp, by simp, by simp, by simp, by simp, by simp, by simp⟩
  · simp [ofV, e1, e2, e3, e4, e5, e6, e7, e8, e9, e10, e11] at h1

theorem filter_set_len (p : Int → Bool) : ∀ (l : List Int) (k : Nat) (x y : Int), l[k]? = some y → p y = false → p x = true → ((l.set k x).filter p).length = (l.filter p).length + 1
  | [], k, x, y, h, _, _ => by simp at h
  | a :: l, 0, x, y, h, hy, hx => by
    simp at h; subst h
    rw [List.set_cons_zero, List.filter_cons, List.filter_cons, hx, hy]; simp
  | a :: l, k + 1, x, y, h, hy, hx => by
    have ih := filter_set_len p l k x y (by simpa using h) hy hx
    rw [List.set_cons_succ, List.filter_cons, List.filter_cons]
    split <;> simp [ih]
/-- The places so far: as many as have one. -/
structure SlI (gr : Nat) (s : List Int) (n : Int) : Prop where
  len : s.length = gr
  cnt : ((s.filter (0 ≤ ·)).length : Int) = n
  bd : ∀ v ∈ s, -1 ≤ v ∧ v < n ∨ v = -1
theorem slI_set {gr : Nat} {s : List Int} {n : Int} {k : Nat} {y : Int} (h : SlI gr s n) (hk : s[k]? = some y) (hy : y < 0) : SlI gr (s.set k n) (n + 1) := by
  have hn : 0 ≤ n := by have := h.cnt; omega
  refine ⟨by rw [List.length_set, h.len], ?_, fun v hv => ?_⟩
  · have := filter_set_len (fun v => decide (0 ≤ v)) s k n y hk (by simpa using hy) (by simpa using hn)
    rw [this]; have := h.cnt; omega
  · rcases List.mem_or_eq_of_mem_set hv with hv | rfl
    · rcases h.bd v hv with h | h
      · exact .inl (by omega)
      · exact .inr h
    · exact .inl (by omega)
theorem slotP_inv {gr : Nat} : ∀ (l : List Ins) (s : List Int) (n : Int), SlI gr s n → (∀ i ∈ l, i.op = 8 → 0 ≤ i.n ∧ i.n < gr) →
    SlI gr (slotP l s n).1 (slotP l s n).2 ∧ (∀ (k : Nat) (v : Int), s[k]? = some v → 0 ≤ v → ∃ v', (slotP l s n).1[k]? = some v' ∧ 0 ≤ v') ∧ ∀ i ∈ l, i.op = 8 → ∃ v, (slotP l s n).1[i.n.toNat]? = some v ∧ 0 ≤ v
  | [], s, n, h, _ => ⟨h, fun k v hk hv => ⟨v, hk, hv⟩, fun i hi => by simp at hi⟩
  | i :: l, s, n, h, hg => by
    have hgl : ∀ i ∈ l, i.op = 8 → 0 ≤ i.n ∧ i.n < gr := fun j hj => hg j (List.mem_cons_of_mem _ hj)
    unfold slotP
    split
    · rename_i hc
      obtain ⟨h8, hlt⟩ := hc
      obtain ⟨q1, q2⟩ := hg i (List.mem_cons_self ..) h8
      obtain ⟨y, hy⟩ : ∃ y, s[i.n.toNat]? = some y := ⟨_, List.getElem?_eq_getElem (by rw [h.len]; omega)⟩
      have hyl : y < 0 := by rw [List.getD_eq_getElem?_getD, hy] at hlt; simpa using hlt
      have hn : 0 ≤ n := by have := h.cnt; omega
      obtain ⟨ih1, ih2, ih3⟩ := slotP_inv l _ _ (slI_set h hy hyl) hgl
      refine ⟨ih1, fun k v hk hv => ?_, fun j hj hj8 => ?_⟩
      · by_cases hkk : i.n.toNat = k
        · subst hkk
          exact ih2 _ n (by rw [List.getElem?_set, if_pos rfl, if_pos (by rw [h.len]; omega)]) hn
        · exact ih2 k v (by rw [List.getElem?_set, if_neg hkk]; exact hk) hv
      · rcases List.mem_cons.1 hj with rfl | hj
        · exact ih2 _ n (by rw [List.getElem?_set, if_pos rfl, if_pos (by rw [h.len]; omega)]) hn
        · exact ih3 j hj hj8
    · rename_i hc
      obtain ⟨ih1, ih2, ih3⟩ := slotP_inv l s n h hgl
      refine ⟨ih1, ih2, fun j hj hj8 => ?_⟩
      rcases List.mem_cons.1 hj with rfl | hj
      · obtain ⟨q1, q2⟩ := hg j (List.mem_cons_self ..) hj8
        obtain ⟨y, hy⟩ : ∃ y, s[j.n.toNat]? = some y := ⟨_, List.getElem?_eq_getElem (by rw [h.len]; omega)⟩
        have hyl : 0 ≤ y := by
          have : ¬ (s.getD j.n.toNat 0 < 0) := fun h => hc ⟨hj8, h⟩
          rw [List.getD_eq_getElem?_getD, hy] at this
          simpa using this
        exact ih2 _ y hy hyl
      · exact ih3 j hj hj8
theorem mostP_inv : ∀ (l : List Ins) (m : List Int), (∀ i ∈ l, i.op = 10 → 0 ≤ i.mn ∧ i.mn ≤ 255 ∧ i.mx ≤ 255) → (∀ v ∈ m, 0 ≤ v ∧ v ≤ 1000) → (mostP l m).length = m.length ∧ ∀ v ∈ mostP l m, 0 ≤ v ∧ v ≤ 1000
  | [], m, _, h => ⟨rfl, h⟩
  | i :: l, m, hb, h => by
    have hbl := fun j hj => hb j (List.mem_cons_of_mem _ hj)
    unfold mostP
    split
    · rename_i h10
      have hq := hb i (List.mem_cons_self ..) h10
      have hgd : 0 ≤ m.getD i.n.toNat 0 ∧ m.getD i.n.toNat 0 ≤ 1000 := by
        rw [List.getD_eq_getElem?_getD]
        cases hx : m[i.n.toNat]? with
        | none => simp
        | some x => exact h x (List.mem_of_getElem? hx)
      have ih := mostP_inv l (m.set i.n.toNat (max (max (m.getD i.n.toNat 0) i.mx) (i.mn + 1))) hbl (fun v hv => by
        rcases List.mem_or_eq_of_mem_set hv with hv | rfl
        · exact h v hv
        · omega)
      rw [List.length_set] at ih
      exact ih
    · exact mostP_inv l m hbl h
def slotN (ins : List Ins) (gr : Nat) : List Int := (slotP ins (List.replicate gr (-1)) 0).1
def mostN (ins : List Ins) (co : Nat) : List Int := mostP ins (List.replicate co 0)
def nsN (ins : List Ins) (gr : Nat) : Nat := ((slotN ins gr).filter (0 ≤ ·)).length
theorem slI0 (gr : Nat) : SlI gr (List.replicate gr (-1)) 0 := ⟨by simp, by
  have : ∀ k, (List.replicate k (-1 : Int)).filter (fun v => decide (0 ≤ v)) = [] := fun k => by
    induction k with
    | zero => rfl
    | succ k ih => rw [List.replicate_succ, List.filter_cons]; simp
  rw [this]; rfl, fun v hv => .inr (List.eq_of_mem_replicate hv)⟩
/-- The machine of a right program stands. -/
theorem new_MW {ins : List Ins} {gr co : Nat} {fo pl : Bool} {live : List (List Lv)} (hr : rightE ins gr co = 0) (hsh : Shp ins.length (nsN ins gr) live) : MW ⟨ins, fo, pl, slotN ins gr, mostN ins co, live⟩ := by
  obtain ⟨h1, h2, h3, h4, h5⟩ := right_ok hr
  have hF : ∀ (k : Nat) (i : Ins), ins[k]? = some i → FineI ins.length gr co k i := fun k i hi => fine_ok (h5 k i hi)
  have hFm : ∀ i ∈ ins, ∃ k, FineI ins.length gr co k i := fun i hi => by
    obtain ⟨k, hk, rfl⟩ := List.getElem_of_mem hi
    exact ⟨k, hF k _ (List.getElem?_eq_getElem hk)⟩
  obtain ⟨s1, s2, s3⟩ := slotP_inv ins _ _ (slI0 gr) (fun i hi h8 => by obtain ⟨k, hk⟩ := hFm i hi; exact hk.g (.inr (.inr h8)))
  obtain ⟨m1, m2⟩ := mostP_inv ins (List.replicate co 0) (fun i hi h10 => by obtain ⟨k, hk⟩ := hFm i hi; have := hk.b h10; omega) (fun v hv => by rw [List.eq_of_mem_replicate hv]; omega)
  rw [List.length_replicate] at m1
  have hcn : ((nsN ins gr : Nat) : Int) = (slotP ins (List.replicate gr (-1)) 0).2 := s1.cnt
  have hnsl : nsN ins gr ≤ gr := by
    have : nsN ins gr ≤ (slotN ins gr).length := List.length_filter_le _ _
    rw [show (slotN ins gr).length = gr from s1.len] at this
    exact this
  refine ⟨h1, fun k i hi => ?_, by show nsN ins gr ≤ 1000; omega, by show (mostN ins co).length ≤ 1000; rw [show (mostN ins co).length = co from m1]; omega, by show (slotN ins gr).length ≤ 1000; rw [show (slotN ins gr).length = gr from s1.len]; omega, fun v hv => by have := m2 v hv; omega, hsh.n, fun k r hk => Nat.le_of_eq (hsh.r k r hk).symm⟩
  have f := hF k i hi
  refine ⟨f.op, fun t ht => ?_, fun h => ⟨(f.x (by omega)).1, (f.y h).1⟩, fun h => (f.x (by omega)).1, fun h => ?_, fun h => ?_⟩
  · unfold leadsS at ht
    split at ht
    · rename_i ho
      have hx := f.x (by omega)
      have hy := f.y ho
      simp only [List.mem_cons, List.not_mem_nil, or_false] at ht
      show t < ins.length
      omega
    · split at ht
      · rename_i ho
        have hx := f.x (by omega)
        simp only [List.mem_cons, List.not_mem_nil, or_false] at ht
        show t < ins.length
        omega
      · split at ht
        · cases ht
        · simp only [List.mem_cons, List.not_mem_nil, or_false] at ht
          subst ht
          exact f.nx (by omega) (by omega) (by omega) (by omega)
  · obtain ⟨q1, q2⟩ := f.g h
    obtain ⟨v, hv⟩ : ∃ v, (slotN ins gr)[i.n.toNat]? = some v := ⟨_, List.getElem?_eq_getElem (by rw [show (slotN ins gr).length = gr from s1.len]; omega)⟩
    have hb := s1.bd v (List.mem_of_getElem? hv)
    have hns : (nsS ⟨ins, fo, pl, slotN ins gr, mostN ins co, live⟩ : Int) = (slotP ins (List.replicate gr (-1)) 0).2 := hcn
    refine ⟨q1, v, hv, by omega, fun h8 => ?_⟩
    obtain ⟨v', hv', h0⟩ := s3 i (List.mem_of_getElem? hi) h8
    have : (slotN ins gr)[i.n.toNat]? = some v' := hv'
    rw [hv] at this
    injection this with this
    omega
  · obtain ⟨q1, q2⟩ := f.c h
    refine ⟨q1, ?_⟩
    show i.n.toNat < (mostN ins co).length
    rw [show (mostN ins co).length = co from m1]
    omega
theorem new_mk {ins : List Ins} {gr co : Nat} (hr : rightE ins gr co = 0) : MkOk ins (slotN ins gr) := by
  obtain ⟨h1, h2, h3, h4, h5⟩ := right_ok hr
  have hF : ∀ (k : Nat) (i : Ins), ins[k]? = some i → FineI ins.length gr co k i := fun k i hi => fine_ok (h5 k i hi)
  have hFm : ∀ i ∈ ins, ∃ k, FineI ins.length gr co k i := fun i hi => by
    obtain ⟨k, hk, rfl⟩ := List.getElem_of_mem hi
    exact ⟨k, hF k _ (List.getElem?_eq_getElem hk)⟩
  obtain ⟨s1, _, _⟩ := slotP_inv ins _ _ (slI0 gr) (fun i hi h8 => by obtain ⟨k, hk⟩ := hFm i hi; exact hk.g (.inr (.inr h8)))
  have hw := new_MW (fo := false) (pl := false) hr (live0_shp ins.length (nsN ins gr))
  refine ⟨fun k i hi => ⟨?_, (hw.ok k i hi).tgt⟩, fun k i hi h => ?_, h1, h4⟩
  · have f := hF k i hi
    unfold leadsI leadsS
    split
    · rename_i ho
      have hx := f.x (by omega)
      have hy := f.y ho
      simp only [List.map_cons, List.map_nil]
      rw [Int.toNat_of_nonneg hx.1, Int.toNat_of_nonneg hy.1]
    · split
      · rename_i ho
        have hx := f.x (by omega)
        simp only [List.map_cons, List.map_nil]
        rw [Int.toNat_of_nonneg hx.1]
      · split
        · rfl
        · rfl
  · obtain ⟨q1, q2⟩ := (hF k i hi).g h
    exact ⟨q1, by rw [show (slotN ins gr).length = gr from s1.len]; omega⟩
end Go.Proofs.Ytoadmpochaeohaa
