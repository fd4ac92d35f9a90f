/-
  Layer 20: what mark computes, in plain Lean: from behind, till nothing is new.
-/
import Derived.Test.YtoadmpochaeohaaBSpec
set_option linter.unusedVariables false
set_option linter.unusedSimpArgs false
set_option maxRecDepth 100000
namespace Go.Proofs.Ytoadmpochaeohaa
open Go.RowKit

structure Shp (n ns : Nat) (live : List (List Lv)) : Prop where
  n : live.length = n
  r : ∀ (k : Nat) (r : List Lv), live[k]? = some r → r.length = ns
def cellM (ins : List Ins) (slot : List Int) (k g : Nat) (live : List (List Lv)) : List (List Lv) :=
  match ins[k]? with | some i => setLv live k g (markOne slot live i k g) | none => live
def rowM (ins : List Ins) (slot : List Int) (k : Nat) : Nat → List (List Lv) → List (List Lv)
  | 0, l => l
  | g + 1, l => cellM ins slot k g (rowM ins slot k g l)
def sweepM (ins : List Ins) (slot : List Int) (ns : Nat) : Nat → List (List Lv) → List (List Lv)
  | 0, l => l
  | k + 1, l => sweepM ins slot ns k (rowM ins slot k ns l)
def iterM {α : Type} (f : α → α) : Nat → α → α
  | 0, l => l
  | t + 1, l => f (iterM f t l)
def live0 (n ns : Nat) : List (List Lv) := List.replicate n (List.replicate ns ⟨false, false⟩)

def Lv.le (a b : Lv) : Prop := (a.began = true → b.began = true) ∧ (a.part = true → b.part = true)
theorem Lv.le.refl (a : Lv) : a.le a := ⟨id, id⟩
theorem Lv.le.trans {a b c : Lv} (h : a.le b) (k : b.le c) : a.le c := ⟨fun x => k.1 (h.1 x), fun x => k.2 (h.2 x)⟩

theorem setLv_shp {n ns k g : Nat} {l : Lv} {live : List (List Lv)} (h : Shp n ns live) : Shp n ns (setLv live k g l) := by
  refine ⟨by simp [setLv, h.n], fun j r hr => ?_⟩
  unfold setLv at hr
  rw [List.getElem?_set] at hr
  split at hr
  · rename_i hkj
    split at hr
    · rename_i hkl
      injection hr with hr
      subst hr
      rw [List.length_set]
      obtain ⟨r0, h0⟩ : ∃ r0, live[k]? = some r0 := ⟨_, List.getElem?_eq_getElem hkl⟩
      rw [List.getD_eq_getElem?_getD, h0]
      exact h.r k r0 h0
    · cases hr
  · exact h.r j r hr
theorem lv_setLv {n ns k g k' g' : Nat} {l : Lv} {live : List (List Lv)} (h : Shp n ns live) (hk : k < n) (hg : g < ns) : lv (setLv live k g l) k' g' = if k' = k ∧ g' = g then l else lv live k' g' := by
  obtain ⟨r0, h0⟩ : ∃ r0, live[k]? = some r0 := ⟨_, List.getElem?_eq_getElem (by rw [h.n]; exact hk)⟩
  have hr0 := h.r k r0 h0
  have hkl : k < live.length := by rw [h.n]; exact hk
  unfold lv setLv
  simp only [List.getD_eq_getElem?_getD, h0, Option.getD_some, List.getElem?_set]
  by_cases hkk : k' = k
  · subst hkk
    rw [if_pos rfl, if_pos hkl, Option.getD_some, List.getElem?_set]
    by_cases hgg : g' = g
    · subst hgg
      rw [if_pos rfl, if_pos (by omega), if_pos ⟨rfl, rfl⟩]
      rfl
    · rw [if_neg (fun e => hgg e.symm), if_neg (fun e => hgg e.2), h0]
      rfl
  · rw [if_neg (fun e => hkk e.symm), if_neg (fun e => hkk e.1)]
theorem cellM_shp {ins : List Ins} {slot : List Int} {n ns k g : Nat} {live : List (List Lv)} (h : Shp n ns live) : Shp n ns (cellM ins slot k g live) := by
  unfold cellM
  split
  · exact setLv_shp h
  · exact h
theorem rowM_shp {ins : List Ins} {slot : List Int} {n ns k : Nat} {live : List (List Lv)} (h : Shp n ns live) : ∀ g, Shp n ns (rowM ins slot k g live)
  | 0 => h
  | g + 1 => cellM_shp (rowM_shp h g)
theorem sweepM_shp {ins : List Ins} {slot : List Int} {n ns : Nat} : ∀ (k : Nat) {live : List (List Lv)}, Shp n ns live → Shp n ns (sweepM ins slot ns k live)
  | 0, _, h => h
  | k + 1, _, h => sweepM_shp k (rowM_shp h ns)

theorem fold_mono {a b : List (List Lv)} {g : Nat} (h : ∀ k, (lv a k g).le (lv b k g)) : ∀ (ts : List Nat) (x y : Lv), x.le y →
    (ts.foldl (fun l t => (⟨l.began || (lv a t g).began, l.part || (lv a t g).part⟩ : Lv)) x).le (ts.foldl (fun l t => (⟨l.began || (lv b t g).began, l.part || (lv b t g).part⟩ : Lv)) y)
  | [], x, y, hxy => hxy
  | t :: ts, x, y, hxy => by
    rw [List.foldl_cons, List.foldl_cons]
    refine fold_mono h ts _ _ ⟨fun hx => ?_, fun hx => ?_⟩
    · simp only [Bool.or_eq_true] at hx ⊢
      rcases hx with hx | hx
      · exact .inl (hxy.1 hx)
      · exact .inr ((h t).1 hx)
    · simp only [Bool.or_eq_true] at hx ⊢
      rcases hx with hx | hx
      · exact .inl (hxy.2 hx)
      · exact .inr ((h t).2 hx)
theorem markOne_mono {slot : List Int} {a b : List (List Lv)} {i : Ins} {k g : Nat} (h : ∀ k, (lv a k g).le (lv b k g)) : (markOne slot a i k g).le (markOne slot b i k g) := by
  have hf := fold_mono h (leadsS i k) ⟨false, false⟩ ⟨false, false⟩ (Lv.le.refl _)
  unfold markOne
  simp only
  generalize (leadsS i k).foldl (fun l t => (⟨l.began || (lv a t g).began, l.part || (lv a t g).part⟩ : Lv)) ⟨false, false⟩ = x at *
  generalize (leadsS i k).foldl (fun l t => (⟨l.began || (lv b t g).began, l.part || (lv b t g).part⟩ : Lv)) ⟨false, false⟩ = y at *
  split
  · split
    · exact ⟨fun h => (by cases h), hf.2⟩
    · split
      · exact Lv.le.refl _
      · exact ⟨hf.1, fun _ => rfl⟩
  · exact hf
/-- Nothing would become less. -/
def Post (ins : List Ins) (slot : List Int) (ns : Nat) (live : List (List Lv)) : Prop := ∀ (k : Nat) (i : Ins), ins[k]? = some i → ∀ g, g < ns → (lv live k g).le (markOne slot live i k g)
theorem setLv_le {n ns k g : Nat} {l : Lv} {live : List (List Lv)} (h : Shp n ns live) (hk : k < n) (hg : g < ns) (hl : (lv live k g).le l) : ∀ k' g', (lv live k' g').le (lv (setLv live k g l) k' g') := by
  intro k' g'
  rw [lv_setLv h hk hg]
  split
  · rename_i e; rw [e.1, e.2]; exact hl
  · exact Lv.le.refl _
theorem cellM_post {ins : List Ins} {slot : List Int} {ns k g : Nat} {live : List (List Lv)} (h : Shp ins.length ns live) (hP : Post ins slot ns live) (hg : g < ns) : Post ins slot ns (cellM ins slot k g live) := by
  unfold cellM
  cases hi : ins[k]? with
  | none => exact hP
  | some i =>
    have hk := (List.getElem?_eq_some_iff.1 hi).1
    have hle := setLv_le h hk hg (hP k i hi g hg)
    intro k' i' hi' g' hg'
    rw [lv_setLv h hk hg]
    split
    · rename_i e
      obtain ⟨rfl, rfl⟩ := e
      rw [hi] at hi'; injection hi' with hi'; subst hi'
      exact markOne_mono (fun k => hle k g')
    · exact (hP k' i' hi' g' hg').trans (markOne_mono (fun k => hle k g'))
theorem rowM_post {ins : List Ins} {slot : List Int} {ns k : Nat} {live : List (List Lv)} (h : Shp ins.length ns live) (hP : Post ins slot ns live) : ∀ g, g ≤ ns → Post ins slot ns (rowM ins slot k g live)
  | 0, _ => hP
  | g + 1, hg => cellM_post (rowM_shp h g) (rowM_post h hP g (by omega)) (by omega)
/-- How many bits are set. -/
def cntL (l : Lv) : Nat := (if l.began then 1 else 0) + if l.part then 1 else 0
def trues (live : List (List Lv)) : Nat := (live.map fun r => (r.map cntL).sum).sum
theorem sum_set : ∀ (l : List Nat) (k x : Nat) (h : k < l.length), (l.set k x).sum + l[k] = l.sum + x
  | a :: l, 0, x, h => by simp; omega
  | a :: l, k + 1, x, h => by
    have ih := sum_set l k x (by simpa using h)
    simp only [List.set_cons_succ, List.sum_cons, List.getElem_cons_succ]
    omega
theorem trues_set {n ns k g : Nat} {l : Lv} {live : List (List Lv)} (h : Shp n ns live) (hk : k < n) (hg : g < ns) : trues (setLv live k g l) + cntL (lv live k g) = trues live + cntL l := by
  have hkl : k < live.length := by rw [h.n]; exact hk
  obtain ⟨r0, h0⟩ : ∃ r0, live[k]? = some r0 := ⟨_, List.getElem?_eq_getElem hkl⟩
  have hr0 := h.r k r0 h0
  have hlk : live[k] = r0 := by rw [List.getElem?_eq_getElem hkl] at h0; injection h0
  have h1 := sum_set (live.map fun r => (r.map cntL).sum) k (((r0.set g l).map cntL).sum) (by simpa using hkl)
  have h2 := sum_set (r0.map cntL) g (cntL l) (by simpa [hr0] using hg)
  rw [List.getElem_map] at h1 h2
  rw [hlk] at h1
  have e1 : setLv live k g l = live.set k (r0.set g l) := by unfold setLv; rw [List.getD_eq_getElem?_getD, h0]; rfl
  have e2 : lv live k g = r0[g]'(by omega) := by unfold lv; simp only [List.getD_eq_getElem?_getD, h0, Option.getD_some]; rw [List.getElem?_eq_getElem (by omega)]; rfl
  rw [e1, e2]
  unfold trues
  simp only [List.map_set] at h1 ⊢
  omega
theorem cnt_le (l : Lv) : cntL l ≤ 2 := by unfold cntL; split <;> split <;> omega
theorem sum_le_mul {l : List Nat} {B : Nat} (h : ∀ x ∈ l, x ≤ B) : l.sum ≤ l.length * B := by
  induction l with
  | nil => simp
  | cons a l ih =>
    have h1 := h a (List.mem_cons_self ..)
    have h2 := ih (fun x hx => h x (List.mem_cons_of_mem _ hx))
    rw [List.sum_cons, List.length_cons, Nat.succ_mul]
    omega
theorem trues_le {n ns : Nat} {live : List (List Lv)} (h : Shp n ns live) : trues live ≤ n * (ns * 2) := by
  unfold trues
  have := sum_le_mul (l := live.map fun r => (r.map cntL).sum) (B := ns * 2) (by
    intro x hx
    obtain ⟨r, hr, rfl⟩ := List.mem_map.1 hx
    obtain ⟨k, hk, rfl⟩ := List.getElem_of_mem hr
    have h1 := h.r k _ (List.getElem?_eq_getElem hk)
    have := sum_le_mul (l := live[k].map cntL) (B := 2) (by intro x hx; obtain ⟨l, _, rfl⟩ := List.mem_map.1 hx; exact cnt_le l)
    rw [List.length_map, h1] at this
    exact this)
  rw [List.length_map, h.n] at this
  exact this
theorem cnt_lt {a b : Lv} (h : a.le b) (hne : a ≠ b) : cntL a < cntL b := by
  obtain ⟨a1, a2⟩ := a
  obtain ⟨b1, b2⟩ := b
  obtain ⟨h1, h2⟩ := h
  cases a1 <;> cases a2 <;> cases b1 <;> cases b2 <;> simp_all [cntL]
theorem setLv_same {n ns k g : Nat} {live : List (List Lv)} (h : Shp n ns live) (hk : k < n) (hg : g < ns) : setLv live k g (lv live k g) = live := by
  have hkl : k < live.length := by rw [h.n]; exact hk
  obtain ⟨r0, h0⟩ : ∃ r0, live[k]? = some r0 := ⟨_, List.getElem?_eq_getElem hkl⟩
  have hr0 := h.r k r0 h0
  have hlk : live[k] = r0 := by rw [List.getElem?_eq_getElem hkl] at h0; injection h0
  unfold setLv lv
  simp only [List.getD_eq_getElem?_getD, h0, Option.getD_some]
  rw [List.getElem?_eq_getElem (by omega : g < r0.length), Option.getD_some, List.set_getElem_self, ← hlk, List.set_getElem_self]
/-- One place: what it does to the flag. -/
theorem cellM_step {ins : List Ins} {slot : List Int} {ns k g : Nat} {i : Ins} {live : List (List Lv)} (h : Shp ins.length ns live) (hP : Post ins slot ns live) (hi : ins[k]? = some i) (hg : g < ns) :
    (markOne slot live i k g = lv live k g → cellM ins slot k g live = live) ∧ (markOne slot live i k g ≠ lv live k g → trues live < trues (cellM ins slot k g live)) := by
  have hk := (List.getElem?_eq_some_iff.1 hi).1
  unfold cellM
  rw [hi]
  simp only
  refine ⟨fun e => by rw [e]; exact setLv_same h hk hg, fun e => ?_⟩
  have h1 := trues_set (l := markOne slot live i k g) h hk hg
  have h2 := cnt_lt (hP k i hi g hg) (fun e2 => e e2.symm)
  omega
theorem live0_shp (n ns : Nat) : Shp n ns (live0 n ns) := ⟨by simp [live0], fun k r h => by
  unfold live0 at h
  have := List.mem_of_getElem? h
  rw [List.eq_of_mem_replicate this]; simp⟩
theorem lv_live0 (n ns k g : Nat) : lv (live0 n ns) k g = ⟨false, false⟩ := by
  unfold lv live0
  simp only [List.getD_eq_getElem?_getD, List.getElem?_replicate]
  split
  · rw [Option.getD_some, List.getElem?_replicate]; split <;> rfl
  · simp
theorem live0_post (ins : List Ins) (slot : List Int) (n ns : Nat) : Post ins slot ns (live0 n ns) := fun k i _ g _ => by
  rw [lv_live0]; exact ⟨fun h => (by cases h), fun h => (by cases h)⟩
/-- Wherever it comes to a stop, it is there. -/
theorem iter_stop {α : Type} (f : α → α) (x : α) {t u : Nat} (ht : f (iterM f t x) = iterM f t x) (hu : f (iterM f u x) = iterM f u x) : iterM f t x = iterM f u x := by
  have key : ∀ a d, f (iterM f a x) = iterM f a x → iterM f (a + d) x = iterM f a x := by
    intro a d ha
    induction d with
    | zero => rfl
    | succ d ih => show f (iterM f (a + d) x) = _; rw [ih, ha]
  rcases Nat.le_total t u with h | h
  · obtain ⟨d, rfl⟩ := Nat.exists_eq_add_of_le h
    exact (key t d ht).symm
  · obtain ⟨d, rfl⟩ := Nat.exists_eq_add_of_le h
    exact key u d hu
end Go.Proofs.Ytoadmpochaeohaa
