/-
  Layer 20 in plain Lean: where the ways are few, a machine comes to its end, plain or not.
-/
import Derived.Test.YtoadmpochaeohaaPa28
import Derived.Test.YtoadmpochaeohaaPa30
import Derived.Test.YtoadmpochaeohaaPa16
section
set_option linter.unusedVariables false
set_option linter.unusedSimpArgs false
set_option maxRecDepth 100000
namespace Go.Proofs.Ytoadmpochaeohaa
open Go.RowKit

/-- How many configurations are on all ways. -/
def szO (nx : RC → List RC) : Nat → List (List UInt8) → RC → Option Nat
  | 0, _, _ => none
  | f + 1, way, c => if textR c ∈ way then some 1 else ((nx c).mapM fun d => szO nx f (way ++ [textR c]) d).map fun ns => 1 + ns.sum
theorem mapM_cons_some {α β : Type} {f : α → Option β} {a : α} {l : List α} {b : β} {bs : List β} (h1 : f a = some b) (h2 : l.mapM f = some bs) : (a :: l).mapM f = some (b :: bs) := by
  rw [List.mapM_cons, h1, h2]; rfl
theorem walk_kids_stop (nx : RC → List RC) (most f : Nat) (way : List (List UInt8)) : ∀ (l : List RC) (m : Nat), most < m → l.foldl (fun m d => if m ≤ most then walkR nx most f m way d else m) m = m
  | [], m, _ => rfl
  | d :: l, m, h => by rw [List.foldl_cons, if_neg (by omega)]; exact walk_kids_stop nx most f way l m h
theorem walk_sz (nx : RC → List RC) (most : Nat) : ∀ (f many : Nat) (way : List (List UInt8)) (c : RC), most + 2 ≤ many + f → many ≤ most → walkR nx most f many way c ≤ most → ∃ k, szO nx f way c = some k ∧ walkR nx most f many way c = many + k
  | 0, many, way, c, h, h1, _ => by omega
  | f + 1, many, way, c, h, h1, h2 => by
    rw [walkR] at h2 ⊢
    rw [szO]
    split
    · rename_i hin
      rw [if_pos hin] at h2
      exact ⟨1, rfl, rfl⟩
    · rename_i hin
      rw [if_neg hin] at h2
      have key : ∀ (l : List RC) (m : Nat), most + 2 ≤ m + f → l.foldl (fun m d => if m ≤ most then walkR nx most f m (way ++ [textR c]) d else m) m ≤ most → ∃ ns : List Nat, l.mapM (fun d => szO nx f (way ++ [textR c]) d) = some ns ∧ l.foldl (fun m d => if m ≤ most then walkR nx most f m (way ++ [textR c]) d else m) m = m + ns.sum := by
        intro l
        induction l with
        | nil => intro m _ _; exact ⟨[], rfl, rfl⟩
        | cons d l ih =>
          intro m hm hle
          rw [List.foldl_cons] at hle ⊢
          by_cases hmm : m ≤ most
          · rw [if_pos hmm] at hle ⊢
            by_cases hw : walkR nx most f m (way ++ [textR c]) d ≤ most
            · obtain ⟨k, hk1, hk2⟩ := walk_sz nx most f m (way ++ [textR c]) d hm hmm hw
              rw [hk2] at hle ⊢
              obtain ⟨ns, hn1, hn2⟩ := ih (m + k) (by omega) hle
              exact ⟨k :: ns, mapM_cons_some hk1 hn1, by rw [hn2, List.sum_cons]; omega⟩
            · rw [walk_kids_stop nx most f _ l _ (by omega)] at hle
              omega
          · rw [if_neg hmm, walk_kids_stop nx most f _ l _ (by omega)] at hle
            omega
      obtain ⟨ns, hn1, hn2⟩ := key (nx c) (many + 1) (by omega) h2
      exact ⟨1 + ns.sum, by rw [hn1]; rfl, by rw [hn2]; omega⟩
/-- More fuel does no harm. -/
theorem run_more {m : Mc} {L : List UInt8} : ∀ (f : Nat) (p : List Fr) (rn r : Rn) (j : Nat), runS m L f p rn = some r → runS m L (f + j) p rn = some r
  | f, [], rn, r, j, h => by
    have h1 : some rn = some r := by cases f <;> exact h
    cases f <;> cases j <;> exact h1
  | 0, _ :: _, rn, r, j, h => by simp [runS] at h
  | f + 1, .leave k :: p, rn, r, j, h => by
    rw [show f + 1 + j = (f + j) + 1 by omega]
    rw [runS] at h ⊢
    exact run_more f p _ r j h
  | f + 1, .look c :: p, rn, r, j, h => by
    rw [show f + 1 + j = (f + j) + 1 by omega]
    rw [runS] at h ⊢
    split
    · rename_i hin
      rw [if_pos hin] at h
      exact run_more f p _ r j h
    · rename_i hin
      rw [if_neg hin] at h
      exact run_more f _ _ r j h
/-- A machine does no more than all ways ask. -/
theorem run_tree {m : Mc} {L : List UInt8} {nx : RC → List RC} {abs : RC → Cf} {Good : Nat → RC → Prop} {GW : RC → Prop} (hG : ∀ f c, Good (f + 1) c → ∀ d, d ∈ nx c → Good f d) (hGW : ∀ f c, Good f c → GW c) (hon : ∀ c, GW c → onS m L (abs c) = (nx c).map abs) (hinj : ∀ c c', GW c → GW c' → textR c = textR c' → c = c') :
    ∀ (f : Nat) (way : List (List UInt8)) (c : RC) (k : Nat), szO nx f way c = some k → Good f c → ∀ (p : List Fr) (F : Nat) (rn : Rn), (∀ t ∈ way, ∀ c', GW c' → textR c' = t → keyS m (abs c') ∈ rn.seen) →
      (∀ rn', (∀ κ, κ ∈ rn.seen → κ ∈ rn'.seen) → ∃ r, runS m L F p rn' = some r) → ∃ r, runS m L (2 * k + F) (.look (abs c) :: p) rn = some r
  | 0, way, c, k, h, _, _, _, _, _, _ => by cases h
  | f + 1, way, c, k, h, hg, p, F, rn, hway, hp => by
    rw [szO] at h
    by_cases hkey : keyS m (abs c) ∈ rn.seen
    · have hk : 1 ≤ k := by
        split at h
        · injection h with h; omega
        · cases hm : (nx c).mapM (fun d => szO nx f (way ++ [textR c]) d) with
          | none => rw [hm] at h; cases h
          | some ns =>
            rw [hm] at h
            have h2 : (some (1 + ns.sum) : Option Nat) = some k := h
            injection h2 with h2; omega
      obtain ⟨r, hr⟩ := hp { rn with steps := rn.steps + 1 } (fun κ h => h)
      refine ⟨r, ?_⟩
      rw [show 2 * k + F = (F + (2 * k - 1)) + 1 by omega, runS, if_pos hkey]
      exact run_more F p _ r _ hr
    · have hno : textR c ∉ way := fun hin => hkey (hway _ hin c (hGW _ _ hg) rfl)
      rw [if_neg hno] at h
      cases hm : (nx c).mapM (fun d => szO nx f (way ++ [textR c]) d) with
      | none => rw [hm] at h; cases h
      | some ns =>
        rw [hm] at h
        have h2 : (some (1 + ns.sum) : Option Nat) = some k := h
        injection h2 with h
        -- the children, the last one first
        have key : ∀ (l : List RC) (ns : List Nat), l.mapM (fun d => szO nx f (way ++ [textR c]) d) = some ns → (∀ d ∈ l, Good f d) → ∀ (p2 : List Fr) (F2 : Nat) (rn2 : Rn), (∀ t ∈ way ++ [textR c], ∀ c', GW c' → textR c' = t → keyS m (abs c') ∈ rn2.seen) →
            (∀ rn', (∀ κ, κ ∈ rn2.seen → κ ∈ rn'.seen) → ∃ r, runS m L F2 p2 rn' = some r) → ∃ r, runS m L (2 * ns.sum + F2) ((l.map abs).reverse.map .look ++ p2) rn2 = some r := by
          intro l
          induction l with
          | nil =>
            intro ns hns _ p2 F2 rn2 _ hp2
            have : ns = [] := by
              have h2 : (some [] : Option (List Nat)) = some ns := hns
              injection h2 with h2; exact h2.symm
            subst this
            obtain ⟨r, hr⟩ := hp2 rn2 (fun κ h => h)
            exact ⟨r, by simpa using hr⟩
          | cons d l ih =>
            intro ns hns hgl p2 F2 rn2 hw2 hp2
            rw [List.mapM_cons] at hns
            cases h1 : szO nx f (way ++ [textR c]) d with
            | none => rw [h1] at hns; cases hns
            | some k1 =>
              cases h2 : l.mapM (fun d => szO nx f (way ++ [textR c]) d) with
              | none => rw [h1, h2] at hns; cases hns
              | some ns2 =>
                rw [h1, h2] at hns
                have h3 : (some (k1 :: ns2) : Option (List Nat)) = some ns := hns
                injection h3 with h3
                subst h3
                rw [List.map_cons, List.reverse_cons, List.map_append, List.append_assoc, List.sum_cons]
                rw [show 2 * (k1 + ns2.sum) + F2 = 2 * ns2.sum + (2 * k1 + F2) by omega]
                refine ih ns2 h2 (fun x hx => hgl x (List.mem_cons_of_mem _ hx)) _ _ rn2 hw2 (fun rn' hrn' => ?_)
                exact run_tree hG hGW hon hinj f (way ++ [textR c]) d k1 h1 (hgl d (List.mem_cons_self ..)) p2 F2 rn' (fun t ht c' hc' he => hrn' _ (hw2 t ht c' hc' he)) (fun rn'' hrn'' => hp2 rn'' (fun κ hκ => hrn'' κ (hrn' κ hκ)))
        have hw2 : ∀ t ∈ way ++ [textR c], ∀ c', GW c' → textR c' = t → keyS m (abs c') ∈ keyS m (abs c) :: rn.seen := fun t ht c' hc' he => by
          rcases List.mem_append.1 ht with ht | ht
          · exact List.mem_cons_of_mem _ (hway t ht c' hc' he)
          · rw [List.mem_singleton] at ht
            rw [hinj c' c hc' (hGW _ _ hg) (by rw [he, ht])]
            exact List.mem_cons_self ..
        rw [show 2 * k + F = (2 * ns.sum + (F + 1)) + 1 by rw [← h]; omega, runS, if_neg hkey, hon c (hGW _ _ hg)]
        cases hpl : m.plain with
        | false =>
          simp only [Bool.false_eq_true, if_false]
          refine key (nx c) ns hm (hG f c hg) p (F + 1) _ hw2 (fun rn' hrn' => ?_)
          obtain ⟨r, hr⟩ := hp rn' (fun κ hκ => hrn' κ (List.mem_cons_of_mem _ hκ))
          exact ⟨r, run_more F p _ r 1 hr⟩
        | true =>
          simp only [if_true]
          refine key (nx c) ns hm (hG f c hg) (.leave (keyS m (abs c)) :: p) (F + 1) _ hw2 (fun rn' hrn' => ?_)
          rw [runS]
          refine hp _ (fun κ hκ => ?_)
          have hne : κ ≠ keyS m (abs c) := fun e => hkey (e ▸ hκ)
          exact (List.mem_erase_of_ne hne).2 (hrn' κ (List.mem_cons_of_mem _ hκ))
end Go.Proofs.Ytoadmpochaeohaa
end

section
set_option linter.unusedVariables false
set_option linter.unusedSimpArgs false
set_option maxRecDepth 100000
namespace Go.Proofs.Ytoadmpochaeohaa
open Go.RowKit

theorem byte_inj {x y : Int} (hx : 0 ≤ x ∧ x < 256) (hy : 0 ≤ y ∧ y < 256) (h : UInt8.ofNat x.toNat = UInt8.ofNat y.toNat) : x = y := by
  have h2 := congrArg UInt8.toNat h
  rw [UInt8.toNat_ofNat', UInt8.toNat_ofNat', Nat.mod_eq_of_lt (by omega), Nat.mod_eq_of_lt (by omega)] at h2
  omega
theorem t3_inj {m n : Int} (hm : -1 ≤ m ∧ m ≤ 16000000) (hn : -1 ≤ n ∧ n ≤ 16000000) (h : t3 m = t3 n) : m = n := by
  unfold t3 at h
  injection h with h1 h
  injection h with h2 h
  injection h with h3 _
  have a1 := byte_inj ⟨Int.emod_nonneg _ (by omega), Int.emod_lt_of_pos _ (by omega)⟩ ⟨Int.emod_nonneg _ (by omega), Int.emod_lt_of_pos _ (by omega)⟩ h1
  have a2 := byte_inj ⟨Int.emod_nonneg _ (by omega), Int.emod_lt_of_pos _ (by omega)⟩ ⟨Int.emod_nonneg _ (by omega), Int.emod_lt_of_pos _ (by omega)⟩ h2
  have a3 := byte_inj ⟨Int.emod_nonneg _ (by omega), Int.emod_lt_of_pos _ (by omega)⟩ ⟨Int.emod_nonneg _ (by omega), Int.emod_lt_of_pos _ (by omega)⟩ h3
  omega
theorem flat3_inj : ∀ l l' : List Int, (∀ z ∈ l, -1 ≤ z ∧ z ≤ 16000000) → (∀ z ∈ l', -1 ≤ z ∧ z ≤ 16000000) → l.flatMap t3 = l'.flatMap t3 → l = l'
  | [], [], _, _, _ => rfl
  | [], y :: l', _, _, h => by simp [t3] at h
  | x :: l, [], _, _, h => by simp [t3] at h
  | x :: l, y :: l', h1, h2, h => by
    rw [List.flatMap_cons, List.flatMap_cons] at h
    obtain ⟨e1, e2⟩ := List.append_inj h rfl
    rw [t3_inj (h1 x (List.mem_cons_self ..)) (h2 y (List.mem_cons_self ..)) e1, flat3_inj l l' (fun z hz => h1 z (List.mem_cons_of_mem _ hz)) (fun z hz => h2 z (List.mem_cons_of_mem _ hz)) e2]
/-- As many numbers as there are groups, and counters. -/
structure LR (gr co : Nat) (c : RC) : Prop where
  b : c.began.length = gr
  f : c.frm.length = gr
  t : c.til.length = gr
  u : c.turns.length = co
  l : c.last.length = co
theorem text_inj {gr co : Nat} {c c' : RC} (h : LR gr co c) (h' : LR gr co c') (hs : c.small) (hs' : c'.small) (e : textR c = textR c') : c = c' := by
  have hn := flat3_inj _ _ hs hs' e
  obtain ⟨pc, at_, b, f, t, u, l⟩ := c
  obtain ⟨pc', at_', b', f', t', u', l'⟩ := c'
  obtain ⟨h1, h2, h3, h4, h5⟩ := h
  obtain ⟨k1, k2, k3, k4, k5⟩ := h'
  simp only at h1 h2 h3 h4 h5 k1 k2 k3 k4 k5
  unfold RC.nums at hn
  simp only [List.cons_append, List.nil_append] at hn
  injection hn with e1 hn
  injection hn with e2 hn
  obtain ⟨hn, e7⟩ := List.append_inj' hn (by omega)
  obtain ⟨hn, e6⟩ := List.append_inj' hn (by omega)
  obtain ⟨hn, e5⟩ := List.append_inj' hn (by omega)
  obtain ⟨e3, e4⟩ := List.append_inj' hn (by omega)
  have e1' : pc = pc' := by omega
  have e2' : at_ = at_' := by omega
  subst e1' e2' e3 e4 e5 e6 e7
  rfl
theorem next_LR {ins : List Ins} {fo : Bool} {L : List UInt8} {refs : List Bool} {gr co : Nat} {c d : RC} (h : LR gr co c) (hd : d ∈ nextR ins fo L refs c) : LR gr co d := by
  obtain ⟨h1, h2, h3, h4, h5⟩ := h
  unfold nextR at hd
  split at hd
  · cases hd
  · rename_i i hi
    by_cases q1 : i.op = 1
    · rw [if_pos q1] at hd
      split at hd
      · split at hd
        · (rw [List.mem_singleton] at hd; subst hd; exact ⟨h1, h2, h3, h4, h5⟩)
        · cases hd
      · cases hd
    rw [if_neg q1] at hd
    by_cases q2 : i.op = 2
    · rw [if_pos q2] at hd
      simp only [List.mem_cons, List.not_mem_nil, or_false] at hd
      rcases hd with rfl | rfl
      · exact ⟨h1, h2, h3, h4, h5⟩
      · exact ⟨h1, h2, h3, h4, h5⟩
    rw [if_neg q2] at hd
    by_cases q3 : i.op = 3
    · rw [if_pos q3] at hd; (rw [List.mem_singleton] at hd; subst hd; exact ⟨h1, h2, h3, h4, h5⟩)
    rw [if_neg q3] at hd
    by_cases q4 : i.op = 4
    · rw [if_pos q4] at hd
      split at hd
      · (rw [List.mem_singleton] at hd; subst hd; exact ⟨h1, h2, h3, h4, h5⟩)
      · cases hd
    rw [if_neg q4] at hd
    by_cases q5 : i.op = 5
    · rw [if_pos q5] at hd
      split at hd
      · (rw [List.mem_singleton] at hd; subst hd; exact ⟨h1, h2, h3, h4, h5⟩)
      · cases hd
    rw [if_neg q5] at hd
    by_cases q6 : i.op = 6
    · rw [if_pos q6] at hd
      split at hd
      · (rw [List.mem_singleton] at hd; subst hd; exact ⟨(by simp only [List.length_set]; exact h1), h2, h3, h4, h5⟩)
      · (rw [List.mem_singleton] at hd; subst hd; exact ⟨h1, h2, h3, h4, h5⟩)
    rw [if_neg q6] at hd
    by_cases q7 : i.op = 7
    · rw [if_pos q7] at hd
      split at hd
      · (rw [List.mem_singleton] at hd; subst hd; exact ⟨h1, (by simp only [List.length_set]; exact h2), (by simp only [List.length_set]; exact h3), h4, h5⟩)
      · (rw [List.mem_singleton] at hd; subst hd; exact ⟨h1, h2, h3, h4, h5⟩)
    rw [if_neg q7] at hd
    by_cases q8 : i.op = 8
    · rw [if_pos q8] at hd
      simp only at hd
      split at hd
      · cases hd
      · split at hd
        · (rw [List.mem_singleton] at hd; subst hd; exact ⟨h1, h2, h3, h4, h5⟩)
        · cases hd
    rw [if_neg q8] at hd
    by_cases q9 : i.op = 9
    · rw [if_pos q9] at hd
      (rw [List.mem_singleton] at hd; subst hd; exact ⟨h1, h2, h3, (by simp only [List.length_set]; exact h4), (by simp only [List.length_set]; exact h5)⟩)
    rw [if_neg q9] at hd
    by_cases q10 : i.op = 10
    · rw [if_pos q10] at hd
      unfold turnR at hd
      simp only at hd
      split at hd
      · cases hd
      · rcases List.mem_append.1 hd with hd | hd
        · split at hd
          · (rw [List.mem_singleton] at hd; subst hd; exact ⟨h1, h2, h3, h4, h5⟩)
          · cases hd
        · split at hd
          · (rw [List.mem_singleton] at hd; subst hd; exact ⟨h1, h2, h3, (by simp only [List.length_set]; exact h4), (by simp only [List.length_set]; exact h5)⟩)
          · cases hd
    rw [if_neg q10] at hd
    cases hd
theorem c0_LR (gr co at_ : Nat) : LR gr co (c0R gr co at_) := ⟨List.length_replicate .., List.length_replicate .., List.length_replicate .., List.length_replicate .., List.length_replicate ..⟩
end Go.Proofs.Ytoadmpochaeohaa
end

section
set_option linter.unusedVariables false
set_option linter.unusedSimpArgs false
set_option maxRecDepth 100000
namespace Go.Proofs.Ytoadmpochaeohaa
open Go.RowKit

/-- No place is given twice; who is referred to has one. -/
structure SlR (gr : Nat) (s : List Int) (r : List Bool) (n : Int) : Prop where
  ls : s.length = gr
  lr : r.length = gr
  n0 : 0 ≤ n
  bd : ∀ v ∈ s, v < n
  inj : ∀ (g g' : Nat) (j : Int), s[g]? = some j → s[g']? = some j → 0 ≤ j → g = g'
  ref : ∀ g, g < gr → (r.getD g false = true ↔ 0 ≤ s.getD g (-1))
  sur : ∀ j : Nat, (j : Int) < n → ∃ g : Nat, s[g]? = some (j : Int)
theorem slR_step {gr : Nat} {s : List Int} {r : List Bool} {n : Int} (h : SlR gr s r n) {k : Nat} (hk : k < gr) : SlR gr (if s.getD k 0 < 0 then s.set k n else s) (r.set k true) (if s.getD k 0 < 0 then n + 1 else n) := by
  obtain ⟨sk, hks⟩ : ∃ x, s[k]? = some x := ⟨_, List.getElem?_eq_getElem (by rw [h.ls]; exact hk)⟩
  have hg0 : s.getD k 0 = s.getD k (-1) := by rw [List.getD_eq_getElem?_getD, List.getD_eq_getElem?_getD, hks]; rfl
  have hrk : (r.set k true).getD k false = true := by rw [List.getD_eq_getElem?_getD, List.getElem?_set, if_pos rfl, if_pos (by rw [h.lr]; exact hk)]; rfl
  have hro : ∀ g, g ≠ k → (r.set k true).getD g false = r.getD g false := fun g e => by rw [List.getD_eq_getElem?_getD, List.getD_eq_getElem?_getD, List.getElem?_set, if_neg (fun e2 => e e2.symm)]
  by_cases hneg : s.getD k 0 < 0
  · rw [if_pos hneg, if_pos hneg]
    refine ⟨by rw [List.length_set]; exact h.ls, by rw [List.length_set]; exact h.lr, by have := h.n0; omega, fun v hv => ?_, fun g g' j h1 h2 h0 => ?_, fun g hg => ?_, fun j hj => ?_⟩
    · rcases List.mem_or_eq_of_mem_set hv with hv | rfl
      · have := h.bd v hv; omega
      · omega
    · rw [List.getElem?_set] at h1 h2
      by_cases e1 : k = g <;> by_cases e2 : k = g'
      · omega
      · rw [if_pos e1] at h1
        rw [if_neg e2] at h2
        split at h1
        · injection h1 with h1
          have := h.bd j (List.mem_of_getElem? h2); omega
        · cases h1
      · rw [if_neg e1] at h1
        rw [if_pos e2] at h2
        split at h2
        · injection h2 with h2
          have := h.bd j (List.mem_of_getElem? h1); omega
        · cases h2
      · rw [if_neg e1] at h1
        rw [if_neg e2] at h2
        exact h.inj g g' j h1 h2 h0
    · by_cases e : g = k
      · subst e
        rw [hrk, List.getD_eq_getElem?_getD, List.getElem?_set, if_pos rfl, if_pos (by rw [h.ls]; exact hk)]
        simp only [Option.getD_some, true_iff]
        exact h.n0
      · have hso : (s.set k n).getD g (-1) = s.getD g (-1) := by rw [List.getD_eq_getElem?_getD, List.getElem?_set, if_neg (fun e2 => e e2.symm), List.getD_eq_getElem?_getD]
        rw [hro g e, hso]
        exact h.ref g hg
    · by_cases e : (j : Int) = n
      · exact ⟨k, by rw [List.getElem?_set, if_pos rfl, if_pos (by rw [h.ls]; exact hk), e]⟩
      · obtain ⟨g, hg⟩ := h.sur j (by omega)
        refine ⟨g, ?_⟩
        rw [List.getElem?_set, if_neg]
        · exact hg
        · rintro rfl
          rw [List.getD_eq_getElem?_getD, hg] at hneg
          simp only [Option.getD_some] at hneg
          omega
  · rw [if_neg hneg, if_neg hneg]
    refine ⟨h.ls, by rw [List.length_set]; exact h.lr, h.n0, h.bd, h.inj, fun g hg => ?_, h.sur⟩
    by_cases e : g = k
    · subst e
      rw [hrk]
      simp only [true_iff]
      omega
    · rw [hro g e]
      exact h.ref g hg
theorem slotP_R {gr : Nat} : ∀ (l : List Ins) (s : List Int) (r : List Bool) (n : Int), SlR gr s r n → (∀ i ∈ l, i.op = 8 → 0 ≤ i.n ∧ i.n < gr) →
    SlR gr (slotP l s n).1 (l.foldl (fun l i => if i.op = 8 then l.set i.n.toNat true else l) r) (slotP l s n).2
  | [], s, r, n, h, _ => h
  | i :: l, s, r, n, h, hl => by
    rw [List.foldl_cons]
    by_cases h8 : i.op = 8
    · have hb := hl i (List.mem_cons_self ..) h8
      have hst := slR_step h (k := i.n.toNat) (by omega)
      rw [if_pos h8]
      by_cases hneg : s.getD i.n.toNat 0 < 0
      · rw [if_pos hneg, if_pos hneg] at hst
        rw [show slotP (i :: l) s n = slotP l (s.set i.n.toNat n) (n + 1) by rw [slotP, if_pos ⟨h8, hneg⟩]]
        exact slotP_R l _ _ _ hst (fun j hj => hl j (List.mem_cons_of_mem _ hj))
      · rw [if_neg hneg, if_neg hneg] at hst
        rw [show slotP (i :: l) s n = slotP l s n by rw [slotP, if_neg (fun x => hneg x.2)]]
        exact slotP_R l _ _ _ hst (fun j hj => hl j (List.mem_cons_of_mem _ hj))
    · rw [if_neg h8, show slotP (i :: l) s n = slotP l s n by rw [slotP, if_neg (fun x => h8 x.1)]]
      exact slotP_R l _ _ _ h (fun j hj => hl j (List.mem_cons_of_mem _ hj))
theorem slotN_R {ins : List Ins} {gr : Nat} (hl : ∀ i ∈ ins, i.op = 8 → 0 ≤ i.n ∧ i.n < gr) : SlR gr (slotN ins gr) (refsN ins gr) (slotP ins (List.replicate gr (-1)) 0).2 := by
  refine slotP_R ins _ _ 0 ⟨List.length_replicate .., List.length_replicate .., Int.le_refl _, fun v hv => by rw [List.eq_of_mem_replicate hv]; omega, fun g g' j h1 _ h0 => ?_, fun g hg => ?_, fun j hj => by omega⟩ hl
  · have := List.eq_of_mem_replicate (List.mem_of_getElem? h1); omega
  · simp [List.getD_eq_getElem?_getD, List.getElem?_replicate, hg]
/-- So many turns tell something: enough of them. -/
theorem mostP_ge : ∀ (l : List Ins) (m : List Int) (k : Nat), k < m.length → m.getD k 0 ≤ (mostP l m).getD k 0 ∧ ∀ i ∈ l, i.op = 10 → i.n.toNat = k → i.mx ≤ (mostP l m).getD k 0 ∧ i.mn + 1 ≤ (mostP l m).getD k 0
  | [], m, k, _ => ⟨Int.le_refl _, fun i h => by cases h⟩
  | j :: l, m, k, hk => by
    by_cases h10 : j.op = 10
    · rw [show mostP (j :: l) m = mostP l (m.set j.n.toNat (max (max (m.getD j.n.toNat 0) j.mx) (j.mn + 1))) by rw [mostP, if_pos h10]]
      obtain ⟨a1, a2⟩ := mostP_ge l (m.set j.n.toNat (max (max (m.getD j.n.toNat 0) j.mx) (j.mn + 1))) k (by rw [List.length_set]; exact hk)
      by_cases e : j.n.toNat = k
      · have hg : (m.set j.n.toNat (max (max (m.getD j.n.toNat 0) j.mx) (j.mn + 1))).getD k 0 = max (max (m.getD k 0) j.mx) (j.mn + 1) := by
          rw [List.getD_eq_getElem?_getD, List.getElem?_set, if_pos e, if_pos (by omega), e]; rfl
        rw [hg] at a1
        refine ⟨by omega, fun i hi hi10 hin => ?_⟩
        rcases List.mem_cons.1 hi with rfl | hi
        · omega
        · exact a2 i hi hi10 hin
      · have hg : (m.set j.n.toNat (max (max (m.getD j.n.toNat 0) j.mx) (j.mn + 1))).getD k 0 = m.getD k 0 := by
          rw [List.getD_eq_getElem?_getD, List.getElem?_set, if_neg e, List.getD_eq_getElem?_getD]
        rw [hg] at a1
        refine ⟨a1, fun i hi hi10 hin => ?_⟩
        rcases List.mem_cons.1 hi with rfl | hi
        · exact absurd hin e
        · exact a2 i hi hi10 hin
    · rw [show mostP (j :: l) m = mostP l m by rw [mostP, if_neg h10]]
      obtain ⟨a1, a2⟩ := mostP_ge l m k hk
      refine ⟨a1, fun i hi hi10 hin => ?_⟩
      rcases List.mem_cons.1 hi with rfl | hi
      · exact absurd hi10 h10
      · exact a2 i hi hi10 hin
end Go.Proofs.Ytoadmpochaeohaa
end

section
set_option linter.unusedVariables false
set_option linter.unusedSimpArgs false
set_option maxRecDepth 100000
namespace Go.Proofs.Ytoadmpochaeohaa
open Go.RowKit

def grpOf (slot : List Int) (j : Nat) : Nat := ((List.range slot.length).find? fun g => slot.getD g (-1) == (j : Int)).getD 0
theorem grpOf_eq {gr : Nat} {s : List Int} {r : List Bool} {n : Int} (h : SlR gr s r n) {g j : Nat} (hg : s[g]? = some (j : Int)) : grpOf s j = g := by
  have hgl := (List.getElem?_eq_some_iff.1 hg).1
  unfold grpOf
  cases hf : (List.range s.length).find? (fun g => s.getD g (-1) == (j : Int)) with
  | none =>
    have := List.find?_eq_none.1 hf g (List.mem_range.2 hgl)
    rw [List.getD_eq_getElem?_getD, hg] at this
    simp at this
  | some x =>
    have h1 := List.find?_some hf
    have h2 := List.mem_range.1 (List.mem_of_find?_eq_some hf)
    have hx : s[x]? = some s[x] := List.getElem?_eq_getElem h2
    rw [List.getD_eq_getElem?_getD, hx] at h1
    simp only [Option.getD_some, beq_iff_eq] at h1
    exact h.inj x g j (by rw [hx, h1]) hg (by omega)
def ptOf (slot : List Int) (c : RC) (j : Nat) : Pt := ⟨c.began.getD (grpOf slot j) (-1), c.frm.getD (grpOf slot j) (-1), c.til.getD (grpOf slot j) (-1)⟩
def tnOf (most : List Int) (c : RC) (k : Nat) : Tn := ⟨min (c.turns.getD k 0) (most.getD k 0), c.last.getD k (-1)⟩
/-- A configuration of reference 14, as a machine has it. -/
def absC (m : Mc) (c : RC) : Cf := ⟨c.pc, c.at_, (List.range (nsS m)).map (ptOf m.slot c), (List.range m.most.length).map (tnOf m.most c)⟩
theorem map_set {α : Type} (f f' : Nat → α) (n k : Nat) (x : α) (hx : k < n → f' k = x) (ho : ∀ j, j < n → j ≠ k → f j = f' j) : ((List.range n).map f).set k x = (List.range n).map f' := by
  apply List.ext_getElem?
  intro j
  rw [List.getElem?_set]
  by_cases e : k = j
  · subst e
    rw [if_pos rfl]
    by_cases hk : k < n
    · rw [if_pos (by simpa using hk), List.getElem?_map, List.getElem?_range hk, Option.map_some, hx hk]
    · rw [if_neg (by simpa using hk), List.getElem?_eq_none (by simp; omega)]
  · rw [if_neg e]
    by_cases hj : j < n
    · rw [List.getElem?_map, List.getElem?_map, List.getElem?_range hj, Option.map_some, Option.map_some, ho j hj (fun e2 => e e2.symm)]
    · rw [List.getElem?_eq_none (by simp; omega), List.getElem?_eq_none (by simp; omega)]
theorem getD_set_ne {α : Type} (l : List α) (k j : Nat) (x d : α) (h : k ≠ j) : (l.set k x).getD j d = l.getD j d := by
  rw [List.getD_eq_getElem?_getD, List.getElem?_set, if_neg h, List.getD_eq_getElem?_getD]
theorem getD_set_eq {α : Type} (l : List α) (k : Nat) (x d : α) (h : k < l.length) : (l.set k x).getD k d = x := by
  rw [List.getD_eq_getElem?_getD, List.getElem?_set, if_pos rfl, if_pos h]; rfl
theorem on_abs {m : Mc} {ins : List Ins} {L : List UInt8} {gr co : Nat} {refs : List Bool} {n0 : Int} {c : RC} (hins : m.ins = ins) (hS : SlR gr m.slot refs n0) (hns : ∀ v ∈ m.slot, 0 ≤ v → v < nsS m) (hsur : ∀ j, j < nsS m → ∃ g : Nat, m.slot[g]? = some (j : Int)) (hco : m.most.length = co) (hm0 : ∀ k, 0 ≤ m.most.getD k 0)
    (hmost : ∀ i ∈ ins, i.op = 10 → i.mx ≤ m.most.getD i.n.toNat 0 ∧ i.mn + 1 ≤ m.most.getD i.n.toNat 0) (hfi : ∀ (k : Nat) (i : Ins), ins[k]? = some i → FineI ins.length gr co k i) (hr8 : ∀ i ∈ ins, i.op = 8 → refs.getD i.n.toNat false = true) (hL : LR gr co c) :
    onS m L (absC m c) = (nextR ins m.fold L refs c).map (absC m) := by
  have hpc : (absC m c).pc = c.pc := rfl
  have hat : (absC m c).at_ = c.at_ := rfl
  unfold onS nextR
  rw [hins, hpc, hat]
  cases hi : ins[c.pc]? with
  | none => rfl
  | some i =>
    have f := hfi _ i hi
    simp only
    by_cases h1 : i.op = 1
    · rw [if_pos h1, if_pos h1]
      cases L[c.at_]? with
      | none => rfl
      | some x =>
        simp only
        split <;> rfl
    rw [if_neg h1, if_neg h1]
    by_cases h2 : i.op = 2
    · rw [if_pos h2, if_pos h2]; rfl
    rw [if_neg h2, if_neg h2]
    by_cases h3 : i.op = 3
    · rw [if_pos h3, if_pos h3]; rfl
    rw [if_neg h3, if_neg h3]
    by_cases h4 : i.op = 4
    · rw [if_pos h4, if_pos h4]; split <;> rfl
    rw [if_neg h4, if_neg h4]
    by_cases h5 : i.op = 5
    · rw [if_pos h5, if_pos h5]; split <;> rfl
    rw [if_neg h5, if_neg h5]
    have hgrp : i.op = 6 ∨ i.op = 7 ∨ i.op = 8 → ∃ kn : Nat, i.n = kn ∧ kn < gr := fun h => by
      obtain ⟨a, b⟩ := f.g h
      exact ⟨i.n.toNat, by omega, by omega⟩
    by_cases h67 : i.op = 6 ∨ i.op = 7
    · rw [if_pos h67]
      obtain ⟨kn, hkn, hklt⟩ := hgrp (by omega)
      have hcnt : i.n.toNat = kn := by omega
      rw [hcnt]
      obtain ⟨g, hg⟩ : ∃ g, m.slot[kn]? = some g := ⟨_, List.getElem?_eq_getElem (by rw [hS.ls]; exact hklt)⟩
      have hgd : m.slot.getD kn (-1) = g := by rw [List.getD_eq_getElem?_getD, hg]; rfl
      have hrf := hS.ref kn hklt
      rw [hgd] at hrf
      unfold bracketS
      rw [hcnt, hgd]
      simp only
      by_cases hneg : g < 0
      · have hb : refs.getD kn false = false := Bool.eq_false_iff.2 (fun h => by have := hrf.1 h; omega)
        rw [if_pos hneg, hb]
        rcases h67 with h6 | h7
        · rw [if_pos h6]; rfl
        · rw [if_neg (by omega), if_pos h7]; rfl
      · have hb : refs.getD kn false = true := hrf.2 (by omega)
        rw [if_neg hneg, hb]
        obtain ⟨j, rfl⟩ := Int.eq_ofNat_of_zero_le (Int.not_lt.1 hneg)
        have hjn : j < nsS m := by have := hns _ (List.mem_of_getElem? hg) (by omega); omega
        have hgo := grpOf_eq hS hg
        have hpj : (absC m c).parts.getD ((j : Int)).toNat ⟨-1, -1, -1⟩ = ptOf m.slot c j := by
          rw [Int.toNat_natCast, List.getD_eq_getElem?_getD]
          show ((List.range (nsS m)).map (ptOf m.slot c))[j]?.getD _ = _
          rw [List.getElem?_map, List.getElem?_range hjn]; rfl
        have hne : ∀ j', j' < nsS m → j' ≠ j → grpOf m.slot j' ≠ kn := fun j' hj' hne e => by
          obtain ⟨g', hg'⟩ := hsur j' hj'
          have e2 := grpOf_eq hS hg'
          rw [e2] at e
          rw [e, hg] at hg'
          injection hg' with hg'
          omega
        rcases h67 with h6 | h7
        · rw [if_pos h6, if_pos h6, if_pos rfl, hpj, Int.toNat_natCast]
          have hp := map_set (ptOf m.slot c) (ptOf m.slot { c with pc := c.pc + 1, began := c.began.set kn c.at_ }) (nsS m) j ⟨(c.at_ : Int), (ptOf m.slot c j).frm, (ptOf m.slot c j).til⟩ (fun _ => by
            unfold ptOf
            rw [hgo]
            simp only
            rw [getD_set_eq _ _ _ _ (by rw [hL.b]; exact hklt)]) (fun j' hj' hne' => by
            unfold ptOf
            simp only
            rw [getD_set_ne _ _ _ _ _ (fun e => hne j' hj' hne' e.symm)])
          exact congrArg (fun ps => [(⟨c.pc + 1, c.at_, ps, (absC m c).turns⟩ : Cf)]) hp
        · have n6 : ¬ i.op = 6 := by omega
          rw [if_neg n6, if_neg n6, if_pos h7, if_pos rfl, hpj, Int.toNat_natCast]
          have hp := map_set (ptOf m.slot c) (ptOf m.slot { c with pc := c.pc + 1, frm := c.frm.set kn (if c.began.getD kn (-1) < 0 then (c.at_ : Int) else c.began.getD kn (-1)), til := c.til.set kn c.at_ }) (nsS m) j ⟨(ptOf m.slot c j).began, if (ptOf m.slot c j).began < 0 then (c.at_ : Int) else (ptOf m.slot c j).began, (c.at_ : Int)⟩ (fun _ => by
            unfold ptOf
            rw [hgo]
            simp only
            rw [getD_set_eq _ _ _ _ (by rw [hL.f]; exact hklt), getD_set_eq _ _ _ _ (by rw [hL.t]; exact hklt)]) (fun j' hj' hne' => by
            unfold ptOf
            simp only
            rw [getD_set_ne _ _ _ _ _ (fun e => hne j' hj' hne' e.symm), getD_set_ne _ _ _ _ _ (fun e => hne j' hj' hne' e.symm)])
          exact congrArg (fun ps => [(⟨c.pc + 1, c.at_, ps, (absC m c).turns⟩ : Cf)]) hp
    rw [if_neg h67, if_neg (fun h => h67 (.inl h)), if_neg (fun h => h67 (.inr h))]
    by_cases h8 : i.op = 8
    · rw [if_pos h8, if_pos h8]
      obtain ⟨kn, hkn, hklt⟩ := hgrp (by omega)
      have hcnt : i.n.toNat = kn := by omega
      obtain ⟨g, hg⟩ : ∃ g, m.slot[kn]? = some g := ⟨_, List.getElem?_eq_getElem (by rw [hS.ls]; exact hklt)⟩
      have hgd : m.slot.getD kn (-1) = g := by rw [List.getD_eq_getElem?_getD, hg]; rfl
      have hrf := hS.ref kn hklt
      have h8r := hr8 i (List.mem_of_getElem? hi) h8
      rw [hcnt] at h8r
      rw [hgd] at hrf
      obtain ⟨j, rfl⟩ := Int.eq_ofNat_of_zero_le (hrf.1 h8r)
      have hjn : j < nsS m := by have := hns _ (List.mem_of_getElem? hg) (by omega); omega
      have hgo := grpOf_eq hS hg
      have hpj : (absC m c).parts[j]? = some ⟨c.began.getD kn (-1), c.frm.getD kn (-1), c.til.getD kn (-1)⟩ := by
        show ((List.range (nsS m)).map (ptOf m.slot c))[j]? = _
        rw [List.getElem?_map, List.getElem?_range hjn, Option.map_some]
        unfold ptOf
        rw [hgo]
      rw [hcnt, hgd, Int.toNat_natCast]
      unfold againS
      rw [hpj, hat]
      simp only
      by_cases q1 : c.frm.getD kn (-1) < 0 ∨ (L.length : Int) - c.at_ < c.til.getD kn (-1) - c.frm.getD kn (-1)
      · rw [if_pos q1, if_pos q1]; rfl
      · rw [if_neg q1, if_neg q1]
        by_cases q2 : sameS m.fold L (c.frm.getD kn (-1)).toNat c.at_ (c.til.getD kn (-1) - c.frm.getD kn (-1)).toNat = true
        · rw [if_pos q2, if_pos q2]; rfl
        · rw [if_neg q2, if_neg q2]; rfl
    rw [if_neg h8, if_neg h8]
    by_cases h9 : i.op = 9
    · rw [if_pos h9, if_pos h9]
      obtain ⟨a, b⟩ := f.c (.inl h9)
      obtain ⟨kn, hcnt⟩ : ∃ kn, i.n.toNat = kn := ⟨_, rfl⟩
      have hklt : kn < co := by omega
      rw [hcnt]
      have hp := map_set (tnOf m.most c) (tnOf m.most { c with pc := c.pc + 1, turns := c.turns.set kn 0, last := c.last.set kn (-1) }) m.most.length kn ⟨0, -1⟩ (fun _ => by
        unfold tnOf
        simp only
        rw [getD_set_eq _ _ _ _ (by rw [hL.u]; exact hklt), getD_set_eq _ _ _ _ (by rw [hL.l]; exact hklt)]
        have := hm0 kn
        congr 1
        omega) (fun j' hj' hne' => by
        unfold tnOf
        simp only
        rw [getD_set_ne _ _ _ _ _ (fun e => hne' e.symm), getD_set_ne _ _ _ _ _ (fun e => hne' e.symm)])
      show [(⟨c.pc + 1, c.at_, _, ((List.range m.most.length).map (tnOf m.most c)).set kn ⟨0, -1⟩⟩ : Cf)] = [_]
      rw [hp]
      rfl
    rw [if_neg h9, if_neg h9]
    by_cases h10 : i.op = 10
    · rw [if_pos h10, if_pos h10]
      obtain ⟨a, b⟩ := f.c (.inr h10)
      obtain ⟨b1, b2, b3, b4⟩ := f.b h10
      obtain ⟨m1, m2⟩ := hmost i (List.mem_of_getElem? hi) h10
      obtain ⟨kn, hcnt⟩ : ∃ kn, i.n.toNat = kn := ⟨_, rfl⟩
      have hklt : kn < co := by omega
      unfold turnR
      rw [hcnt] at m1 m2 ⊢
      have htn : (absC m c).turns.getD kn ⟨0, -1⟩ = ⟨min (c.turns.getD kn 0) (m.most.getD kn 0), c.last.getD kn (-1)⟩ := by
        rw [List.getD_eq_getElem?_getD]
        show ((List.range m.most.length).map (tnOf m.most c))[kn]?.getD _ = _
        rw [List.getElem?_map, List.getElem?_range (by omega)]; rfl
      rw [htn]
      simp only
      obtain ⟨tk, htk⟩ : ∃ tk, c.turns.getD kn 0 = tk := ⟨_, rfl⟩
      obtain ⟨mk, hmk⟩ : ∃ mk, m.most.getD kn 0 = mk := ⟨_, rfl⟩
      rw [htk, hmk]
      rw [hmk] at m1 m2
      have e1 : (i.mn < min tk mk ∧ c.last.getD kn (-1) = (c.at_ : Int)) ↔ (i.mn < tk ∧ c.last.getD kn (-1) = (c.at_ : Int)) := by
        constructor
        · rintro ⟨x, y⟩; exact ⟨by omega, y⟩
        · rintro ⟨x, y⟩; exact ⟨by omega, y⟩
      have e2 : (i.mn ≤ min tk mk) ↔ (i.mn ≤ tk) := by omega
      have e3 : (i.mx = -1 ∨ min tk mk < i.mx) ↔ (i.mx = -1 ∨ tk < i.mx) := by omega
      by_cases q1 : i.mn < tk ∧ c.last.getD kn (-1) = (c.at_ : Int)
      · rw [if_pos (e1.2 q1), if_pos q1]; rfl
      · rw [if_neg (fun h => q1 (e1.1 h)), if_neg q1, List.map_append]
        congr 1
        · by_cases q2 : i.mn ≤ tk
          · rw [if_pos (e2.2 q2), if_pos q2]; rfl
          · rw [if_neg (fun h => q2 (e2.1 h)), if_neg q2]; rfl
        · by_cases q3 : i.mx = -1 ∨ tk < i.mx
          · rw [if_pos (e3.2 q3), if_pos q3]
            have hp := map_set (tnOf m.most c) (tnOf m.most { c with pc := i.x.toNat, turns := c.turns.set kn (tk + 1), last := c.last.set kn c.at_ }) m.most.length kn ⟨min (min tk mk + 1) mk, c.at_⟩ (fun _ => by
              unfold tnOf
              simp only
              rw [getD_set_eq _ _ _ _ (by rw [hL.u]; exact hklt), getD_set_eq _ _ _ _ (by rw [hL.l]; exact hklt), hmk]
              congr 1
              omega) (fun j' hj' hne' => by
              unfold tnOf
              simp only
              rw [getD_set_ne _ _ _ _ _ (fun e => hne' e.symm), getD_set_ne _ _ _ _ _ (fun e => hne' e.symm)])
            exact congrArg (fun ts => [(⟨i.x.toNat, c.at_, (absC m c).parts, ts⟩ : Cf)]) hp
          · rw [if_neg (fun h => q3 (e3.1 h)), if_neg q3]; rfl
    rw [if_neg h10, if_neg h10]
    rfl
end Go.Proofs.Ytoadmpochaeohaa
end
