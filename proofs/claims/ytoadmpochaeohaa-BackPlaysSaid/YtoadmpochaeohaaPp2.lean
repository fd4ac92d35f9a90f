/-
  Reference 14 in plain Lean: what From knows between two configurations.
-/
import Derived.Test.YtoadmpochaeohaaPp0
import Derived.Test.YtoadmpochaeohaaPa31
section
set_option linter.unusedVariables false
set_option linter.unusedSimpArgs false
set_option maxRecDepth 100000
namespace Go.Proofs.Ytoadmpochaeohaa
open Go.RowKit

inductive RReach (nx : RC → List RC) (c0 : RC) : RC → Prop
  | refl : RReach nx c0 c0
  | step {c d : RC} : RReach nx c0 c → d ∈ nx c → RReach nx c0 d
/-- What From knows: those that were come to, those that wait, the places. -/
structure FrP (nx : RC → List RC) (hit : RC → Bool) (c0 : RC) (gr co : Nat) (cs ps : List RC) (outs : List Bool) : Prop where
  good : ∀ c, c ∈ cs ∨ c ∈ ps → (LR gr co c ∧ c.small) ∧ RReach nx c0 c
  nod : cs.Nodup
  clo : ∀ c ∈ cs, ∀ d ∈ nx c, d ∈ cs ∨ d ∈ ps
  ini : c0 ∈ cs ∨ c0 ∈ ps
  out : ∀ a, outs[a]? = some true ↔ ∃ c ∈ cs, c.at_ = a ∧ hit c = true
theorem frp_start {nx : RC → List RC} {hit : RC → Bool} {c0 : RC} {gr co n : Nat} (h1 : LR gr co c0) (h2 : c0.small) : FrP nx hit c0 gr co [] [c0] (List.replicate n false) := by
  refine ⟨fun c hc => ?_, List.nodup_nil, fun c hc => (by cases hc), .inr (by simp), fun a => ⟨fun h => ?_, fun ⟨c, hc, _⟩ => (by cases hc)⟩⟩
  · rcases hc with hc | hc
    · cases hc
    · rw [List.mem_singleton] at hc; subst hc; exact ⟨⟨h1, h2⟩, .refl⟩
  · have := List.eq_of_mem_replicate (List.mem_of_getElem? h); cases this
theorem frp_in {nx : RC → List RC} {hit : RC → Bool} {c0 c : RC} {gr co : Nat} {cs ps : List RC} {outs : List Bool} (h : FrP nx hit c0 gr co cs (ps ++ [c]) outs) (hm : textR c ∈ cs.map textR) : c ∈ cs := by
  obtain ⟨c', h1, h2⟩ := List.mem_map.1 hm
  have g1 := (h.good c' (.inl h1)).1
  have g2 := (h.good c (.inr (by simp))).1
  rw [← text_inj g1.1 g2.1 g1.2 g2.2 h2]
  exact h1
theorem frp_seen {nx : RC → List RC} {hit : RC → Bool} {c0 c : RC} {gr co : Nat} {cs ps : List RC} {outs : List Bool} (h : FrP nx hit c0 gr co cs (ps ++ [c]) outs) (hm : textR c ∈ cs.map textR) : FrP nx hit c0 gr co cs ps outs := by
  have hc := frp_in h hm
  have hs : ∀ d, d ∈ cs ∨ d ∈ ps ++ [c] → d ∈ cs ∨ d ∈ ps := fun d hd => by
    rcases hd with hd | hd
    · exact .inl hd
    · rcases List.mem_append.1 hd with hd | hd
      · exact .inr hd
      · rw [List.mem_singleton] at hd; subst hd; exact .inl hc
  exact ⟨fun d hd => h.good d (hd.imp id (fun x => List.mem_append.2 (.inl x))), h.nod, fun d hd e he => hs e (h.clo d hd e he), hs _ h.ini, h.out⟩
theorem frp_fresh {nx : RC → List RC} {hit : RC → Bool} {c0 c : RC} {gr co : Nat} {cs ps : List RC} {outs : List Bool} (h : FrP nx hit c0 gr co cs (ps ++ [c]) outs) (hm : textR c ∉ cs.map textR) : (c :: cs).Nodup ∧ ∀ d ∈ c :: cs, RReach nx c0 d := by
  refine ⟨List.nodup_cons.2 ⟨fun hc => hm (List.mem_map.2 ⟨c, hc, rfl⟩), h.nod⟩, fun d hd => ?_⟩
  rcases List.mem_cons.1 hd with rfl | hd
  · exact (h.good d (.inr (by simp))).2
  · exact (h.good d (.inl hd)).2
theorem frp_new {nx : RC → List RC} {hit : RC → Bool} {c0 c : RC} {gr co : Nat} {cs ps : List RC} {outs outs' : List Bool} (h : FrP nx hit c0 gr co cs (ps ++ [c]) outs) (hm : textR c ∉ cs.map textR) (hk : ∀ d ∈ nx c, LR gr co d ∧ d.small)
    (ho : ∀ a, outs'[a]? = some true ↔ (outs[a]? = some true ∨ (hit c = true ∧ c.at_ = a))) : FrP nx hit c0 gr co (c :: cs) (ps ++ nx c) outs' := by
  obtain ⟨f1, f2⟩ := frp_fresh h hm
  refine ⟨fun d hd => ?_, f1, fun d hd e he => ?_, ?_, fun a => ?_⟩
  · rcases hd with hd | hd
    · refine ⟨?_, f2 d hd⟩
      rcases List.mem_cons.1 hd with rfl | hd
      · exact (h.good d (.inr (by simp))).1
      · exact (h.good d (.inl hd)).1
    · rcases List.mem_append.1 hd with hd | hd
      · exact h.good d (.inr (by simp [hd]))
      · exact ⟨hk d hd, .step (f2 c (by simp)) hd⟩
  · rcases List.mem_cons.1 hd with rfl | hd
    · exact .inr (by simp [he])
    · rcases h.clo d hd e he with h1 | h1
      · exact .inl (by simp [h1])
      · rcases List.mem_append.1 h1 with h1 | h1
        · exact .inr (by simp [h1])
        · rw [List.mem_singleton] at h1; subst h1; exact .inl (by simp)
  · rcases h.ini with h1 | h1
    · exact .inl (by simp [h1])
    · rcases List.mem_append.1 h1 with h1 | h1
      · exact .inr (by simp [h1])
      · rw [List.mem_singleton] at h1; subst h1; exact .inl (by simp)
  · rw [ho a, h.out a]
    constructor
    · rintro (⟨d, h1, h2⟩ | ⟨h1, h2⟩)
      · exact ⟨d, by simp [h1], h2⟩
      · exact ⟨c, by simp, h2, h1⟩
    · rintro ⟨d, h1, h2, h3⟩
      rcases List.mem_cons.1 h1 with rfl | h1
      · exact .inr ⟨h3, h2⟩
      · exact .inl ⟨d, h1, h2, h3⟩
theorem outs_set {outs : List Bool} {k : Nat} (hk : k < outs.length) : ∀ a, (outs.set k true)[a]? = some true ↔ (outs[a]? = some true ∨ (true = true ∧ k = a)) := by
  intro a
  rw [List.getElem?_set]
  by_cases e : k = a
  · subst e; rw [if_pos rfl, if_pos hk]; simp
  · rw [if_neg e]; simp [e]
theorem outs_same {outs : List Bool} {k : Nat} : ∀ a, outs[a]? = some true ↔ (outs[a]? = some true ∨ (false = true ∧ k = a)) := fun a => by simp
/-- A match. -/
def hitR (ins : List Ins) (c : RC) : Bool := match ins[c.pc]? with | some i => i.op == 11 | none => false
/-- With the table of texts. -/
structure FrY (nx : RC → List RC) (hit : RC → Bool) (c0 : RC) (gr co : Nat) (cs ps : List RC) (outs : List Bool) (ss : List (List UInt8)) (many : Nat) : Prop where
  p : FrP nx hit c0 gr co cs ps outs
  x : TbX ss (cs.map textR)
  n : many = cs.length
/-- All that are come to from one place. -/
structure AllR (nx : RC → List RC) (hit : RC → Bool) (c0 : RC) (gr co : Nat) (cs : List RC) (outs : List Bool) : Prop where
  p : FrP nx hit c0 gr co cs [] outs
theorem AllR.has {nx : RC → List RC} {hit : RC → Bool} {c0 : RC} {gr co : Nat} {cs : List RC} {outs : List Bool} (h : AllR nx hit c0 gr co cs outs) : ∀ c, RReach nx c0 c → c ∈ cs := by
  intro c hc
  induction hc with
  | refl => exact h.p.ini.elim id (fun x => by cases x)
  | step _ hd ih => exact (h.p.clo _ ih _ hd).elim id (fun x => by cases x)
theorem nodup_sub {α : Type} [DecidableEq α] : ∀ (l l' : List α), l.Nodup → (∀ x ∈ l, x ∈ l') → l.length ≤ l'.length
  | [], l', _, _ => Nat.zero_le _
  | x :: l, l', hn, h => by
    obtain ⟨h1, h2⟩ := List.nodup_cons.1 hn
    have hx := h x (List.mem_cons_self ..)
    have ih := nodup_sub l (l'.erase x) h2 (fun y hy => (List.mem_erase_of_ne (fun e => h1 (by rw [← e]; exact hy))).2 (h y (List.mem_cons_of_mem _ hy)))
    rw [List.length_erase_of_mem hx] at ih
    have := List.length_pos_of_mem hx
    rw [List.length_cons]
    omega
end Go.Proofs.Ytoadmpochaeohaa
end
