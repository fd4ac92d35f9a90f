/-
  Layer 20: the map of what has been seen, in memory.
-/
import Derived.Test.YtoadmpochaeohaaBKeyC
import Derived.Maps.OwnSet
import Derived.StringKeys
set_option linter.unusedVariables false
set_option linter.unusedSimpArgs false
set_option maxRecDepth 100000
namespace Go.Proofs.Ytoadmpochaeohaa
open Go.RowKit
open Go.Maps (Keyed Tidy IsMap)

abbrev DD := DataW Unit
def kL (k : Key) : Lit := .string k
def kV (k : Key) : Value := .string ⟨k.toArray⟩
def zD : DD := .lit (.int .i64 0)
def oD : DD := .lit (.int .i64 1)
theorem kL_key (k : Key) : WideAt.IsKeyLit (kL k) := trivial
theorem kL_inj {a b : Key} (h : kL a = kL b) : a = b := by injection h
/-- The datum and the list say the same. -/
def SMD (D : DD) (seen : List Key) : Prop := seen.Nodup ∧ Maps.size D = seen.length ∧ ∀ k, (k ∈ seen → D.atKey (kL k) zD = oD ∧ Maps.has D (kL k) = true) ∧ (k ∉ seen → D.atKey (kL k) zD = zD ∧ Maps.has D (kL k) = false)
def SM (w : World) (bm : Nat) (seen : List Key) : Prop := ∃ D : DD, w.ownsMap Try.prog 9 (plainElem Try.prog 3) bm seen.length D ∧ SMD D seen
theorem SM.lt {w : World} {bm : Nat} {seen : List Key} (h : SM w bm seen) : bm < w.heap.size := by
  obtain ⟨D, h, _⟩ := h; exact h.lt
theorem SM.nodup {w : World} {bm : Nat} {seen : List Key} (h : SM w bm seen) : seen.Nodup := by
  obtain ⟨D, _, h, _⟩ := h; exact h
theorem SM.frm {S : Nat → Prop} {w w' : World} {bm : Nat} {seen : List Key} (h : SM w bm seen) (f : Frm S w w') (hd : ¬ S bm) : SM w' bm seen := by
  obtain ⟨D, ho, hs⟩ := h
  have hlt := ho.lt
  obtain ⟨es, clock, hb, r⟩ := ho
  exact ⟨D, ⟨es, clock, by rw [f.block bm hlt hd]; exact hb, r⟩, hs⟩
theorem SM.new (w : World) : SM (w.alloc (.map #[] 0)) w.heap.size [] :=
  ⟨.map [], World.ownsMap_made w _ _ _, List.nodup_nil, rfl, fun k => ⟨fun h => (by simp at h), fun _ => ⟨rfl, rfl⟩⟩⟩
theorem kV_key (k : Key) (hk : k.length ≤ 100000) : keyOf Try.prog 9 (kV k) = some (kL k) := by
  have := WideMaps.keyOf_string_mk (P := Try.prog) (k := 9) Try.underlying9 (s := ⟨k.toArray⟩) (by simp only [maxLen, ByteArray.size, List.size_toArray]; omega)
  simpa [kV, kL] using this
theorem keyed9 : Keyed Try.prog 9 := Maps.string_keyed Try.underlying9
theorem SM.look {w : World} {bm : Nat} {seen : List Key} (h : SM w bm seen) (k : Key) (hk : k.length ≤ 100000) :
    (Instr.lookup 75 (.map (some bm)) (kV k) false).run Try.prog w = .ok (.int .i64 (if k ∈ seen then 1 else 0)) w := by
  obtain ⟨D, ho, hs⟩ := h
  obtain ⟨c, hrun, hat, _⟩ := ho.lookup_int keyed9 Try.underlying75 Try.underlying3 (by kernel_rfl) (kV_key k hk)
  rw [hrun]
  have := hs.2.2 k
  by_cases hm : k ∈ seen
  · rw [if_pos hm]
    have h1 := (this.1 hm).1
    unfold zD oD at h1
    rw [h1] at hat
    injection hat with hat
    injection hat with _ hat
    rw [hat]
  · rw [if_neg hm]
    have h1 := (this.2 hm).1
    unfold zD at h1
    rw [h1] at hat
    injection hat with hat
    injection hat with _ hat
    rw [hat]
theorem SM.len {w : World} {bm : Nat} {seen : List Key} (h : SM w bm seen) (ty : TypeId) : (Builtin.len_ #[75] ty #[.map (some bm)]).run Try.prog w = .ok (.int .i64 seen.length) w := by
  obtain ⟨D, ho, hs⟩ := h
  rw [ho.len Try.underlying75 ty, hs.2.1]
theorem SM.store {w : World} {bm : Nat} {seen : List Key} (h : SM w bm seen) (k : Key) (hk : k.length ≤ 100000) (hn : k ∉ seen) (hl : seen.length ≤ 1073741824) :
    ∃ w', (Instr.mapUpdate 75 (.map (some bm)) (kV k) (.int .i64 1)).run Try.prog w = .ok () w' ∧ SM w' bm (k :: seen) ∧ Frm (fun k => k = bm) w w' := by
  obtain ⟨D, ho, hs⟩ := h
  obtain ⟨w', hrun, ho', hg⟩ := ho.store keyed9 Try.underlying75 (by simp only [maxLen]; omega) (kV_key k hk) (plainElem_int (H := Unit) Try.underlying3 (q := .i64) (a := 1) (by decide))
  refine ⟨w', hrun, ⟨_, ho', ?_, ?_, ?_⟩, (Frm.of_grown hg.grown).mono fun i h _ => by injection h⟩
  · exact List.nodup_cons.2 ⟨hn, hs.1⟩
  · rw [Maps.size_put (ho.tidy keyed9), if_neg (by rw [((hs.2.2 k).2 hn).2]; simp), hs.2.1]; rfl
  · intro k'
    by_cases hkk : k' = k
    · subst hkk
      exact ⟨fun _ => ⟨Maps.atKey_put_same ho.isMap (kL_key _) _ _, Maps.has_put_same ho.isMap (kL_key _) _⟩, fun h => absurd (List.mem_cons_self ..) h⟩
    · have hne : kL k' ≠ kL k := fun h => hkk (kL_inj h)
      rw [Maps.atKey_put_other hne, Maps.has_put_other hne]
      exact ⟨fun h => (hs.2.2 k').1 (by rcases List.mem_cons.1 h with h | h; exact absurd h hkk; exact h), fun h => (hs.2.2 k').2 (fun h2 => h (List.mem_cons_of_mem _ h2))⟩
theorem ownsMap_exact {w : World} {bm n : Nat} {D : DD} (h : w.ownsMap Try.prog 9 (plainElem Try.prog 3) bm n D) : w.ownsMap Try.prog 9 (plainElem Try.prog 3) bm (Maps.size D) D := by
  obtain ⟨es, clock, hb, F, _, rfl⟩ := h
  refine ⟨es, clock, hb, F, ?_, rfl⟩
  show es.size ≤ ((es.toList.map (WideElems.rg Try.prog 9 (plainElem Try.prog 3))).foldr DataW.insert []).length
  rw [length_sorted]; simp
theorem SM.drop {w : World} {bm : Nat} {seen : List Key} (h : SM w bm seen) (k : Key) (hk : k.length ≤ 100000) (ty : TypeId) :
    ∃ w', (Builtin.delete_ #[75, 9] ty #[.map (some bm), kV k]).run Try.prog w = .ok (.tuple #[]) w' ∧ SM w' bm (seen.erase k) ∧ Frm (fun k => k = bm) w w' := by
  obtain ⟨D, ho, hs⟩ := h
  obtain ⟨w', hrun, ho', hg⟩ := ho.drop keyed9 Try.underlying75 (kV_key k hk) ty
  have hsz : Maps.size (D.del (kL k)) = (seen.erase k).length := by
    have := Maps.size_del (ho.tidy keyed9) (k := kL k)
    rw [List.length_erase]
    by_cases hm : k ∈ seen
    · rw [((hs.2.2 k).1 hm).2, hs.2.1] at this
      rw [if_pos hm]
      have hpos : 0 < seen.length := List.length_pos_of_mem hm
      simp at this; omega
    · rw [((hs.2.2 k).2 hm).2, hs.2.1] at this
      rw [if_neg hm]; simpa using this
  refine ⟨w', hrun, ⟨_, hsz ▸ ownsMap_exact ho', ?_, hsz, ?_⟩, (Frm.of_grown hg.grown).mono fun i h _ => by injection h⟩
  · exact hs.1.erase k
  · intro k'
    by_cases hkk : k' = k
    · subst hkk
      have hnm : k' ∉ seen.erase k' := fun h => (List.Nodup.mem_erase_iff hs.1).1 h |>.1 rfl
      exact ⟨fun h => absurd h hnm, fun _ => ⟨Maps.atKey_del_same _, Maps.has_del_same⟩⟩
    · have hne : kL k' ≠ kL k := fun h => hkk (kL_inj h)
      rw [Maps.atKey_del_other hne, Maps.has_del_other hne, List.Nodup.mem_erase_iff hs.1]
      exact ⟨fun h => (hs.2.2 k').1 h.2, fun h => (hs.2.2 k').2 (fun h2 => h ⟨hkk, h2⟩)⟩
end Go.Proofs.Ytoadmpochaeohaa
