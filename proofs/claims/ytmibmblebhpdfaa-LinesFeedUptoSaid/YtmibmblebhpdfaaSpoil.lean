import Derived.Test.YtmibmblebhpdfaaEx
set_option linter.unusedVariables false
set_option linter.unusedSimpArgs false
namespace Go.Proofs.Ytmibmblebhpdfaa
open Go.RowKit

set_option maxHeartbeats 400000 in
theorem spoil_calls {F : Nat → Prop} {v : Value} {n : Nat} {xs : List Value} (w : World) (h : Sl w F 31 4 v n xs) (hn : n ≤ 4194304) :
    Calls Try.prog 17 #[v] w fun e w' => e = .returned (.tuple #[]) ∧ Frm F w w' := by
  cases h with
  | nil =>
    go_enter Try.func17, Try.ntmps17
    go_wp2
    go_loopw [2] (fun i wr => i = .int .i64 0 ∧ Frm F w wr) (fun _ _ => 0)
    case atStart => exact ⟨rfl, Frm.refl _ _⟩
    case round =>
      obtain ⟨rfl, hf⟩ := hrel
      go_wp2
      go_end0
      exact ⟨rfl, hf⟩
  | @at_ g _ cap _ rest hF hb hx hr hnc hm =>
    go_enter Try.func17, Try.ntmps17
    go_wp2
    go_loopw [2] (fun i wr => ∃ (k : Nat) (cur : List Value), i = .int .i64 k ∧ k ≤ n ∧ Blk wr g cur 31 ∧ n * 4 ≤ cur.length ∧ Frm F w wr) (fun i _ => n - (intOf i).toNat)
    case atStart => exact ⟨0, _, rfl, by omega, hb, by simp; omega, Frm.refl _ _⟩
    case round =>
      obtain ⟨k, cur, rfl, hk, hB, hl, hf⟩ := hrel
      by_cases hlt : k < n
      · have get : ∀ j, j < 4 → ∃ u, wr.cell? ⟨g, k * 4 + j, none⟩ = some u := fun j hj => ⟨_, by rw [hB.cell]; exact List.getElem?_eq_getElem (by omega)⟩
        obtain ⟨u0, c0⟩ := get 0 (by omega)
        obtain ⟨u1, c1⟩ := get 1 (by omega)
        obtain ⟨u2, c2⟩ := get 2 (by omega)
        obtain ⟨u3, c3⟩ := get 3 (by omega)
        have f0 := hB.frozen (k * 4)
        have f1 := hB.frozen (k * 4 + 1)
        have f2 := hB.frozen (k * 4 + 2)
        have f3 := hB.frozen (k * 4 + 3)
        rw [Nat.add_zero] at c0
        clear get
        go_wp2
        go_roundw
        case measure => simp [intOf]; omega
        case rel =>
          refine ⟨k + 1, _, by go_num, by omega, (((hB.setSame (k * 4) _).setSame (k * 4 + 1) _).setSame (k * 4 + 2) _).setSame (k * 4 + 3) _, by simp; omega, ?_⟩
          exact (((hf.set g _ _ (fun _ => hF)).set g _ _ (fun _ => hF)).set g _ _ (fun _ => hF)).set g _ _ (fun _ => hF)
      · go_wp2
        go_end0
        exact ⟨rfl, hf⟩
end Go.Proofs.Ytmibmblebhpdfaa
