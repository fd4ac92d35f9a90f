/-
  The two regions of 'play' that draw their order, within a round: one lemma for each state.
-/
import Derived.Test.YtoadmpochaeohaaPg36
section
set_option linter.unusedVariables false
set_option linter.unusedSimpArgs false
set_option maxRecDepth 100000
namespace Go.Proofs.Ytoadmpochaeohaa
open Go.RowKit

/-- The region of this number. -/
def findReg (n : Nat) : Code → Option Code
  | .region id ops d => if id = n then some (.region id ops d) else none
  | .seq a b => match findReg n a with | some c => some c | none => findReg n b
  | .cond _ a b => match findReg n a with | some c => some c | none => findReg n b
  | .block _ c => findReg n c
  | .loop c => findReg n c
  | .scope c => findReg n c
  | .rangeFunc _ _ a b => match findReg n a with | some c => some c | none => findReg n b
  | _ => none
noncomputable def reg6 : Code := ((Try.f43.body.bind (findReg 6)).getD .skip)
noncomputable def reg13 : Code := ((Try.f43.body.bind (findReg 13)).getD .skip)
/-- Some of the region's operations have been listed. -/
def AnyAt (n : Nat) (Q : Exit → Act → World → Prop) (fuel : Nat) (listed : Array Bool) (a : Act) (w : World) : Code → Prop
  | .region _ ops _ => wpAnyIn Fence.wide n Try.prog .any ops Q fuel listed a w
  | _ => False
theorem anyAt_round {n r id : Nat} {Q : Exit → Act → World → Prop} {a : Act} {w : World} {l : List Oper} (hd : ∀ o, o ∈ l.toArray.toList → noDefer o = true) (h : AnyAt n Q l.toArray.size (Array.replicate l.toArray.size false) a (World.drew w) (Code.region id l.toArray true)) :
    (Code.region id l.toArray true).wpIn (Fence.wide.inRound r) n Try.prog Q a w :=
  wpIn_region_any (by kernel_rfl) (wpAnyIn_round rfl hd _ _ _ _ h)

attribute [local go_sem] Oper.semAt_some

/-- What the region reads. -/
structure R6 (b3 x k bi oi bt n cp ct : Nat) (fm iop ix iy i_n imn imx is0 is1 is2 is3 : Int) (W : World) : Prop where
  c3 : W.cell? ⟨b3, 0, none⟩ = some (.pointer (some ⟨x, 0, none⟩))
  l3 : b3 < W.heap.size
  d0 : W.cell? ⟨x, 0, none⟩ = some (.slice (some ⟨bi, oi, none⟩) n cp)
  d7 : W.cell? ⟨x, 7, none⟩ = some (.slice (some ⟨bt, 0, none⟩) n ct)
  lx : x < W.heap.size
  hk : k < n
  t0 : W.cell? ⟨bt, k, none⟩ = some (.int .i64 fm)
  lt : bt < W.heap.size
  li : bi < W.heap.size
  e0 : W.cell? ⟨bi, oi + k * 10, none⟩ = some (.int .i64 iop)
  e1 : W.cell? ⟨bi, oi + k * 10 + 1, none⟩ = some (.int .i64 ix)
  e2 : W.cell? ⟨bi, oi + k * 10 + 2, none⟩ = some (.int .i64 iy)
  e3 : W.cell? ⟨bi, oi + k * 10 + 3, none⟩ = some (.int .i64 i_n)
  e4 : W.cell? ⟨bi, oi + k * 10 + 4, none⟩ = some (.int .i64 imn)
  e5 : W.cell? ⟨bi, oi + k * 10 + 5, none⟩ = some (.int .i64 imx)
  e6 : W.cell? ⟨bi, oi + k * 10 + 6, none⟩ = some (.int .u64 is0)
  e7 : W.cell? ⟨bi, oi + k * 10 + 7, none⟩ = some (.int .u64 is1)
  e8 : W.cell? ⟨bi, oi + k * 10 + 8, none⟩ = some (.int .u64 is2)
  e9 : W.cell? ⟨bi, oi + k * 10 + 9, none⟩ = some (.int .u64 is3)
/-- What is to be shown where it ends. -/
def E6 (l : Nat → Value) (R : Act → World → Prop) (b3 x k bi oi bt n cp ct : Nat) (fm iop ix iy i_n imn imx is0 is1 is2 is3 : Int) (W : World) : Prop := R ⟨#[l 0, l 1, l 2, .pointer (some ⟨b3, 0, none⟩), l 4, l 5, l 6, l 7, .int .i64 (k : Int), .pointer (some ⟨W.heap.size, 0, none⟩), .int .i64 fm, l 11, l 12, l 13, l 14, l 15, l 16, l 17, l 18, l 19, l 20, l 21, l 22, l 23, l 24, .pointer (some ⟨x, 0, none⟩), .pointer (some ⟨x, 0, none⟩), .pointer (some ⟨x, 0, none⟩), .pointer (some ⟨x, 0, none⟩), .slice (some ⟨bi, oi, none⟩) n cp, .int .i64 (k : Int), .pointer (some ⟨bi, oi + k * 10, none⟩), .agg #[.int .i64 iop, .int .i64 ix, .int .i64 iy, .int .i64 i_n, .int .i64 imn, .int .i64 imx, .int .u64 is0, .int .u64 is1, .int .u64 is2, .int .u64 is3], .pointer (some ⟨x, 0, none⟩), .pointer (some ⟨x, 0, none⟩), .pointer (some ⟨x, 7, none⟩), .slice (some ⟨bt, 0, none⟩) n ct, .int .i64 (k : Int), .pointer (some ⟨bt, k, none⟩), .int .i64 fm, l 40, l 41, l 42, l 43, l 44, l 45, l 46, l 47, l 48, l 49, l 50, l 51, l 52, l 53, l 54, l 55, l 56, l 57, l 58, l 59, l 60, l 61, l 62, l 63, l 64, l 65, l 66, l 67, l 68, l 69, l 70, l 71, l 72, l 73, l 74, l 75, l 76, l 77, l 78, l 79, l 80, l 81, l 82, l 83, l 84, l 85, l 86, l 87, l 88, l 89, l 90, l 91, l 92, l 93, l 94, l 95, l 96, l 97, l 98, l 99, l 100, l 101, l 102, l 103, l 104, l 105, l 106, l 107, l 108, l 109, l 110, l 111, l 112, l 113, l 114, l 115, l 116, l 117, l 118, l 119, l 120, l 121, l 122, l 123], []⟩ (W.drew.alloc (.cells #[.int .i64 iop, .int .i64 ix, .int .i64 iy, .int .i64 i_n, .int .i64 imn, .int .i64 imx, .int .u64 is0, .int .u64 is1, .int .u64 is2, .int .u64 is3] 39))
set_option maxHeartbeats 4000000 in
set_option maxRecDepth 1000000 in
theorem reg6_111111111111111111 {l : Nat → Value} {R : Act → World → Prop} {b3 x k bi oi bt n cp ct : Nat} {fm iop ix iy i_n imn imx is0 is1 is2 is3 : Int} {W : World}
    (hf : R6 b3 x k bi oi bt n cp ct fm iop ix iy i_n imn imx is0 is1 is2 is3 W)
    (hend : E6 l R b3 x k bi oi bt n cp ct fm iop ix iy i_n imn imx is0 is1 is2 is3 W) :
    AnyAt 7 (Exit.then R (fun _ _ _ => False)) 0 #[true, true, true, true, true, true, true, true, true, true, true, true, true, true, true, true, true, true] ⟨#[l 0, l 1, l 2, .pointer (some ⟨b3, 0, none⟩), l 4, l 5, l 6, l 7, .int .i64 (k : Int), .pointer (some ⟨W.heap.size, 0, none⟩), .int .i64 fm, l 11, l 12, l 13, l 14, l 15, l 16, l 17, l 18, l 19, l 20, l 21, l 22, l 23, l 24, .pointer (some ⟨x, 0, none⟩), .pointer (some ⟨x, 0, none⟩), .pointer (some ⟨x, 0, none⟩), .pointer (some ⟨x, 0, none⟩), .slice (some ⟨bi, oi, none⟩) n cp, .int .i64 (k : Int), .pointer (some ⟨bi, oi + k * 10, none⟩), .agg #[.int .i64 iop, .int .i64 ix, .int .i64 iy, .int .i64 i_n, .int .i64 imn, .int .i64 imx, .int .u64 is0, .int .u64 is1, .int .u64 is2, .int .u64 is3], .pointer (some ⟨x, 0, none⟩), .pointer (some ⟨x, 0, none⟩), .pointer (some ⟨x, 7, none⟩), .slice (some ⟨bt, 0, none⟩) n ct, .int .i64 (k : Int), .pointer (some ⟨bt, k, none⟩), .int .i64 fm, l 40, l 41, l 42, l 43, l 44, l 45, l 46, l 47, l 48, l 49, l 50, l 51, l 52, l 53, l 54, l 55, l 56, l 57, l 58, l 59, l 60, l 61, l 62, l 63, l 64, l 65, l 66, l 67, l 68, l 69, l 70, l 71, l 72, l 73, l 74, l 75, l 76, l 77, l 78, l 79, l 80, l 81, l 82, l 83, l 84, l 85, l 86, l 87, l 88, l 89, l 90, l 91, l 92, l 93, l 94, l 95, l 96, l 97, l 98, l 99, l 100, l 101, l 102, l 103, l 104, l 105, l 106, l 107, l 108, l 109, l 110, l 111, l 112, l 113, l 114, l 115, l 116, l 117, l 118, l 119, l 120, l 121, l 122, l 123], []⟩ (W.drew.alloc (.cells #[.int .i64 iop, .int .i64 ix, .int .i64 iy, .int .i64 i_n, .int .i64 imn, .int .i64 imx, .int .u64 is0, .int .u64 is1, .int .u64 is2, .int .u64 is3] 39)) reg6 := by
  conv => arg 7; whnf
  unfold AnyAt
  dsimp only
  refine wpAnyIn_done (by kernel_rfl) ?_ _
  unfold E6 at hend
  exact hend
set_option maxHeartbeats 4000000 in
set_option maxRecDepth 1000000 in
theorem reg6_111111111111111100 {l : Nat → Value} {R : Act → World → Prop} {b3 x k bi oi bt n cp ct : Nat} {fm iop ix iy i_n imn imx is0 is1 is2 is3 : Int} {W : World}
    (hf : R6 b3 x k bi oi bt n cp ct fm iop ix iy i_n imn imx is0 is1 is2 is3 W)
    (hend : E6 l R b3 x k bi oi bt n cp ct fm iop ix iy i_n imn imx is0 is1 is2 is3 W) :
    AnyAt 7 (Exit.then R (fun _ _ _ => False)) 2 #[true, true, true, true, true, true, true, true, true, true, true, true, true, true, true, true, false, false] ⟨#[l 0, l 1, l 2, .pointer (some ⟨b3, 0, none⟩), l 4, l 5, l 6, l 7, .int .i64 (k : Int), .pointer (some ⟨W.heap.size, 0, none⟩), l 10, l 11, l 12, l 13, l 14, l 15, l 16, l 17, l 18, l 19, l 20, l 21, l 22, l 23, l 24, .pointer (some ⟨x, 0, none⟩), .pointer (some ⟨x, 0, none⟩), .pointer (some ⟨x, 0, none⟩), .pointer (some ⟨x, 0, none⟩), .slice (some ⟨bi, oi, none⟩) n cp, .int .i64 (k : Int), .pointer (some ⟨bi, oi + k * 10, none⟩), .agg #[.int .i64 iop, .int .i64 ix, .int .i64 iy, .int .i64 i_n, .int .i64 imn, .int .i64 imx, .int .u64 is0, .int .u64 is1, .int .u64 is2, .int .u64 is3], .pointer (some ⟨x, 0, none⟩), .pointer (some ⟨x, 0, none⟩), .pointer (some ⟨x, 7, none⟩), .slice (some ⟨bt, 0, none⟩) n ct, .int .i64 (k : Int), .pointer (some ⟨bt, k, none⟩), .int .i64 fm, l 40, l 41, l 42, l 43, l 44, l 45, l 46, l 47, l 48, l 49, l 50, l 51, l 52, l 53, l 54, l 55, l 56, l 57, l 58, l 59, l 60, l 61, l 62, l 63, l 64, l 65, l 66, l 67, l 68, l 69, l 70, l 71, l 72, l 73, l 74, l 75, l 76, l 77, l 78, l 79, l 80, l 81, l 82, l 83, l 84, l 85, l 86, l 87, l 88, l 89, l 90, l 91, l 92, l 93, l 94, l 95, l 96, l 97, l 98, l 99, l 100, l 101, l 102, l 103, l 104, l 105, l 106, l 107, l 108, l 109, l 110, l 111, l 112, l 113, l 114, l 115, l 116, l 117, l 118, l 119, l 120, l 121, l 122, l 123], []⟩ (W.drew.alloc (.cells #[.int .i64 0, .int .i64 0, .int .i64 0, .int .i64 0, .int .i64 0, .int .i64 0, .int .u64 0, .int .u64 0, .int .u64 0, .int .u64 0] 39)) reg6 := by
  conv => arg 7; whnf
  unfold AnyAt
  dsimp only
  obtain ⟨c3, l3, d0, d7, lx, hk, t0, lt, li, e0, e1, e2, e3, e4, e5, e6, e7, e8, e9⟩ := id hf
  refine wpAnyIn_ready (rs := [16]) (by kernel_rfl) (by simp) ?_
  refine AllReadyIn.cons rfl (fun K hK => ?_) ?_
  · go_simp
    refine hK _ _ ?_
    clear hK K
    refine wpAnyIn_take (i := 17) (v := ?_) rfl rfl (by kernel_rfl) (by kernel_rfl) (by kernel_rfl) (fun _ _ _ h => h) ⟨Or.inl ⟨by rfl, ?_⟩, fun _ => rfl⟩ ?_
    rotate_left
    · intro w; go_simp; try with_reducible rfl
    exact reg6_111111111111111111 hf hend
  exact AllReadyIn.nil
set_option maxHeartbeats 4000000 in
set_option maxRecDepth 1000000 in
theorem reg6_111111111111110110 {l : Nat → Value} {R : Act → World → Prop} {b3 x k bi oi bt n cp ct : Nat} {fm iop ix iy i_n imn imx is0 is1 is2 is3 : Int} {W : World}
    (hf : R6 b3 x k bi oi bt n cp ct fm iop ix iy i_n imn imx is0 is1 is2 is3 W)
    (hend : E6 l R b3 x k bi oi bt n cp ct fm iop ix iy i_n imn imx is0 is1 is2 is3 W) :
    AnyAt 7 (Exit.then R (fun _ _ _ => False)) 2 #[true, true, true, true, true, true, true, true, true, true, true, true, true, true, false, true, true, false] ⟨#[l 0, l 1, l 2, .pointer (some ⟨b3, 0, none⟩), l 4, l 5, l 6, l 7, .int .i64 (k : Int), .pointer (some ⟨W.heap.size, 0, none⟩), l 10, l 11, l 12, l 13, l 14, l 15, l 16, l 17, l 18, l 19, l 20, l 21, l 22, l 23, l 24, .pointer (some ⟨x, 0, none⟩), .pointer (some ⟨x, 0, none⟩), .pointer (some ⟨x, 0, none⟩), .pointer (some ⟨x, 0, none⟩), .slice (some ⟨bi, oi, none⟩) n cp, .int .i64 (k : Int), .pointer (some ⟨bi, oi + k * 10, none⟩), .agg #[.int .i64 iop, .int .i64 ix, .int .i64 iy, .int .i64 i_n, .int .i64 imn, .int .i64 imx, .int .u64 is0, .int .u64 is1, .int .u64 is2, .int .u64 is3], .pointer (some ⟨x, 0, none⟩), .pointer (some ⟨x, 0, none⟩), .pointer (some ⟨x, 7, none⟩), .slice (some ⟨bt, 0, none⟩) n ct, .int .i64 (k : Int), .pointer (some ⟨bt, k, none⟩), l 39, l 40, l 41, l 42, l 43, l 44, l 45, l 46, l 47, l 48, l 49, l 50, l 51, l 52, l 53, l 54, l 55, l 56, l 57, l 58, l 59, l 60, l 61, l 62, l 63, l 64, l 65, l 66, l 67, l 68, l 69, l 70, l 71, l 72, l 73, l 74, l 75, l 76, l 77, l 78, l 79, l 80, l 81, l 82, l 83, l 84, l 85, l 86, l 87, l 88, l 89, l 90, l 91, l 92, l 93, l 94, l 95, l 96, l 97, l 98, l 99, l 100, l 101, l 102, l 103, l 104, l 105, l 106, l 107, l 108, l 109, l 110, l 111, l 112, l 113, l 114, l 115, l 116, l 117, l 118, l 119, l 120, l 121, l 122, l 123], []⟩ (W.drew.alloc (.cells #[.int .i64 iop, .int .i64 ix, .int .i64 iy, .int .i64 i_n, .int .i64 imn, .int .i64 imx, .int .u64 is0, .int .u64 is1, .int .u64 is2, .int .u64 is3] 39)) reg6 := by
  conv => arg 7; whnf
  unfold AnyAt
  dsimp only
  obtain ⟨c3, l3, d0, d7, lx, hk, t0, lt, li, e0, e1, e2, e3, e4, e5, e6, e7, e8, e9⟩ := id hf
  refine wpAnyIn_ready (rs := [14]) (by kernel_rfl) (by simp) ?_
  refine AllReadyIn.cons rfl (fun K hK => ?_) ?_
  · go_simp
    refine hK _ _ ?_
    clear hK K
    refine wpAnyIn_take (i := 17) (v := ?_) rfl rfl (by kernel_rfl) (by kernel_rfl) (by kernel_rfl) (fun _ _ _ h => h) ⟨Or.inl ⟨by rfl, ?_⟩, fun _ => rfl⟩ ?_
    rotate_left
    · intro w; go_simp; try with_reducible rfl
    exact reg6_111111111111111111 hf hend
  exact AllReadyIn.nil
set_option maxHeartbeats 4000000 in
set_option maxRecDepth 1000000 in
theorem reg6_111111101111111100 {l : Nat → Value} {R : Act → World → Prop} {b3 x k bi oi bt n cp ct : Nat} {fm iop ix iy i_n imn imx is0 is1 is2 is3 : Int} {W : World}
    (hf : R6 b3 x k bi oi bt n cp ct fm iop ix iy i_n imn imx is0 is1 is2 is3 W)
    (hend : E6 l R b3 x k bi oi bt n cp ct fm iop ix iy i_n imn imx is0 is1 is2 is3 W) :
    AnyAt 7 (Exit.then R (fun _ _ _ => False)) 3 #[true, true, true, true, true, true, true, false, true, true, true, true, true, true, true, true, false, false] ⟨#[l 0, l 1, l 2, .pointer (some ⟨b3, 0, none⟩), l 4, l 5, l 6, l 7, .int .i64 (k : Int), .pointer (some ⟨W.heap.size, 0, none⟩), l 10, l 11, l 12, l 13, l 14, l 15, l 16, l 17, l 18, l 19, l 20, l 21, l 22, l 23, l 24, .pointer (some ⟨x, 0, none⟩), .pointer (some ⟨x, 0, none⟩), .pointer (some ⟨x, 0, none⟩), .pointer (some ⟨x, 0, none⟩), .slice (some ⟨bi, oi, none⟩) n cp, .int .i64 (k : Int), .pointer (some ⟨bi, oi + k * 10, none⟩), l 32, .pointer (some ⟨x, 0, none⟩), .pointer (some ⟨x, 0, none⟩), .pointer (some ⟨x, 7, none⟩), .slice (some ⟨bt, 0, none⟩) n ct, .int .i64 (k : Int), .pointer (some ⟨bt, k, none⟩), .int .i64 fm, l 40, l 41, l 42, l 43, l 44, l 45, l 46, l 47, l 48, l 49, l 50, l 51, l 52, l 53, l 54, l 55, l 56, l 57, l 58, l 59, l 60, l 61, l 62, l 63, l 64, l 65, l 66, l 67, l 68, l 69, l 70, l 71, l 72, l 73, l 74, l 75, l 76, l 77, l 78, l 79, l 80, l 81, l 82, l 83, l 84, l 85, l 86, l 87, l 88, l 89, l 90, l 91, l 92, l 93, l 94, l 95, l 96, l 97, l 98, l 99, l 100, l 101, l 102, l 103, l 104, l 105, l 106, l 107, l 108, l 109, l 110, l 111, l 112, l 113, l 114, l 115, l 116, l 117, l 118, l 119, l 120, l 121, l 122, l 123], []⟩ (W.drew.alloc (.cells #[.int .i64 0, .int .i64 0, .int .i64 0, .int .i64 0, .int .i64 0, .int .i64 0, .int .u64 0, .int .u64 0, .int .u64 0, .int .u64 0] 39)) reg6 := by
  conv => arg 7; whnf
  unfold AnyAt
  dsimp only
  obtain ⟨c3, l3, d0, d7, lx, hk, t0, lt, li, e0, e1, e2, e3, e4, e5, e6, e7, e8, e9⟩ := id hf
  refine wpAnyIn_ready (rs := [7]) (by kernel_rfl) (by simp) ?_
  refine AllReadyIn.cons rfl (fun K hK => ?_) ?_
  · go_simp
    refine hK _ _ ?_
    clear hK K
    exact reg6_111111111111111100 hf hend
  exact AllReadyIn.nil
set_option maxHeartbeats 4000000 in
set_option maxRecDepth 1000000 in
theorem reg6_111111111111110100 {l : Nat → Value} {R : Act → World → Prop} {b3 x k bi oi bt n cp ct : Nat} {fm iop ix iy i_n imn imx is0 is1 is2 is3 : Int} {W : World}
    (hf : R6 b3 x k bi oi bt n cp ct fm iop ix iy i_n imn imx is0 is1 is2 is3 W)
    (hend : E6 l R b3 x k bi oi bt n cp ct fm iop ix iy i_n imn imx is0 is1 is2 is3 W) :
    AnyAt 7 (Exit.then R (fun _ _ _ => False)) 3 #[true, true, true, true, true, true, true, true, true, true, true, true, true, true, false, true, false, false] ⟨#[l 0, l 1, l 2, .pointer (some ⟨b3, 0, none⟩), l 4, l 5, l 6, l 7, .int .i64 (k : Int), .pointer (some ⟨W.heap.size, 0, none⟩), l 10, l 11, l 12, l 13, l 14, l 15, l 16, l 17, l 18, l 19, l 20, l 21, l 22, l 23, l 24, .pointer (some ⟨x, 0, none⟩), .pointer (some ⟨x, 0, none⟩), .pointer (some ⟨x, 0, none⟩), .pointer (some ⟨x, 0, none⟩), .slice (some ⟨bi, oi, none⟩) n cp, .int .i64 (k : Int), .pointer (some ⟨bi, oi + k * 10, none⟩), .agg #[.int .i64 iop, .int .i64 ix, .int .i64 iy, .int .i64 i_n, .int .i64 imn, .int .i64 imx, .int .u64 is0, .int .u64 is1, .int .u64 is2, .int .u64 is3], .pointer (some ⟨x, 0, none⟩), .pointer (some ⟨x, 0, none⟩), .pointer (some ⟨x, 7, none⟩), .slice (some ⟨bt, 0, none⟩) n ct, .int .i64 (k : Int), .pointer (some ⟨bt, k, none⟩), l 39, l 40, l 41, l 42, l 43, l 44, l 45, l 46, l 47, l 48, l 49, l 50, l 51, l 52, l 53, l 54, l 55, l 56, l 57, l 58, l 59, l 60, l 61, l 62, l 63, l 64, l 65, l 66, l 67, l 68, l 69, l 70, l 71, l 72, l 73, l 74, l 75, l 76, l 77, l 78, l 79, l 80, l 81, l 82, l 83, l 84, l 85, l 86, l 87, l 88, l 89, l 90, l 91, l 92, l 93, l 94, l 95, l 96, l 97, l 98, l 99, l 100, l 101, l 102, l 103, l 104, l 105, l 106, l 107, l 108, l 109, l 110, l 111, l 112, l 113, l 114, l 115, l 116, l 117, l 118, l 119, l 120, l 121, l 122, l 123], []⟩ (W.drew.alloc (.cells #[.int .i64 0, .int .i64 0, .int .i64 0, .int .i64 0, .int .i64 0, .int .i64 0, .int .u64 0, .int .u64 0, .int .u64 0, .int .u64 0] 39)) reg6 := by
  conv => arg 7; whnf
  unfold AnyAt
  dsimp only
  obtain ⟨c3, l3, d0, d7, lx, hk, t0, lt, li, e0, e1, e2, e3, e4, e5, e6, e7, e8, e9⟩ := id hf
  refine wpAnyIn_ready (rs := [14, 16]) (by kernel_rfl) (by simp) ?_
  refine AllReadyIn.cons rfl (fun K hK => ?_) ?_
  · go_simp
    refine hK _ _ ?_
    clear hK K
    exact reg6_111111111111111100 hf hend
  refine AllReadyIn.cons rfl (fun K hK => ?_) ?_
  · go_simp
    refine hK _ _ ?_
    clear hK K
    exact reg6_111111111111110110 hf hend
  exact AllReadyIn.nil
set_option maxHeartbeats 4000000 in
set_option maxRecDepth 1000000 in
theorem reg6_111111111111111000 {l : Nat → Value} {R : Act → World → Prop} {b3 x k bi oi bt n cp ct : Nat} {fm iop ix iy i_n imn imx is0 is1 is2 is3 : Int} {W : World}
    (hf : R6 b3 x k bi oi bt n cp ct fm iop ix iy i_n imn imx is0 is1 is2 is3 W)
    (hend : E6 l R b3 x k bi oi bt n cp ct fm iop ix iy i_n imn imx is0 is1 is2 is3 W) :
    AnyAt 7 (Exit.then R (fun _ _ _ => False)) 3 #[true, true, true, true, true, true, true, true, true, true, true, true, true, true, true, false, false, false] ⟨#[l 0, l 1, l 2, .pointer (some ⟨b3, 0, none⟩), l 4, l 5, l 6, l 7, .int .i64 (k : Int), l 9, l 10, l 11, l 12, l 13, l 14, l 15, l 16, l 17, l 18, l 19, l 20, l 21, l 22, l 23, l 24, .pointer (some ⟨x, 0, none⟩), .pointer (some ⟨x, 0, none⟩), .pointer (some ⟨x, 0, none⟩), .pointer (some ⟨x, 0, none⟩), .slice (some ⟨bi, oi, none⟩) n cp, .int .i64 (k : Int), .pointer (some ⟨bi, oi + k * 10, none⟩), .agg #[.int .i64 iop, .int .i64 ix, .int .i64 iy, .int .i64 i_n, .int .i64 imn, .int .i64 imx, .int .u64 is0, .int .u64 is1, .int .u64 is2, .int .u64 is3], .pointer (some ⟨x, 0, none⟩), .pointer (some ⟨x, 0, none⟩), .pointer (some ⟨x, 7, none⟩), .slice (some ⟨bt, 0, none⟩) n ct, .int .i64 (k : Int), .pointer (some ⟨bt, k, none⟩), .int .i64 fm, l 40, l 41, l 42, l 43, l 44, l 45, l 46, l 47, l 48, l 49, l 50, l 51, l 52, l 53, l 54, l 55, l 56, l 57, l 58, l 59, l 60, l 61, l 62, l 63, l 64, l 65, l 66, l 67, l 68, l 69, l 70, l 71, l 72, l 73, l 74, l 75, l 76, l 77, l 78, l 79, l 80, l 81, l 82, l 83, l 84, l 85, l 86, l 87, l 88, l 89, l 90, l 91, l 92, l 93, l 94, l 95, l 96, l 97, l 98, l 99, l 100, l 101, l 102, l 103, l 104, l 105, l 106, l 107, l 108, l 109, l 110, l 111, l 112, l 113, l 114, l 115, l 116, l 117, l 118, l 119, l 120, l 121, l 122, l 123], []⟩ (W.drew) reg6 := by
  conv => arg 7; whnf
  unfold AnyAt
  dsimp only
  obtain ⟨c3, l3, d0, d7, lx, hk, t0, lt, li, e0, e1, e2, e3, e4, e5, e6, e7, e8, e9⟩ := id hf
  refine wpAnyIn_ready (rs := [15]) (by kernel_rfl) (by simp) ?_
  refine AllReadyIn.cons rfl (fun K hK => ?_) ?_
  · go_simp
    refine hK _ _ ?_
    clear hK K
    exact reg6_111111111111111100 hf hend
  exact AllReadyIn.nil
set_option maxHeartbeats 4000000 in
set_option maxRecDepth 1000000 in
theorem reg6_111111101111110100 {l : Nat → Value} {R : Act → World → Prop} {b3 x k bi oi bt n cp ct : Nat} {fm iop ix iy i_n imn imx is0 is1 is2 is3 : Int} {W : World}
    (hf : R6 b3 x k bi oi bt n cp ct fm iop ix iy i_n imn imx is0 is1 is2 is3 W)
    (hend : E6 l R b3 x k bi oi bt n cp ct fm iop ix iy i_n imn imx is0 is1 is2 is3 W) :
    AnyAt 7 (Exit.then R (fun _ _ _ => False)) 4 #[true, true, true, true, true, true, true, false, true, true, true, true, true, true, false, true, false, false] ⟨#[l 0, l 1, l 2, .pointer (some ⟨b3, 0, none⟩), l 4, l 5, l 6, l 7, .int .i64 (k : Int), .pointer (some ⟨W.heap.size, 0, none⟩), l 10, l 11, l 12, l 13, l 14, l 15, l 16, l 17, l 18, l 19, l 20, l 21, l 22, l 23, l 24, .pointer (some ⟨x, 0, none⟩), .pointer (some ⟨x, 0, none⟩), .pointer (some ⟨x, 0, none⟩), .pointer (some ⟨x, 0, none⟩), .slice (some ⟨bi, oi, none⟩) n cp, .int .i64 (k : Int), .pointer (some ⟨bi, oi + k * 10, none⟩), l 32, .pointer (some ⟨x, 0, none⟩), .pointer (some ⟨x, 0, none⟩), .pointer (some ⟨x, 7, none⟩), .slice (some ⟨bt, 0, none⟩) n ct, .int .i64 (k : Int), .pointer (some ⟨bt, k, none⟩), l 39, l 40, l 41, l 42, l 43, l 44, l 45, l 46, l 47, l 48, l 49, l 50, l 51, l 52, l 53, l 54, l 55, l 56, l 57, l 58, l 59, l 60, l 61, l 62, l 63, l 64, l 65, l 66, l 67, l 68, l 69, l 70, l 71, l 72, l 73, l 74, l 75, l 76, l 77, l 78, l 79, l 80, l 81, l 82, l 83, l 84, l 85, l 86, l 87, l 88, l 89, l 90, l 91, l 92, l 93, l 94, l 95, l 96, l 97, l 98, l 99, l 100, l 101, l 102, l 103, l 104, l 105, l 106, l 107, l 108, l 109, l 110, l 111, l 112, l 113, l 114, l 115, l 116, l 117, l 118, l 119, l 120, l 121, l 122, l 123], []⟩ (W.drew.alloc (.cells #[.int .i64 0, .int .i64 0, .int .i64 0, .int .i64 0, .int .i64 0, .int .i64 0, .int .u64 0, .int .u64 0, .int .u64 0, .int .u64 0] 39)) reg6 := by
  conv => arg 7; whnf
  unfold AnyAt
  dsimp only
  obtain ⟨c3, l3, d0, d7, lx, hk, t0, lt, li, e0, e1, e2, e3, e4, e5, e6, e7, e8, e9⟩ := id hf
  refine wpAnyIn_ready (rs := [7, 14]) (by kernel_rfl) (by simp) ?_
  refine AllReadyIn.cons rfl (fun K hK => ?_) ?_
  · go_simp
    refine hK _ _ ?_
    clear hK K
    exact reg6_111111111111110100 hf hend
  refine AllReadyIn.cons rfl (fun K hK => ?_) ?_
  · go_simp
    refine hK _ _ ?_
    clear hK K
    exact reg6_111111101111111100 hf hend
  exact AllReadyIn.nil
set_option maxHeartbeats 4000000 in
set_option maxRecDepth 1000000 in
theorem reg6_111111111110100110 {l : Nat → Value} {R : Act → World → Prop} {b3 x k bi oi bt n cp ct : Nat} {fm iop ix iy i_n imn imx is0 is1 is2 is3 : Int} {W : World}
    (hf : R6 b3 x k bi oi bt n cp ct fm iop ix iy i_n imn imx is0 is1 is2 is3 W)
    (hend : E6 l R b3 x k bi oi bt n cp ct fm iop ix iy i_n imn imx is0 is1 is2 is3 W) :
    AnyAt 7 (Exit.then R (fun _ _ _ => False)) 4 #[true, true, true, true, true, true, true, true, true, true, true, false, true, false, false, true, true, false] ⟨#[l 0, l 1, l 2, .pointer (some ⟨b3, 0, none⟩), l 4, l 5, l 6, l 7, .int .i64 (k : Int), .pointer (some ⟨W.heap.size, 0, none⟩), l 10, l 11, l 12, l 13, l 14, l 15, l 16, l 17, l 18, l 19, l 20, l 21, l 22, l 23, l 24, .pointer (some ⟨x, 0, none⟩), .pointer (some ⟨x, 0, none⟩), .pointer (some ⟨x, 0, none⟩), .pointer (some ⟨x, 0, none⟩), .slice (some ⟨bi, oi, none⟩) n cp, .int .i64 (k : Int), .pointer (some ⟨bi, oi + k * 10, none⟩), .agg #[.int .i64 iop, .int .i64 ix, .int .i64 iy, .int .i64 i_n, .int .i64 imn, .int .i64 imx, .int .u64 is0, .int .u64 is1, .int .u64 is2, .int .u64 is3], .pointer (some ⟨x, 0, none⟩), .pointer (some ⟨x, 0, none⟩), .pointer (some ⟨x, 7, none⟩), l 36, .int .i64 (k : Int), l 38, l 39, l 40, l 41, l 42, l 43, l 44, l 45, l 46, l 47, l 48, l 49, l 50, l 51, l 52, l 53, l 54, l 55, l 56, l 57, l 58, l 59, l 60, l 61, l 62, l 63, l 64, l 65, l 66, l 67, l 68, l 69, l 70, l 71, l 72, l 73, l 74, l 75, l 76, l 77, l 78, l 79, l 80, l 81, l 82, l 83, l 84, l 85, l 86, l 87, l 88, l 89, l 90, l 91, l 92, l 93, l 94, l 95, l 96, l 97, l 98, l 99, l 100, l 101, l 102, l 103, l 104, l 105, l 106, l 107, l 108, l 109, l 110, l 111, l 112, l 113, l 114, l 115, l 116, l 117, l 118, l 119, l 120, l 121, l 122, l 123], []⟩ (W.drew.alloc (.cells #[.int .i64 iop, .int .i64 ix, .int .i64 iy, .int .i64 i_n, .int .i64 imn, .int .i64 imx, .int .u64 is0, .int .u64 is1, .int .u64 is2, .int .u64 is3] 39)) reg6 := by
  conv => arg 7; whnf
  unfold AnyAt
  dsimp only
  obtain ⟨c3, l3, d0, d7, lx, hk, t0, lt, li, e0, e1, e2, e3, e4, e5, e6, e7, e8, e9⟩ := id hf
  refine wpAnyIn_ready (rs := [11]) (by kernel_rfl) (by simp) ?_
  refine AllReadyIn.cons rfl (fun K hK => ?_) ?_
  · go_simp
    refine hK _ _ ?_
    clear hK K
    refine wpAnyIn_take (i := 13) (v := ?_) rfl rfl (by kernel_rfl) (by kernel_rfl) (by kernel_rfl) (fun _ _ _ h => h) ⟨Or.inl ⟨by rfl, ?_⟩, fun _ => rfl⟩ ?_
    rotate_left
    · intro w; go_simp; try with_reducible rfl
    exact reg6_111111111111110110 hf hend
  exact AllReadyIn.nil
set_option maxHeartbeats 4000000 in
set_option maxRecDepth 1000000 in
theorem reg6_111111101111111000 {l : Nat → Value} {R : Act → World → Prop} {b3 x k bi oi bt n cp ct : Nat} {fm iop ix iy i_n imn imx is0 is1 is2 is3 : Int} {W : World}
    (hf : R6 b3 x k bi oi bt n cp ct fm iop ix iy i_n imn imx is0 is1 is2 is3 W)
    (hend : E6 l R b3 x k bi oi bt n cp ct fm iop ix iy i_n imn imx is0 is1 is2 is3 W) :
    AnyAt 7 (Exit.then R (fun _ _ _ => False)) 4 #[true, true, true, true, true, true, true, false, true, true, true, true, true, true, true, false, false, false] ⟨#[l 0, l 1, l 2, .pointer (some ⟨b3, 0, none⟩), l 4, l 5, l 6, l 7, .int .i64 (k : Int), l 9, l 10, l 11, l 12, l 13, l 14, l 15, l 16, l 17, l 18, l 19, l 20, l 21, l 22, l 23, l 24, .pointer (some ⟨x, 0, none⟩), .pointer (some ⟨x, 0, none⟩), .pointer (some ⟨x, 0, none⟩), .pointer (some ⟨x, 0, none⟩), .slice (some ⟨bi, oi, none⟩) n cp, .int .i64 (k : Int), .pointer (some ⟨bi, oi + k * 10, none⟩), l 32, .pointer (some ⟨x, 0, none⟩), .pointer (some ⟨x, 0, none⟩), .pointer (some ⟨x, 7, none⟩), .slice (some ⟨bt, 0, none⟩) n ct, .int .i64 (k : Int), .pointer (some ⟨bt, k, none⟩), .int .i64 fm, l 40, l 41, l 42, l 43, l 44, l 45, l 46, l 47, l 48, l 49, l 50, l 51, l 52, l 53, l 54, l 55, l 56, l 57, l 58, l 59, l 60, l 61, l 62, l 63, l 64, l 65, l 66, l 67, l 68, l 69, l 70, l 71, l 72, l 73, l 74, l 75, l 76, l 77, l 78, l 79, l 80, l 81, l 82, l 83, l 84, l 85, l 86, l 87, l 88, l 89, l 90, l 91, l 92, l 93, l 94, l 95, l 96, l 97, l 98, l 99, l 100, l 101, l 102, l 103, l 104, l 105, l 106, l 107, l 108, l 109, l 110, l 111, l 112, l 113, l 114, l 115, l 116, l 117, l 118, l 119, l 120, l 121, l 122, l 123], []⟩ (W.drew) reg6 := by
  conv => arg 7; whnf
  unfold AnyAt
  dsimp only
  obtain ⟨c3, l3, d0, d7, lx, hk, t0, lt, li, e0, e1, e2, e3, e4, e5, e6, e7, e8, e9⟩ := id hf
  refine wpAnyIn_ready (rs := [7, 15]) (by kernel_rfl) (by simp) ?_
  refine AllReadyIn.cons rfl (fun K hK => ?_) ?_
  · go_simp
    refine hK _ _ ?_
    clear hK K
    exact reg6_111111111111111000 hf hend
  refine AllReadyIn.cons rfl (fun K hK => ?_) ?_
  · go_simp
    refine hK _ _ ?_
    clear hK K
    exact reg6_111111101111111100 hf hend
  exact AllReadyIn.nil
set_option maxHeartbeats 4000000 in
set_option maxRecDepth 1000000 in
theorem reg6_111111111111110000 {l : Nat → Value} {R : Act → World → Prop} {b3 x k bi oi bt n cp ct : Nat} {fm iop ix iy i_n imn imx is0 is1 is2 is3 : Int} {W : World}
    (hf : R6 b3 x k bi oi bt n cp ct fm iop ix iy i_n imn imx is0 is1 is2 is3 W)
    (hend : E6 l R b3 x k bi oi bt n cp ct fm iop ix iy i_n imn imx is0 is1 is2 is3 W) :
    AnyAt 7 (Exit.then R (fun _ _ _ => False)) 4 #[true, true, true, true, true, true, true, true, true, true, true, true, true, true, false, false, false, false] ⟨#[l 0, l 1, l 2, .pointer (some ⟨b3, 0, none⟩), l 4, l 5, l 6, l 7, .int .i64 (k : Int), l 9, l 10, l 11, l 12, l 13, l 14, l 15, l 16, l 17, l 18, l 19, l 20, l 21, l 22, l 23, l 24, .pointer (some ⟨x, 0, none⟩), .pointer (some ⟨x, 0, none⟩), .pointer (some ⟨x, 0, none⟩), .pointer (some ⟨x, 0, none⟩), .slice (some ⟨bi, oi, none⟩) n cp, .int .i64 (k : Int), .pointer (some ⟨bi, oi + k * 10, none⟩), .agg #[.int .i64 iop, .int .i64 ix, .int .i64 iy, .int .i64 i_n, .int .i64 imn, .int .i64 imx, .int .u64 is0, .int .u64 is1, .int .u64 is2, .int .u64 is3], .pointer (some ⟨x, 0, none⟩), .pointer (some ⟨x, 0, none⟩), .pointer (some ⟨x, 7, none⟩), .slice (some ⟨bt, 0, none⟩) n ct, .int .i64 (k : Int), .pointer (some ⟨bt, k, none⟩), l 39, l 40, l 41, l 42, l 43, l 44, l 45, l 46, l 47, l 48, l 49, l 50, l 51, l 52, l 53, l 54, l 55, l 56, l 57, l 58, l 59, l 60, l 61, l 62, l 63, l 64, l 65, l 66, l 67, l 68, l 69, l 70, l 71, l 72, l 73, l 74, l 75, l 76, l 77, l 78, l 79, l 80, l 81, l 82, l 83, l 84, l 85, l 86, l 87, l 88, l 89, l 90, l 91, l 92, l 93, l 94, l 95, l 96, l 97, l 98, l 99, l 100, l 101, l 102, l 103, l 104, l 105, l 106, l 107, l 108, l 109, l 110, l 111, l 112, l 113, l 114, l 115, l 116, l 117, l 118, l 119, l 120, l 121, l 122, l 123], []⟩ (W.drew) reg6 := by
  conv => arg 7; whnf
  unfold AnyAt
  dsimp only
  obtain ⟨c3, l3, d0, d7, lx, hk, t0, lt, li, e0, e1, e2, e3, e4, e5, e6, e7, e8, e9⟩ := id hf
  refine wpAnyIn_ready (rs := [14, 15]) (by kernel_rfl) (by simp) ?_
  refine AllReadyIn.cons rfl (fun K hK => ?_) ?_
  · go_simp
    refine hK _ _ ?_
    clear hK K
    exact reg6_111111111111111000 hf hend
  refine AllReadyIn.cons rfl (fun K hK => ?_) ?_
  · go_simp
    refine hK _ _ ?_
    clear hK K
    exact reg6_111111111111110100 hf hend
  exact AllReadyIn.nil
set_option maxHeartbeats 4000000 in
set_option maxRecDepth 1000000 in
theorem reg6_111101001111111100 {l : Nat → Value} {R : Act → World → Prop} {b3 x k bi oi bt n cp ct : Nat} {fm iop ix iy i_n imn imx is0 is1 is2 is3 : Int} {W : World}
    (hf : R6 b3 x k bi oi bt n cp ct fm iop ix iy i_n imn imx is0 is1 is2 is3 W)
    (hend : E6 l R b3 x k bi oi bt n cp ct fm iop ix iy i_n imn imx is0 is1 is2 is3 W) :
    AnyAt 7 (Exit.then R (fun _ _ _ => False)) 5 #[true, true, true, true, false, true, false, false, true, true, true, true, true, true, true, true, false, false] ⟨#[l 0, l 1, l 2, .pointer (some ⟨b3, 0, none⟩), l 4, l 5, l 6, l 7, .int .i64 (k : Int), .pointer (some ⟨W.heap.size, 0, none⟩), l 10, l 11, l 12, l 13, l 14, l 15, l 16, l 17, l 18, l 19, l 20, l 21, l 22, l 23, l 24, .pointer (some ⟨x, 0, none⟩), .pointer (some ⟨x, 0, none⟩), .pointer (some ⟨x, 0, none⟩), .pointer (some ⟨x, 0, none⟩), l 29, .int .i64 (k : Int), l 31, l 32, .pointer (some ⟨x, 0, none⟩), .pointer (some ⟨x, 0, none⟩), .pointer (some ⟨x, 7, none⟩), .slice (some ⟨bt, 0, none⟩) n ct, .int .i64 (k : Int), .pointer (some ⟨bt, k, none⟩), .int .i64 fm, l 40, l 41, l 42, l 43, l 44, l 45, l 46, l 47, l 48, l 49, l 50, l 51, l 52, l 53, l 54, l 55, l 56, l 57, l 58, l 59, l 60, l 61, l 62, l 63, l 64, l 65, l 66, l 67, l 68, l 69, l 70, l 71, l 72, l 73, l 74, l 75, l 76, l 77, l 78, l 79, l 80, l 81, l 82, l 83, l 84, l 85, l 86, l 87, l 88, l 89, l 90, l 91, l 92, l 93, l 94, l 95, l 96, l 97, l 98, l 99, l 100, l 101, l 102, l 103, l 104, l 105, l 106, l 107, l 108, l 109, l 110, l 111, l 112, l 113, l 114, l 115, l 116, l 117, l 118, l 119, l 120, l 121, l 122, l 123], []⟩ (W.drew.alloc (.cells #[.int .i64 0, .int .i64 0, .int .i64 0, .int .i64 0, .int .i64 0, .int .i64 0, .int .u64 0, .int .u64 0, .int .u64 0, .int .u64 0] 39)) reg6 := by
  conv => arg 7; whnf
  unfold AnyAt
  dsimp only
  obtain ⟨c3, l3, d0, d7, lx, hk, t0, lt, li, e0, e1, e2, e3, e4, e5, e6, e7, e8, e9⟩ := id hf
  refine wpAnyIn_ready (rs := [4]) (by kernel_rfl) (by simp) ?_
  refine AllReadyIn.cons rfl (fun K hK => ?_) ?_
  · go_simp
    refine hK _ _ ?_
    clear hK K
    refine wpAnyIn_take (i := 6) (v := ?_) rfl rfl (by kernel_rfl) (by kernel_rfl) (by kernel_rfl) (fun _ _ _ h => h) ⟨Or.inl ⟨by rfl, ?_⟩, fun _ => rfl⟩ ?_
    rotate_left
    · intro w; go_simp; try with_reducible rfl
    exact reg6_111111101111111100 hf hend
  exact AllReadyIn.nil
set_option maxHeartbeats 4000000 in
set_option maxRecDepth 1000000 in
theorem reg6_111111111110100100 {l : Nat → Value} {R : Act → World → Prop} {b3 x k bi oi bt n cp ct : Nat} {fm iop ix iy i_n imn imx is0 is1 is2 is3 : Int} {W : World}
    (hf : R6 b3 x k bi oi bt n cp ct fm iop ix iy i_n imn imx is0 is1 is2 is3 W)
    (hend : E6 l R b3 x k bi oi bt n cp ct fm iop ix iy i_n imn imx is0 is1 is2 is3 W) :
    AnyAt 7 (Exit.then R (fun _ _ _ => False)) 5 #[true, true, true, true, true, true, true, true, true, true, true, false, true, false, false, true, false, false] ⟨#[l 0, l 1, l 2, .pointer (some ⟨b3, 0, none⟩), l 4, l 5, l 6, l 7, .int .i64 (k : Int), .pointer (some ⟨W.heap.size, 0, none⟩), l 10, l 11, l 12, l 13, l 14, l 15, l 16, l 17, l 18, l 19, l 20, l 21, l 22, l 23, l 24, .pointer (some ⟨x, 0, none⟩), .pointer (some ⟨x, 0, none⟩), .pointer (some ⟨x, 0, none⟩), .pointer (some ⟨x, 0, none⟩), .slice (some ⟨bi, oi, none⟩) n cp, .int .i64 (k : Int), .pointer (some ⟨bi, oi + k * 10, none⟩), .agg #[.int .i64 iop, .int .i64 ix, .int .i64 iy, .int .i64 i_n, .int .i64 imn, .int .i64 imx, .int .u64 is0, .int .u64 is1, .int .u64 is2, .int .u64 is3], .pointer (some ⟨x, 0, none⟩), .pointer (some ⟨x, 0, none⟩), .pointer (some ⟨x, 7, none⟩), l 36, .int .i64 (k : Int), l 38, l 39, l 40, l 41, l 42, l 43, l 44, l 45, l 46, l 47, l 48, l 49, l 50, l 51, l 52, l 53, l 54, l 55, l 56, l 57, l 58, l 59, l 60, l 61, l 62, l 63, l 64, l 65, l 66, l 67, l 68, l 69, l 70, l 71, l 72, l 73, l 74, l 75, l 76, l 77, l 78, l 79, l 80, l 81, l 82, l 83, l 84, l 85, l 86, l 87, l 88, l 89, l 90, l 91, l 92, l 93, l 94, l 95, l 96, l 97, l 98, l 99, l 100, l 101, l 102, l 103, l 104, l 105, l 106, l 107, l 108, l 109, l 110, l 111, l 112, l 113, l 114, l 115, l 116, l 117, l 118, l 119, l 120, l 121, l 122, l 123], []⟩ (W.drew.alloc (.cells #[.int .i64 0, .int .i64 0, .int .i64 0, .int .i64 0, .int .i64 0, .int .i64 0, .int .u64 0, .int .u64 0, .int .u64 0, .int .u64 0] 39)) reg6 := by
  conv => arg 7; whnf
  unfold AnyAt
  dsimp only
  obtain ⟨c3, l3, d0, d7, lx, hk, t0, lt, li, e0, e1, e2, e3, e4, e5, e6, e7, e8, e9⟩ := id hf
  refine wpAnyIn_ready (rs := [11, 16]) (by kernel_rfl) (by simp) ?_
  refine AllReadyIn.cons rfl (fun K hK => ?_) ?_
  · go_simp
    refine hK _ _ ?_
    clear hK K
    refine wpAnyIn_take (i := 13) (v := ?_) rfl rfl (by kernel_rfl) (by kernel_rfl) (by kernel_rfl) (fun _ _ _ h => h) ⟨Or.inl ⟨by rfl, ?_⟩, fun _ => rfl⟩ ?_
    rotate_left
    · intro w; go_simp; try with_reducible rfl
    exact reg6_111111111111110100 hf hend
  refine AllReadyIn.cons rfl (fun K hK => ?_) ?_
  · go_simp
    refine hK _ _ ?_
    clear hK K
    exact reg6_111111111110100110 hf hend
  exact AllReadyIn.nil
set_option maxHeartbeats 4000000 in
set_option maxRecDepth 1000000 in
theorem reg6_111111101111110000 {l : Nat → Value} {R : Act → World → Prop} {b3 x k bi oi bt n cp ct : Nat} {fm iop ix iy i_n imn imx is0 is1 is2 is3 : Int} {W : World}
    (hf : R6 b3 x k bi oi bt n cp ct fm iop ix iy i_n imn imx is0 is1 is2 is3 W)
    (hend : E6 l R b3 x k bi oi bt n cp ct fm iop ix iy i_n imn imx is0 is1 is2 is3 W) :
    AnyAt 7 (Exit.then R (fun _ _ _ => False)) 5 #[true, true, true, true, true, true, true, false, true, true, true, true, true, true, false, false, false, false] ⟨#[l 0, l 1, l 2, .pointer (some ⟨b3, 0, none⟩), l 4, l 5, l 6, l 7, .int .i64 (k : Int), l 9, l 10, l 11, l 12, l 13, l 14, l 15, l 16, l 17, l 18, l 19, l 20, l 21, l 22, l 23, l 24, .pointer (some ⟨x, 0, none⟩), .pointer (some ⟨x, 0, none⟩), .pointer (some ⟨x, 0, none⟩), .pointer (some ⟨x, 0, none⟩), .slice (some ⟨bi, oi, none⟩) n cp, .int .i64 (k : Int), .pointer (some ⟨bi, oi + k * 10, none⟩), l 32, .pointer (some ⟨x, 0, none⟩), .pointer (some ⟨x, 0, none⟩), .pointer (some ⟨x, 7, none⟩), .slice (some ⟨bt, 0, none⟩) n ct, .int .i64 (k : Int), .pointer (some ⟨bt, k, none⟩), l 39, l 40, l 41, l 42, l 43, l 44, l 45, l 46, l 47, l 48, l 49, l 50, l 51, l 52, l 53, l 54, l 55, l 56, l 57, l 58, l 59, l 60, l 61, l 62, l 63, l 64, l 65, l 66, l 67, l 68, l 69, l 70, l 71, l 72, l 73, l 74, l 75, l 76, l 77, l 78, l 79, l 80, l 81, l 82, l 83, l 84, l 85, l 86, l 87, l 88, l 89, l 90, l 91, l 92, l 93, l 94, l 95, l 96, l 97, l 98, l 99, l 100, l 101, l 102, l 103, l 104, l 105, l 106, l 107, l 108, l 109, l 110, l 111, l 112, l 113, l 114, l 115, l 116, l 117, l 118, l 119, l 120, l 121, l 122, l 123], []⟩ (W.drew) reg6 := by
  conv => arg 7; whnf
  unfold AnyAt
  dsimp only
  obtain ⟨c3, l3, d0, d7, lx, hk, t0, lt, li, e0, e1, e2, e3, e4, e5, e6, e7, e8, e9⟩ := id hf
  refine wpAnyIn_ready (rs := [7, 14, 15]) (by kernel_rfl) (by simp) ?_
  refine AllReadyIn.cons rfl (fun K hK => ?_) ?_
  · go_simp
    refine hK _ _ ?_
    clear hK K
    exact reg6_111111111111110000 hf hend
  refine AllReadyIn.cons rfl (fun K hK => ?_) ?_
  · go_simp
    refine hK _ _ ?_
    clear hK K
    exact reg6_111111101111111000 hf hend
  refine AllReadyIn.cons rfl (fun K hK => ?_) ?_
  · go_simp
    refine hK _ _ ?_
    clear hK K
    exact reg6_111111101111110100 hf hend
  exact AllReadyIn.nil
set_option maxHeartbeats 4000000 in
set_option maxRecDepth 1000000 in
theorem reg6_111101001111110100 {l : Nat → Value} {R : Act → World → Prop} {b3 x k bi oi bt n cp ct : Nat} {fm iop ix iy i_n imn imx is0 is1 is2 is3 : Int} {W : World}
    (hf : R6 b3 x k bi oi bt n cp ct fm iop ix iy i_n imn imx is0 is1 is2 is3 W)
    (hend : E6 l R b3 x k bi oi bt n cp ct fm iop ix iy i_n imn imx is0 is1 is2 is3 W) :
    AnyAt 7 (Exit.then R (fun _ _ _ => False)) 6 #[true, true, true, true, false, true, false, false, true, true, true, true, true, true, false, true, false, false] ⟨#[l 0, l 1, l 2, .pointer (some ⟨b3, 0, none⟩), l 4, l 5, l 6, l 7, .int .i64 (k : Int), .pointer (some ⟨W.heap.size, 0, none⟩), l 10, l 11, l 12, l 13, l 14, l 15, l 16, l 17, l 18, l 19, l 20, l 21, l 22, l 23, l 24, .pointer (some ⟨x, 0, none⟩), .pointer (some ⟨x, 0, none⟩), .pointer (some ⟨x, 0, none⟩), .pointer (some ⟨x, 0, none⟩), l 29, .int .i64 (k : Int), l 31, l 32, .pointer (some ⟨x, 0, none⟩), .pointer (some ⟨x, 0, none⟩), .pointer (some ⟨x, 7, none⟩), .slice (some ⟨bt, 0, none⟩) n ct, .int .i64 (k : Int), .pointer (some ⟨bt, k, none⟩), l 39, l 40, l 41, l 42, l 43, l 44, l 45, l 46, l 47, l 48, l 49, l 50, l 51, l 52, l 53, l 54, l 55, l 56, l 57, l 58, l 59, l 60, l 61, l 62, l 63, l 64, l 65, l 66, l 67, l 68, l 69, l 70, l 71, l 72, l 73, l 74, l 75, l 76, l 77, l 78, l 79, l 80, l 81, l 82, l 83, l 84, l 85, l 86, l 87, l 88, l 89, l 90, l 91, l 92, l 93, l 94, l 95, l 96, l 97, l 98, l 99, l 100, l 101, l 102, l 103, l 104, l 105, l 106, l 107, l 108, l 109, l 110, l 111, l 112, l 113, l 114, l 115, l 116, l 117, l 118, l 119, l 120, l 121, l 122, l 123], []⟩ (W.drew.alloc (.cells #[.int .i64 0, .int .i64 0, .int .i64 0, .int .i64 0, .int .i64 0, .int .i64 0, .int .u64 0, .int .u64 0, .int .u64 0, .int .u64 0] 39)) reg6 := by
  conv => arg 7; whnf
  unfold AnyAt
  dsimp only
  obtain ⟨c3, l3, d0, d7, lx, hk, t0, lt, li, e0, e1, e2, e3, e4, e5, e6, e7, e8, e9⟩ := id hf
  refine wpAnyIn_ready (rs := [4, 14]) (by kernel_rfl) (by simp) ?_
  refine AllReadyIn.cons rfl (fun K hK => ?_) ?_
  · go_simp
    refine hK _ _ ?_
    clear hK K
    refine wpAnyIn_take (i := 6) (v := ?_) rfl rfl (by kernel_rfl) (by kernel_rfl) (by kernel_rfl) (fun _ _ _ h => h) ⟨Or.inl ⟨by rfl, ?_⟩, fun _ => rfl⟩ ?_
    rotate_left
    · intro w; go_simp; try with_reducible rfl
    exact reg6_111111101111110100 hf hend
  refine AllReadyIn.cons rfl (fun K hK => ?_) ?_
  · go_simp
    refine hK _ _ ?_
    clear hK K
    exact reg6_111101001111111100 hf hend
  exact AllReadyIn.nil
set_option maxHeartbeats 4000000 in
set_option maxRecDepth 1000000 in
theorem reg6_111111101110100100 {l : Nat → Value} {R : Act → World → Prop} {b3 x k bi oi bt n cp ct : Nat} {fm iop ix iy i_n imn imx is0 is1 is2 is3 : Int} {W : World}
    (hf : R6 b3 x k bi oi bt n cp ct fm iop ix iy i_n imn imx is0 is1 is2 is3 W)
    (hend : E6 l R b3 x k bi oi bt n cp ct fm iop ix iy i_n imn imx is0 is1 is2 is3 W) :
    AnyAt 7 (Exit.then R (fun _ _ _ => False)) 6 #[true, true, true, true, true, true, true, false, true, true, true, false, true, false, false, true, false, false] ⟨#[l 0, l 1, l 2, .pointer (some ⟨b3, 0, none⟩), l 4, l 5, l 6, l 7, .int .i64 (k : Int), .pointer (some ⟨W.heap.size, 0, none⟩), l 10, l 11, l 12, l 13, l 14, l 15, l 16, l 17, l 18, l 19, l 20, l 21, l 22, l 23, l 24, .pointer (some ⟨x, 0, none⟩), .pointer (some ⟨x, 0, none⟩), .pointer (some ⟨x, 0, none⟩), .pointer (some ⟨x, 0, none⟩), .slice (some ⟨bi, oi, none⟩) n cp, .int .i64 (k : Int), .pointer (some ⟨bi, oi + k * 10, none⟩), l 32, .pointer (some ⟨x, 0, none⟩), .pointer (some ⟨x, 0, none⟩), .pointer (some ⟨x, 7, none⟩), l 36, .int .i64 (k : Int), l 38, l 39, l 40, l 41, l 42, l 43, l 44, l 45, l 46, l 47, l 48, l 49, l 50, l 51, l 52, l 53, l 54, l 55, l 56, l 57, l 58, l 59, l 60, l 61, l 62, l 63, l 64, l 65, l 66, l 67, l 68, l 69, l 70, l 71, l 72, l 73, l 74, l 75, l 76, l 77, l 78, l 79, l 80, l 81, l 82, l 83, l 84, l 85, l 86, l 87, l 88, l 89, l 90, l 91, l 92, l 93, l 94, l 95, l 96, l 97, l 98, l 99, l 100, l 101, l 102, l 103, l 104, l 105, l 106, l 107, l 108, l 109, l 110, l 111, l 112, l 113, l 114, l 115, l 116, l 117, l 118, l 119, l 120, l 121, l 122, l 123], []⟩ (W.drew.alloc (.cells #[.int .i64 0, .int .i64 0, .int .i64 0, .int .i64 0, .int .i64 0, .int .i64 0, .int .u64 0, .int .u64 0, .int .u64 0, .int .u64 0] 39)) reg6 := by
  conv => arg 7; whnf
  unfold AnyAt
  dsimp only
  obtain ⟨c3, l3, d0, d7, lx, hk, t0, lt, li, e0, e1, e2, e3, e4, e5, e6, e7, e8, e9⟩ := id hf
  refine wpAnyIn_ready (rs := [7, 11]) (by kernel_rfl) (by simp) ?_
  refine AllReadyIn.cons rfl (fun K hK => ?_) ?_
  · go_simp
    refine hK _ _ ?_
    clear hK K
    exact reg6_111111111110100100 hf hend
  refine AllReadyIn.cons rfl (fun K hK => ?_) ?_
  · go_simp
    refine hK _ _ ?_
    clear hK K
    refine wpAnyIn_take (i := 13) (v := ?_) rfl rfl (by kernel_rfl) (by kernel_rfl) (by kernel_rfl) (fun _ _ _ h => h) ⟨Or.inl ⟨by rfl, ?_⟩, fun _ => rfl⟩ ?_
    rotate_left
    · intro w; go_simp; try with_reducible rfl
    exact reg6_111111101111110100 hf hend
  exact AllReadyIn.nil
set_option maxHeartbeats 4000000 in
set_option maxRecDepth 1000000 in
theorem reg6_111101001111111000 {l : Nat → Value} {R : Act → World → Prop} {b3 x k bi oi bt n cp ct : Nat} {fm iop ix iy i_n imn imx is0 is1 is2 is3 : Int} {W : World}
    (hf : R6 b3 x k bi oi bt n cp ct fm iop ix iy i_n imn imx is0 is1 is2 is3 W)
    (hend : E6 l R b3 x k bi oi bt n cp ct fm iop ix iy i_n imn imx is0 is1 is2 is3 W) :
    AnyAt 7 (Exit.then R (fun _ _ _ => False)) 6 #[true, true, true, true, false, true, false, false, true, true, true, true, true, true, true, false, false, false] ⟨#[l 0, l 1, l 2, .pointer (some ⟨b3, 0, none⟩), l 4, l 5, l 6, l 7, .int .i64 (k : Int), l 9, l 10, l 11, l 12, l 13, l 14, l 15, l 16, l 17, l 18, l 19, l 20, l 21, l 22, l 23, l 24, .pointer (some ⟨x, 0, none⟩), .pointer (some ⟨x, 0, none⟩), .pointer (some ⟨x, 0, none⟩), .pointer (some ⟨x, 0, none⟩), l 29, .int .i64 (k : Int), l 31, l 32, .pointer (some ⟨x, 0, none⟩), .pointer (some ⟨x, 0, none⟩), .pointer (some ⟨x, 7, none⟩), .slice (some ⟨bt, 0, none⟩) n ct, .int .i64 (k : Int), .pointer (some ⟨bt, k, none⟩), .int .i64 fm, l 40, l 41, l 42, l 43, l 44, l 45, l 46, l 47, l 48, l 49, l 50, l 51, l 52, l 53, l 54, l 55, l 56, l 57, l 58, l 59, l 60, l 61, l 62, l 63, l 64, l 65, l 66, l 67, l 68, l 69, l 70, l 71, l 72, l 73, l 74, l 75, l 76, l 77, l 78, l 79, l 80, l 81, l 82, l 83, l 84, l 85, l 86, l 87, l 88, l 89, l 90, l 91, l 92, l 93, l 94, l 95, l 96, l 97, l 98, l 99, l 100, l 101, l 102, l 103, l 104, l 105, l 106, l 107, l 108, l 109, l 110, l 111, l 112, l 113, l 114, l 115, l 116, l 117, l 118, l 119, l 120, l 121, l 122, l 123], []⟩ (W.drew) reg6 := by
  conv => arg 7; whnf
  unfold AnyAt
  dsimp only
  obtain ⟨c3, l3, d0, d7, lx, hk, t0, lt, li, e0, e1, e2, e3, e4, e5, e6, e7, e8, e9⟩ := id hf
  refine wpAnyIn_ready (rs := [4, 15]) (by kernel_rfl) (by simp) ?_
  refine AllReadyIn.cons rfl (fun K hK => ?_) ?_
  · go_simp
    refine hK _ _ ?_
    clear hK K
    refine wpAnyIn_take (i := 6) (v := ?_) rfl rfl (by kernel_rfl) (by kernel_rfl) (by kernel_rfl) (fun _ _ _ h => h) ⟨Or.inl ⟨by rfl, ?_⟩, fun _ => rfl⟩ ?_
    rotate_left
    · intro w; go_simp; try with_reducible rfl
    exact reg6_111111101111111000 hf hend
  refine AllReadyIn.cons rfl (fun K hK => ?_) ?_
  · go_simp
    refine hK _ _ ?_
    clear hK K
    exact reg6_111101001111111100 hf hend
  exact AllReadyIn.nil
set_option maxHeartbeats 4000000 in
set_option maxRecDepth 1000000 in
theorem reg6_111111111110100000 {l : Nat → Value} {R : Act → World → Prop} {b3 x k bi oi bt n cp ct : Nat} {fm iop ix iy i_n imn imx is0 is1 is2 is3 : Int} {W : World}
    (hf : R6 b3 x k bi oi bt n cp ct fm iop ix iy i_n imn imx is0 is1 is2 is3 W)
    (hend : E6 l R b3 x k bi oi bt n cp ct fm iop ix iy i_n imn imx is0 is1 is2 is3 W) :
    AnyAt 7 (Exit.then R (fun _ _ _ => False)) 6 #[true, true, true, true, true, true, true, true, true, true, true, false, true, false, false, false, false, false] ⟨#[l 0, l 1, l 2, .pointer (some ⟨b3, 0, none⟩), l 4, l 5, l 6, l 7, .int .i64 (k : Int), l 9, l 10, l 11, l 12, l 13, l 14, l 15, l 16, l 17, l 18, l 19, l 20, l 21, l 22, l 23, l 24, .pointer (some ⟨x, 0, none⟩), .pointer (some ⟨x, 0, none⟩), .pointer (some ⟨x, 0, none⟩), .pointer (some ⟨x, 0, none⟩), .slice (some ⟨bi, oi, none⟩) n cp, .int .i64 (k : Int), .pointer (some ⟨bi, oi + k * 10, none⟩), .agg #[.int .i64 iop, .int .i64 ix, .int .i64 iy, .int .i64 i_n, .int .i64 imn, .int .i64 imx, .int .u64 is0, .int .u64 is1, .int .u64 is2, .int .u64 is3], .pointer (some ⟨x, 0, none⟩), .pointer (some ⟨x, 0, none⟩), .pointer (some ⟨x, 7, none⟩), l 36, .int .i64 (k : Int), l 38, l 39, l 40, l 41, l 42, l 43, l 44, l 45, l 46, l 47, l 48, l 49, l 50, l 51, l 52, l 53, l 54, l 55, l 56, l 57, l 58, l 59, l 60, l 61, l 62, l 63, l 64, l 65, l 66, l 67, l 68, l 69, l 70, l 71, l 72, l 73, l 74, l 75, l 76, l 77, l 78, l 79, l 80, l 81, l 82, l 83, l 84, l 85, l 86, l 87, l 88, l 89, l 90, l 91, l 92, l 93, l 94, l 95, l 96, l 97, l 98, l 99, l 100, l 101, l 102, l 103, l 104, l 105, l 106, l 107, l 108, l 109, l 110, l 111, l 112, l 113, l 114, l 115, l 116, l 117, l 118, l 119, l 120, l 121, l 122, l 123], []⟩ (W.drew) reg6 := by
  conv => arg 7; whnf
  unfold AnyAt
  dsimp only
  obtain ⟨c3, l3, d0, d7, lx, hk, t0, lt, li, e0, e1, e2, e3, e4, e5, e6, e7, e8, e9⟩ := id hf
  refine wpAnyIn_ready (rs := [11, 15]) (by kernel_rfl) (by simp) ?_
  refine AllReadyIn.cons rfl (fun K hK => ?_) ?_
  · go_simp
    refine hK _ _ ?_
    clear hK K
    refine wpAnyIn_take (i := 13) (v := ?_) rfl rfl (by kernel_rfl) (by kernel_rfl) (by kernel_rfl) (fun _ _ _ h => h) ⟨Or.inl ⟨by rfl, ?_⟩, fun _ => rfl⟩ ?_
    rotate_left
    · intro w; go_simp; try with_reducible rfl
    exact reg6_111111111111110000 hf hend
  refine AllReadyIn.cons rfl (fun K hK => ?_) ?_
  · go_simp
    refine hK _ _ ?_
    clear hK K
    exact reg6_111111111110100100 hf hend
  exact AllReadyIn.nil
set_option maxHeartbeats 4000000 in
set_option maxRecDepth 1000000 in
theorem reg6_111111110000100110 {l : Nat → Value} {R : Act → World → Prop} {b3 x k bi oi bt n cp ct : Nat} {fm iop ix iy i_n imn imx is0 is1 is2 is3 : Int} {W : World}
    (hf : R6 b3 x k bi oi bt n cp ct fm iop ix iy i_n imn imx is0 is1 is2 is3 W)
    (hend : E6 l R b3 x k bi oi bt n cp ct fm iop ix iy i_n imn imx is0 is1 is2 is3 W) :
    AnyAt 7 (Exit.then R (fun _ _ _ => False)) 7 #[true, true, true, true, true, true, true, true, false, false, false, false, true, false, false, true, true, false] ⟨#[l 0, l 1, l 2, .pointer (some ⟨b3, 0, none⟩), l 4, l 5, l 6, l 7, .int .i64 (k : Int), .pointer (some ⟨W.heap.size, 0, none⟩), l 10, l 11, l 12, l 13, l 14, l 15, l 16, l 17, l 18, l 19, l 20, l 21, l 22, l 23, l 24, .pointer (some ⟨x, 0, none⟩), .pointer (some ⟨x, 0, none⟩), .pointer (some ⟨x, 0, none⟩), .pointer (some ⟨x, 0, none⟩), .slice (some ⟨bi, oi, none⟩) n cp, .int .i64 (k : Int), .pointer (some ⟨bi, oi + k * 10, none⟩), .agg #[.int .i64 iop, .int .i64 ix, .int .i64 iy, .int .i64 i_n, .int .i64 imn, .int .i64 imx, .int .u64 is0, .int .u64 is1, .int .u64 is2, .int .u64 is3], l 33, l 34, l 35, l 36, .int .i64 (k : Int), l 38, l 39, l 40, l 41, l 42, l 43, l 44, l 45, l 46, l 47, l 48, l 49, l 50, l 51, l 52, l 53, l 54, l 55, l 56, l 57, l 58, l 59, l 60, l 61, l 62, l 63, l 64, l 65, l 66, l 67, l 68, l 69, l 70, l 71, l 72, l 73, l 74, l 75, l 76, l 77, l 78, l 79, l 80, l 81, l 82, l 83, l 84, l 85, l 86, l 87, l 88, l 89, l 90, l 91, l 92, l 93, l 94, l 95, l 96, l 97, l 98, l 99, l 100, l 101, l 102, l 103, l 104, l 105, l 106, l 107, l 108, l 109, l 110, l 111, l 112, l 113, l 114, l 115, l 116, l 117, l 118, l 119, l 120, l 121, l 122, l 123], []⟩ (W.drew.alloc (.cells #[.int .i64 iop, .int .i64 ix, .int .i64 iy, .int .i64 i_n, .int .i64 imn, .int .i64 imx, .int .u64 is0, .int .u64 is1, .int .u64 is2, .int .u64 is3] 39)) reg6 := by
  conv => arg 7; whnf
  unfold AnyAt
  dsimp only
  obtain ⟨c3, l3, d0, d7, lx, hk, t0, lt, li, e0, e1, e2, e3, e4, e5, e6, e7, e8, e9⟩ := id hf
  refine wpAnyIn_ready (rs := [8]) (by kernel_rfl) (by simp) ?_
  refine AllReadyIn.cons rfl (fun K hK => ?_) ?_
  · go_simp
    refine hK _ _ ?_
    clear hK K
    refine wpAnyIn_take (i := 9) (v := ?_) rfl rfl (by kernel_rfl) (by kernel_rfl) (by kernel_rfl) (fun _ _ _ h => h) ⟨Or.inl ⟨by rfl, ?_⟩, fun _ => rfl⟩ ?_
    rotate_left
    · intro w; go_simp; try with_reducible rfl
    refine wpAnyIn_take (i := 10) (v := ?_) rfl rfl (by kernel_rfl) (by kernel_rfl) (by kernel_rfl) (fun _ _ _ h => h) ⟨Or.inl ⟨by rfl, ?_⟩, fun _ => rfl⟩ ?_
    rotate_left
    · intro w; go_simp; try with_reducible rfl
    exact reg6_111111111110100110 hf hend
  exact AllReadyIn.nil
set_option maxHeartbeats 4000000 in
set_option maxRecDepth 1000000 in
theorem reg6_111101001111110000 {l : Nat → Value} {R : Act → World → Prop} {b3 x k bi oi bt n cp ct : Nat} {fm iop ix iy i_n imn imx is0 is1 is2 is3 : Int} {W : World}
    (hf : R6 b3 x k bi oi bt n cp ct fm iop ix iy i_n imn imx is0 is1 is2 is3 W)
    (hend : E6 l R b3 x k bi oi bt n cp ct fm iop ix iy i_n imn imx is0 is1 is2 is3 W) :
    AnyAt 7 (Exit.then R (fun _ _ _ => False)) 7 #[true, true, true, true, false, true, false, false, true, true, true, true, true, true, false, false, false, false] ⟨#[l 0, l 1, l 2, .pointer (some ⟨b3, 0, none⟩), l 4, l 5, l 6, l 7, .int .i64 (k : Int), l 9, l 10, l 11, l 12, l 13, l 14, l 15, l 16, l 17, l 18, l 19, l 20, l 21, l 22, l 23, l 24, .pointer (some ⟨x, 0, none⟩), .pointer (some ⟨x, 0, none⟩), .pointer (some ⟨x, 0, none⟩), .pointer (some ⟨x, 0, none⟩), l 29, .int .i64 (k : Int), l 31, l 32, .pointer (some ⟨x, 0, none⟩), .pointer (some ⟨x, 0, none⟩), .pointer (some ⟨x, 7, none⟩), .slice (some ⟨bt, 0, none⟩) n ct, .int .i64 (k : Int), .pointer (some ⟨bt, k, none⟩), l 39, l 40, l 41, l 42, l 43, l 44, l 45, l 46, l 47, l 48, l 49, l 50, l 51, l 52, l 53, l 54, l 55, l 56, l 57, l 58, l 59, l 60, l 61, l 62, l 63, l 64, l 65, l 66, l 67, l 68, l 69, l 70, l 71, l 72, l 73, l 74, l 75, l 76, l 77, l 78, l 79, l 80, l 81, l 82, l 83, l 84, l 85, l 86, l 87, l 88, l 89, l 90, l 91, l 92, l 93, l 94, l 95, l 96, l 97, l 98, l 99, l 100, l 101, l 102, l 103, l 104, l 105, l 106, l 107, l 108, l 109, l 110, l 111, l 112, l 113, l 114, l 115, l 116, l 117, l 118, l 119, l 120, l 121, l 122, l 123], []⟩ (W.drew) reg6 := by
  conv => arg 7; whnf
  unfold AnyAt
  dsimp only
  obtain ⟨c3, l3, d0, d7, lx, hk, t0, lt, li, e0, e1, e2, e3, e4, e5, e6, e7, e8, e9⟩ := id hf
  refine wpAnyIn_ready (rs := [4, 14, 15]) (by kernel_rfl) (by simp) ?_
  refine AllReadyIn.cons rfl (fun K hK => ?_) ?_
  · go_simp
    refine hK _ _ ?_
    clear hK K
    refine wpAnyIn_take (i := 6) (v := ?_) rfl rfl (by kernel_rfl) (by kernel_rfl) (by kernel_rfl) (fun _ _ _ h => h) ⟨Or.inl ⟨by rfl, ?_⟩, fun _ => rfl⟩ ?_
    rotate_left
    · intro w; go_simp; try with_reducible rfl
    exact reg6_111111101111110000 hf hend
  refine AllReadyIn.cons rfl (fun K hK => ?_) ?_
  · go_simp
    refine hK _ _ ?_
    clear hK K
    exact reg6_111101001111111000 hf hend
  refine AllReadyIn.cons rfl (fun K hK => ?_) ?_
  · go_simp
    refine hK _ _ ?_
    clear hK K
    exact reg6_111101001111110100 hf hend
  exact AllReadyIn.nil
set_option maxHeartbeats 4000000 in
set_option maxRecDepth 1000000 in
theorem reg6_111111101110100000 {l : Nat → Value} {R : Act → World → Prop} {b3 x k bi oi bt n cp ct : Nat} {fm iop ix iy i_n imn imx is0 is1 is2 is3 : Int} {W : World}
    (hf : R6 b3 x k bi oi bt n cp ct fm iop ix iy i_n imn imx is0 is1 is2 is3 W)
    (hend : E6 l R b3 x k bi oi bt n cp ct fm iop ix iy i_n imn imx is0 is1 is2 is3 W) :
    AnyAt 7 (Exit.then R (fun _ _ _ => False)) 7 #[true, true, true, true, true, true, true, false, true, true, true, false, true, false, false, false, false, false] ⟨#[l 0, l 1, l 2, .pointer (some ⟨b3, 0, none⟩), l 4, l 5, l 6, l 7, .int .i64 (k : Int), l 9, l 10, l 11, l 12, l 13, l 14, l 15, l 16, l 17, l 18, l 19, l 20, l 21, l 22, l 23, l 24, .pointer (some ⟨x, 0, none⟩), .pointer (some ⟨x, 0, none⟩), .pointer (some ⟨x, 0, none⟩), .pointer (some ⟨x, 0, none⟩), .slice (some ⟨bi, oi, none⟩) n cp, .int .i64 (k : Int), .pointer (some ⟨bi, oi + k * 10, none⟩), l 32, .pointer (some ⟨x, 0, none⟩), .pointer (some ⟨x, 0, none⟩), .pointer (some ⟨x, 7, none⟩), l 36, .int .i64 (k : Int), l 38, l 39, l 40, l 41, l 42, l 43, l 44, l 45, l 46, l 47, l 48, l 49, l 50, l 51, l 52, l 53, l 54, l 55, l 56, l 57, l 58, l 59, l 60, l 61, l 62, l 63, l 64, l 65, l 66, l 67, l 68, l 69, l 70, l 71, l 72, l 73, l 74, l 75, l 76, l 77, l 78, l 79, l 80, l 81, l 82, l 83, l 84, l 85, l 86, l 87, l 88, l 89, l 90, l 91, l 92, l 93, l 94, l 95, l 96, l 97, l 98, l 99, l 100, l 101, l 102, l 103, l 104, l 105, l 106, l 107, l 108, l 109, l 110, l 111, l 112, l 113, l 114, l 115, l 116, l 117, l 118, l 119, l 120, l 121, l 122, l 123], []⟩ (W.drew) reg6 := by
  conv => arg 7; whnf
  unfold AnyAt
  dsimp only
  obtain ⟨c3, l3, d0, d7, lx, hk, t0, lt, li, e0, e1, e2, e3, e4, e5, e6, e7, e8, e9⟩ := id hf
  refine wpAnyIn_ready (rs := [7, 11, 15]) (by kernel_rfl) (by simp) ?_
  refine AllReadyIn.cons rfl (fun K hK => ?_) ?_
  · go_simp
    refine hK _ _ ?_
    clear hK K
    exact reg6_111111111110100000 hf hend
  refine AllReadyIn.cons rfl (fun K hK => ?_) ?_
  · go_simp
    refine hK _ _ ?_
    clear hK K
    refine wpAnyIn_take (i := 13) (v := ?_) rfl rfl (by kernel_rfl) (by kernel_rfl) (by kernel_rfl) (fun _ _ _ h => h) ⟨Or.inl ⟨by rfl, ?_⟩, fun _ => rfl⟩ ?_
    rotate_left
    · intro w; go_simp; try with_reducible rfl
    exact reg6_111111101111110000 hf hend
  refine AllReadyIn.cons rfl (fun K hK => ?_) ?_
  · go_simp
    refine hK _ _ ?_
    clear hK K
    exact reg6_111111101110100100 hf hend
  exact AllReadyIn.nil
set_option maxHeartbeats 4000000 in
set_option maxRecDepth 1000000 in
theorem reg6_111101001110100100 {l : Nat → Value} {R : Act → World → Prop} {b3 x k bi oi bt n cp ct : Nat} {fm iop ix iy i_n imn imx is0 is1 is2 is3 : Int} {W : World}
    (hf : R6 b3 x k bi oi bt n cp ct fm iop ix iy i_n imn imx is0 is1 is2 is3 W)
    (hend : E6 l R b3 x k bi oi bt n cp ct fm iop ix iy i_n imn imx is0 is1 is2 is3 W) :
    AnyAt 7 (Exit.then R (fun _ _ _ => False)) 8 #[true, true, true, true, false, true, false, false, true, true, true, false, true, false, false, true, false, false] ⟨#[l 0, l 1, l 2, .pointer (some ⟨b3, 0, none⟩), l 4, l 5, l 6, l 7, .int .i64 (k : Int), .pointer (some ⟨W.heap.size, 0, none⟩), l 10, l 11, l 12, l 13, l 14, l 15, l 16, l 17, l 18, l 19, l 20, l 21, l 22, l 23, l 24, .pointer (some ⟨x, 0, none⟩), .pointer (some ⟨x, 0, none⟩), .pointer (some ⟨x, 0, none⟩), .pointer (some ⟨x, 0, none⟩), l 29, .int .i64 (k : Int), l 31, l 32, .pointer (some ⟨x, 0, none⟩), .pointer (some ⟨x, 0, none⟩), .pointer (some ⟨x, 7, none⟩), l 36, .int .i64 (k : Int), l 38, l 39, l 40, l 41, l 42, l 43, l 44, l 45, l 46, l 47, l 48, l 49, l 50, l 51, l 52, l 53, l 54, l 55, l 56, l 57, l 58, l 59, l 60, l 61, l 62, l 63, l 64, l 65, l 66, l 67, l 68, l 69, l 70, l 71, l 72, l 73, l 74, l 75, l 76, l 77, l 78, l 79, l 80, l 81, l 82, l 83, l 84, l 85, l 86, l 87, l 88, l 89, l 90, l 91, l 92, l 93, l 94, l 95, l 96, l 97, l 98, l 99, l 100, l 101, l 102, l 103, l 104, l 105, l 106, l 107, l 108, l 109, l 110, l 111, l 112, l 113, l 114, l 115, l 116, l 117, l 118, l 119, l 120, l 121, l 122, l 123], []⟩ (W.drew.alloc (.cells #[.int .i64 0, .int .i64 0, .int .i64 0, .int .i64 0, .int .i64 0, .int .i64 0, .int .u64 0, .int .u64 0, .int .u64 0, .int .u64 0] 39)) reg6 := by
  conv => arg 7; whnf
  unfold AnyAt
  dsimp only
  obtain ⟨c3, l3, d0, d7, lx, hk, t0, lt, li, e0, e1, e2, e3, e4, e5, e6, e7, e8, e9⟩ := id hf
  refine wpAnyIn_ready (rs := [4, 11]) (by kernel_rfl) (by simp) ?_
  refine AllReadyIn.cons rfl (fun K hK => ?_) ?_
  · go_simp
    refine hK _ _ ?_
    clear hK K
    refine wpAnyIn_take (i := 6) (v := ?_) rfl rfl (by kernel_rfl) (by kernel_rfl) (by kernel_rfl) (fun _ _ _ h => h) ⟨Or.inl ⟨by rfl, ?_⟩, fun _ => rfl⟩ ?_
    rotate_left
    · intro w; go_simp; try with_reducible rfl
    exact reg6_111111101110100100 hf hend
  refine AllReadyIn.cons rfl (fun K hK => ?_) ?_
  · go_simp
    refine hK _ _ ?_
    clear hK K
    refine wpAnyIn_take (i := 13) (v := ?_) rfl rfl (by kernel_rfl) (by kernel_rfl) (by kernel_rfl) (fun _ _ _ h => h) ⟨Or.inl ⟨by rfl, ?_⟩, fun _ => rfl⟩ ?_
    rotate_left
    · intro w; go_simp; try with_reducible rfl
    exact reg6_111101001111110100 hf hend
  exact AllReadyIn.nil
set_option maxHeartbeats 4000000 in
set_option maxRecDepth 1000000 in
theorem reg6_111111110000100100 {l : Nat → Value} {R : Act → World → Prop} {b3 x k bi oi bt n cp ct : Nat} {fm iop ix iy i_n imn imx is0 is1 is2 is3 : Int} {W : World}
    (hf : R6 b3 x k bi oi bt n cp ct fm iop ix iy i_n imn imx is0 is1 is2 is3 W)
    (hend : E6 l R b3 x k bi oi bt n cp ct fm iop ix iy i_n imn imx is0 is1 is2 is3 W) :
    AnyAt 7 (Exit.then R (fun _ _ _ => False)) 8 #[true, true, true, true, true, true, true, true, false, false, false, false, true, false, false, true, false, false] ⟨#[l 0, l 1, l 2, .pointer (some ⟨b3, 0, none⟩), l 4, l 5, l 6, l 7, .int .i64 (k : Int), .pointer (some ⟨W.heap.size, 0, none⟩), l 10, l 11, l 12, l 13, l 14, l 15, l 16, l 17, l 18, l 19, l 20, l 21, l 22, l 23, l 24, .pointer (some ⟨x, 0, none⟩), .pointer (some ⟨x, 0, none⟩), .pointer (some ⟨x, 0, none⟩), .pointer (some ⟨x, 0, none⟩), .slice (some ⟨bi, oi, none⟩) n cp, .int .i64 (k : Int), .pointer (some ⟨bi, oi + k * 10, none⟩), .agg #[.int .i64 iop, .int .i64 ix, .int .i64 iy, .int .i64 i_n, .int .i64 imn, .int .i64 imx, .int .u64 is0, .int .u64 is1, .int .u64 is2, .int .u64 is3], l 33, l 34, l 35, l 36, .int .i64 (k : Int), l 38, l 39, l 40, l 41, l 42, l 43, l 44, l 45, l 46, l 47, l 48, l 49, l 50, l 51, l 52, l 53, l 54, l 55, l 56, l 57, l 58, l 59, l 60, l 61, l 62, l 63, l 64, l 65, l 66, l 67, l 68, l 69, l 70, l 71, l 72, l 73, l 74, l 75, l 76, l 77, l 78, l 79, l 80, l 81, l 82, l 83, l 84, l 85, l 86, l 87, l 88, l 89, l 90, l 91, l 92, l 93, l 94, l 95, l 96, l 97, l 98, l 99, l 100, l 101, l 102, l 103, l 104, l 105, l 106, l 107, l 108, l 109, l 110, l 111, l 112, l 113, l 114, l 115, l 116, l 117, l 118, l 119, l 120, l 121, l 122, l 123], []⟩ (W.drew.alloc (.cells #[.int .i64 0, .int .i64 0, .int .i64 0, .int .i64 0, .int .i64 0, .int .i64 0, .int .u64 0, .int .u64 0, .int .u64 0, .int .u64 0] 39)) reg6 := by
  conv => arg 7; whnf
  unfold AnyAt
  dsimp only
  obtain ⟨c3, l3, d0, d7, lx, hk, t0, lt, li, e0, e1, e2, e3, e4, e5, e6, e7, e8, e9⟩ := id hf
  refine wpAnyIn_ready (rs := [8, 16]) (by kernel_rfl) (by simp) ?_
  refine AllReadyIn.cons rfl (fun K hK => ?_) ?_
  · go_simp
    refine hK _ _ ?_
    clear hK K
    refine wpAnyIn_take (i := 9) (v := ?_) rfl rfl (by kernel_rfl) (by kernel_rfl) (by kernel_rfl) (fun _ _ _ h => h) ⟨Or.inl ⟨by rfl, ?_⟩, fun _ => rfl⟩ ?_
    rotate_left
    · intro w; go_simp; try with_reducible rfl
    refine wpAnyIn_take (i := 10) (v := ?_) rfl rfl (by kernel_rfl) (by kernel_rfl) (by kernel_rfl) (fun _ _ _ h => h) ⟨Or.inl ⟨by rfl, ?_⟩, fun _ => rfl⟩ ?_
    rotate_left
    · intro w; go_simp; try with_reducible rfl
    exact reg6_111111111110100100 hf hend
  refine AllReadyIn.cons rfl (fun K hK => ?_) ?_
  · go_simp
    refine hK _ _ ?_
    clear hK K
    exact reg6_111111110000100110 hf hend
  exact AllReadyIn.nil
set_option maxHeartbeats 4000000 in
set_option maxRecDepth 1000000 in
theorem reg6_000001001111111100 {l : Nat → Value} {R : Act → World → Prop} {b3 x k bi oi bt n cp ct : Nat} {fm iop ix iy i_n imn imx is0 is1 is2 is3 : Int} {W : World}
    (hf : R6 b3 x k bi oi bt n cp ct fm iop ix iy i_n imn imx is0 is1 is2 is3 W)
    (hend : E6 l R b3 x k bi oi bt n cp ct fm iop ix iy i_n imn imx is0 is1 is2 is3 W) :
    AnyAt 7 (Exit.then R (fun _ _ _ => False)) 9 #[false, false, false, false, false, true, false, false, true, true, true, true, true, true, true, true, false, false] ⟨#[l 0, l 1, l 2, .pointer (some ⟨b3, 0, none⟩), l 4, l 5, l 6, l 7, .int .i64 (k : Int), .pointer (some ⟨W.heap.size, 0, none⟩), l 10, l 11, l 12, l 13, l 14, l 15, l 16, l 17, l 18, l 19, l 20, l 21, l 22, l 23, l 24, l 25, l 26, l 27, l 28, l 29, .int .i64 (k : Int), l 31, l 32, .pointer (some ⟨x, 0, none⟩), .pointer (some ⟨x, 0, none⟩), .pointer (some ⟨x, 7, none⟩), .slice (some ⟨bt, 0, none⟩) n ct, .int .i64 (k : Int), .pointer (some ⟨bt, k, none⟩), .int .i64 fm, l 40, l 41, l 42, l 43, l 44, l 45, l 46, l 47, l 48, l 49, l 50, l 51, l 52, l 53, l 54, l 55, l 56, l 57, l 58, l 59, l 60, l 61, l 62, l 63, l 64, l 65, l 66, l 67, l 68, l 69, l 70, l 71, l 72, l 73, l 74, l 75, l 76, l 77, l 78, l 79, l 80, l 81, l 82, l 83, l 84, l 85, l 86, l 87, l 88, l 89, l 90, l 91, l 92, l 93, l 94, l 95, l 96, l 97, l 98, l 99, l 100, l 101, l 102, l 103, l 104, l 105, l 106, l 107, l 108, l 109, l 110, l 111, l 112, l 113, l 114, l 115, l 116, l 117, l 118, l 119, l 120, l 121, l 122, l 123], []⟩ (W.drew.alloc (.cells #[.int .i64 0, .int .i64 0, .int .i64 0, .int .i64 0, .int .i64 0, .int .i64 0, .int .u64 0, .int .u64 0, .int .u64 0, .int .u64 0] 39)) reg6 := by
  conv => arg 7; whnf
  unfold AnyAt
  dsimp only
  obtain ⟨c3, l3, d0, d7, lx, hk, t0, lt, li, e0, e1, e2, e3, e4, e5, e6, e7, e8, e9⟩ := id hf
  refine wpAnyIn_ready (rs := [0]) (by kernel_rfl) (by simp) ?_
  refine AllReadyIn.cons rfl (fun K hK => ?_) ?_
  · go_simp
    refine hK _ _ ?_
    clear hK K
    refine wpAnyIn_take (i := 1) (v := ?_) rfl rfl (by kernel_rfl) (by kernel_rfl) (by kernel_rfl) (fun _ _ _ h => h) ⟨Or.inl ⟨by rfl, ?_⟩, fun _ => rfl⟩ ?_
    rotate_left
    · intro w; go_simp; try with_reducible rfl
    refine wpAnyIn_take (i := 2) (v := ?_) rfl rfl (by kernel_rfl) (by kernel_rfl) (by kernel_rfl) (fun _ _ _ h => h) ⟨Or.inl ⟨by rfl, ?_⟩, fun _ => rfl⟩ ?_
    rotate_left
    · intro w; go_simp; try with_reducible rfl
    refine wpAnyIn_take (i := 3) (v := ?_) rfl rfl (by kernel_rfl) (by kernel_rfl) (by kernel_rfl) (fun _ _ _ h => h) ⟨Or.inl ⟨by rfl, ?_⟩, fun _ => rfl⟩ ?_
    rotate_left
    · intro w; go_simp; try with_reducible rfl
    exact reg6_111101001111111100 hf hend
  exact AllReadyIn.nil
set_option maxHeartbeats 4000000 in
set_option maxRecDepth 1000000 in
theorem reg6_111111100000100100 {l : Nat → Value} {R : Act → World → Prop} {b3 x k bi oi bt n cp ct : Nat} {fm iop ix iy i_n imn imx is0 is1 is2 is3 : Int} {W : World}
    (hf : R6 b3 x k bi oi bt n cp ct fm iop ix iy i_n imn imx is0 is1 is2 is3 W)
    (hend : E6 l R b3 x k bi oi bt n cp ct fm iop ix iy i_n imn imx is0 is1 is2 is3 W) :
    AnyAt 7 (Exit.then R (fun _ _ _ => False)) 9 #[true, true, true, true, true, true, true, false, false, false, false, false, true, false, false, true, false, false] ⟨#[l 0, l 1, l 2, .pointer (some ⟨b3, 0, none⟩), l 4, l 5, l 6, l 7, .int .i64 (k : Int), .pointer (some ⟨W.heap.size, 0, none⟩), l 10, l 11, l 12, l 13, l 14, l 15, l 16, l 17, l 18, l 19, l 20, l 21, l 22, l 23, l 24, .pointer (some ⟨x, 0, none⟩), .pointer (some ⟨x, 0, none⟩), .pointer (some ⟨x, 0, none⟩), .pointer (some ⟨x, 0, none⟩), .slice (some ⟨bi, oi, none⟩) n cp, .int .i64 (k : Int), .pointer (some ⟨bi, oi + k * 10, none⟩), l 32, l 33, l 34, l 35, l 36, .int .i64 (k : Int), l 38, l 39, l 40, l 41, l 42, l 43, l 44, l 45, l 46, l 47, l 48, l 49, l 50, l 51, l 52, l 53, l 54, l 55, l 56, l 57, l 58, l 59, l 60, l 61, l 62, l 63, l 64, l 65, l 66, l 67, l 68, l 69, l 70, l 71, l 72, l 73, l 74, l 75, l 76, l 77, l 78, l 79, l 80, l 81, l 82, l 83, l 84, l 85, l 86, l 87, l 88, l 89, l 90, l 91, l 92, l 93, l 94, l 95, l 96, l 97, l 98, l 99, l 100, l 101, l 102, l 103, l 104, l 105, l 106, l 107, l 108, l 109, l 110, l 111, l 112, l 113, l 114, l 115, l 116, l 117, l 118, l 119, l 120, l 121, l 122, l 123], []⟩ (W.drew.alloc (.cells #[.int .i64 0, .int .i64 0, .int .i64 0, .int .i64 0, .int .i64 0, .int .i64 0, .int .u64 0, .int .u64 0, .int .u64 0, .int .u64 0] 39)) reg6 := by
  conv => arg 7; whnf
  unfold AnyAt
  dsimp only
  obtain ⟨c3, l3, d0, d7, lx, hk, t0, lt, li, e0, e1, e2, e3, e4, e5, e6, e7, e8, e9⟩ := id hf
  refine wpAnyIn_ready (rs := [7, 8]) (by kernel_rfl) (by simp) ?_
  refine AllReadyIn.cons rfl (fun K hK => ?_) ?_
  · go_simp
    refine hK _ _ ?_
    clear hK K
    exact reg6_111111110000100100 hf hend
  refine AllReadyIn.cons rfl (fun K hK => ?_) ?_
  · go_simp
    refine hK _ _ ?_
    clear hK K
    refine wpAnyIn_take (i := 9) (v := ?_) rfl rfl (by kernel_rfl) (by kernel_rfl) (by kernel_rfl) (fun _ _ _ h => h) ⟨Or.inl ⟨by rfl, ?_⟩, fun _ => rfl⟩ ?_
    rotate_left
    · intro w; go_simp; try with_reducible rfl
    refine wpAnyIn_take (i := 10) (v := ?_) rfl rfl (by kernel_rfl) (by kernel_rfl) (by kernel_rfl) (fun _ _ _ h => h) ⟨Or.inl ⟨by rfl, ?_⟩, fun _ => rfl⟩ ?_
    rotate_left
    · intro w; go_simp; try with_reducible rfl
    exact reg6_111111101110100100 hf hend
  exact AllReadyIn.nil
set_option maxHeartbeats 4000000 in
set_option maxRecDepth 1000000 in
theorem reg6_111101001110100000 {l : Nat → Value} {R : Act → World → Prop} {b3 x k bi oi bt n cp ct : Nat} {fm iop ix iy i_n imn imx is0 is1 is2 is3 : Int} {W : World}
    (hf : R6 b3 x k bi oi bt n cp ct fm iop ix iy i_n imn imx is0 is1 is2 is3 W)
    (hend : E6 l R b3 x k bi oi bt n cp ct fm iop ix iy i_n imn imx is0 is1 is2 is3 W) :
    AnyAt 7 (Exit.then R (fun _ _ _ => False)) 9 #[true, true, true, true, false, true, false, false, true, true, true, false, true, false, false, false, false, false] ⟨#[l 0, l 1, l 2, .pointer (some ⟨b3, 0, none⟩), l 4, l 5, l 6, l 7, .int .i64 (k : Int), l 9, l 10, l 11, l 12, l 13, l 14, l 15, l 16, l 17, l 18, l 19, l 20, l 21, l 22, l 23, l 24, .pointer (some ⟨x, 0, none⟩), .pointer (some ⟨x, 0, none⟩), .pointer (some ⟨x, 0, none⟩), .pointer (some ⟨x, 0, none⟩), l 29, .int .i64 (k : Int), l 31, l 32, .pointer (some ⟨x, 0, none⟩), .pointer (some ⟨x, 0, none⟩), .pointer (some ⟨x, 7, none⟩), l 36, .int .i64 (k : Int), l 38, l 39, l 40, l 41, l 42, l 43, l 44, l 45, l 46, l 47, l 48, l 49, l 50, l 51, l 52, l 53, l 54, l 55, l 56, l 57, l 58, l 59, l 60, l 61, l 62, l 63, l 64, l 65, l 66, l 67, l 68, l 69, l 70, l 71, l 72, l 73, l 74, l 75, l 76, l 77, l 78, l 79, l 80, l 81, l 82, l 83, l 84, l 85, l 86, l 87, l 88, l 89, l 90, l 91, l 92, l 93, l 94, l 95, l 96, l 97, l 98, l 99, l 100, l 101, l 102, l 103, l 104, l 105, l 106, l 107, l 108, l 109, l 110, l 111, l 112, l 113, l 114, l 115, l 116, l 117, l 118, l 119, l 120, l 121, l 122, l 123], []⟩ (W.drew) reg6 := by
  conv => arg 7; whnf
  unfold AnyAt
  dsimp only
  obtain ⟨c3, l3, d0, d7, lx, hk, t0, lt, li, e0, e1, e2, e3, e4, e5, e6, e7, e8, e9⟩ := id hf
  refine wpAnyIn_ready (rs := [4, 11, 15]) (by kernel_rfl) (by simp) ?_
  refine AllReadyIn.cons rfl (fun K hK => ?_) ?_
  · go_simp
    refine hK _ _ ?_
    clear hK K
    refine wpAnyIn_take (i := 6) (v := ?_) rfl rfl (by kernel_rfl) (by kernel_rfl) (by kernel_rfl) (fun _ _ _ h => h) ⟨Or.inl ⟨by rfl, ?_⟩, fun _ => rfl⟩ ?_
    rotate_left
    · intro w; go_simp; try with_reducible rfl
    exact reg6_111111101110100000 hf hend
  refine AllReadyIn.cons rfl (fun K hK => ?_) ?_
  · go_simp
    refine hK _ _ ?_
    clear hK K
    refine wpAnyIn_take (i := 13) (v := ?_) rfl rfl (by kernel_rfl) (by kernel_rfl) (by kernel_rfl) (fun _ _ _ h => h) ⟨Or.inl ⟨by rfl, ?_⟩, fun _ => rfl⟩ ?_
    rotate_left
    · intro w; go_simp; try with_reducible rfl
    exact reg6_111101001111110000 hf hend
  refine AllReadyIn.cons rfl (fun K hK => ?_) ?_
  · go_simp
    refine hK _ _ ?_
    clear hK K
    exact reg6_111101001110100100 hf hend
  exact AllReadyIn.nil
set_option maxHeartbeats 4000000 in
set_option maxRecDepth 1000000 in
theorem reg6_111111110000100000 {l : Nat → Value} {R : Act → World → Prop} {b3 x k bi oi bt n cp ct : Nat} {fm iop ix iy i_n imn imx is0 is1 is2 is3 : Int} {W : World}
    (hf : R6 b3 x k bi oi bt n cp ct fm iop ix iy i_n imn imx is0 is1 is2 is3 W)
    (hend : E6 l R b3 x k bi oi bt n cp ct fm iop ix iy i_n imn imx is0 is1 is2 is3 W) :
    AnyAt 7 (Exit.then R (fun _ _ _ => False)) 9 #[true, true, true, true, true, true, true, true, false, false, false, false, true, false, false, false, false, false] ⟨#[l 0, l 1, l 2, .pointer (some ⟨b3, 0, none⟩), l 4, l 5, l 6, l 7, .int .i64 (k : Int), l 9, l 10, l 11, l 12, l 13, l 14, l 15, l 16, l 17, l 18, l 19, l 20, l 21, l 22, l 23, l 24, .pointer (some ⟨x, 0, none⟩), .pointer (some ⟨x, 0, none⟩), .pointer (some ⟨x, 0, none⟩), .pointer (some ⟨x, 0, none⟩), .slice (some ⟨bi, oi, none⟩) n cp, .int .i64 (k : Int), .pointer (some ⟨bi, oi + k * 10, none⟩), .agg #[.int .i64 iop, .int .i64 ix, .int .i64 iy, .int .i64 i_n, .int .i64 imn, .int .i64 imx, .int .u64 is0, .int .u64 is1, .int .u64 is2, .int .u64 is3], l 33, l 34, l 35, l 36, .int .i64 (k : Int), l 38, l 39, l 40, l 41, l 42, l 43, l 44, l 45, l 46, l 47, l 48, l 49, l 50, l 51, l 52, l 53, l 54, l 55, l 56, l 57, l 58, l 59, l 60, l 61, l 62, l 63, l 64, l 65, l 66, l 67, l 68, l 69, l 70, l 71, l 72, l 73, l 74, l 75, l 76, l 77, l 78, l 79, l 80, l 81, l 82, l 83, l 84, l 85, l 86, l 87, l 88, l 89, l 90, l 91, l 92, l 93, l 94, l 95, l 96, l 97, l 98, l 99, l 100, l 101, l 102, l 103, l 104, l 105, l 106, l 107, l 108, l 109, l 110, l 111, l 112, l 113, l 114, l 115, l 116, l 117, l 118, l 119, l 120, l 121, l 122, l 123], []⟩ (W.drew) reg6 := by
  conv => arg 7; whnf
  unfold AnyAt
  dsimp only
  obtain ⟨c3, l3, d0, d7, lx, hk, t0, lt, li, e0, e1, e2, e3, e4, e5, e6, e7, e8, e9⟩ := id hf
  refine wpAnyIn_ready (rs := [8, 15]) (by kernel_rfl) (by simp) ?_
  refine AllReadyIn.cons rfl (fun K hK => ?_) ?_
  · go_simp
    refine hK _ _ ?_
    clear hK K
    refine wpAnyIn_take (i := 9) (v := ?_) rfl rfl (by kernel_rfl) (by kernel_rfl) (by kernel_rfl) (fun _ _ _ h => h) ⟨Or.inl ⟨by rfl, ?_⟩, fun _ => rfl⟩ ?_
    rotate_left
    · intro w; go_simp; try with_reducible rfl
    refine wpAnyIn_take (i := 10) (v := ?_) rfl rfl (by kernel_rfl) (by kernel_rfl) (by kernel_rfl) (fun _ _ _ h => h) ⟨Or.inl ⟨by rfl, ?_⟩, fun _ => rfl⟩ ?_
    rotate_left
    · intro w; go_simp; try with_reducible rfl
    exact reg6_111111111110100000 hf hend
  refine AllReadyIn.cons rfl (fun K hK => ?_) ?_
  · go_simp
    refine hK _ _ ?_
    clear hK K
    exact reg6_111111110000100100 hf hend
  exact AllReadyIn.nil
set_option maxHeartbeats 4000000 in
set_option maxRecDepth 1000000 in
theorem reg6_000001001111110100 {l : Nat → Value} {R : Act → World → Prop} {b3 x k bi oi bt n cp ct : Nat} {fm iop ix iy i_n imn imx is0 is1 is2 is3 : Int} {W : World}
    (hf : R6 b3 x k bi oi bt n cp ct fm iop ix iy i_n imn imx is0 is1 is2 is3 W)
    (hend : E6 l R b3 x k bi oi bt n cp ct fm iop ix iy i_n imn imx is0 is1 is2 is3 W) :
    AnyAt 7 (Exit.then R (fun _ _ _ => False)) 10 #[false, false, false, false, false, true, false, false, true, true, true, true, true, true, false, true, false, false] ⟨#[l 0, l 1, l 2, .pointer (some ⟨b3, 0, none⟩), l 4, l 5, l 6, l 7, .int .i64 (k : Int), .pointer (some ⟨W.heap.size, 0, none⟩), l 10, l 11, l 12, l 13, l 14, l 15, l 16, l 17, l 18, l 19, l 20, l 21, l 22, l 23, l 24, l 25, l 26, l 27, l 28, l 29, .int .i64 (k : Int), l 31, l 32, .pointer (some ⟨x, 0, none⟩), .pointer (some ⟨x, 0, none⟩), .pointer (some ⟨x, 7, none⟩), .slice (some ⟨bt, 0, none⟩) n ct, .int .i64 (k : Int), .pointer (some ⟨bt, k, none⟩), l 39, l 40, l 41, l 42, l 43, l 44, l 45, l 46, l 47, l 48, l 49, l 50, l 51, l 52, l 53, l 54, l 55, l 56, l 57, l 58, l 59, l 60, l 61, l 62, l 63, l 64, l 65, l 66, l 67, l 68, l 69, l 70, l 71, l 72, l 73, l 74, l 75, l 76, l 77, l 78, l 79, l 80, l 81, l 82, l 83, l 84, l 85, l 86, l 87, l 88, l 89, l 90, l 91, l 92, l 93, l 94, l 95, l 96, l 97, l 98, l 99, l 100, l 101, l 102, l 103, l 104, l 105, l 106, l 107, l 108, l 109, l 110, l 111, l 112, l 113, l 114, l 115, l 116, l 117, l 118, l 119, l 120, l 121, l 122, l 123], []⟩ (W.drew.alloc (.cells #[.int .i64 0, .int .i64 0, .int .i64 0, .int .i64 0, .int .i64 0, .int .i64 0, .int .u64 0, .int .u64 0, .int .u64 0, .int .u64 0] 39)) reg6 := by
  conv => arg 7; whnf
  unfold AnyAt
  dsimp only
  obtain ⟨c3, l3, d0, d7, lx, hk, t0, lt, li, e0, e1, e2, e3, e4, e5, e6, e7, e8, e9⟩ := id hf
  refine wpAnyIn_ready (rs := [0, 14]) (by kernel_rfl) (by simp) ?_
  refine AllReadyIn.cons rfl (fun K hK => ?_) ?_
  · go_simp
    refine hK _ _ ?_
    clear hK K
    refine wpAnyIn_take (i := 1) (v := ?_) rfl rfl (by kernel_rfl) (by kernel_rfl) (by kernel_rfl) (fun _ _ _ h => h) ⟨Or.inl ⟨by rfl, ?_⟩, fun _ => rfl⟩ ?_
    rotate_left
    · intro w; go_simp; try with_reducible rfl
    refine wpAnyIn_take (i := 2) (v := ?_) rfl rfl (by kernel_rfl) (by kernel_rfl) (by kernel_rfl) (fun _ _ _ h => h) ⟨Or.inl ⟨by rfl, ?_⟩, fun _ => rfl⟩ ?_
    rotate_left
    · intro w; go_simp; try with_reducible rfl
    refine wpAnyIn_take (i := 3) (v := ?_) rfl rfl (by kernel_rfl) (by kernel_rfl) (by kernel_rfl) (fun _ _ _ h => h) ⟨Or.inl ⟨by rfl, ?_⟩, fun _ => rfl⟩ ?_
    rotate_left
    · intro w; go_simp; try with_reducible rfl
    exact reg6_111101001111110100 hf hend
  refine AllReadyIn.cons rfl (fun K hK => ?_) ?_
  · go_simp
    refine hK _ _ ?_
    clear hK K
    exact reg6_000001001111111100 hf hend
  exact AllReadyIn.nil
set_option maxHeartbeats 4000000 in
set_option maxRecDepth 1000000 in
theorem reg6_000001001111111000 {l : Nat → Value} {R : Act → World → Prop} {b3 x k bi oi bt n cp ct : Nat} {fm iop ix iy i_n imn imx is0 is1 is2 is3 : Int} {W : World}
    (hf : R6 b3 x k bi oi bt n cp ct fm iop ix iy i_n imn imx is0 is1 is2 is3 W)
    (hend : E6 l R b3 x k bi oi bt n cp ct fm iop ix iy i_n imn imx is0 is1 is2 is3 W) :
    AnyAt 7 (Exit.then R (fun _ _ _ => False)) 10 #[false, false, false, false, false, true, false, false, true, true, true, true, true, true, true, false, false, false] ⟨#[l 0, l 1, l 2, .pointer (some ⟨b3, 0, none⟩), l 4, l 5, l 6, l 7, .int .i64 (k : Int), l 9, l 10, l 11, l 12, l 13, l 14, l 15, l 16, l 17, l 18, l 19, l 20, l 21, l 22, l 23, l 24, l 25, l 26, l 27, l 28, l 29, .int .i64 (k : Int), l 31, l 32, .pointer (some ⟨x, 0, none⟩), .pointer (some ⟨x, 0, none⟩), .pointer (some ⟨x, 7, none⟩), .slice (some ⟨bt, 0, none⟩) n ct, .int .i64 (k : Int), .pointer (some ⟨bt, k, none⟩), .int .i64 fm, l 40, l 41, l 42, l 43, l 44, l 45, l 46, l 47, l 48, l 49, l 50, l 51, l 52, l 53, l 54, l 55, l 56, l 57, l 58, l 59, l 60, l 61, l 62, l 63, l 64, l 65, l 66, l 67, l 68, l 69, l 70, l 71, l 72, l 73, l 74, l 75, l 76, l 77, l 78, l 79, l 80, l 81, l 82, l 83, l 84, l 85, l 86, l 87, l 88, l 89, l 90, l 91, l 92, l 93, l 94, l 95, l 96, l 97, l 98, l 99, l 100, l 101, l 102, l 103, l 104, l 105, l 106, l 107, l 108, l 109, l 110, l 111, l 112, l 113, l 114, l 115, l 116, l 117, l 118, l 119, l 120, l 121, l 122, l 123], []⟩ (W.drew) reg6 := by
  conv => arg 7; whnf
  unfold AnyAt
  dsimp only
  obtain ⟨c3, l3, d0, d7, lx, hk, t0, lt, li, e0, e1, e2, e3, e4, e5, e6, e7, e8, e9⟩ := id hf
  refine wpAnyIn_ready (rs := [0, 15]) (by kernel_rfl) (by simp) ?_
  refine AllReadyIn.cons rfl (fun K hK => ?_) ?_
  · go_simp
    refine hK _ _ ?_
    clear hK K
    refine wpAnyIn_take (i := 1) (v := ?_) rfl rfl (by kernel_rfl) (by kernel_rfl) (by kernel_rfl) (fun _ _ _ h => h) ⟨Or.inl ⟨by rfl, ?_⟩, fun _ => rfl⟩ ?_
    rotate_left
    · intro w; go_simp; try with_reducible rfl
    refine wpAnyIn_take (i := 2) (v := ?_) rfl rfl (by kernel_rfl) (by kernel_rfl) (by kernel_rfl) (fun _ _ _ h => h) ⟨Or.inl ⟨by rfl, ?_⟩, fun _ => rfl⟩ ?_
    rotate_left
    · intro w; go_simp; try with_reducible rfl
    refine wpAnyIn_take (i := 3) (v := ?_) rfl rfl (by kernel_rfl) (by kernel_rfl) (by kernel_rfl) (fun _ _ _ h => h) ⟨Or.inl ⟨by rfl, ?_⟩, fun _ => rfl⟩ ?_
    rotate_left
    · intro w; go_simp; try with_reducible rfl
    exact reg6_111101001111111000 hf hend
  refine AllReadyIn.cons rfl (fun K hK => ?_) ?_
  · go_simp
    refine hK _ _ ?_
    clear hK K
    exact reg6_000001001111111100 hf hend
  exact AllReadyIn.nil
set_option maxHeartbeats 4000000 in
set_option maxRecDepth 1000000 in
theorem reg6_111111100000100000 {l : Nat → Value} {R : Act → World → Prop} {b3 x k bi oi bt n cp ct : Nat} {fm iop ix iy i_n imn imx is0 is1 is2 is3 : Int} {W : World}
    (hf : R6 b3 x k bi oi bt n cp ct fm iop ix iy i_n imn imx is0 is1 is2 is3 W)
    (hend : E6 l R b3 x k bi oi bt n cp ct fm iop ix iy i_n imn imx is0 is1 is2 is3 W) :
    AnyAt 7 (Exit.then R (fun _ _ _ => False)) 10 #[true, true, true, true, true, true, true, false, false, false, false, false, true, false, false, false, false, false] ⟨#[l 0, l 1, l 2, .pointer (some ⟨b3, 0, none⟩), l 4, l 5, l 6, l 7, .int .i64 (k : Int), l 9, l 10, l 11, l 12, l 13, l 14, l 15, l 16, l 17, l 18, l 19, l 20, l 21, l 22, l 23, l 24, .pointer (some ⟨x, 0, none⟩), .pointer (some ⟨x, 0, none⟩), .pointer (some ⟨x, 0, none⟩), .pointer (some ⟨x, 0, none⟩), .slice (some ⟨bi, oi, none⟩) n cp, .int .i64 (k : Int), .pointer (some ⟨bi, oi + k * 10, none⟩), l 32, l 33, l 34, l 35, l 36, .int .i64 (k : Int), l 38, l 39, l 40, l 41, l 42, l 43, l 44, l 45, l 46, l 47, l 48, l 49, l 50, l 51, l 52, l 53, l 54, l 55, l 56, l 57, l 58, l 59, l 60, l 61, l 62, l 63, l 64, l 65, l 66, l 67, l 68, l 69, l 70, l 71, l 72, l 73, l 74, l 75, l 76, l 77, l 78, l 79, l 80, l 81, l 82, l 83, l 84, l 85, l 86, l 87, l 88, l 89, l 90, l 91, l 92, l 93, l 94, l 95, l 96, l 97, l 98, l 99, l 100, l 101, l 102, l 103, l 104, l 105, l 106, l 107, l 108, l 109, l 110, l 111, l 112, l 113, l 114, l 115, l 116, l 117, l 118, l 119, l 120, l 121, l 122, l 123], []⟩ (W.drew) reg6 := by
  conv => arg 7; whnf
  unfold AnyAt
  dsimp only
  obtain ⟨c3, l3, d0, d7, lx, hk, t0, lt, li, e0, e1, e2, e3, e4, e5, e6, e7, e8, e9⟩ := id hf
  refine wpAnyIn_ready (rs := [7, 8, 15]) (by kernel_rfl) (by simp) ?_
  refine AllReadyIn.cons rfl (fun K hK => ?_) ?_
  · go_simp
    refine hK _ _ ?_
    clear hK K
    exact reg6_111111110000100000 hf hend
  refine AllReadyIn.cons rfl (fun K hK => ?_) ?_
  · go_simp
    refine hK _ _ ?_
    clear hK K
    refine wpAnyIn_take (i := 9) (v := ?_) rfl rfl (by kernel_rfl) (by kernel_rfl) (by kernel_rfl) (fun _ _ _ h => h) ⟨Or.inl ⟨by rfl, ?_⟩, fun _ => rfl⟩ ?_
    rotate_left
    · intro w; go_simp; try with_reducible rfl
    refine wpAnyIn_take (i := 10) (v := ?_) rfl rfl (by kernel_rfl) (by kernel_rfl) (by kernel_rfl) (fun _ _ _ h => h) ⟨Or.inl ⟨by rfl, ?_⟩, fun _ => rfl⟩ ?_
    rotate_left
    · intro w; go_simp; try with_reducible rfl
    exact reg6_111111101110100000 hf hend
  refine AllReadyIn.cons rfl (fun K hK => ?_) ?_
  · go_simp
    refine hK _ _ ?_
    clear hK K
    exact reg6_111111100000100100 hf hend
  exact AllReadyIn.nil
set_option maxHeartbeats 4000000 in
set_option maxRecDepth 1000000 in
theorem reg6_111101000000100100 {l : Nat → Value} {R : Act → World → Prop} {b3 x k bi oi bt n cp ct : Nat} {fm iop ix iy i_n imn imx is0 is1 is2 is3 : Int} {W : World}
    (hf : R6 b3 x k bi oi bt n cp ct fm iop ix iy i_n imn imx is0 is1 is2 is3 W)
    (hend : E6 l R b3 x k bi oi bt n cp ct fm iop ix iy i_n imn imx is0 is1 is2 is3 W) :
    AnyAt 7 (Exit.then R (fun _ _ _ => False)) 11 #[true, true, true, true, false, true, false, false, false, false, false, false, true, false, false, true, false, false] ⟨#[l 0, l 1, l 2, .pointer (some ⟨b3, 0, none⟩), l 4, l 5, l 6, l 7, .int .i64 (k : Int), .pointer (some ⟨W.heap.size, 0, none⟩), l 10, l 11, l 12, l 13, l 14, l 15, l 16, l 17, l 18, l 19, l 20, l 21, l 22, l 23, l 24, .pointer (some ⟨x, 0, none⟩), .pointer (some ⟨x, 0, none⟩), .pointer (some ⟨x, 0, none⟩), .pointer (some ⟨x, 0, none⟩), l 29, .int .i64 (k : Int), l 31, l 32, l 33, l 34, l 35, l 36, .int .i64 (k : Int), l 38, l 39, l 40, l 41, l 42, l 43, l 44, l 45, l 46, l 47, l 48, l 49, l 50, l 51, l 52, l 53, l 54, l 55, l 56, l 57, l 58, l 59, l 60, l 61, l 62, l 63, l 64, l 65, l 66, l 67, l 68, l 69, l 70, l 71, l 72, l 73, l 74, l 75, l 76, l 77, l 78, l 79, l 80, l 81, l 82, l 83, l 84, l 85, l 86, l 87, l 88, l 89, l 90, l 91, l 92, l 93, l 94, l 95, l 96, l 97, l 98, l 99, l 100, l 101, l 102, l 103, l 104, l 105, l 106, l 107, l 108, l 109, l 110, l 111, l 112, l 113, l 114, l 115, l 116, l 117, l 118, l 119, l 120, l 121, l 122, l 123], []⟩ (W.drew.alloc (.cells #[.int .i64 0, .int .i64 0, .int .i64 0, .int .i64 0, .int .i64 0, .int .i64 0, .int .u64 0, .int .u64 0, .int .u64 0, .int .u64 0] 39)) reg6 := by
  conv => arg 7; whnf
  unfold AnyAt
  dsimp only
  obtain ⟨c3, l3, d0, d7, lx, hk, t0, lt, li, e0, e1, e2, e3, e4, e5, e6, e7, e8, e9⟩ := id hf
  refine wpAnyIn_ready (rs := [4, 8]) (by kernel_rfl) (by simp) ?_
  refine AllReadyIn.cons rfl (fun K hK => ?_) ?_
  · go_simp
    refine hK _ _ ?_
    clear hK K
    refine wpAnyIn_take (i := 6) (v := ?_) rfl rfl (by kernel_rfl) (by kernel_rfl) (by kernel_rfl) (fun _ _ _ h => h) ⟨Or.inl ⟨by rfl, ?_⟩, fun _ => rfl⟩ ?_
    rotate_left
    · intro w; go_simp; try with_reducible rfl
    exact reg6_111111100000100100 hf hend
  refine AllReadyIn.cons rfl (fun K hK => ?_) ?_
  · go_simp
    refine hK _ _ ?_
    clear hK K
    refine wpAnyIn_take (i := 9) (v := ?_) rfl rfl (by kernel_rfl) (by kernel_rfl) (by kernel_rfl) (fun _ _ _ h => h) ⟨Or.inl ⟨by rfl, ?_⟩, fun _ => rfl⟩ ?_
    rotate_left
    · intro w; go_simp; try with_reducible rfl
    refine wpAnyIn_take (i := 10) (v := ?_) rfl rfl (by kernel_rfl) (by kernel_rfl) (by kernel_rfl) (fun _ _ _ h => h) ⟨Or.inl ⟨by rfl, ?_⟩, fun _ => rfl⟩ ?_
    rotate_left
    · intro w; go_simp; try with_reducible rfl
    exact reg6_111101001110100100 hf hend
  exact AllReadyIn.nil
set_option maxHeartbeats 4000000 in
set_option maxRecDepth 1000000 in
theorem reg6_000001001111110000 {l : Nat → Value} {R : Act → World → Prop} {b3 x k bi oi bt n cp ct : Nat} {fm iop ix iy i_n imn imx is0 is1 is2 is3 : Int} {W : World}
    (hf : R6 b3 x k bi oi bt n cp ct fm iop ix iy i_n imn imx is0 is1 is2 is3 W)
    (hend : E6 l R b3 x k bi oi bt n cp ct fm iop ix iy i_n imn imx is0 is1 is2 is3 W) :
    AnyAt 7 (Exit.then R (fun _ _ _ => False)) 11 #[false, false, false, false, false, true, false, false, true, true, true, true, true, true, false, false, false, false] ⟨#[l 0, l 1, l 2, .pointer (some ⟨b3, 0, none⟩), l 4, l 5, l 6, l 7, .int .i64 (k : Int), l 9, l 10, l 11, l 12, l 13, l 14, l 15, l 16, l 17, l 18, l 19, l 20, l 21, l 22, l 23, l 24, l 25, l 26, l 27, l 28, l 29, .int .i64 (k : Int), l 31, l 32, .pointer (some ⟨x, 0, none⟩), .pointer (some ⟨x, 0, none⟩), .pointer (some ⟨x, 7, none⟩), .slice (some ⟨bt, 0, none⟩) n ct, .int .i64 (k : Int), .pointer (some ⟨bt, k, none⟩), l 39, l 40, l 41, l 42, l 43, l 44, l 45, l 46, l 47, l 48, l 49, l 50, l 51, l 52, l 53, l 54, l 55, l 56, l 57, l 58, l 59, l 60, l 61, l 62, l 63, l 64, l 65, l 66, l 67, l 68, l 69, l 70, l 71, l 72, l 73, l 74, l 75, l 76, l 77, l 78, l 79, l 80, l 81, l 82, l 83, l 84, l 85, l 86, l 87, l 88, l 89, l 90, l 91, l 92, l 93, l 94, l 95, l 96, l 97, l 98, l 99, l 100, l 101, l 102, l 103, l 104, l 105, l 106, l 107, l 108, l 109, l 110, l 111, l 112, l 113, l 114, l 115, l 116, l 117, l 118, l 119, l 120, l 121, l 122, l 123], []⟩ (W.drew) reg6 := by
  conv => arg 7; whnf
  unfold AnyAt
  dsimp only
  obtain ⟨c3, l3, d0, d7, lx, hk, t0, lt, li, e0, e1, e2, e3, e4, e5, e6, e7, e8, e9⟩ := id hf
  refine wpAnyIn_ready (rs := [0, 14, 15]) (by kernel_rfl) (by simp) ?_
  refine AllReadyIn.cons rfl (fun K hK => ?_) ?_
  · go_simp
    refine hK _ _ ?_
    clear hK K
    refine wpAnyIn_take (i := 1) (v := ?_) rfl rfl (by kernel_rfl) (by kernel_rfl) (by kernel_rfl) (fun _ _ _ h => h) ⟨Or.inl ⟨by rfl, ?_⟩, fun _ => rfl⟩ ?_
    rotate_left
    · intro w; go_simp; try with_reducible rfl
    refine wpAnyIn_take (i := 2) (v := ?_) rfl rfl (by kernel_rfl) (by kernel_rfl) (by kernel_rfl) (fun _ _ _ h => h) ⟨Or.inl ⟨by rfl, ?_⟩, fun _ => rfl⟩ ?_
    rotate_left
    · intro w; go_simp; try with_reducible rfl
    refine wpAnyIn_take (i := 3) (v := ?_) rfl rfl (by kernel_rfl) (by kernel_rfl) (by kernel_rfl) (fun _ _ _ h => h) ⟨Or.inl ⟨by rfl, ?_⟩, fun _ => rfl⟩ ?_
    rotate_left
    · intro w; go_simp; try with_reducible rfl
    exact reg6_111101001111110000 hf hend
  refine AllReadyIn.cons rfl (fun K hK => ?_) ?_
  · go_simp
    refine hK _ _ ?_
    clear hK K
    exact reg6_000001001111111000 hf hend
  refine AllReadyIn.cons rfl (fun K hK => ?_) ?_
  · go_simp
    refine hK _ _ ?_
    clear hK K
    exact reg6_000001001111110100 hf hend
  exact AllReadyIn.nil
set_option maxHeartbeats 4000000 in
set_option maxRecDepth 1000000 in
theorem reg6_111101000000100000 {l : Nat → Value} {R : Act → World → Prop} {b3 x k bi oi bt n cp ct : Nat} {fm iop ix iy i_n imn imx is0 is1 is2 is3 : Int} {W : World}
    (hf : R6 b3 x k bi oi bt n cp ct fm iop ix iy i_n imn imx is0 is1 is2 is3 W)
    (hend : E6 l R b3 x k bi oi bt n cp ct fm iop ix iy i_n imn imx is0 is1 is2 is3 W) :
    AnyAt 7 (Exit.then R (fun _ _ _ => False)) 12 #[true, true, true, true, false, true, false, false, false, false, false, false, true, false, false, false, false, false] ⟨#[l 0, l 1, l 2, .pointer (some ⟨b3, 0, none⟩), l 4, l 5, l 6, l 7, .int .i64 (k : Int), l 9, l 10, l 11, l 12, l 13, l 14, l 15, l 16, l 17, l 18, l 19, l 20, l 21, l 22, l 23, l 24, .pointer (some ⟨x, 0, none⟩), .pointer (some ⟨x, 0, none⟩), .pointer (some ⟨x, 0, none⟩), .pointer (some ⟨x, 0, none⟩), l 29, .int .i64 (k : Int), l 31, l 32, l 33, l 34, l 35, l 36, .int .i64 (k : Int), l 38, l 39, l 40, l 41, l 42, l 43, l 44, l 45, l 46, l 47, l 48, l 49, l 50, l 51, l 52, l 53, l 54, l 55, l 56, l 57, l 58, l 59, l 60, l 61, l 62, l 63, l 64, l 65, l 66, l 67, l 68, l 69, l 70, l 71, l 72, l 73, l 74, l 75, l 76, l 77, l 78, l 79, l 80, l 81, l 82, l 83, l 84, l 85, l 86, l 87, l 88, l 89, l 90, l 91, l 92, l 93, l 94, l 95, l 96, l 97, l 98, l 99, l 100, l 101, l 102, l 103, l 104, l 105, l 106, l 107, l 108, l 109, l 110, l 111, l 112, l 113, l 114, l 115, l 116, l 117, l 118, l 119, l 120, l 121, l 122, l 123], []⟩ (W.drew) reg6 := by
  conv => arg 7; whnf
  unfold AnyAt
  dsimp only
  obtain ⟨c3, l3, d0, d7, lx, hk, t0, lt, li, e0, e1, e2, e3, e4, e5, e6, e7, e8, e9⟩ := id hf
  refine wpAnyIn_ready (rs := [4, 8, 15]) (by kernel_rfl) (by simp) ?_
  refine AllReadyIn.cons rfl (fun K hK => ?_) ?_
  · go_simp
    refine hK _ _ ?_
    clear hK K
    refine wpAnyIn_take (i := 6) (v := ?_) rfl rfl (by kernel_rfl) (by kernel_rfl) (by kernel_rfl) (fun _ _ _ h => h) ⟨Or.inl ⟨by rfl, ?_⟩, fun _ => rfl⟩ ?_
    rotate_left
    · intro w; go_simp; try with_reducible rfl
    exact reg6_111111100000100000 hf hend
  refine AllReadyIn.cons rfl (fun K hK => ?_) ?_
  · go_simp
    refine hK _ _ ?_
    clear hK K
    refine wpAnyIn_take (i := 9) (v := ?_) rfl rfl (by kernel_rfl) (by kernel_rfl) (by kernel_rfl) (fun _ _ _ h => h) ⟨Or.inl ⟨by rfl, ?_⟩, fun _ => rfl⟩ ?_
    rotate_left
    · intro w; go_simp; try with_reducible rfl
    refine wpAnyIn_take (i := 10) (v := ?_) rfl rfl (by kernel_rfl) (by kernel_rfl) (by kernel_rfl) (fun _ _ _ h => h) ⟨Or.inl ⟨by rfl, ?_⟩, fun _ => rfl⟩ ?_
    rotate_left
    · intro w; go_simp; try with_reducible rfl
    exact reg6_111101001110100000 hf hend
  refine AllReadyIn.cons rfl (fun K hK => ?_) ?_
  · go_simp
    refine hK _ _ ?_
    clear hK K
    exact reg6_111101000000100100 hf hend
  exact AllReadyIn.nil
set_option maxHeartbeats 4000000 in
set_option maxRecDepth 1000000 in
theorem reg6_000001001110100100 {l : Nat → Value} {R : Act → World → Prop} {b3 x k bi oi bt n cp ct : Nat} {fm iop ix iy i_n imn imx is0 is1 is2 is3 : Int} {W : World}
    (hf : R6 b3 x k bi oi bt n cp ct fm iop ix iy i_n imn imx is0 is1 is2 is3 W)
    (hend : E6 l R b3 x k bi oi bt n cp ct fm iop ix iy i_n imn imx is0 is1 is2 is3 W) :
    AnyAt 7 (Exit.then R (fun _ _ _ => False)) 12 #[false, false, false, false, false, true, false, false, true, true, true, false, true, false, false, true, false, false] ⟨#[l 0, l 1, l 2, .pointer (some ⟨b3, 0, none⟩), l 4, l 5, l 6, l 7, .int .i64 (k : Int), .pointer (some ⟨W.heap.size, 0, none⟩), l 10, l 11, l 12, l 13, l 14, l 15, l 16, l 17, l 18, l 19, l 20, l 21, l 22, l 23, l 24, l 25, l 26, l 27, l 28, l 29, .int .i64 (k : Int), l 31, l 32, .pointer (some ⟨x, 0, none⟩), .pointer (some ⟨x, 0, none⟩), .pointer (some ⟨x, 7, none⟩), l 36, .int .i64 (k : Int), l 38, l 39, l 40, l 41, l 42, l 43, l 44, l 45, l 46, l 47, l 48, l 49, l 50, l 51, l 52, l 53, l 54, l 55, l 56, l 57, l 58, l 59, l 60, l 61, l 62, l 63, l 64, l 65, l 66, l 67, l 68, l 69, l 70, l 71, l 72, l 73, l 74, l 75, l 76, l 77, l 78, l 79, l 80, l 81, l 82, l 83, l 84, l 85, l 86, l 87, l 88, l 89, l 90, l 91, l 92, l 93, l 94, l 95, l 96, l 97, l 98, l 99, l 100, l 101, l 102, l 103, l 104, l 105, l 106, l 107, l 108, l 109, l 110, l 111, l 112, l 113, l 114, l 115, l 116, l 117, l 118, l 119, l 120, l 121, l 122, l 123], []⟩ (W.drew.alloc (.cells #[.int .i64 0, .int .i64 0, .int .i64 0, .int .i64 0, .int .i64 0, .int .i64 0, .int .u64 0, .int .u64 0, .int .u64 0, .int .u64 0] 39)) reg6 := by
  conv => arg 7; whnf
  unfold AnyAt
  dsimp only
  obtain ⟨c3, l3, d0, d7, lx, hk, t0, lt, li, e0, e1, e2, e3, e4, e5, e6, e7, e8, e9⟩ := id hf
  refine wpAnyIn_ready (rs := [0, 11]) (by kernel_rfl) (by simp) ?_
  refine AllReadyIn.cons rfl (fun K hK => ?_) ?_
  · go_simp
    refine hK _ _ ?_
    clear hK K
    refine wpAnyIn_take (i := 1) (v := ?_) rfl rfl (by kernel_rfl) (by kernel_rfl) (by kernel_rfl) (fun _ _ _ h => h) ⟨Or.inl ⟨by rfl, ?_⟩, fun _ => rfl⟩ ?_
    rotate_left
    · intro w; go_simp; try with_reducible rfl
    refine wpAnyIn_take (i := 2) (v := ?_) rfl rfl (by kernel_rfl) (by kernel_rfl) (by kernel_rfl) (fun _ _ _ h => h) ⟨Or.inl ⟨by rfl, ?_⟩, fun _ => rfl⟩ ?_
    rotate_left
    · intro w; go_simp; try with_reducible rfl
    refine wpAnyIn_take (i := 3) (v := ?_) rfl rfl (by kernel_rfl) (by kernel_rfl) (by kernel_rfl) (fun _ _ _ h => h) ⟨Or.inl ⟨by rfl, ?_⟩, fun _ => rfl⟩ ?_
    rotate_left
    · intro w; go_simp; try with_reducible rfl
    exact reg6_111101001110100100 hf hend
  refine AllReadyIn.cons rfl (fun K hK => ?_) ?_
  · go_simp
    refine hK _ _ ?_
    clear hK K
    refine wpAnyIn_take (i := 13) (v := ?_) rfl rfl (by kernel_rfl) (by kernel_rfl) (by kernel_rfl) (fun _ _ _ h => h) ⟨Or.inl ⟨by rfl, ?_⟩, fun _ => rfl⟩ ?_
    rotate_left
    · intro w; go_simp; try with_reducible rfl
    exact reg6_000001001111110100 hf hend
  exact AllReadyIn.nil
set_option maxHeartbeats 4000000 in
set_option maxRecDepth 1000000 in
theorem reg6_000001001110100000 {l : Nat → Value} {R : Act → World → Prop} {b3 x k bi oi bt n cp ct : Nat} {fm iop ix iy i_n imn imx is0 is1 is2 is3 : Int} {W : World}
    (hf : R6 b3 x k bi oi bt n cp ct fm iop ix iy i_n imn imx is0 is1 is2 is3 W)
    (hend : E6 l R b3 x k bi oi bt n cp ct fm iop ix iy i_n imn imx is0 is1 is2 is3 W) :
    AnyAt 7 (Exit.then R (fun _ _ _ => False)) 13 #[false, false, false, false, false, true, false, false, true, true, true, false, true, false, false, false, false, false] ⟨#[l 0, l 1, l 2, .pointer (some ⟨b3, 0, none⟩), l 4, l 5, l 6, l 7, .int .i64 (k : Int), l 9, l 10, l 11, l 12, l 13, l 14, l 15, l 16, l 17, l 18, l 19, l 20, l 21, l 22, l 23, l 24, l 25, l 26, l 27, l 28, l 29, .int .i64 (k : Int), l 31, l 32, .pointer (some ⟨x, 0, none⟩), .pointer (some ⟨x, 0, none⟩), .pointer (some ⟨x, 7, none⟩), l 36, .int .i64 (k : Int), l 38, l 39, l 40, l 41, l 42, l 43, l 44, l 45, l 46, l 47, l 48, l 49, l 50, l 51, l 52, l 53, l 54, l 55, l 56, l 57, l 58, l 59, l 60, l 61, l 62, l 63, l 64, l 65, l 66, l 67, l 68, l 69, l 70, l 71, l 72, l 73, l 74, l 75, l 76, l 77, l 78, l 79, l 80, l 81, l 82, l 83, l 84, l 85, l 86, l 87, l 88, l 89, l 90, l 91, l 92, l 93, l 94, l 95, l 96, l 97, l 98, l 99, l 100, l 101, l 102, l 103, l 104, l 105, l 106, l 107, l 108, l 109, l 110, l 111, l 112, l 113, l 114, l 115, l 116, l 117, l 118, l 119, l 120, l 121, l 122, l 123], []⟩ (W.drew) reg6 := by
  conv => arg 7; whnf
  unfold AnyAt
  dsimp only
  obtain ⟨c3, l3, d0, d7, lx, hk, t0, lt, li, e0, e1, e2, e3, e4, e5, e6, e7, e8, e9⟩ := id hf
  refine wpAnyIn_ready (rs := [0, 11, 15]) (by kernel_rfl) (by simp) ?_
  refine AllReadyIn.cons rfl (fun K hK => ?_) ?_
  · go_simp
    refine hK _ _ ?_
    clear hK K
    refine wpAnyIn_take (i := 1) (v := ?_) rfl rfl (by kernel_rfl) (by kernel_rfl) (by kernel_rfl) (fun _ _ _ h => h) ⟨Or.inl ⟨by rfl, ?_⟩, fun _ => rfl⟩ ?_
    rotate_left
    · intro w; go_simp; try with_reducible rfl
    refine wpAnyIn_take (i := 2) (v := ?_) rfl rfl (by kernel_rfl) (by kernel_rfl) (by kernel_rfl) (fun _ _ _ h => h) ⟨Or.inl ⟨by rfl, ?_⟩, fun _ => rfl⟩ ?_
    rotate_left
    · intro w; go_simp; try with_reducible rfl
    refine wpAnyIn_take (i := 3) (v := ?_) rfl rfl (by kernel_rfl) (by kernel_rfl) (by kernel_rfl) (fun _ _ _ h => h) ⟨Or.inl ⟨by rfl, ?_⟩, fun _ => rfl⟩ ?_
    rotate_left
    · intro w; go_simp; try with_reducible rfl
    exact reg6_111101001110100000 hf hend
  refine AllReadyIn.cons rfl (fun K hK => ?_) ?_
  · go_simp
    refine hK _ _ ?_
    clear hK K
    refine wpAnyIn_take (i := 13) (v := ?_) rfl rfl (by kernel_rfl) (by kernel_rfl) (by kernel_rfl) (fun _ _ _ h => h) ⟨Or.inl ⟨by rfl, ?_⟩, fun _ => rfl⟩ ?_
    rotate_left
    · intro w; go_simp; try with_reducible rfl
    exact reg6_000001001111110000 hf hend
  refine AllReadyIn.cons rfl (fun K hK => ?_) ?_
  · go_simp
    refine hK _ _ ?_
    clear hK K
    exact reg6_000001001110100100 hf hend
  exact AllReadyIn.nil
set_option maxHeartbeats 4000000 in
set_option maxRecDepth 1000000 in
theorem reg6_000001000000100100 {l : Nat → Value} {R : Act → World → Prop} {b3 x k bi oi bt n cp ct : Nat} {fm iop ix iy i_n imn imx is0 is1 is2 is3 : Int} {W : World}
    (hf : R6 b3 x k bi oi bt n cp ct fm iop ix iy i_n imn imx is0 is1 is2 is3 W)
    (hend : E6 l R b3 x k bi oi bt n cp ct fm iop ix iy i_n imn imx is0 is1 is2 is3 W) :
    AnyAt 7 (Exit.then R (fun _ _ _ => False)) 15 #[false, false, false, false, false, true, false, false, false, false, false, false, true, false, false, true, false, false] ⟨#[l 0, l 1, l 2, .pointer (some ⟨b3, 0, none⟩), l 4, l 5, l 6, l 7, .int .i64 (k : Int), .pointer (some ⟨W.heap.size, 0, none⟩), l 10, l 11, l 12, l 13, l 14, l 15, l 16, l 17, l 18, l 19, l 20, l 21, l 22, l 23, l 24, l 25, l 26, l 27, l 28, l 29, .int .i64 (k : Int), l 31, l 32, l 33, l 34, l 35, l 36, .int .i64 (k : Int), l 38, l 39, l 40, l 41, l 42, l 43, l 44, l 45, l 46, l 47, l 48, l 49, l 50, l 51, l 52, l 53, l 54, l 55, l 56, l 57, l 58, l 59, l 60, l 61, l 62, l 63, l 64, l 65, l 66, l 67, l 68, l 69, l 70, l 71, l 72, l 73, l 74, l 75, l 76, l 77, l 78, l 79, l 80, l 81, l 82, l 83, l 84, l 85, l 86, l 87, l 88, l 89, l 90, l 91, l 92, l 93, l 94, l 95, l 96, l 97, l 98, l 99, l 100, l 101, l 102, l 103, l 104, l 105, l 106, l 107, l 108, l 109, l 110, l 111, l 112, l 113, l 114, l 115, l 116, l 117, l 118, l 119, l 120, l 121, l 122, l 123], []⟩ (W.drew.alloc (.cells #[.int .i64 0, .int .i64 0, .int .i64 0, .int .i64 0, .int .i64 0, .int .i64 0, .int .u64 0, .int .u64 0, .int .u64 0, .int .u64 0] 39)) reg6 := by
  conv => arg 7; whnf
  unfold AnyAt
  dsimp only
  obtain ⟨c3, l3, d0, d7, lx, hk, t0, lt, li, e0, e1, e2, e3, e4, e5, e6, e7, e8, e9⟩ := id hf
  refine wpAnyIn_ready (rs := [0, 8]) (by kernel_rfl) (by simp) ?_
  refine AllReadyIn.cons rfl (fun K hK => ?_) ?_
  · go_simp
    refine hK _ _ ?_
    clear hK K
    refine wpAnyIn_take (i := 1) (v := ?_) rfl rfl (by kernel_rfl) (by kernel_rfl) (by kernel_rfl) (fun _ _ _ h => h) ⟨Or.inl ⟨by rfl, ?_⟩, fun _ => rfl⟩ ?_
    rotate_left
    · intro w; go_simp; try with_reducible rfl
    refine wpAnyIn_take (i := 2) (v := ?_) rfl rfl (by kernel_rfl) (by kernel_rfl) (by kernel_rfl) (fun _ _ _ h => h) ⟨Or.inl ⟨by rfl, ?_⟩, fun _ => rfl⟩ ?_
    rotate_left
    · intro w; go_simp; try with_reducible rfl
    refine wpAnyIn_take (i := 3) (v := ?_) rfl rfl (by kernel_rfl) (by kernel_rfl) (by kernel_rfl) (fun _ _ _ h => h) ⟨Or.inl ⟨by rfl, ?_⟩, fun _ => rfl⟩ ?_
    rotate_left
    · intro w; go_simp; try with_reducible rfl
    exact reg6_111101000000100100 hf hend
  refine AllReadyIn.cons rfl (fun K hK => ?_) ?_
  · go_simp
    refine hK _ _ ?_
    clear hK K
    refine wpAnyIn_take (i := 9) (v := ?_) rfl rfl (by kernel_rfl) (by kernel_rfl) (by kernel_rfl) (fun _ _ _ h => h) ⟨Or.inl ⟨by rfl, ?_⟩, fun _ => rfl⟩ ?_
    rotate_left
    · intro w; go_simp; try with_reducible rfl
    refine wpAnyIn_take (i := 10) (v := ?_) rfl rfl (by kernel_rfl) (by kernel_rfl) (by kernel_rfl) (fun _ _ _ h => h) ⟨Or.inl ⟨by rfl, ?_⟩, fun _ => rfl⟩ ?_
    rotate_left
    · intro w; go_simp; try with_reducible rfl
    exact reg6_000001001110100100 hf hend
  exact AllReadyIn.nil
set_option maxHeartbeats 4000000 in
set_option maxRecDepth 1000000 in
theorem reg6_000001000000100000 {l : Nat → Value} {R : Act → World → Prop} {b3 x k bi oi bt n cp ct : Nat} {fm iop ix iy i_n imn imx is0 is1 is2 is3 : Int} {W : World}
    (hf : R6 b3 x k bi oi bt n cp ct fm iop ix iy i_n imn imx is0 is1 is2 is3 W)
    (hend : E6 l R b3 x k bi oi bt n cp ct fm iop ix iy i_n imn imx is0 is1 is2 is3 W) :
    AnyAt 7 (Exit.then R (fun _ _ _ => False)) 16 #[false, false, false, false, false, true, false, false, false, false, false, false, true, false, false, false, false, false] ⟨#[l 0, l 1, l 2, .pointer (some ⟨b3, 0, none⟩), l 4, l 5, l 6, l 7, .int .i64 (k : Int), l 9, l 10, l 11, l 12, l 13, l 14, l 15, l 16, l 17, l 18, l 19, l 20, l 21, l 22, l 23, l 24, l 25, l 26, l 27, l 28, l 29, .int .i64 (k : Int), l 31, l 32, l 33, l 34, l 35, l 36, .int .i64 (k : Int), l 38, l 39, l 40, l 41, l 42, l 43, l 44, l 45, l 46, l 47, l 48, l 49, l 50, l 51, l 52, l 53, l 54, l 55, l 56, l 57, l 58, l 59, l 60, l 61, l 62, l 63, l 64, l 65, l 66, l 67, l 68, l 69, l 70, l 71, l 72, l 73, l 74, l 75, l 76, l 77, l 78, l 79, l 80, l 81, l 82, l 83, l 84, l 85, l 86, l 87, l 88, l 89, l 90, l 91, l 92, l 93, l 94, l 95, l 96, l 97, l 98, l 99, l 100, l 101, l 102, l 103, l 104, l 105, l 106, l 107, l 108, l 109, l 110, l 111, l 112, l 113, l 114, l 115, l 116, l 117, l 118, l 119, l 120, l 121, l 122, l 123], []⟩ (W.drew) reg6 := by
  conv => arg 7; whnf
  unfold AnyAt
  dsimp only
  obtain ⟨c3, l3, d0, d7, lx, hk, t0, lt, li, e0, e1, e2, e3, e4, e5, e6, e7, e8, e9⟩ := id hf
  refine wpAnyIn_ready (rs := [0, 8, 15]) (by kernel_rfl) (by simp) ?_
  refine AllReadyIn.cons rfl (fun K hK => ?_) ?_
  · go_simp
    refine hK _ _ ?_
    clear hK K
    refine wpAnyIn_take (i := 1) (v := ?_) rfl rfl (by kernel_rfl) (by kernel_rfl) (by kernel_rfl) (fun _ _ _ h => h) ⟨Or.inl ⟨by rfl, ?_⟩, fun _ => rfl⟩ ?_
    rotate_left
    · intro w; go_simp; try with_reducible rfl
    refine wpAnyIn_take (i := 2) (v := ?_) rfl rfl (by kernel_rfl) (by kernel_rfl) (by kernel_rfl) (fun _ _ _ h => h) ⟨Or.inl ⟨by rfl, ?_⟩, fun _ => rfl⟩ ?_
    rotate_left
    · intro w; go_simp; try with_reducible rfl
    refine wpAnyIn_take (i := 3) (v := ?_) rfl rfl (by kernel_rfl) (by kernel_rfl) (by kernel_rfl) (fun _ _ _ h => h) ⟨Or.inl ⟨by rfl, ?_⟩, fun _ => rfl⟩ ?_
    rotate_left
    · intro w; go_simp; try with_reducible rfl
    exact reg6_111101000000100000 hf hend
  refine AllReadyIn.cons rfl (fun K hK => ?_) ?_
  · go_simp
    refine hK _ _ ?_
    clear hK K
    refine wpAnyIn_take (i := 9) (v := ?_) rfl rfl (by kernel_rfl) (by kernel_rfl) (by kernel_rfl) (fun _ _ _ h => h) ⟨Or.inl ⟨by rfl, ?_⟩, fun _ => rfl⟩ ?_
    rotate_left
    · intro w; go_simp; try with_reducible rfl
    refine wpAnyIn_take (i := 10) (v := ?_) rfl rfl (by kernel_rfl) (by kernel_rfl) (by kernel_rfl) (fun _ _ _ h => h) ⟨Or.inl ⟨by rfl, ?_⟩, fun _ => rfl⟩ ?_
    rotate_left
    · intro w; go_simp; try with_reducible rfl
    exact reg6_000001001110100000 hf hend
  refine AllReadyIn.cons rfl (fun K hK => ?_) ?_
  · go_simp
    refine hK _ _ ?_
    clear hK K
    exact reg6_000001000000100100 hf hend
  exact AllReadyIn.nil
set_option maxHeartbeats 4000000 in
set_option maxRecDepth 1000000 in
theorem reg6C (r : Nat) {l0 l1 l2 l4 l5 l6 l7 l9 l10 l11 l12 l13 l14 l15 l16 l17 l18 l19 l20 l21 l22 l23 l24 l25 l26 l27 l28 l29 l30 l31 l32 l33 l34 l35 l36 l37 l38 l39 l40 l41 l42 l43 l44 l45 l46 l47 l48 l49 l50 l51 l52 l53 l54 l55 l56 l57 l58 l59 l60 l61 l62 l63 l64 l65 l66 l67 l68 l69 l70 l71 l72 l73 l74 l75 l76 l77 l78 l79 l80 l81 l82 l83 l84 l85 l86 l87 l88 l89 l90 l91 l92 l93 l94 l95 l96 l97 l98 l99 l100 l101 l102 l103 l104 l105 l106 l107 l108 l109 l110 l111 l112 l113 l114 l115 l116 l117 l118 l119 l120 l121 l122 l123 : Value} {R : Act → World → Prop} {b3 x k bi oi bt n cp ct : Nat} {fm iop ix iy i_n imn imx is0 is1 is2 is3 : Int} {W : World} (hf : R6 b3 x k bi oi bt n cp ct fm iop ix iy i_n imn imx is0 is1 is2 is3 W)
    (hend : R ⟨#[l0, l1, l2, .pointer (some ⟨b3, 0, none⟩), l4, l5, l6, l7, .int .i64 (k : Int), .pointer (some ⟨W.heap.size, 0, none⟩), .int .i64 fm, l11, l12, l13, l14, l15, l16, l17, l18, l19, l20, l21, l22, l23, l24, .pointer (some ⟨x, 0, none⟩), .pointer (some ⟨x, 0, none⟩), .pointer (some ⟨x, 0, none⟩), .pointer (some ⟨x, 0, none⟩), .slice (some ⟨bi, oi, none⟩) n cp, .int .i64 (k : Int), .pointer (some ⟨bi, oi + k * 10, none⟩), .agg #[.int .i64 iop, .int .i64 ix, .int .i64 iy, .int .i64 i_n, .int .i64 imn, .int .i64 imx, .int .u64 is0, .int .u64 is1, .int .u64 is2, .int .u64 is3], .pointer (some ⟨x, 0, none⟩), .pointer (some ⟨x, 0, none⟩), .pointer (some ⟨x, 7, none⟩), .slice (some ⟨bt, 0, none⟩) n ct, .int .i64 (k : Int), .pointer (some ⟨bt, k, none⟩), .int .i64 fm, l40, l41, l42, l43, l44, l45, l46, l47, l48, l49, l50, l51, l52, l53, l54, l55, l56, l57, l58, l59, l60, l61, l62, l63, l64, l65, l66, l67, l68, l69, l70, l71, l72, l73, l74, l75, l76, l77, l78, l79, l80, l81, l82, l83, l84, l85, l86, l87, l88, l89, l90, l91, l92, l93, l94, l95, l96, l97, l98, l99, l100, l101, l102, l103, l104, l105, l106, l107, l108, l109, l110, l111, l112, l113, l114, l115, l116, l117, l118, l119, l120, l121, l122, l123], []⟩ (W.drew.alloc (.cells #[.int .i64 iop, .int .i64 ix, .int .i64 iy, .int .i64 i_n, .int .i64 imn, .int .i64 imx, .int .u64 is0, .int .u64 is1, .int .u64 is2, .int .u64 is3] 39))) :
    reg6.wpIn (Fence.wide.inRound r) 7 Try.prog (Exit.then R (fun _ _ _ => False)) ⟨#[l0, l1, l2, .pointer (some ⟨b3, 0, none⟩), l4, l5, l6, l7, .int .i64 (k : Int), l9, l10, l11, l12, l13, l14, l15, l16, l17, l18, l19, l20, l21, l22, l23, l24, l25, l26, l27, l28, l29, l30, l31, l32, l33, l34, l35, l36, l37, l38, l39, l40, l41, l42, l43, l44, l45, l46, l47, l48, l49, l50, l51, l52, l53, l54, l55, l56, l57, l58, l59, l60, l61, l62, l63, l64, l65, l66, l67, l68, l69, l70, l71, l72, l73, l74, l75, l76, l77, l78, l79, l80, l81, l82, l83, l84, l85, l86, l87, l88, l89, l90, l91, l92, l93, l94, l95, l96, l97, l98, l99, l100, l101, l102, l103, l104, l105, l106, l107, l108, l109, l110, l111, l112, l113, l114, l115, l116, l117, l118, l119, l120, l121, l122, l123], []⟩ W := by
  conv => arg 4; whnf
  refine anyAt_round (by intro o ho; revert o ho; decide) ?_
  show wpAnyIn _ _ _ _ _ _ _ _ _ _
  refine wpAnyIn_take (i := 5) (v := ?_) rfl rfl (by kernel_rfl) (by kernel_rfl) (by kernel_rfl) (fun _ _ _ h => h) ⟨Or.inl ⟨by rfl, ?_⟩, fun _ => rfl⟩ ?_
  rotate_left
  · intro w; go_simp; try with_reducible rfl
  refine wpAnyIn_take (i := 12) (v := ?_) rfl rfl (by kernel_rfl) (by kernel_rfl) (by kernel_rfl) (fun _ _ _ h => h) ⟨Or.inl ⟨by rfl, ?_⟩, fun _ => rfl⟩ ?_
  rotate_left
  · intro w; go_simp; try with_reducible rfl
  exact reg6_000001000000100000 (l := fun i => ([l0, l1, l2, .bool false, l4, l5, l6, l7, .bool false, l9, l10, l11, l12, l13, l14, l15, l16, l17, l18, l19, l20, l21, l22, l23, l24, l25, l26, l27, l28, l29, l30, l31, l32, l33, l34, l35, l36, l37, l38, l39, l40, l41, l42, l43, l44, l45, l46, l47, l48, l49, l50, l51, l52, l53, l54, l55, l56, l57, l58, l59, l60, l61, l62, l63, l64, l65, l66, l67, l68, l69, l70, l71, l72, l73, l74, l75, l76, l77, l78, l79, l80, l81, l82, l83, l84, l85, l86, l87, l88, l89, l90, l91, l92, l93, l94, l95, l96, l97, l98, l99, l100, l101, l102, l103, l104, l105, l106, l107, l108, l109, l110, l111, l112, l113, l114, l115, l116, l117, l118, l119, l120, l121, l122, l123] : List Value).getD i (.bool false)) hf hend
/-- What the region reads. -/
structure R13 (b3 b4 bo x at_ : Nat) (line : ByteArray) (c : UInt8) (r : Bool) (is0 is1 is2 is3 : Int) (W : World) : Prop where
  c3 : W.cell? ⟨b3, 0, none⟩ = some (.pointer (some ⟨x, 0, none⟩))
  c4 : W.cell? ⟨b4, 0, none⟩ = some (.int .i64 (at_ : Int))
  d4 : W.cell? ⟨x, 4, none⟩ = some (.string line)
  s0 : W.cell? ⟨bo, 6, none⟩ = some (.int .u64 is0)
  s1 : W.cell? ⟨bo, 7, none⟩ = some (.int .u64 is1)
  s2 : W.cell? ⟨bo, 8, none⟩ = some (.int .u64 is2)
  s3 : W.cell? ⟨bo, 9, none⟩ = some (.int .u64 is3)
  hlt : at_ < line.size
  hle : decide (line.size ≤ at_) = false
  hc : line[at_]'hlt = c
  has : ∀ w, Calls Try.prog 62 #[.agg #[.int .u64 is0, .int .u64 is1, .int .u64 is2, .int .u64 is3], .int .u8 c.toNat] w fun e w' => e = .returned (.bool r) ∧ w' = w.alloc (.cells #[.int .u64 is0, .int .u64 is1, .int .u64 is2, .int .u64 is3] 37)
/-- What is to be shown where it ends. -/
def E13 (l : Nat → Value) (R : Act → World → Prop) (b3 b4 bo x at_ : Nat) (line : ByteArray) (c : UInt8) (r : Bool) (is0 is1 is2 is3 : Int) (W : World) : Prop := R ⟨#[l 0, l 1, l 2, .pointer (some ⟨b3, 0, none⟩), .pointer (some ⟨b4, 0, none⟩), l 5, l 6, l 7, l 8, .pointer (some ⟨bo, 0, none⟩), l 10, l 11, l 12, l 13, l 14, l 15, l 16, l 17, l 18, l 19, l 20, l 21, l 22, l 23, l 24, l 25, l 26, l 27, l 28, l 29, l 30, l 31, l 32, l 33, l 34, l 35, l 36, l 37, l 38, l 39, l 40, l 41, l 42, l 43, l 44, l 45, l 46, l 47, l 48, l 49, l 50, l 51, l 52, l 53, l 54, l 55, l 56, l 57, l 58, l 59, l 60, l 61, l 62, l 63, l 64, l 65, l 66, l 67, l 68, l 69, .int .i64 (at_ : Int), .pointer (some ⟨x, 0, none⟩), .pointer (some ⟨x, 0, none⟩), .pointer (some ⟨x, 4, none⟩), .string line, .int .i64 (line.size : Int), .bool true, .bool true, .pointer (some ⟨bo, 6, none⟩), .agg #[.int .u64 is0, .int .u64 is1, .int .u64 is2, .int .u64 is3], .pointer (some ⟨x, 0, none⟩), .pointer (some ⟨x, 0, none⟩), .pointer (some ⟨x, 4, none⟩), .string line, .int .i64 (at_ : Int), .int .u8 (c.toNat : Int), .bool r, .bool r, l 88, l 89, l 90, l 91, l 92, l 93, l 94, l 95, l 96, l 97, l 98, l 99, l 100, l 101, l 102, l 103, l 104, l 105, l 106, l 107, l 108, l 109, l 110, l 111, l 112, l 113, l 114, l 115, l 116, l 117, l 118, l 119, l 120, l 121, l 122, l 123], []⟩ (W.drew.alloc (.cells #[.int .u64 is0, .int .u64 is1, .int .u64 is2, .int .u64 is3] 37))
set_option maxHeartbeats 4000000 in
set_option maxRecDepth 1000000 in
theorem reg13_111111111111111111 {l : Nat → Value} {R : Act → World → Prop} {b3 b4 bo x at_ : Nat} {line : ByteArray} {c : UInt8} {r : Bool} {is0 is1 is2 is3 : Int} {W : World}
    (hf : R13 b3 b4 bo x at_ line c r is0 is1 is2 is3 W)
    (hend : E13 l R b3 b4 bo x at_ line c r is0 is1 is2 is3 W) :
    AnyAt 7 (Exit.then R (fun _ _ _ => False)) 0 #[true, true, true, true, true, true, true, true, true, true, true, true, true, true, true, true, true, true] ⟨#[l 0, l 1, l 2, .pointer (some ⟨b3, 0, none⟩), .pointer (some ⟨b4, 0, none⟩), l 5, l 6, l 7, l 8, .pointer (some ⟨bo, 0, none⟩), l 10, l 11, l 12, l 13, l 14, l 15, l 16, l 17, l 18, l 19, l 20, l 21, l 22, l 23, l 24, l 25, l 26, l 27, l 28, l 29, l 30, l 31, l 32, l 33, l 34, l 35, l 36, l 37, l 38, l 39, l 40, l 41, l 42, l 43, l 44, l 45, l 46, l 47, l 48, l 49, l 50, l 51, l 52, l 53, l 54, l 55, l 56, l 57, l 58, l 59, l 60, l 61, l 62, l 63, l 64, l 65, l 66, l 67, l 68, l 69, .int .i64 (at_ : Int), .pointer (some ⟨x, 0, none⟩), .pointer (some ⟨x, 0, none⟩), .pointer (some ⟨x, 4, none⟩), .string line, .int .i64 (line.size : Int), .bool true, .bool true, .pointer (some ⟨bo, 6, none⟩), .agg #[.int .u64 is0, .int .u64 is1, .int .u64 is2, .int .u64 is3], .pointer (some ⟨x, 0, none⟩), .pointer (some ⟨x, 0, none⟩), .pointer (some ⟨x, 4, none⟩), .string line, .int .i64 (at_ : Int), .int .u8 (c.toNat : Int), .bool r, .bool r, l 88, l 89, l 90, l 91, l 92, l 93, l 94, l 95, l 96, l 97, l 98, l 99, l 100, l 101, l 102, l 103, l 104, l 105, l 106, l 107, l 108, l 109, l 110, l 111, l 112, l 113, l 114, l 115, l 116, l 117, l 118, l 119, l 120, l 121, l 122, l 123], []⟩ (W.drew.alloc (.cells #[.int .u64 is0, .int .u64 is1, .int .u64 is2, .int .u64 is3] 37)) reg13 := by
  conv => arg 7; whnf
  unfold AnyAt
  dsimp only
  refine wpAnyIn_done (by kernel_rfl) ?_ _
  unfold E13 at hend
  exact hend
set_option maxHeartbeats 4000000 in
set_option maxRecDepth 1000000 in
theorem reg13_111111111111111100 {l : Nat → Value} {R : Act → World → Prop} {b3 b4 bo x at_ : Nat} {line : ByteArray} {c : UInt8} {r : Bool} {is0 is1 is2 is3 : Int} {W : World}
    (hf : R13 b3 b4 bo x at_ line c r is0 is1 is2 is3 W)
    (hend : E13 l R b3 b4 bo x at_ line c r is0 is1 is2 is3 W) :
    AnyAt 7 (Exit.then R (fun _ _ _ => False)) 2 #[true, true, true, true, true, true, true, true, true, true, true, true, true, true, true, true, false, false] ⟨#[l 0, l 1, l 2, .pointer (some ⟨b3, 0, none⟩), .pointer (some ⟨b4, 0, none⟩), l 5, l 6, l 7, l 8, .pointer (some ⟨bo, 0, none⟩), l 10, l 11, l 12, l 13, l 14, l 15, l 16, l 17, l 18, l 19, l 20, l 21, l 22, l 23, l 24, l 25, l 26, l 27, l 28, l 29, l 30, l 31, l 32, l 33, l 34, l 35, l 36, l 37, l 38, l 39, l 40, l 41, l 42, l 43, l 44, l 45, l 46, l 47, l 48, l 49, l 50, l 51, l 52, l 53, l 54, l 55, l 56, l 57, l 58, l 59, l 60, l 61, l 62, l 63, l 64, l 65, l 66, l 67, l 68, l 69, .int .i64 (at_ : Int), .pointer (some ⟨x, 0, none⟩), .pointer (some ⟨x, 0, none⟩), .pointer (some ⟨x, 4, none⟩), .string line, .int .i64 (line.size : Int), .bool true, .bool true, .pointer (some ⟨bo, 6, none⟩), .agg #[.int .u64 is0, .int .u64 is1, .int .u64 is2, .int .u64 is3], .pointer (some ⟨x, 0, none⟩), .pointer (some ⟨x, 0, none⟩), .pointer (some ⟨x, 4, none⟩), .string line, .int .i64 (at_ : Int), .int .u8 (c.toNat : Int), l 86, l 87, l 88, l 89, l 90, l 91, l 92, l 93, l 94, l 95, l 96, l 97, l 98, l 99, l 100, l 101, l 102, l 103, l 104, l 105, l 106, l 107, l 108, l 109, l 110, l 111, l 112, l 113, l 114, l 115, l 116, l 117, l 118, l 119, l 120, l 121, l 122, l 123], []⟩ (W.drew) reg13 := by
  conv => arg 7; whnf
  unfold AnyAt
  dsimp only
  obtain ⟨c3, c4, d4, s0, s1, s2, s3, hlt, hle, hc, has⟩ := id hf
  refine wpAnyIn_ready (rs := [16]) (by kernel_rfl) (by simp) ?_
  refine AllReadyIn.cons rfl (fun K hK => ?_) ?_
  · go_simp
    refine ⟨trivial, ?_⟩
    refine (callsIn_wide.2 (has _)).mono ?_
    rintro e w8 ⟨rfl, rfl⟩
    refine hK _ _ ?_
    clear hK K
    refine wpAnyIn_take (i := 17) (v := ?_) rfl rfl (by kernel_rfl) (by kernel_rfl) (by kernel_rfl) (fun _ _ _ h => h) ⟨Or.inl ⟨by rfl, ?_⟩, fun _ => rfl⟩ ?_
    rotate_left
    · intro w; go_simp; try with_reducible rfl
    exact reg13_111111111111111111 hf hend
  exact AllReadyIn.nil
set_option maxHeartbeats 4000000 in
set_option maxRecDepth 1000000 in
theorem reg13_111111111011111100 {l : Nat → Value} {R : Act → World → Prop} {b3 b4 bo x at_ : Nat} {line : ByteArray} {c : UInt8} {r : Bool} {is0 is1 is2 is3 : Int} {W : World}
    (hf : R13 b3 b4 bo x at_ line c r is0 is1 is2 is3 W)
    (hend : E13 l R b3 b4 bo x at_ line c r is0 is1 is2 is3 W) :
    AnyAt 7 (Exit.then R (fun _ _ _ => False)) 3 #[true, true, true, true, true, true, true, true, true, false, true, true, true, true, true, true, false, false] ⟨#[l 0, l 1, l 2, .pointer (some ⟨b3, 0, none⟩), .pointer (some ⟨b4, 0, none⟩), l 5, l 6, l 7, l 8, .pointer (some ⟨bo, 0, none⟩), l 10, l 11, l 12, l 13, l 14, l 15, l 16, l 17, l 18, l 19, l 20, l 21, l 22, l 23, l 24, l 25, l 26, l 27, l 28, l 29, l 30, l 31, l 32, l 33, l 34, l 35, l 36, l 37, l 38, l 39, l 40, l 41, l 42, l 43, l 44, l 45, l 46, l 47, l 48, l 49, l 50, l 51, l 52, l 53, l 54, l 55, l 56, l 57, l 58, l 59, l 60, l 61, l 62, l 63, l 64, l 65, l 66, l 67, l 68, l 69, .int .i64 (at_ : Int), .pointer (some ⟨x, 0, none⟩), .pointer (some ⟨x, 0, none⟩), .pointer (some ⟨x, 4, none⟩), .string line, .int .i64 (line.size : Int), .bool true, .bool true, .pointer (some ⟨bo, 6, none⟩), l 79, .pointer (some ⟨x, 0, none⟩), .pointer (some ⟨x, 0, none⟩), .pointer (some ⟨x, 4, none⟩), .string line, .int .i64 (at_ : Int), .int .u8 (c.toNat : Int), l 86, l 87, l 88, l 89, l 90, l 91, l 92, l 93, l 94, l 95, l 96, l 97, l 98, l 99, l 100, l 101, l 102, l 103, l 104, l 105, l 106, l 107, l 108, l 109, l 110, l 111, l 112, l 113, l 114, l 115, l 116, l 117, l 118, l 119, l 120, l 121, l 122, l 123], []⟩ (W.drew) reg13 := by
  conv => arg 7; whnf
  unfold AnyAt
  dsimp only
  obtain ⟨c3, c4, d4, s0, s1, s2, s3, hlt, hle, hc, has⟩ := id hf
  refine wpAnyIn_ready (rs := [9]) (by kernel_rfl) (by simp) ?_
  refine AllReadyIn.cons rfl (fun K hK => ?_) ?_
  · go_simp
    refine hK _ _ ?_
    clear hK K
    exact reg13_111111111111111100 hf hend
  exact AllReadyIn.nil
set_option maxHeartbeats 4000000 in
set_option maxRecDepth 1000000 in
theorem reg13_111111111111101000 {l : Nat → Value} {R : Act → World → Prop} {b3 b4 bo x at_ : Nat} {line : ByteArray} {c : UInt8} {r : Bool} {is0 is1 is2 is3 : Int} {W : World}
    (hf : R13 b3 b4 bo x at_ line c r is0 is1 is2 is3 W)
    (hend : E13 l R b3 b4 bo x at_ line c r is0 is1 is2 is3 W) :
    AnyAt 7 (Exit.then R (fun _ _ _ => False)) 4 #[true, true, true, true, true, true, true, true, true, true, true, true, true, false, true, false, false, false] ⟨#[l 0, l 1, l 2, .pointer (some ⟨b3, 0, none⟩), .pointer (some ⟨b4, 0, none⟩), l 5, l 6, l 7, l 8, .pointer (some ⟨bo, 0, none⟩), l 10, l 11, l 12, l 13, l 14, l 15, l 16, l 17, l 18, l 19, l 20, l 21, l 22, l 23, l 24, l 25, l 26, l 27, l 28, l 29, l 30, l 31, l 32, l 33, l 34, l 35, l 36, l 37, l 38, l 39, l 40, l 41, l 42, l 43, l 44, l 45, l 46, l 47, l 48, l 49, l 50, l 51, l 52, l 53, l 54, l 55, l 56, l 57, l 58, l 59, l 60, l 61, l 62, l 63, l 64, l 65, l 66, l 67, l 68, l 69, .int .i64 (at_ : Int), .pointer (some ⟨x, 0, none⟩), .pointer (some ⟨x, 0, none⟩), .pointer (some ⟨x, 4, none⟩), .string line, .int .i64 (line.size : Int), .bool true, .bool true, .pointer (some ⟨bo, 6, none⟩), .agg #[.int .u64 is0, .int .u64 is1, .int .u64 is2, .int .u64 is3], .pointer (some ⟨x, 0, none⟩), .pointer (some ⟨x, 0, none⟩), .pointer (some ⟨x, 4, none⟩), l 83, .int .i64 (at_ : Int), l 85, l 86, l 87, l 88, l 89, l 90, l 91, l 92, l 93, l 94, l 95, l 96, l 97, l 98, l 99, l 100, l 101, l 102, l 103, l 104, l 105, l 106, l 107, l 108, l 109, l 110, l 111, l 112, l 113, l 114, l 115, l 116, l 117, l 118, l 119, l 120, l 121, l 122, l 123], []⟩ (W.drew) reg13 := by
  conv => arg 7; whnf
  unfold AnyAt
  dsimp only
  obtain ⟨c3, c4, d4, s0, s1, s2, s3, hlt, hle, hc, has⟩ := id hf
  refine wpAnyIn_ready (rs := [13]) (by kernel_rfl) (by simp) ?_
  refine AllReadyIn.cons rfl (fun K hK => ?_) ?_
  · go_simp
    refine hK _ _ ?_
    clear hK K
    refine wpAnyIn_take (i := 15) (v := ?_) rfl rfl (by kernel_rfl) (by kernel_rfl) (by kernel_rfl) (fun _ _ _ h => h) ⟨Or.inl ⟨by rfl, ?_⟩, fun _ => rfl⟩ ?_
    rotate_left
    · intro w; go_simp; try with_reducible rfl
    exact reg13_111111111111111100 hf hend
  exact AllReadyIn.nil
set_option maxHeartbeats 4000000 in
set_option maxRecDepth 1000000 in
theorem reg13_111111111111110000 {l : Nat → Value} {R : Act → World → Prop} {b3 b4 bo x at_ : Nat} {line : ByteArray} {c : UInt8} {r : Bool} {is0 is1 is2 is3 : Int} {W : World}
    (hf : R13 b3 b4 bo x at_ line c r is0 is1 is2 is3 W)
    (hend : E13 l R b3 b4 bo x at_ line c r is0 is1 is2 is3 W) :
    AnyAt 7 (Exit.then R (fun _ _ _ => False)) 4 #[true, true, true, true, true, true, true, true, true, true, true, true, true, true, false, false, false, false] ⟨#[l 0, l 1, l 2, .pointer (some ⟨b3, 0, none⟩), .pointer (some ⟨b4, 0, none⟩), l 5, l 6, l 7, l 8, .pointer (some ⟨bo, 0, none⟩), l 10, l 11, l 12, l 13, l 14, l 15, l 16, l 17, l 18, l 19, l 20, l 21, l 22, l 23, l 24, l 25, l 26, l 27, l 28, l 29, l 30, l 31, l 32, l 33, l 34, l 35, l 36, l 37, l 38, l 39, l 40, l 41, l 42, l 43, l 44, l 45, l 46, l 47, l 48, l 49, l 50, l 51, l 52, l 53, l 54, l 55, l 56, l 57, l 58, l 59, l 60, l 61, l 62, l 63, l 64, l 65, l 66, l 67, l 68, l 69, .int .i64 (at_ : Int), .pointer (some ⟨x, 0, none⟩), .pointer (some ⟨x, 0, none⟩), .pointer (some ⟨x, 4, none⟩), .string line, .int .i64 (line.size : Int), .bool true, .bool true, .pointer (some ⟨bo, 6, none⟩), .agg #[.int .u64 is0, .int .u64 is1, .int .u64 is2, .int .u64 is3], .pointer (some ⟨x, 0, none⟩), .pointer (some ⟨x, 0, none⟩), .pointer (some ⟨x, 4, none⟩), .string line, l 84, l 85, l 86, l 87, l 88, l 89, l 90, l 91, l 92, l 93, l 94, l 95, l 96, l 97, l 98, l 99, l 100, l 101, l 102, l 103, l 104, l 105, l 106, l 107, l 108, l 109, l 110, l 111, l 112, l 113, l 114, l 115, l 116, l 117, l 118, l 119, l 120, l 121, l 122, l 123], []⟩ (W.drew) reg13 := by
  conv => arg 7; whnf
  unfold AnyAt
  dsimp only
  obtain ⟨c3, c4, d4, s0, s1, s2, s3, hlt, hle, hc, has⟩ := id hf
  refine wpAnyIn_ready (rs := [14]) (by kernel_rfl) (by simp) ?_
  refine AllReadyIn.cons rfl (fun K hK => ?_) ?_
  · go_simp
    refine hK _ _ ?_
    clear hK K
    refine wpAnyIn_take (i := 15) (v := ?_) rfl rfl (by kernel_rfl) (by kernel_rfl) (by kernel_rfl) (fun _ _ _ h => h) ⟨Or.inl ⟨by rfl, ?_⟩, fun _ => rfl⟩ ?_
    rotate_left
    · intro w; go_simp; try with_reducible rfl
    exact reg13_111111111111111100 hf hend
  exact AllReadyIn.nil
set_option maxHeartbeats 4000000 in
set_option maxRecDepth 1000000 in
theorem reg13_111111111011101000 {l : Nat → Value} {R : Act → World → Prop} {b3 b4 bo x at_ : Nat} {line : ByteArray} {c : UInt8} {r : Bool} {is0 is1 is2 is3 : Int} {W : World}
    (hf : R13 b3 b4 bo x at_ line c r is0 is1 is2 is3 W)
    (hend : E13 l R b3 b4 bo x at_ line c r is0 is1 is2 is3 W) :
    AnyAt 7 (Exit.then R (fun _ _ _ => False)) 5 #[true, true, true, true, true, true, true, true, true, false, true, true, true, false, true, false, false, false] ⟨#[l 0, l 1, l 2, .pointer (some ⟨b3, 0, none⟩), .pointer (some ⟨b4, 0, none⟩), l 5, l 6, l 7, l 8, .pointer (some ⟨bo, 0, none⟩), l 10, l 11, l 12, l 13, l 14, l 15, l 16, l 17, l 18, l 19, l 20, l 21, l 22, l 23, l 24, l 25, l 26, l 27, l 28, l 29, l 30, l 31, l 32, l 33, l 34, l 35, l 36, l 37, l 38, l 39, l 40, l 41, l 42, l 43, l 44, l 45, l 46, l 47, l 48, l 49, l 50, l 51, l 52, l 53, l 54, l 55, l 56, l 57, l 58, l 59, l 60, l 61, l 62, l 63, l 64, l 65, l 66, l 67, l 68, l 69, .int .i64 (at_ : Int), .pointer (some ⟨x, 0, none⟩), .pointer (some ⟨x, 0, none⟩), .pointer (some ⟨x, 4, none⟩), .string line, .int .i64 (line.size : Int), .bool true, .bool true, .pointer (some ⟨bo, 6, none⟩), l 79, .pointer (some ⟨x, 0, none⟩), .pointer (some ⟨x, 0, none⟩), .pointer (some ⟨x, 4, none⟩), l 83, .int .i64 (at_ : Int), l 85, l 86, l 87, l 88, l 89, l 90, l 91, l 92, l 93, l 94, l 95, l 96, l 97, l 98, l 99, l 100, l 101, l 102, l 103, l 104, l 105, l 106, l 107, l 108, l 109, l 110, l 111, l 112, l 113, l 114, l 115, l 116, l 117, l 118, l 119, l 120, l 121, l 122, l 123], []⟩ (W.drew) reg13 := by
  conv => arg 7; whnf
  unfold AnyAt
  dsimp only
  obtain ⟨c3, c4, d4, s0, s1, s2, s3, hlt, hle, hc, has⟩ := id hf
  refine wpAnyIn_ready (rs := [9, 13]) (by kernel_rfl) (by simp) ?_
  refine AllReadyIn.cons rfl (fun K hK => ?_) ?_
  · go_simp
    refine hK _ _ ?_
    clear hK K
    exact reg13_111111111111101000 hf hend
  refine AllReadyIn.cons rfl (fun K hK => ?_) ?_
  · go_simp
    refine hK _ _ ?_
    clear hK K
    refine wpAnyIn_take (i := 15) (v := ?_) rfl rfl (by kernel_rfl) (by kernel_rfl) (by kernel_rfl) (fun _ _ _ h => h) ⟨Or.inl ⟨by rfl, ?_⟩, fun _ => rfl⟩ ?_
    rotate_left
    · intro w; go_simp; try with_reducible rfl
    exact reg13_111111111011111100 hf hend
  exact AllReadyIn.nil
set_option maxHeartbeats 4000000 in
set_option maxRecDepth 1000000 in
theorem reg13_111111111111100000 {l : Nat → Value} {R : Act → World → Prop} {b3 b4 bo x at_ : Nat} {line : ByteArray} {c : UInt8} {r : Bool} {is0 is1 is2 is3 : Int} {W : World}
    (hf : R13 b3 b4 bo x at_ line c r is0 is1 is2 is3 W)
    (hend : E13 l R b3 b4 bo x at_ line c r is0 is1 is2 is3 W) :
    AnyAt 7 (Exit.then R (fun _ _ _ => False)) 5 #[true, true, true, true, true, true, true, true, true, true, true, true, true, false, false, false, false, false] ⟨#[l 0, l 1, l 2, .pointer (some ⟨b3, 0, none⟩), .pointer (some ⟨b4, 0, none⟩), l 5, l 6, l 7, l 8, .pointer (some ⟨bo, 0, none⟩), l 10, l 11, l 12, l 13, l 14, l 15, l 16, l 17, l 18, l 19, l 20, l 21, l 22, l 23, l 24, l 25, l 26, l 27, l 28, l 29, l 30, l 31, l 32, l 33, l 34, l 35, l 36, l 37, l 38, l 39, l 40, l 41, l 42, l 43, l 44, l 45, l 46, l 47, l 48, l 49, l 50, l 51, l 52, l 53, l 54, l 55, l 56, l 57, l 58, l 59, l 60, l 61, l 62, l 63, l 64, l 65, l 66, l 67, l 68, l 69, .int .i64 (at_ : Int), .pointer (some ⟨x, 0, none⟩), .pointer (some ⟨x, 0, none⟩), .pointer (some ⟨x, 4, none⟩), .string line, .int .i64 (line.size : Int), .bool true, .bool true, .pointer (some ⟨bo, 6, none⟩), .agg #[.int .u64 is0, .int .u64 is1, .int .u64 is2, .int .u64 is3], .pointer (some ⟨x, 0, none⟩), .pointer (some ⟨x, 0, none⟩), .pointer (some ⟨x, 4, none⟩), l 83, l 84, l 85, l 86, l 87, l 88, l 89, l 90, l 91, l 92, l 93, l 94, l 95, l 96, l 97, l 98, l 99, l 100, l 101, l 102, l 103, l 104, l 105, l 106, l 107, l 108, l 109, l 110, l 111, l 112, l 113, l 114, l 115, l 116, l 117, l 118, l 119, l 120, l 121, l 122, l 123], []⟩ (W.drew) reg13 := by
  conv => arg 7; whnf
  unfold AnyAt
  dsimp only
  obtain ⟨c3, c4, d4, s0, s1, s2, s3, hlt, hle, hc, has⟩ := id hf
  refine wpAnyIn_ready (rs := [13, 14]) (by kernel_rfl) (by simp) ?_
  refine AllReadyIn.cons rfl (fun K hK => ?_) ?_
  · go_simp
    refine hK _ _ ?_
    clear hK K
    exact reg13_111111111111110000 hf hend
  refine AllReadyIn.cons rfl (fun K hK => ?_) ?_
  · go_simp
    refine hK _ _ ?_
    clear hK K
    exact reg13_111111111111101000 hf hend
  exact AllReadyIn.nil
set_option maxHeartbeats 4000000 in
set_option maxRecDepth 1000000 in
theorem reg13_111111111011110000 {l : Nat → Value} {R : Act → World → Prop} {b3 b4 bo x at_ : Nat} {line : ByteArray} {c : UInt8} {r : Bool} {is0 is1 is2 is3 : Int} {W : World}
    (hf : R13 b3 b4 bo x at_ line c r is0 is1 is2 is3 W)
    (hend : E13 l R b3 b4 bo x at_ line c r is0 is1 is2 is3 W) :
    AnyAt 7 (Exit.then R (fun _ _ _ => False)) 5 #[true, true, true, true, true, true, true, true, true, false, true, true, true, true, false, false, false, false] ⟨#[l 0, l 1, l 2, .pointer (some ⟨b3, 0, none⟩), .pointer (some ⟨b4, 0, none⟩), l 5, l 6, l 7, l 8, .pointer (some ⟨bo, 0, none⟩), l 10, l 11, l 12, l 13, l 14, l 15, l 16, l 17, l 18, l 19, l 20, l 21, l 22, l 23, l 24, l 25, l 26, l 27, l 28, l 29, l 30, l 31, l 32, l 33, l 34, l 35, l 36, l 37, l 38, l 39, l 40, l 41, l 42, l 43, l 44, l 45, l 46, l 47, l 48, l 49, l 50, l 51, l 52, l 53, l 54, l 55, l 56, l 57, l 58, l 59, l 60, l 61, l 62, l 63, l 64, l 65, l 66, l 67, l 68, l 69, .int .i64 (at_ : Int), .pointer (some ⟨x, 0, none⟩), .pointer (some ⟨x, 0, none⟩), .pointer (some ⟨x, 4, none⟩), .string line, .int .i64 (line.size : Int), .bool true, .bool true, .pointer (some ⟨bo, 6, none⟩), l 79, .pointer (some ⟨x, 0, none⟩), .pointer (some ⟨x, 0, none⟩), .pointer (some ⟨x, 4, none⟩), .string line, l 84, l 85, l 86, l 87, l 88, l 89, l 90, l 91, l 92, l 93, l 94, l 95, l 96, l 97, l 98, l 99, l 100, l 101, l 102, l 103, l 104, l 105, l 106, l 107, l 108, l 109, l 110, l 111, l 112, l 113, l 114, l 115, l 116, l 117, l 118, l 119, l 120, l 121, l 122, l 123], []⟩ (W.drew) reg13 := by
  conv => arg 7; whnf
  unfold AnyAt
  dsimp only
  obtain ⟨c3, c4, d4, s0, s1, s2, s3, hlt, hle, hc, has⟩ := id hf
  refine wpAnyIn_ready (rs := [9, 14]) (by kernel_rfl) (by simp) ?_
  refine AllReadyIn.cons rfl (fun K hK => ?_) ?_
  · go_simp
    refine hK _ _ ?_
    clear hK K
    exact reg13_111111111111110000 hf hend
  refine AllReadyIn.cons rfl (fun K hK => ?_) ?_
  · go_simp
    refine hK _ _ ?_
    clear hK K
    refine wpAnyIn_take (i := 15) (v := ?_) rfl rfl (by kernel_rfl) (by kernel_rfl) (by kernel_rfl) (fun _ _ _ h => h) ⟨Or.inl ⟨by rfl, ?_⟩, fun _ => rfl⟩ ?_
    rotate_left
    · intro w; go_simp; try with_reducible rfl
    exact reg13_111111111011111100 hf hend
  exact AllReadyIn.nil
set_option maxHeartbeats 4000000 in
set_option maxRecDepth 1000000 in
theorem reg13_111111111011100000 {l : Nat → Value} {R : Act → World → Prop} {b3 b4 bo x at_ : Nat} {line : ByteArray} {c : UInt8} {r : Bool} {is0 is1 is2 is3 : Int} {W : World}
    (hf : R13 b3 b4 bo x at_ line c r is0 is1 is2 is3 W)
    (hend : E13 l R b3 b4 bo x at_ line c r is0 is1 is2 is3 W) :
    AnyAt 7 (Exit.then R (fun _ _ _ => False)) 6 #[true, true, true, true, true, true, true, true, true, false, true, true, true, false, false, false, false, false] ⟨#[l 0, l 1, l 2, .pointer (some ⟨b3, 0, none⟩), .pointer (some ⟨b4, 0, none⟩), l 5, l 6, l 7, l 8, .pointer (some ⟨bo, 0, none⟩), l 10, l 11, l 12, l 13, l 14, l 15, l 16, l 17, l 18, l 19, l 20, l 21, l 22, l 23, l 24, l 25, l 26, l 27, l 28, l 29, l 30, l 31, l 32, l 33, l 34, l 35, l 36, l 37, l 38, l 39, l 40, l 41, l 42, l 43, l 44, l 45, l 46, l 47, l 48, l 49, l 50, l 51, l 52, l 53, l 54, l 55, l 56, l 57, l 58, l 59, l 60, l 61, l 62, l 63, l 64, l 65, l 66, l 67, l 68, l 69, .int .i64 (at_ : Int), .pointer (some ⟨x, 0, none⟩), .pointer (some ⟨x, 0, none⟩), .pointer (some ⟨x, 4, none⟩), .string line, .int .i64 (line.size : Int), .bool true, .bool true, .pointer (some ⟨bo, 6, none⟩), l 79, .pointer (some ⟨x, 0, none⟩), .pointer (some ⟨x, 0, none⟩), .pointer (some ⟨x, 4, none⟩), l 83, l 84, l 85, l 86, l 87, l 88, l 89, l 90, l 91, l 92, l 93, l 94, l 95, l 96, l 97, l 98, l 99, l 100, l 101, l 102, l 103, l 104, l 105, l 106, l 107, l 108, l 109, l 110, l 111, l 112, l 113, l 114, l 115, l 116, l 117, l 118, l 119, l 120, l 121, l 122, l 123], []⟩ (W.drew) reg13 := by
  conv => arg 7; whnf
  unfold AnyAt
  dsimp only
  obtain ⟨c3, c4, d4, s0, s1, s2, s3, hlt, hle, hc, has⟩ := id hf
  refine wpAnyIn_ready (rs := [9, 13, 14]) (by kernel_rfl) (by simp) ?_
  refine AllReadyIn.cons rfl (fun K hK => ?_) ?_
  · go_simp
    refine hK _ _ ?_
    clear hK K
    exact reg13_111111111111100000 hf hend
  refine AllReadyIn.cons rfl (fun K hK => ?_) ?_
  · go_simp
    refine hK _ _ ?_
    clear hK K
    exact reg13_111111111011110000 hf hend
  refine AllReadyIn.cons rfl (fun K hK => ?_) ?_
  · go_simp
    refine hK _ _ ?_
    clear hK K
    exact reg13_111111111011101000 hf hend
  exact AllReadyIn.nil
set_option maxHeartbeats 4000000 in
set_option maxRecDepth 1000000 in
theorem reg13_111111111100001000 {l : Nat → Value} {R : Act → World → Prop} {b3 b4 bo x at_ : Nat} {line : ByteArray} {c : UInt8} {r : Bool} {is0 is1 is2 is3 : Int} {W : World}
    (hf : R13 b3 b4 bo x at_ line c r is0 is1 is2 is3 W)
    (hend : E13 l R b3 b4 bo x at_ line c r is0 is1 is2 is3 W) :
    AnyAt 7 (Exit.then R (fun _ _ _ => False)) 7 #[true, true, true, true, true, true, true, true, true, true, false, false, false, false, true, false, false, false] ⟨#[l 0, l 1, l 2, .pointer (some ⟨b3, 0, none⟩), .pointer (some ⟨b4, 0, none⟩), l 5, l 6, l 7, l 8, .pointer (some ⟨bo, 0, none⟩), l 10, l 11, l 12, l 13, l 14, l 15, l 16, l 17, l 18, l 19, l 20, l 21, l 22, l 23, l 24, l 25, l 26, l 27, l 28, l 29, l 30, l 31, l 32, l 33, l 34, l 35, l 36, l 37, l 38, l 39, l 40, l 41, l 42, l 43, l 44, l 45, l 46, l 47, l 48, l 49, l 50, l 51, l 52, l 53, l 54, l 55, l 56, l 57, l 58, l 59, l 60, l 61, l 62, l 63, l 64, l 65, l 66, l 67, l 68, l 69, .int .i64 (at_ : Int), .pointer (some ⟨x, 0, none⟩), .pointer (some ⟨x, 0, none⟩), .pointer (some ⟨x, 4, none⟩), .string line, .int .i64 (line.size : Int), .bool true, .bool true, .pointer (some ⟨bo, 6, none⟩), .agg #[.int .u64 is0, .int .u64 is1, .int .u64 is2, .int .u64 is3], l 80, l 81, l 82, l 83, .int .i64 (at_ : Int), l 85, l 86, l 87, l 88, l 89, l 90, l 91, l 92, l 93, l 94, l 95, l 96, l 97, l 98, l 99, l 100, l 101, l 102, l 103, l 104, l 105, l 106, l 107, l 108, l 109, l 110, l 111, l 112, l 113, l 114, l 115, l 116, l 117, l 118, l 119, l 120, l 121, l 122, l 123], []⟩ (W.drew) reg13 := by
  conv => arg 7; whnf
  unfold AnyAt
  dsimp only
  obtain ⟨c3, c4, d4, s0, s1, s2, s3, hlt, hle, hc, has⟩ := id hf
  refine wpAnyIn_ready (rs := [10]) (by kernel_rfl) (by simp) ?_
  refine AllReadyIn.cons rfl (fun K hK => ?_) ?_
  · go_simp
    refine hK _ _ ?_
    clear hK K
    refine wpAnyIn_take (i := 11) (v := ?_) rfl rfl (by kernel_rfl) (by kernel_rfl) (by kernel_rfl) (fun _ _ _ h => h) ⟨Or.inl ⟨by rfl, ?_⟩, fun _ => rfl⟩ ?_
    rotate_left
    · intro w; go_simp; try with_reducible rfl
    refine wpAnyIn_take (i := 12) (v := ?_) rfl rfl (by kernel_rfl) (by kernel_rfl) (by kernel_rfl) (fun _ _ _ h => h) ⟨Or.inl ⟨by rfl, ?_⟩, fun _ => rfl⟩ ?_
    rotate_left
    · intro w; go_simp; try with_reducible rfl
    exact reg13_111111111111101000 hf hend
  exact AllReadyIn.nil
set_option maxHeartbeats 4000000 in
set_option maxRecDepth 1000000 in
theorem reg13_111111111100000000 {l : Nat → Value} {R : Act → World → Prop} {b3 b4 bo x at_ : Nat} {line : ByteArray} {c : UInt8} {r : Bool} {is0 is1 is2 is3 : Int} {W : World}
    (hf : R13 b3 b4 bo x at_ line c r is0 is1 is2 is3 W)
    (hend : E13 l R b3 b4 bo x at_ line c r is0 is1 is2 is3 W) :
    AnyAt 7 (Exit.then R (fun _ _ _ => False)) 8 #[true, true, true, true, true, true, true, true, true, true, false, false, false, false, false, false, false, false] ⟨#[l 0, l 1, l 2, .pointer (some ⟨b3, 0, none⟩), .pointer (some ⟨b4, 0, none⟩), l 5, l 6, l 7, l 8, .pointer (some ⟨bo, 0, none⟩), l 10, l 11, l 12, l 13, l 14, l 15, l 16, l 17, l 18, l 19, l 20, l 21, l 22, l 23, l 24, l 25, l 26, l 27, l 28, l 29, l 30, l 31, l 32, l 33, l 34, l 35, l 36, l 37, l 38, l 39, l 40, l 41, l 42, l 43, l 44, l 45, l 46, l 47, l 48, l 49, l 50, l 51, l 52, l 53, l 54, l 55, l 56, l 57, l 58, l 59, l 60, l 61, l 62, l 63, l 64, l 65, l 66, l 67, l 68, l 69, .int .i64 (at_ : Int), .pointer (some ⟨x, 0, none⟩), .pointer (some ⟨x, 0, none⟩), .pointer (some ⟨x, 4, none⟩), .string line, .int .i64 (line.size : Int), .bool true, .bool true, .pointer (some ⟨bo, 6, none⟩), .agg #[.int .u64 is0, .int .u64 is1, .int .u64 is2, .int .u64 is3], l 80, l 81, l 82, l 83, l 84, l 85, l 86, l 87, l 88, l 89, l 90, l 91, l 92, l 93, l 94, l 95, l 96, l 97, l 98, l 99, l 100, l 101, l 102, l 103, l 104, l 105, l 106, l 107, l 108, l 109, l 110, l 111, l 112, l 113, l 114, l 115, l 116, l 117, l 118, l 119, l 120, l 121, l 122, l 123], []⟩ (W.drew) reg13 := by
  conv => arg 7; whnf
  unfold AnyAt
  dsimp only
  obtain ⟨c3, c4, d4, s0, s1, s2, s3, hlt, hle, hc, has⟩ := id hf
  refine wpAnyIn_ready (rs := [10, 14]) (by kernel_rfl) (by simp) ?_
  refine AllReadyIn.cons rfl (fun K hK => ?_) ?_
  · go_simp
    refine hK _ _ ?_
    clear hK K
    refine wpAnyIn_take (i := 11) (v := ?_) rfl rfl (by kernel_rfl) (by kernel_rfl) (by kernel_rfl) (fun _ _ _ h => h) ⟨Or.inl ⟨by rfl, ?_⟩, fun _ => rfl⟩ ?_
    rotate_left
    · intro w; go_simp; try with_reducible rfl
    refine wpAnyIn_take (i := 12) (v := ?_) rfl rfl (by kernel_rfl) (by kernel_rfl) (by kernel_rfl) (fun _ _ _ h => h) ⟨Or.inl ⟨by rfl, ?_⟩, fun _ => rfl⟩ ?_
    rotate_left
    · intro w; go_simp; try with_reducible rfl
    exact reg13_111111111111100000 hf hend
  refine AllReadyIn.cons rfl (fun K hK => ?_) ?_
  · go_simp
    refine hK _ _ ?_
    clear hK K
    exact reg13_111111111100001000 hf hend
  exact AllReadyIn.nil
set_option maxHeartbeats 4000000 in
set_option maxRecDepth 1000000 in
theorem reg13_111111111000001000 {l : Nat → Value} {R : Act → World → Prop} {b3 b4 bo x at_ : Nat} {line : ByteArray} {c : UInt8} {r : Bool} {is0 is1 is2 is3 : Int} {W : World}
    (hf : R13 b3 b4 bo x at_ line c r is0 is1 is2 is3 W)
    (hend : E13 l R b3 b4 bo x at_ line c r is0 is1 is2 is3 W) :
    AnyAt 7 (Exit.then R (fun _ _ _ => False)) 8 #[true, true, true, true, true, true, true, true, true, false, false, false, false, false, true, false, false, false] ⟨#[l 0, l 1, l 2, .pointer (some ⟨b3, 0, none⟩), .pointer (some ⟨b4, 0, none⟩), l 5, l 6, l 7, l 8, .pointer (some ⟨bo, 0, none⟩), l 10, l 11, l 12, l 13, l 14, l 15, l 16, l 17, l 18, l 19, l 20, l 21, l 22, l 23, l 24, l 25, l 26, l 27, l 28, l 29, l 30, l 31, l 32, l 33, l 34, l 35, l 36, l 37, l 38, l 39, l 40, l 41, l 42, l 43, l 44, l 45, l 46, l 47, l 48, l 49, l 50, l 51, l 52, l 53, l 54, l 55, l 56, l 57, l 58, l 59, l 60, l 61, l 62, l 63, l 64, l 65, l 66, l 67, l 68, l 69, .int .i64 (at_ : Int), .pointer (some ⟨x, 0, none⟩), .pointer (some ⟨x, 0, none⟩), .pointer (some ⟨x, 4, none⟩), .string line, .int .i64 (line.size : Int), .bool true, .bool true, .pointer (some ⟨bo, 6, none⟩), l 79, l 80, l 81, l 82, l 83, .int .i64 (at_ : Int), l 85, l 86, l 87, l 88, l 89, l 90, l 91, l 92, l 93, l 94, l 95, l 96, l 97, l 98, l 99, l 100, l 101, l 102, l 103, l 104, l 105, l 106, l 107, l 108, l 109, l 110, l 111, l 112, l 113, l 114, l 115, l 116, l 117, l 118, l 119, l 120, l 121, l 122, l 123], []⟩ (W.drew) reg13 := by
  conv => arg 7; whnf
  unfold AnyAt
  dsimp only
  obtain ⟨c3, c4, d4, s0, s1, s2, s3, hlt, hle, hc, has⟩ := id hf
  refine wpAnyIn_ready (rs := [9, 10]) (by kernel_rfl) (by simp) ?_
  refine AllReadyIn.cons rfl (fun K hK => ?_) ?_
  · go_simp
    refine hK _ _ ?_
    clear hK K
    exact reg13_111111111100001000 hf hend
  refine AllReadyIn.cons rfl (fun K hK => ?_) ?_
  · go_simp
    refine hK _ _ ?_
    clear hK K
    refine wpAnyIn_take (i := 11) (v := ?_) rfl rfl (by kernel_rfl) (by kernel_rfl) (by kernel_rfl) (fun _ _ _ h => h) ⟨Or.inl ⟨by rfl, ?_⟩, fun _ => rfl⟩ ?_
    rotate_left
    · intro w; go_simp; try with_reducible rfl
    refine wpAnyIn_take (i := 12) (v := ?_) rfl rfl (by kernel_rfl) (by kernel_rfl) (by kernel_rfl) (fun _ _ _ h => h) ⟨Or.inl ⟨by rfl, ?_⟩, fun _ => rfl⟩ ?_
    rotate_left
    · intro w; go_simp; try with_reducible rfl
    exact reg13_111111111011101000 hf hend
  exact AllReadyIn.nil
set_option maxHeartbeats 4000000 in
set_option maxRecDepth 1000000 in
theorem reg13_111111111000000000 {l : Nat → Value} {R : Act → World → Prop} {b3 b4 bo x at_ : Nat} {line : ByteArray} {c : UInt8} {r : Bool} {is0 is1 is2 is3 : Int} {W : World}
    (hf : R13 b3 b4 bo x at_ line c r is0 is1 is2 is3 W)
    (hend : E13 l R b3 b4 bo x at_ line c r is0 is1 is2 is3 W) :
    AnyAt 7 (Exit.then R (fun _ _ _ => False)) 9 #[true, true, true, true, true, true, true, true, true, false, false, false, false, false, false, false, false, false] ⟨#[l 0, l 1, l 2, .pointer (some ⟨b3, 0, none⟩), .pointer (some ⟨b4, 0, none⟩), l 5, l 6, l 7, l 8, .pointer (some ⟨bo, 0, none⟩), l 10, l 11, l 12, l 13, l 14, l 15, l 16, l 17, l 18, l 19, l 20, l 21, l 22, l 23, l 24, l 25, l 26, l 27, l 28, l 29, l 30, l 31, l 32, l 33, l 34, l 35, l 36, l 37, l 38, l 39, l 40, l 41, l 42, l 43, l 44, l 45, l 46, l 47, l 48, l 49, l 50, l 51, l 52, l 53, l 54, l 55, l 56, l 57, l 58, l 59, l 60, l 61, l 62, l 63, l 64, l 65, l 66, l 67, l 68, l 69, .int .i64 (at_ : Int), .pointer (some ⟨x, 0, none⟩), .pointer (some ⟨x, 0, none⟩), .pointer (some ⟨x, 4, none⟩), .string line, .int .i64 (line.size : Int), .bool true, .bool true, .pointer (some ⟨bo, 6, none⟩), l 79, l 80, l 81, l 82, l 83, l 84, l 85, l 86, l 87, l 88, l 89, l 90, l 91, l 92, l 93, l 94, l 95, l 96, l 97, l 98, l 99, l 100, l 101, l 102, l 103, l 104, l 105, l 106, l 107, l 108, l 109, l 110, l 111, l 112, l 113, l 114, l 115, l 116, l 117, l 118, l 119, l 120, l 121, l 122, l 123], []⟩ (W.drew) reg13 := by
  conv => arg 7; whnf
  unfold AnyAt
  dsimp only
  obtain ⟨c3, c4, d4, s0, s1, s2, s3, hlt, hle, hc, has⟩ := id hf
  refine wpAnyIn_ready (rs := [9, 10, 14]) (by kernel_rfl) (by simp) ?_
  refine AllReadyIn.cons rfl (fun K hK => ?_) ?_
  · go_simp
    refine hK _ _ ?_
    clear hK K
    exact reg13_111111111100000000 hf hend
  refine AllReadyIn.cons rfl (fun K hK => ?_) ?_
  · go_simp
    refine hK _ _ ?_
    clear hK K
    refine wpAnyIn_take (i := 11) (v := ?_) rfl rfl (by kernel_rfl) (by kernel_rfl) (by kernel_rfl) (fun _ _ _ h => h) ⟨Or.inl ⟨by rfl, ?_⟩, fun _ => rfl⟩ ?_
    rotate_left
    · intro w; go_simp; try with_reducible rfl
    refine wpAnyIn_take (i := 12) (v := ?_) rfl rfl (by kernel_rfl) (by kernel_rfl) (by kernel_rfl) (fun _ _ _ h => h) ⟨Or.inl ⟨by rfl, ?_⟩, fun _ => rfl⟩ ?_
    rotate_left
    · intro w; go_simp; try with_reducible rfl
    exact reg13_111111111011100000 hf hend
  refine AllReadyIn.cons rfl (fun K hK => ?_) ?_
  · go_simp
    refine hK _ _ ?_
    clear hK K
    exact reg13_111111111000001000 hf hend
  exact AllReadyIn.nil
set_option maxHeartbeats 4000000 in
set_option maxRecDepth 1000000 in
theorem reg13_011111000000000000 {l : Nat → Value} {R : Act → World → Prop} {b3 b4 bo x at_ : Nat} {line : ByteArray} {c : UInt8} {r : Bool} {is0 is1 is2 is3 : Int} {W : World}
    (hf : R13 b3 b4 bo x at_ line c r is0 is1 is2 is3 W)
    (hend : E13 l R b3 b4 bo x at_ line c r is0 is1 is2 is3 W) :
    AnyAt 7 (Exit.then R (fun _ _ _ => False)) 13 #[false, true, true, true, true, true, false, false, false, false, false, false, false, false, false, false, false, false] ⟨#[l 0, l 1, l 2, .pointer (some ⟨b3, 0, none⟩), .pointer (some ⟨b4, 0, none⟩), l 5, l 6, l 7, l 8, .pointer (some ⟨bo, 0, none⟩), l 10, l 11, l 12, l 13, l 14, l 15, l 16, l 17, l 18, l 19, l 20, l 21, l 22, l 23, l 24, l 25, l 26, l 27, l 28, l 29, l 30, l 31, l 32, l 33, l 34, l 35, l 36, l 37, l 38, l 39, l 40, l 41, l 42, l 43, l 44, l 45, l 46, l 47, l 48, l 49, l 50, l 51, l 52, l 53, l 54, l 55, l 56, l 57, l 58, l 59, l 60, l 61, l 62, l 63, l 64, l 65, l 66, l 67, l 68, l 69, l 70, .pointer (some ⟨x, 0, none⟩), .pointer (some ⟨x, 0, none⟩), .pointer (some ⟨x, 4, none⟩), .string line, .int .i64 (line.size : Int), l 76, l 77, l 78, l 79, l 80, l 81, l 82, l 83, l 84, l 85, l 86, l 87, l 88, l 89, l 90, l 91, l 92, l 93, l 94, l 95, l 96, l 97, l 98, l 99, l 100, l 101, l 102, l 103, l 104, l 105, l 106, l 107, l 108, l 109, l 110, l 111, l 112, l 113, l 114, l 115, l 116, l 117, l 118, l 119, l 120, l 121, l 122, l 123], []⟩ (W.drew) reg13 := by
  conv => arg 7; whnf
  unfold AnyAt
  dsimp only
  obtain ⟨c3, c4, d4, s0, s1, s2, s3, hlt, hle, hc, has⟩ := id hf
  refine wpAnyIn_ready (rs := [0]) (by kernel_rfl) (by simp) ?_
  refine AllReadyIn.cons rfl (fun K hK => ?_) ?_
  · go_simp
    refine hK _ _ ?_
    clear hK K
    refine wpAnyIn_take (i := 6) (v := ?_) rfl rfl (by kernel_rfl) (by kernel_rfl) (by kernel_rfl) (fun _ _ _ h => h) ⟨Or.inl ⟨by rfl, ?_⟩, fun _ => rfl⟩ ?_
    rotate_left
    · intro w; go_simp; try with_reducible rfl
    refine wpAnyIn_take (i := 7) (v := ?_) rfl rfl (by kernel_rfl) (by kernel_rfl) (by kernel_rfl) (fun _ _ _ h => h) ⟨Or.inl ⟨by rfl, ?_⟩, fun _ => rfl⟩ ?_
    rotate_left
    · intro w; go_simp; try with_reducible rfl
    refine wpAnyIn_take (i := 8) (v := ?_) rfl rfl (by kernel_rfl) (by kernel_rfl) (by kernel_rfl) (fun _ _ _ h => h) ⟨Or.inl ⟨by rfl, ?_⟩, fun _ => rfl⟩ ?_
    rotate_left
    · intro w; go_simp; try with_reducible rfl
    exact reg13_111111111000000000 hf hend
  exact AllReadyIn.nil
set_option maxHeartbeats 4000000 in
set_option maxRecDepth 1000000 in
theorem reg13_111100000000000000 {l : Nat → Value} {R : Act → World → Prop} {b3 b4 bo x at_ : Nat} {line : ByteArray} {c : UInt8} {r : Bool} {is0 is1 is2 is3 : Int} {W : World}
    (hf : R13 b3 b4 bo x at_ line c r is0 is1 is2 is3 W)
    (hend : E13 l R b3 b4 bo x at_ line c r is0 is1 is2 is3 W) :
    AnyAt 7 (Exit.then R (fun _ _ _ => False)) 14 #[true, true, true, true, false, false, false, false, false, false, false, false, false, false, false, false, false, false] ⟨#[l 0, l 1, l 2, .pointer (some ⟨b3, 0, none⟩), .pointer (some ⟨b4, 0, none⟩), l 5, l 6, l 7, l 8, .pointer (some ⟨bo, 0, none⟩), l 10, l 11, l 12, l 13, l 14, l 15, l 16, l 17, l 18, l 19, l 20, l 21, l 22, l 23, l 24, l 25, l 26, l 27, l 28, l 29, l 30, l 31, l 32, l 33, l 34, l 35, l 36, l 37, l 38, l 39, l 40, l 41, l 42, l 43, l 44, l 45, l 46, l 47, l 48, l 49, l 50, l 51, l 52, l 53, l 54, l 55, l 56, l 57, l 58, l 59, l 60, l 61, l 62, l 63, l 64, l 65, l 66, l 67, l 68, l 69, .int .i64 (at_ : Int), .pointer (some ⟨x, 0, none⟩), .pointer (some ⟨x, 0, none⟩), .pointer (some ⟨x, 4, none⟩), l 74, l 75, l 76, l 77, l 78, l 79, l 80, l 81, l 82, l 83, l 84, l 85, l 86, l 87, l 88, l 89, l 90, l 91, l 92, l 93, l 94, l 95, l 96, l 97, l 98, l 99, l 100, l 101, l 102, l 103, l 104, l 105, l 106, l 107, l 108, l 109, l 110, l 111, l 112, l 113, l 114, l 115, l 116, l 117, l 118, l 119, l 120, l 121, l 122, l 123], []⟩ (W.drew) reg13 := by
  conv => arg 7; whnf
  unfold AnyAt
  dsimp only
  obtain ⟨c3, c4, d4, s0, s1, s2, s3, hlt, hle, hc, has⟩ := id hf
  refine wpAnyIn_ready (rs := [4]) (by kernel_rfl) (by simp) ?_
  refine AllReadyIn.cons rfl (fun K hK => ?_) ?_
  · go_simp
    refine hK _ _ ?_
    clear hK K
    refine wpAnyIn_take (i := 5) (v := ?_) rfl rfl (by kernel_rfl) (by kernel_rfl) (by kernel_rfl) (fun _ _ _ h => h) ⟨Or.inl ⟨by rfl, ?_⟩, fun _ => rfl⟩ ?_
    rotate_left
    · intro w; go_simp; try with_reducible rfl
    refine wpAnyIn_take (i := 6) (v := ?_) rfl rfl (by kernel_rfl) (by kernel_rfl) (by kernel_rfl) (fun _ _ _ h => h) ⟨Or.inl ⟨by rfl, ?_⟩, fun _ => rfl⟩ ?_
    rotate_left
    · intro w; go_simp; try with_reducible rfl
    refine wpAnyIn_take (i := 7) (v := ?_) rfl rfl (by kernel_rfl) (by kernel_rfl) (by kernel_rfl) (fun _ _ _ h => h) ⟨Or.inl ⟨by rfl, ?_⟩, fun _ => rfl⟩ ?_
    rotate_left
    · intro w; go_simp; try with_reducible rfl
    refine wpAnyIn_take (i := 8) (v := ?_) rfl rfl (by kernel_rfl) (by kernel_rfl) (by kernel_rfl) (fun _ _ _ h => h) ⟨Or.inl ⟨by rfl, ?_⟩, fun _ => rfl⟩ ?_
    rotate_left
    · intro w; go_simp; try with_reducible rfl
    exact reg13_111111111000000000 hf hend
  exact AllReadyIn.nil
set_option maxHeartbeats 4000000 in
set_option maxRecDepth 1000000 in
theorem reg13_011100000000000000 {l : Nat → Value} {R : Act → World → Prop} {b3 b4 bo x at_ : Nat} {line : ByteArray} {c : UInt8} {r : Bool} {is0 is1 is2 is3 : Int} {W : World}
    (hf : R13 b3 b4 bo x at_ line c r is0 is1 is2 is3 W)
    (hend : E13 l R b3 b4 bo x at_ line c r is0 is1 is2 is3 W) :
    AnyAt 7 (Exit.then R (fun _ _ _ => False)) 15 #[false, true, true, true, false, false, false, false, false, false, false, false, false, false, false, false, false, false] ⟨#[l 0, l 1, l 2, .pointer (some ⟨b3, 0, none⟩), .pointer (some ⟨b4, 0, none⟩), l 5, l 6, l 7, l 8, .pointer (some ⟨bo, 0, none⟩), l 10, l 11, l 12, l 13, l 14, l 15, l 16, l 17, l 18, l 19, l 20, l 21, l 22, l 23, l 24, l 25, l 26, l 27, l 28, l 29, l 30, l 31, l 32, l 33, l 34, l 35, l 36, l 37, l 38, l 39, l 40, l 41, l 42, l 43, l 44, l 45, l 46, l 47, l 48, l 49, l 50, l 51, l 52, l 53, l 54, l 55, l 56, l 57, l 58, l 59, l 60, l 61, l 62, l 63, l 64, l 65, l 66, l 67, l 68, l 69, l 70, .pointer (some ⟨x, 0, none⟩), .pointer (some ⟨x, 0, none⟩), .pointer (some ⟨x, 4, none⟩), l 74, l 75, l 76, l 77, l 78, l 79, l 80, l 81, l 82, l 83, l 84, l 85, l 86, l 87, l 88, l 89, l 90, l 91, l 92, l 93, l 94, l 95, l 96, l 97, l 98, l 99, l 100, l 101, l 102, l 103, l 104, l 105, l 106, l 107, l 108, l 109, l 110, l 111, l 112, l 113, l 114, l 115, l 116, l 117, l 118, l 119, l 120, l 121, l 122, l 123], []⟩ (W.drew) reg13 := by
  conv => arg 7; whnf
  unfold AnyAt
  dsimp only
  obtain ⟨c3, c4, d4, s0, s1, s2, s3, hlt, hle, hc, has⟩ := id hf
  refine wpAnyIn_ready (rs := [0, 4]) (by kernel_rfl) (by simp) ?_
  refine AllReadyIn.cons rfl (fun K hK => ?_) ?_
  · go_simp
    refine hK _ _ ?_
    clear hK K
    exact reg13_111100000000000000 hf hend
  refine AllReadyIn.cons rfl (fun K hK => ?_) ?_
  · go_simp
    refine hK _ _ ?_
    clear hK K
    refine wpAnyIn_take (i := 5) (v := ?_) rfl rfl (by kernel_rfl) (by kernel_rfl) (by kernel_rfl) (fun _ _ _ h => h) ⟨Or.inl ⟨by rfl, ?_⟩, fun _ => rfl⟩ ?_
    rotate_left
    · intro w; go_simp; try with_reducible rfl
    exact reg13_011111000000000000 hf hend
  exact AllReadyIn.nil
set_option maxHeartbeats 4000000 in
set_option maxRecDepth 1000000 in
theorem reg13_100000000000000000 {l : Nat → Value} {R : Act → World → Prop} {b3 b4 bo x at_ : Nat} {line : ByteArray} {c : UInt8} {r : Bool} {is0 is1 is2 is3 : Int} {W : World}
    (hf : R13 b3 b4 bo x at_ line c r is0 is1 is2 is3 W)
    (hend : E13 l R b3 b4 bo x at_ line c r is0 is1 is2 is3 W) :
    AnyAt 7 (Exit.then R (fun _ _ _ => False)) 17 #[true, false, false, false, false, false, false, false, false, false, false, false, false, false, false, false, false, false] ⟨#[l 0, l 1, l 2, .pointer (some ⟨b3, 0, none⟩), .pointer (some ⟨b4, 0, none⟩), l 5, l 6, l 7, l 8, .pointer (some ⟨bo, 0, none⟩), l 10, l 11, l 12, l 13, l 14, l 15, l 16, l 17, l 18, l 19, l 20, l 21, l 22, l 23, l 24, l 25, l 26, l 27, l 28, l 29, l 30, l 31, l 32, l 33, l 34, l 35, l 36, l 37, l 38, l 39, l 40, l 41, l 42, l 43, l 44, l 45, l 46, l 47, l 48, l 49, l 50, l 51, l 52, l 53, l 54, l 55, l 56, l 57, l 58, l 59, l 60, l 61, l 62, l 63, l 64, l 65, l 66, l 67, l 68, l 69, .int .i64 (at_ : Int), l 71, l 72, l 73, l 74, l 75, l 76, l 77, l 78, l 79, l 80, l 81, l 82, l 83, l 84, l 85, l 86, l 87, l 88, l 89, l 90, l 91, l 92, l 93, l 94, l 95, l 96, l 97, l 98, l 99, l 100, l 101, l 102, l 103, l 104, l 105, l 106, l 107, l 108, l 109, l 110, l 111, l 112, l 113, l 114, l 115, l 116, l 117, l 118, l 119, l 120, l 121, l 122, l 123], []⟩ (W.drew) reg13 := by
  conv => arg 7; whnf
  unfold AnyAt
  dsimp only
  obtain ⟨c3, c4, d4, s0, s1, s2, s3, hlt, hle, hc, has⟩ := id hf
  refine wpAnyIn_ready (rs := [1]) (by kernel_rfl) (by simp) ?_
  refine AllReadyIn.cons rfl (fun K hK => ?_) ?_
  · go_simp
    refine hK _ _ ?_
    clear hK K
    refine wpAnyIn_take (i := 2) (v := ?_) rfl rfl (by kernel_rfl) (by kernel_rfl) (by kernel_rfl) (fun _ _ _ h => h) ⟨Or.inl ⟨by rfl, ?_⟩, fun _ => rfl⟩ ?_
    rotate_left
    · intro w; go_simp; try with_reducible rfl
    refine wpAnyIn_take (i := 3) (v := ?_) rfl rfl (by kernel_rfl) (by kernel_rfl) (by kernel_rfl) (fun _ _ _ h => h) ⟨Or.inl ⟨by rfl, ?_⟩, fun _ => rfl⟩ ?_
    rotate_left
    · intro w; go_simp; try with_reducible rfl
    exact reg13_111100000000000000 hf hend
  exact AllReadyIn.nil
set_option maxHeartbeats 4000000 in
set_option maxRecDepth 1000000 in
theorem reg13_000000000000000000 {l : Nat → Value} {R : Act → World → Prop} {b3 b4 bo x at_ : Nat} {line : ByteArray} {c : UInt8} {r : Bool} {is0 is1 is2 is3 : Int} {W : World}
    (hf : R13 b3 b4 bo x at_ line c r is0 is1 is2 is3 W)
    (hend : E13 l R b3 b4 bo x at_ line c r is0 is1 is2 is3 W) :
    AnyAt 7 (Exit.then R (fun _ _ _ => False)) 18 #[false, false, false, false, false, false, false, false, false, false, false, false, false, false, false, false, false, false] ⟨#[l 0, l 1, l 2, .pointer (some ⟨b3, 0, none⟩), .pointer (some ⟨b4, 0, none⟩), l 5, l 6, l 7, l 8, .pointer (some ⟨bo, 0, none⟩), l 10, l 11, l 12, l 13, l 14, l 15, l 16, l 17, l 18, l 19, l 20, l 21, l 22, l 23, l 24, l 25, l 26, l 27, l 28, l 29, l 30, l 31, l 32, l 33, l 34, l 35, l 36, l 37, l 38, l 39, l 40, l 41, l 42, l 43, l 44, l 45, l 46, l 47, l 48, l 49, l 50, l 51, l 52, l 53, l 54, l 55, l 56, l 57, l 58, l 59, l 60, l 61, l 62, l 63, l 64, l 65, l 66, l 67, l 68, l 69, l 70, l 71, l 72, l 73, l 74, l 75, l 76, l 77, l 78, l 79, l 80, l 81, l 82, l 83, l 84, l 85, l 86, l 87, l 88, l 89, l 90, l 91, l 92, l 93, l 94, l 95, l 96, l 97, l 98, l 99, l 100, l 101, l 102, l 103, l 104, l 105, l 106, l 107, l 108, l 109, l 110, l 111, l 112, l 113, l 114, l 115, l 116, l 117, l 118, l 119, l 120, l 121, l 122, l 123], []⟩ (W.drew) reg13 := by
  conv => arg 7; whnf
  unfold AnyAt
  dsimp only
  obtain ⟨c3, c4, d4, s0, s1, s2, s3, hlt, hle, hc, has⟩ := id hf
  refine wpAnyIn_ready (rs := [0, 1]) (by kernel_rfl) (by simp) ?_
  refine AllReadyIn.cons rfl (fun K hK => ?_) ?_
  · go_simp
    refine hK _ _ ?_
    clear hK K
    exact reg13_100000000000000000 hf hend
  refine AllReadyIn.cons rfl (fun K hK => ?_) ?_
  · go_simp
    refine hK _ _ ?_
    clear hK K
    refine wpAnyIn_take (i := 2) (v := ?_) rfl rfl (by kernel_rfl) (by kernel_rfl) (by kernel_rfl) (fun _ _ _ h => h) ⟨Or.inl ⟨by rfl, ?_⟩, fun _ => rfl⟩ ?_
    rotate_left
    · intro w; go_simp; try with_reducible rfl
    refine wpAnyIn_take (i := 3) (v := ?_) rfl rfl (by kernel_rfl) (by kernel_rfl) (by kernel_rfl) (fun _ _ _ h => h) ⟨Or.inl ⟨by rfl, ?_⟩, fun _ => rfl⟩ ?_
    rotate_left
    · intro w; go_simp; try with_reducible rfl
    exact reg13_011100000000000000 hf hend
  exact AllReadyIn.nil
set_option maxHeartbeats 4000000 in
set_option maxRecDepth 1000000 in
theorem reg13C (rr : Nat) {l0 l1 l2 l5 l6 l7 l8 l10 l11 l12 l13 l14 l15 l16 l17 l18 l19 l20 l21 l22 l23 l24 l25 l26 l27 l28 l29 l30 l31 l32 l33 l34 l35 l36 l37 l38 l39 l40 l41 l42 l43 l44 l45 l46 l47 l48 l49 l50 l51 l52 l53 l54 l55 l56 l57 l58 l59 l60 l61 l62 l63 l64 l65 l66 l67 l68 l69 l70 l71 l72 l73 l74 l75 l76 l77 l78 l79 l80 l81 l82 l83 l84 l85 l86 l87 l88 l89 l90 l91 l92 l93 l94 l95 l96 l97 l98 l99 l100 l101 l102 l103 l104 l105 l106 l107 l108 l109 l110 l111 l112 l113 l114 l115 l116 l117 l118 l119 l120 l121 l122 l123 : Value} {R : Act → World → Prop} {b3 b4 bo x at_ : Nat} {line : ByteArray} {c : UInt8} {r : Bool} {is0 is1 is2 is3 : Int} {W : World} (hf : R13 b3 b4 bo x at_ line c r is0 is1 is2 is3 W)
    (hend : R ⟨#[l0, l1, l2, .pointer (some ⟨b3, 0, none⟩), .pointer (some ⟨b4, 0, none⟩), l5, l6, l7, l8, .pointer (some ⟨bo, 0, none⟩), l10, l11, l12, l13, l14, l15, l16, l17, l18, l19, l20, l21, l22, l23, l24, l25, l26, l27, l28, l29, l30, l31, l32, l33, l34, l35, l36, l37, l38, l39, l40, l41, l42, l43, l44, l45, l46, l47, l48, l49, l50, l51, l52, l53, l54, l55, l56, l57, l58, l59, l60, l61, l62, l63, l64, l65, l66, l67, l68, l69, .int .i64 (at_ : Int), .pointer (some ⟨x, 0, none⟩), .pointer (some ⟨x, 0, none⟩), .pointer (some ⟨x, 4, none⟩), .string line, .int .i64 (line.size : Int), .bool true, .bool true, .pointer (some ⟨bo, 6, none⟩), .agg #[.int .u64 is0, .int .u64 is1, .int .u64 is2, .int .u64 is3], .pointer (some ⟨x, 0, none⟩), .pointer (some ⟨x, 0, none⟩), .pointer (some ⟨x, 4, none⟩), .string line, .int .i64 (at_ : Int), .int .u8 (c.toNat : Int), .bool r, .bool r, l88, l89, l90, l91, l92, l93, l94, l95, l96, l97, l98, l99, l100, l101, l102, l103, l104, l105, l106, l107, l108, l109, l110, l111, l112, l113, l114, l115, l116, l117, l118, l119, l120, l121, l122, l123], []⟩ (W.drew.alloc (.cells #[.int .u64 is0, .int .u64 is1, .int .u64 is2, .int .u64 is3] 37))) :
    reg13.wpIn (Fence.wide.inRound rr) 7 Try.prog (Exit.then R (fun _ _ _ => False)) ⟨#[l0, l1, l2, .pointer (some ⟨b3, 0, none⟩), .pointer (some ⟨b4, 0, none⟩), l5, l6, l7, l8, .pointer (some ⟨bo, 0, none⟩), l10, l11, l12, l13, l14, l15, l16, l17, l18, l19, l20, l21, l22, l23, l24, l25, l26, l27, l28, l29, l30, l31, l32, l33, l34, l35, l36, l37, l38, l39, l40, l41, l42, l43, l44, l45, l46, l47, l48, l49, l50, l51, l52, l53, l54, l55, l56, l57, l58, l59, l60, l61, l62, l63, l64, l65, l66, l67, l68, l69, l70, l71, l72, l73, l74, l75, l76, l77, l78, l79, l80, l81, l82, l83, l84, l85, l86, l87, l88, l89, l90, l91, l92, l93, l94, l95, l96, l97, l98, l99, l100, l101, l102, l103, l104, l105, l106, l107, l108, l109, l110, l111, l112, l113, l114, l115, l116, l117, l118, l119, l120, l121, l122, l123], []⟩ W := by
  conv => arg 4; whnf
  refine anyAt_round (by intro o ho; revert o ho; decide) ?_
  show wpAnyIn _ _ _ _ _ _ _ _ _ _

  exact reg13_000000000000000000 (l := fun i => ([l0, l1, l2, .bool false, .bool false, l5, l6, l7, l8, .bool false, l10, l11, l12, l13, l14, l15, l16, l17, l18, l19, l20, l21, l22, l23, l24, l25, l26, l27, l28, l29, l30, l31, l32, l33, l34, l35, l36, l37, l38, l39, l40, l41, l42, l43, l44, l45, l46, l47, l48, l49, l50, l51, l52, l53, l54, l55, l56, l57, l58, l59, l60, l61, l62, l63, l64, l65, l66, l67, l68, l69, l70, l71, l72, l73, l74, l75, l76, l77, l78, l79, l80, l81, l82, l83, l84, l85, l86, l87, l88, l89, l90, l91, l92, l93, l94, l95, l96, l97, l98, l99, l100, l101, l102, l103, l104, l105, l106, l107, l108, l109, l110, l111, l112, l113, l114, l115, l116, l117, l118, l119, l120, l121, l122, l123] : List Value).getD i (.bool false)) hf hend
end Go.Proofs.Ytoadmpochaeohaa
end
