/-
  Reference 14: Same; the law's 'lent' and 'back'.
-/
import Derived.Test.YtamiliccnbkipaaRIn
import Derived.Test.YtamiliccnbkipaaNKnown
set_option linter.unusedVariables false
set_option linter.unusedSimpArgs false
namespace Go.Proofs.Ytamiliccnbkipaa
open Go.RowKit


/-! Two Things held against each other. -/
section
variable {P : Program} {d : Nat} {xs ys : Array Value} {f : Field} {fs : List Field} {a b : Value} {r s : Bool} {w : World}
theorem field_last (hn : (f.name == "_") = false) (ha : (part f.type xs f.offset).run P w = .ok a w) (hb : (part f.type ys f.offset).run P w = .ok b w) (he : (Op.equalIn d f.type a b).run P w = .ok r w) : (Op.eqFields d xs ys [f]).run P w = .ok r w := by
  have hn' : f.name ≠ "_" := by simpa using hn
  simp only [Op.eqFields, if_pos hn', Sem.run_bind, ha, hb, he, Result.andThen_ok]
  cases r <;> simp
theorem field_cons (hn : (f.name == "_") = false) (ha : (part f.type xs f.offset).run P w = .ok a w) (hb : (part f.type ys f.offset).run P w = .ok b w) (he : (Op.equalIn d f.type a b).run P w = .ok r w) (hr : (Op.eqFields d xs ys fs).run P w = .ok s w) : (Op.eqFields d xs ys (f :: fs)).run P w = .ok (r && s) w := by
  have hn' : f.name ≠ "_" := by simpa using hn
  rw [Op.eqFields]
  simp only [if_pos hn', Sem.run_bind, ha, hb, he, Result.andThen_ok]
  cases r
  · simp
  · simpa using hr
theorem struct_eq {t : TypeId} {fs : Array Field} (hu : P.underlying t = some (.struct fs)) (hp : P.stoodInHeld t = false) (h : (Op.eqFields d xs ys fs.toList).run P w = .ok r w) : (Op.equalIn (d + 1) t (.agg xs) (.agg ys)).run P w = .ok r w := by
  have hf : P.fieldsOf t = fs := by simp [Program.fieldsOf, hu]
  rw [run_equalIn_struct (P := P) w d t xs ys (by rw [hf]; exact hu) hp, hf]
  exact h
end


theorem run_eqIns (d : Nat) (w : World) (a0 a1 a2 a3 a4 a5 s0 s1 s2 s3 b0 b1 b2 b3 b4 b5 t0 t1 t2 t3 : Int) :
    (Op.equalIn (d + 3) 50 (.agg #[.int .i64 a0, .int .i64 a1, .int .i64 a2, .int .i64 a3, .int .i64 a4, .int .i64 a5, .int .u64 s0, .int .u64 s1, .int .u64 s2, .int .u64 s3]) (.agg #[.int .i64 b0, .int .i64 b1, .int .i64 b2, .int .i64 b3, .int .i64 b4, .int .i64 b5, .int .u64 t0, .int .u64 t1, .int .u64 t2, .int .u64 t3])).run Try.prog w =
      .ok (a0 == b0 && (a1 == b1 && (a2 == b2 && (a3 == b3 && (a4 == b4 && (a5 == b5 && (s0 == t0 && (s1 == t1 && (s2 == t2 && (s3 == t3)))))))))) w := by
  refine struct_eq Try.underlying50 (by kernel_rfl) ?_
  refine field_cons (by rfl) (by go_simp; rfl) (by go_simp; rfl) (by go_simp) ?_
  refine field_cons (by rfl) (by go_simp; rfl) (by go_simp; rfl) (by go_simp) ?_
  refine field_cons (by rfl) (by go_simp; rfl) (by go_simp; rfl) (by go_simp) ?_
  refine field_cons (by rfl) (by go_simp; rfl) (by go_simp; rfl) (by go_simp) ?_
  refine field_cons (by rfl) (by go_simp; rfl) (by go_simp; rfl) (by go_simp) ?_
  refine field_cons (by rfl) (by go_simp; rfl) (by go_simp; rfl) (by go_simp) ?_
  exact field_last (by rfl) (by go_simp) (by go_simp) (run_eqSet d w s0 s1 s2 s3 t0 t1 t2 t3)

attribute [local go_sem high] run_eqIns

set_option maxHeartbeats 4000000 in
set_option maxRecDepth 100000 in
theorem sameC (A B : Option Addr) (n cp cq : Nat) (gr co : Int) (fo : Bool) (ins : List Ins) (G H : Nat → Prop) (w : World) (hrd : Rd w G 10 A n cp (flatI ins)) (hrq : Rd w H 10 B n cq (flatI ins)) (hn : n ≤ 4611686018427387904) :
    Calls Try.prog 22 #[.agg #[.slice A n cp, .int .i64 gr, .int .i64 co, .bool fo], .agg #[.slice B n cq, .int .i64 gr, .int .i64 co, .bool fo]] w fun e w' => e = .returned (.bool true) ∧ Frm (fun _ => False) w w' := by
  have hil : ins.length = n := by have := hrd.len; rw [flatI_len] at this; omega
  have HIL := Lib.hid hil
  clear hil
  have hf0 : Frm (fun _ => False) w ((w.alloc (.cells #[.slice A n cp, .int .i64 gr, .int .i64 co, .bool fo] 24)).alloc (.cells #[.slice B n cq, .int .i64 gr, .int .i64 co, .bool fo] 24)) := ((Frm.refl _ w).alloc _).alloc _
  have hP := (Blk.new w [.slice A n cp, .int .i64 gr, .int .i64 co, .bool fo] 24).alloc (.cells #[.slice B n cq, .int .i64 gr, .int .i64 co, .bool fo] 24)
  have hQ := Blk.new (w.alloc (.cells #[.slice A n cp, .int .i64 gr, .int .i64 co, .bool fo] 24)) [.slice B n cq, .int .i64 gr, .int .i64 co, .bool fo] 24
  rw [World.size_alloc] at hQ
  go_enter Try.func22, Try.ntmps22
  go_upto_region 1 with fail
  generalize (w.alloc (.cells #[.slice A n cp, .int .i64 gr, .int .i64 co, .bool fo] 24)).alloc (.cells #[.slice B n cq, .int .i64 gr, .int .i64 co, .bool fo] 24) = w1 at *
  generalize hbq : w.heap.size + 1 = bq at *
  generalize w.heap.size = bp at *
  clear hbq
  obtain ⟨p0, p1, p2, p3, g0, g1, g2, g3, lp⟩ := blk4 hP
  obtain ⟨r0, r1, r2, r3, k0, k1, k2, k3, lq⟩ := blk4 hQ
  have t1 : (gr != gr) = false := by simp
  have t2 : (co != co) = false := by simp
  have t3 : (fo != fo) = false := by simp
  go_wp2_with fail
  go_loopw [5] (fun i wr => ∃ k : Nat, i = .int .i64 k ∧ k ≤ n ∧ Frm (fun _ => False) w1 wr) (fun i _ => n - (intOf i).toNat)
  case atStart => exact ⟨0, rfl, by omega, Frm.refl _ _⟩
  case round =>
    obtain ⟨k, rfl, hk, hf⟩ := hrel
    have hff := hf0.trans hf
    clear p0 p1 p2 p3 g0 g1 g2 g3 lp r0 r1 r2 r3 k0 k1 k2 k3 lq
    obtain ⟨p0, p1, p2, p3, g0, g1, g2, g3, lp⟩ := blk4 (hP.frm hf (fun h => h))
    obtain ⟨r0, r1, r2, r3, k0, k1, k2, k3, lq⟩ := blk4 (hQ.frm hf (fun h => h))
    by_cases hkn : k < n
    · obtain ⟨i, hi⟩ : ∃ i, ins[k]? = some i := ⟨_, List.getElem?_eq_getElem (by rw [HIL.out]; exact hkn)⟩
      obtain ⟨b, off, rfl, hb, hci⟩ := (hrd.frm hff (fun _ _ h => h)).ins k i hi
      obtain ⟨b', off', rfl, hb', hci'⟩ := (hrq.frm hff (fun _ _ h => h)).ins k i hi
      have e0 := hci 0 _ rfl
      have e1 := hci 1 _ rfl
      have e2 := hci 2 _ rfl
      have e3 := hci 3 _ rfl
      have e4 := hci 4 _ rfl
      have e5 := hci 5 _ rfl
      have e6 := hci 6 _ rfl
      have e7 := hci 7 _ rfl
      have e8 := hci 8 _ rfl
      have e9 := hci 9 _ rfl
      have f0 := hci' 0 _ rfl
      have f1 := hci' 1 _ rfl
      have f2 := hci' 2 _ rfl
      have f3 := hci' 3 _ rfl
      have f4 := hci' 4 _ rfl
      have f5 := hci' 5 _ rfl
      have f6 := hci' 6 _ rfl
      have f7 := hci' 7 _ rfl
      have f8 := hci' 8 _ rfl
      have f9 := hci' 9 _ rfl
      rw [Nat.add_zero] at e0 f0
      clear hci hci' hi
      obtain ⟨iop, ix, iy, i_n, imn, imx, is0, is1, is2, is3⟩ := i
      simp only at e0 e1 e2 e3 e4 e5 e6 e7 e8 e9 f0 f1 f2 f3 f4 f5 f6 f7 f8 f9
      go_upto_region 6 with fail
      go_quiet (fail)
      go_wp2_with fail
      go_roundw
      case measure => simp [intOf] <;> omega
      case rel => exact ⟨k + 1, by go_num, by omega, hf.drewN _⟩
    · obtain rfl : k = n := by omega
      go_wp2_with fail
      go_ret
      exact ⟨rfl, hff⟩
end Go.Proofs.Ytamiliccnbkipaa
