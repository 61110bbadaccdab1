/- The statement FairProofs holds for every input: the row, out of the walk of the law's code. -/
import Derived.Test.YtnanffbjmfgafaaGreatWFairProofs6
import Derived.Test.YtnanffbjmfgafaaGreatRows
import Derived.WalkKit
import Derived.ProofKit
import Derived.OpenShut
import Derived.ChangeOld
import Derived.Below
import Derived.Handed
import Derived.SizedLaws
namespace Go.Proofs.YtnanffbjmfgafaaGreat.fairProofs
open Go.ChangeShapes Go.WideShapes Go.ChangeAt Go.RowKit Go.Proofs.YtnanffbjmfgafaaGreat.S
set_option linter.all false
theorem own : ownKnob Tryz.prog.godebug = none := by kernel_rfl
theorem laidOut : laidOutB Tryz.prog = true := by kernel_rfl
set_option maxRecDepth 100000 in
theorem lifted (os : Os) (started : os.Started) (H : Type) (enc : TypeId × Value → H) :
    ReturnsInHanded {} Tryz.checked os 3 .any (Rows.fairProofsSpec.pre6 enc Tryz.prog Tryz.f3 Rows.fairProofsRow.domain false) (Rows.fairProofsSpec.post enc Tryz.prog Tryz.f3 false true false false) := by
  refine returnsInHanded_of_change_sized (C := Tryz.checked) own started (by kernel_rfl) Tryz.func3
    (ChangeSpec.witness6 (enc := enc) (C := Tryz.checked) false ⟨#[], #[.agg #[.int .i64 0, .slice none 0 0, .slice none 0 0, .slice none 0 0, .slice none 0 0], .agg #[.int .i64 0, .int .i64 0, .slice none 0 0, .slice none 0 0, .slice none 0 0]], []⟩ 8 (by kernel_rfl) (by kernel_rfl) (by kernel_rfl) (by kernel_rfl)) ?_
  intro W base args ds gs before hval0 hW hcnd hwt _
  have hval : ∀ (j : Nat) t v, Tryz.f3.params[j]? = some t → args[j]? = some v → Value.okWide Tryz.prog W .any base t v := hval0
  have hW' := hW
  obtain ⟨p, q, hA0, hV, rfl, hfz, hnd⟩ := hW
  have hA : DataW.TrodAll enc Tryz.prog W 0 (fun _ => true) true Tryz.f3.params.toList args.toList ds p := hA0
  rw [Tryz.params3] at hA hval
  obtain ⟨v0, vs0, d0, ds0, p0, q0, hargs, rfl, rfl, h0, r0⟩ := trodAll_cons hA
  obtain ⟨v1, vs1, d1, ds1, p1, q1, rfl, rfl, rfl, h1, r1⟩ := trodAll_cons r0
  obtain ⟨rfl, rfl, rfl⟩ := trodAll_nil r1
  obtain rfl : args = #[v0, v1] := by cases args; simp_all
  obtain ⟨rfl, rfl⟩ := trodVars_none hV
  have k0 := h0
  have lt0 : ∀ x ∈ p0, x.block < W.heap.size := by obtain ⟨m, hm⟩ := k0; exact DataW.trod_lt m _ _ _ hm
  obtain ⟨cs0, rfl⟩ := okWide_agg (P := Tryz.prog) rfl rfl (hval 0 28 v0 rfl rfl)
  obtain ⟨fu0, hf0⟩ := h0
  obtain ⟨n0, vi0, vl0, va0, vp0, init0, ls0, all0, pairs0, rfl, ri0, rl0, ra0, rp0⟩ := in_net (show DataW.trod enc Tryz.prog W 0 (fun _ => true) true fu0 28 cs0 = some (d0, p0) from hf0)
  have k1 := h1
  have lt1 : ∀ x ∈ p1, x.block < W.heap.size := by obtain ⟨m, hm⟩ := k1; exact DataW.trod_lt m _ _ _ hm
  obtain ⟨cs1, rfl⟩ := okWide_agg (P := Tryz.prog) rfl rfl (hval 1 31 v1 rfl rfl)
  obtain ⟨fu1, hf1⟩ := h1
  have hwd1 : ∀ m ∈ d1.weights Tryz.prog 31, m ≤ reachBytes := fun m hm => of_decide_eq_true (List.all_eq_true.1 hwt m (DataW.weights_mem_each (j := 1) (t := 31) (d := d1) rfl rfl m hm))
  obtain ⟨dk1, dr1, rd1, rdw1⟩ := in_drop (x := (d1, p1)) hwd1 (show DataW.trod enc Tryz.prog W 0 (fun _ => true) true fu1 31 cs1 = some (d1, p1) from hf1)
  clear hA0 hval0
  refine (cl_row (lawProofs_spec dk1 _ n0 vi0 vl0 va0 vp0 init0 ls0 all0 pairs0 _ dr1 ri0 rl0 ra0 rp0 rd1 rdw1)).mono fun e W' ⟨he, bel⟩ => ?_
  subst he
  exact ⟨_, rfl, _, _, _, [], _, [], hW', trodAll_mk1 (shut_bool Tryz.underlying4 _), (trodAll_cons_mk (Below.trod laidOut (by kernel_rfl) (of_decide_eq_true (by kernel_rfl)) k0 bel lt0) (trodAll_cons_mk (Below.trod laidOut (by kernel_rfl) (of_decide_eq_true (by kernel_rfl)) k1 bel lt1) trodAll_mk0)), rfl, bel.frame _, fun h => by cases h⟩
theorem over : Rows.fairProofsRow.holds Tryz.pinned (OpenSpec.ofChange Rows.fairProofsSpec) :=
  OpenClaim.holds_of_wide 3 Tryz.f3 rfl rfl rfl rfl rfl rfl rfl ⟨rfl, rfl, rfl, rfl, rfl⟩ rfl rfl rfl rfl rfl (by kernel_rfl) Tryz.func3 (by kernel_rfl)
    (of_decide_eq_true (by kernel_rfl)) (by unfold Func.isWrapper; first | (rw [if_pos (by decide +kernel)]; kernel_rfl) | (rw [if_neg (by decide +kernel)]; exact ⟨rfl, rfl⟩))
    (fun os started H enc _ => lifted os started H enc)
theorem proved : Rows.FairProofsSaid := over
#print axioms proved
end Go.Proofs.YtnanffbjmfgafaaGreat.fairProofs
namespace Go.Proofs.YtnanffbjmfgafaaGreat
/-- The row, under a short name, for the claim. -/
theorem fairProofs_holds : Rows.FairProofsSaid := fairProofs.proved
end Go.Proofs.YtnanffbjmfgafaaGreat
