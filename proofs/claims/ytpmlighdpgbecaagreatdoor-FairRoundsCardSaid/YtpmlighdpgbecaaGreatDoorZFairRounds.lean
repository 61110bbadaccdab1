/- The statement FairRounds holds for every input: the row, out of the walk of the law's code. -/
import Derived.Test.YtpmlighdpgbecaaGreatDoorWFairRounds6
import Derived.Test.YtpmlighdpgbecaaGreatDoorRows
import Derived.Test.YtpmlighdpgbecaaGreatDoorCards
import Derived.Test.YtpmlighdpgbecaaGreatDoorTie
import Derived.WalkKit
import Derived.ProofKit
import Derived.OpenShut
import Derived.ChangeOld
import Derived.Below
import Derived.Handed
import Derived.SizedLaws
import Derived.ChangeSame
import Derived.ChangeVars
import Derived.JoinedOf
import Derived.LaidLaws
import Derived.LaidHandle
import Derived.SevenTiedAt
namespace Go.Proofs.YtpmlighdpgbecaaGreatDoor.fairRounds
open Go.ChangeShapes Go.WideShapes Go.ChangeAt Go.RowKit Go.Proofs.YtpmlighdpgbecaaGreatDoor.S
set_option linter.all false
theorem own : ownKnob Tryz.prog.godebug = none := by kernel_rfl
theorem laidOut : laidOutB Tryz.prog = true := by kernel_rfl
set_option maxRecDepth 100000 in
theorem lifted (os : Os) (started : os.Started) (H : Type) (enc : TypeId × Value → H) :
    ReturnsInHanded {} Tryz.checked os 3 .any (fun w args => (Rows.fairRoundsSpec.pre enc Tryz.prog Tryz.f3 [] false w args ∧ laidMetH Tryz.prog Rows.fairRoundsRow.laid w) ∧ sizedMet enc Tryz.prog Tryz.f3 (OpenSpec.ofChange Rows.fairRoundsSpec) false w args) (Rows.fairRoundsSpec.post enc Tryz.prog Tryz.f3 false true false false) := by
  refine returnsInHanded_of_change_and (C := Tryz.checked) (X := fun w _ => laidMetH Tryz.prog Rows.fairRoundsRow.laid w) (fun _ _ _ hh h => h.of_heap hh) own started (by kernel_rfl) Tryz.func3
    (ChangeSpec.witness_at (enc := enc) (C := Tryz.checked) (os := os) (X := fun w _ => laidMetH Tryz.prog Rows.fairRoundsRow.laid w) false (laidWorld os) zeroArgs 8 rfl (by kernel_rfl) (by kernel_rfl) (by kernel_rfl) (by kernel_rfl) (by kernel_rfl) (laidWorld_met os _)) ?_
  intro W base args ds gs before hval0 hW hcnd hwt _ _
  have hval : ∀ (j : Nat) t v, Tryz.f3.params[j]? = some t → args[j]? = some v → Value.okWide Tryz.prog W .any base t v := hval0
  have hW' := hW
  obtain ⟨p, q, hA0, hV, rfl, hfz, hnd⟩ := hW
  have hA : DataW.TrodAll enc Tryz.prog W 0 (fun _ => true) true Tryz.f3.params.toList args.toList ds p := hA0
  rw [Tryz.params3] at hA hval
  obtain ⟨v0, vs0, d0, ds0, p0, q0, hargs, rfl, rfl, h0, r0⟩ := trodAll_cons hA
  obtain ⟨v1, vs1, d1, ds1, p1, q1, rfl, rfl, rfl, h1, r1⟩ := trodAll_cons r0
  obtain ⟨v2, vs2, d2, ds2, p2, q2, rfl, rfl, rfl, h2, r2⟩ := trodAll_cons r1
  obtain ⟨v3, vs3, d3, ds3, p3, q3, rfl, rfl, rfl, h3, r3⟩ := trodAll_cons r2
  obtain ⟨rfl, rfl, rfl⟩ := trodAll_nil r3
  obtain rfl : args = #[v0, v1, v2, v3] := by cases args; simp_all
  obtain ⟨rfl, rfl⟩ := trodVars_none hV
  have k0 := h0
  have lt0 : ∀ x ∈ p0, x.block < W.heap.size := by obtain ⟨m, hm⟩ := k0; exact DataW.trod_lt m _ _ _ hm
  obtain ⟨cs0, rfl⟩ := okWide_agg (P := Tryz.prog) rfl rfl (hval 0 28 v0 rfl rfl)
  obtain ⟨fu0, hf0⟩ := h0
  obtain ⟨n0, vi0, vl0, va0, vp0, init0, ls0, all0, pairs0, rfl, ri0, rl0, ra0, rp0⟩ := in_net (show DataW.trod enc Tryz.prog W 0 (fun _ => true) true fu0 28 cs0 = some (d0, p0) from hf0)
  have k1 := h1
  have lt1 : ∀ x ∈ p1, x.block < W.heap.size := by obtain ⟨m, hm⟩ := k1; exact DataW.trod_lt m _ _ _ hm
  obtain ⟨cs1, rfl⟩ := okWide_agg (P := Tryz.prog) rfl rfl (hval 1 32 v1 rfl rfl)
  obtain ⟨fu1, hf1⟩ := h1
  have hwd1 : ∀ m ∈ d1.weights Tryz.prog 32, m ≤ reachBytes := fun m hm => of_decide_eq_true (List.all_eq_true.1 hwt m (DataW.weights_mem_each (j := 1) (t := 32) (d := d1) rfl rfl m hm))
  obtain ⟨dk1, dr1, rd1⟩ := in_graph (x := (d1, p1)) hwd1 (show DataW.trod enc Tryz.prog W 0 (fun _ => true) true fu1 32 cs1 = some (d1, p1) from hf1)
  have k2 := h2
  have lt2 : ∀ x ∈ p2, x.block < W.heap.size := by obtain ⟨m, hm⟩ := k2; exact DataW.trod_lt m _ _ _ hm
  obtain ⟨b2, n2, c2, rfl⟩ := okWide_slice Tryz.underlying23 (hval 2 23 v2 rfl rfl)
  obtain ⟨fu2, hf2⟩ := h2
  obtain ⟨x2, l2, y2, he2, hr2, hc2⟩ := in_arrows hf2
  obtain ⟨rfl, rfl, rfl⟩ : b2 = x2 ∧ n2 = l2.length ∧ c2 = y2 := by simpa [Value.cells] using he2
  have k3 := h3
  have lt3 : ∀ x ∈ p3, x.block < W.heap.size := by obtain ⟨m, hm⟩ := k3; exact DataW.trod_lt m _ _ _ hm
  obtain ⟨cs3, rfl⟩ := okWide_agg (P := Tryz.prog) rfl rfl (hval 3 34 v3 rfl rfl)
  obtain ⟨fu3, hf3⟩ := h3
  obtain ⟨st3, vs_3, vl_3, stem3, loop3, rfl, rs3, ro3⟩ := in_round (show DataW.trod enc Tryz.prog W 0 (fun _ => true) true fu3 34 cs3 = some (d3, p3) from hf3)
  clear hA0 hval0
  refine (cl_row ((rounds_spec dk1 _ n0 vi0 vl0 va0 vp0 init0 ls0 all0 pairs0 _ dr1 _ vs_3 vl_3 l2 st3 stem3 loop3 ri0 rl0 ra0 rp0 rd1 hr2 rs3 ro3) _ Ghost.rfl')).mono fun e W' ⟨he, bel⟩ => ?_
  subst he
  exact ⟨_, rfl, _, _, _, [], _, [], hW', trodAll_mk1 (shut_bool Tryz.underlying4 _), (trodAll_cons_mk (Below.trod laidOut (by kernel_rfl) (of_decide_eq_true (by kernel_rfl)) k0 bel lt0) (trodAll_cons_mk (Below.trod laidOut (by kernel_rfl) (of_decide_eq_true (by kernel_rfl)) k1 bel lt1) (trodAll_cons_mk (Below.trod laidOut (by kernel_rfl) (of_decide_eq_true (by kernel_rfl)) k2 bel lt2) (trodAll_cons_mk (Below.trod laidOut (by kernel_rfl) (of_decide_eq_true (by kernel_rfl)) k3 bel lt3) trodAll_mk0)))), rfl, bel.frame _, fun h => by cases h⟩
theorem o1 : Tryz.pinned.checked.prog.funcNamed Rows.fairRoundsRow.func = some 3 := by kernel_rfl
theorem o2 : joinedFacts Tryz.pinned.checked.prog 3 Tryz.f3 Rows.fairRoundsSpec Rows.fairRoundsRow = true := by kernel_rfl
theorem o3 : Tryz.f3.isInstance Tryz.pinned.checked.prog Rows.fairRoundsRow.origin Rows.fairRoundsRow.targs := of_decide_eq_true (by kernel_rfl)
theorem o4 : Tryz.f3.isWrapper Tryz.pinned.checked.prog Rows.fairRoundsRow.wrapper Rows.fairRoundsRow.mainSum := by unfold Func.isWrapper; first | (rw [if_pos (by decide +kernel)]; kernel_rfl) | (rw [if_neg (by decide +kernel)]; exact ⟨rfl, rfl⟩)
theorem pre_of_cons {H : Type} (enc : TypeId × Value → H) (P : Program) (f : Func) (s : OpenSpec) (c : OpenClaim) (hd : c.domain = []) (ha : c.apart = false) (hl : c.laid ≠ []) :
    c.pre enc P f s = fun w args => (s.pre enc P f [] false w args ∧ laidMetH P c.laid w) ∧ sizedMet enc P f s false w args := by
  unfold OpenClaim.pre OpenClaim.preLaid
  cases h : c.laid with
  | nil => exact absurd h hl
  | cons x r => simp only [hd, ha]
theorem lifted' (os : Os) (started : os.Started) (H : Type) (enc : TypeId × Value → H) : ReturnsInHanded Rows.fairRoundsRow.assume Tryz.pinned.checked os 3 .any (Rows.fairRoundsRow.pre enc Tryz.pinned.checked.prog Tryz.f3 (OpenSpec.ofChange Rows.fairRoundsSpec)) (Rows.fairRoundsSpec.post enc Tryz.pinned.checked.prog Tryz.f3 Rows.fairRoundsRow.apart Rows.fairRoundsRow.fresh Rows.fairRoundsRow.handsOn Rows.fairRoundsRow.again) := by
  rw [pre_of_cons enc _ _ _ Rows.fairRoundsRow rfl rfl (fun h => by cases h)]
  exact lifted os started H enc
theorem over : Rows.fairRoundsRow.holds Tryz.pinned (OpenSpec.ofChange Rows.fairRoundsSpec) :=
  OpenClaim.holds_of_wide 3 Tryz.f3 rfl rfl rfl rfl rfl rfl rfl ⟨rfl, rfl, rfl, rfl, rfl⟩ rfl rfl rfl rfl rfl o1 Tryz.func3 o2 o3 o4 (fun os started H enc _ => lifted' os started H enc)
theorem proved : Rows.FairRoundsSaid := over
#print axioms proved
end Go.Proofs.YtpmlighdpgbecaaGreatDoor.fairRounds
namespace Go.Proofs.YtpmlighdpgbecaaGreatDoor
/-- The row, under a short name, for the claim. -/
theorem fairRounds_holds : Rows.FairRoundsSaid := fairRounds.proved
/-- The tied card: the row, its listed variables tied to the program's text. -/
theorem fairRoundsCard_holds : Rows.FairRoundsCardSaid :=
  Claim7.holds_tied_plain_at .later [] [.data, .data, .data, .sentinel] true (true, "c6622161b8f17a3cf0c44fd9a0d493377c46537ee8aed44b3213cede24c04afb") false
    fairRounds_holds (fun _ h => by cases h) (by kernel_rfl) (fun _ h => by cases h) fairRounds_row_tie rfl ⟨rfl, rfl⟩ (by kernel_rfl) rfl
    (fun f fn hf hfn => by
      obtain rfl : f = 3 := Option.some.inj ((show Tryz.prog.funcNamed "foregone/foregonelaw31.FairRounds" = some 3 by kernel_rfl).symm.trans hf) |>.symm
      obtain rfl : fn = Tryz.f3 := (Option.some.inj (Tryz.func3.symm.trans hfn)).symm
      refine ⟨by kernel_rfl, fun j t ht => ?_⟩
      have hall : Tryz.f3.params.toList.all (fun t => !Tryz.prog.wantsStandIn t) = true := by kernel_rfl
      have hm : t ∈ Tryz.f3.params.toList := by
        rw [Array.mem_toList_iff]; exact Array.mem_of_getElem? ht
      have := List.all_eq_true.1 hall t hm
      exact (Bool.not_eq_true' _).mp this)
    (by kernel_rfl)
#print axioms fairRoundsCard_holds
end Go.Proofs.YtpmlighdpgbecaaGreatDoor
