/- What the statement FairRounds is proved with, part 6: walks of the code, each against a pure version of it. -/
import Derived.Carry
import Derived.Deep.Slices
import Derived.OpenShut
import Derived.SizedLaws
import Derived.Test.YtpmlighdpgbecaaGreatDoorRows
import Derived.KernelRfl
import Derived.LaidLaws
import Derived.LaidHandle
import Derived.Handed
import Derived.ChangeSame
import Derived.ChangeVars
import Derived.JoinedOf
import Derived.RowKit
import Derived.ProofKit
import Derived.WalkKit
import Derived.Test.YtpmlighdpgbecaaGreatDoorWFairRounds5
set_option linter.all false
namespace Go.Proofs.YtpmlighdpgbecaaGreatDoor.S
section
open Go.RowKit
theorem lasso230 {G : GraphV} {ls : List ArrowI} {start : Int} {stem loop : List Int} (h : ¬ (Vv G = true ∧ ls.all (inG G.sts.length) = true)) : Vz G ls start stem loop = ([], 0, 230) := if_neg h
theorem lasso322 {G : GraphV} {ls : List ArrowI} {start : Int} {stem loop : List Int} (h : Vv G = true ∧ ls.all (inG G.sts.length) = true) (h2 : Yz G.init (ls.map toA) start stem loop = false) : Vz G ls start stem loop = ([], 0, 322) := by
 unfold Vz; rw [if_pos h, if_neg (by rw [h2]; decide)]
theorem lasso0 {G : GraphV} {ls : List ArrowI} {start : Int} {stem loop : List Int} (h : Vv G = true ∧ ls.all (inG G.sts.length) = true) (h2 : Yz G.init (ls.map toA) start stem loop = true) : Vz G ls start stem loop = (Ul G ls (stem ++ loop), (stem.length : Int), 0) := by
 unfold Vz; rw [if_pos h, if_pos h2]
theorem LasV.err {k : Nat} {g : Ghost} {e : Int} {x : List (List ValT) × Int × Int} (h : x = ([], 0, e)) : LasV k g (.tuple #[.agg #[.slice none 0 0, .int .i64 0], .int .i64 e]) x := by
 subst h; exact ⟨_, rfl, RS.nil _ _ _ _⟩
theorem perm3 (L1 L2 X : Own) : List.Perm (L1 ++ (L2 ++ X)) (L2 ++ (L1 ++ []) ++ X) := by rw [List.append_nil, List.append_assoc]; exact List.perm_append_comm_assoc L1 L2 X
theorem inG_rs {n : Nat} {ls : List ArrowI} (h : ∀ a ∈ ls, 0 ≤ a.fr ∧ a.fr < n ∧ 0 ≤ a.to ∧ a.to < n) {g : Ghost} {v : Value} (hr : RS Jl g v ls) : RS kArr g v (ls.map toA) :=
 hr.conv (K' := kArr) toA rfl fun g cs x hx hr => by
  have := h x hx;have hr' : cs = eArrI x := hr;subst hr'
  show eArrI x = eArr (toA x)
  simp only [eArrI, eArr, toA, Int.toNat_of_nonneg this.1, Int.toNat_of_nonneg this.2.2.1]
set_option maxHeartbeats 8000000 in
theorem refLasso_spec (k : Nat) (g : Ghost) (cs : List Value) (G : GraphV) (vl vs vo : Value) (ls : List ArrowI) (start : Int) (stem loop : List Int) (hG : GrRn k g cs G) (hl : RS Jl g vl ls) (hst : RS kInt g vs stem) (ho : RS kInt g vo loop)
  (hll : ls.length ≤ 1000000) (hsl : stem.length ≤ 1000000) (hol : loop.length ≤ 1000000) :
  Pr PP 9 [.agg cs.toArray, vl, .agg #[.int .i64 start, vs, vo]] g fun g2 v => LasV k g2 v (Vz G ls start stem loop) := fun g' hg => by
 have c1 : Pu PP 29 _ g' _ := fun g2 h => refGraph_spec k g cs G hG g2 (Ghost.tr hg h)
 obtain ⟨⟨vS, vi, ve, rfl, ⟨a1, q1, rfl, hcap⟩, hS, hI, hE⟩, bn, bi, be, bs⟩ := hG
 have hS := hS.mono hg
 have hI := hI.mono hg
 have hl := hl.mono hg
 have hst := hst.mono hg
 have ho := ho.mono hg
 obtain ⟨al, cl, rfl⟩ := hl.form
 obtain ⟨ast, cst, rfl⟩ := hst.form
 obtain ⟨ao, co, rfl⟩ := ho.form
 refine cl_pr LasV.mono Tryz.func9 rfl rfl Tryz.ntmps9 rfl fun F => ?_
 refine ze fun b3 => ?_
 intro w hs
 refine wl_boxs hs rfl rfl rfl rfl ?_
 clear hs; intro b5 w hs
 revert w hs
 refine zfz fun g1 hg1 f5 => ?_
 refine zfz fun g2 hg2 f3 => ?_
 have f5 := f5.mono hg2
 have hgg : g' ≤ g2 := Ghost.tr hg1 hg2
 replace c1 : Pu PP 29 [.agg #[.slice a1 G.sts.length q1, vi, ve]] g2 (.int .i64 (if Vv G = true then 0 else 230)) := fun g3 h => c1 g3 (Ghost.tr hgg h)
 have q0 := f3.cells0 0 _ rfl
 have q1' := f3.cells0 1 _ rfl
 have q2 := f3.cells0 2 _ rfl
 have s0 := f5.cells0 0 _ rfl
 have s1 := f5.cells0 1 _ rfl
 have s2 := f5.cells0 2 _ rfl
 have f3' : ∀ j u, [Value.slice a1 G.sts.length q1, vi, ve][j]? = some u → g2.cell ((⟨b3, 0, none⟩ : Addr).add j) = some u := f3.cells0
 have f5' : ∀ j u, [Value.int .i64 start, .slice ast stem.length cst, .slice ao loop.length co][j]? = some u → g2.cell ((⟨b5, 0, none⟩ : Addr).add j) = some u := f5.cells0
 have n3 : [Value.slice a1 G.sts.length q1, vi, ve].length = 3 := rfl
 have n5 : [Value.int .i64 start, .slice ast stem.length cst, .slice ao loop.length co].length = 3 := rfl
 refine zne fun b6 => ?_
 have herr : ∀ e, Vz G ls start stem loop = ([], 0, e) → ∀ {ρ : Env} {s : List Fr} {fn : Func} {N : Nat}, fn.results = #[.cell 6 39, .tmp 7] → Ye ρ 6 = some (.pointer (some ⟨b6, 0, none⟩)) → Ye ρ 7 = some (.int .i64 e) → ∀ w, Sg g2 w ((b6, Xa [.slice none 0 0, .int .i64 0] 39) :: F) → WC PP none (RetQ PP fn fun r w' => ∃ g2, g' ≤ g2 ∧ Sg g2 w' F ∧ LasV k g2 r (Vz G ls start stem loop)) N [] .ret s ρ w := fun e he ρ s fn N hf h6 h7 w ⟨g3, hg3, hs⟩ =>
  Xb (resCT (k1 := 0) hs hf h6 h7 rfl rfl rfl rfl) ⟨g2, hgg, ⟨g3, hg3, hs.drop⟩, LasV.err he⟩
 by_cases hgb : Vv G = true
 ·rw [if_pos hgb] at c1
  repeat' (first | refine zA4 ?_ | (refine zBD (fun h => ?_) (fun h => ?_) <;> (try (exfalso; omega))) | fail)
  refine zL (fun i : Nat => [(8, .int .i64 (i : Int))]) [1, 3, 5, 6, 7] (fun i => i ≤ ls.length ∧ (ls.take i).all (inG G.sts.length) = true) (fun i => ls.length - i) 0 ⟨Nat.zero_le _, rfl⟩ fun i ⟨hi, hp⟩ => ?_
  by_cases hil : i < ls.length
  ·have f0 : ∀ q u, [Value.int .i64 ls[i].fr, .int .i64 ls[i].to, .int .u32 (ls[i].ms : Int)][q]? = some u → g2.cell ((Zj al 3 i).add q) = some u := Lies.of_eaddr (RS.enc (e := eArrI) (h0 := fun _ => rfl) (hl.mono hgg) hil)
   have e0 := f0 0 _ rfl;have e1 := f0 1 _ rfl
   have hbad : inG G.sts.length ls[i] = false → Vz G ls start stem loop = ([], 0, 230) := fun h => lasso230 fun H => by
    have := List.all_eq_true.1 H.2 _ (List.getElem_mem hil);rw [h] at this; cases this
   have hgood : inG G.sts.length ls[i] = true → (ls.take (i + 1)).all (inG G.sts.length) = true := fun h => Kc hil hp h
   have hin : inG G.sts.length ls[i] = true ↔ 0 ≤ ls[i].fr ∧ ls[i].fr < G.sts.length ∧ 0 ≤ ls[i].to ∧ ls[i].to < G.sts.length := by
    unfold inG; simp only [Bool.and_eq_true, decide_eq_true_eq, and_assoc]
   generalize inG G.sts.length ls[i] = B at hbad hgood hin
   generalize ls[i].fr = fr at e0 hin
   generalize ls[i].to = tt at e1 hin
   clear f0
   repeat' (first | refine zA4 ?_ | (refine zBD (fun h => ?_) (fun h => ?_) <;> (try (exfalso; omega))) | fail)
   ·refine zb0 ?_;refine zsw ?_
    repeat' (first | refine zA4 ?_ | (refine zBD (fun h => ?_) (fun h => ?_) <;> (try (exfalso; omega))) | fail)
    exact herr 230 (hbad (by rw [Bool.eq_false_iff]; intro h; rw [hin] at h; omega)) rfl rfl rfl
   ·refine zb0 ?_;refine zsw ?_
    repeat' (first | refine zA4 ?_ | (refine zBD (fun h => ?_) (fun h => ?_) <;> (try (exfalso; omega))) | fail)
    exact herr 230 (hbad (by rw [Bool.eq_false_iff]; intro h; rw [hin] at h; omega)) rfl rfl rfl
   ·refine zb0 ?_;refine zsw ?_
    repeat' (first | refine zA4 ?_ | (refine zBD (fun h => ?_) (fun h => ?_) <;> (try (exfalso; omega))) | fail)
    exact herr 230 (hbad (by rw [Bool.eq_false_iff]; intro h; rw [hin] at h; omega)) rfl rfl rfl
   ·refine zb0 ?_;refine zsw ?_
    repeat' (first | refine zA4 ?_ | (refine zBD (fun h => ?_) (fun h => ?_) <;> (try (exfalso; omega))) | fail)
    exact herr 230 (hbad (by rw [Bool.eq_false_iff]; intro h; rw [hin] at h; omega)) rfl rfl rfl
   ·exact Vc (i + 1) ⟨by show i + 1 ≤ ls.length; omega, hgood (hin.2 (by omega))⟩ (by show ls.length - (i + 1) < ls.length - i; omega)
  ·have hall := all_end hil hp
   have hok : ∀ a ∈ ls, 0 ≤ a.fr ∧ a.fr < G.sts.length ∧ 0 ≤ a.to ∧ a.to < G.sts.length := fun a ha => by
    have := List.all_eq_true.1 hall a ha;unfold inG at this; simpa only [Bool.and_eq_true, decide_eq_true_eq, and_assoc] using this
   have hlA : RS kArr g2 (.slice al ls.length cl) (ls.map toA) := inG_rs hok (hl.mono hgg);have c2 := refIsRound_spec g2 vi (.slice al ls.length cl) (.slice ast stem.length cst) (.slice ao loop.length co) (ls.map toA) G.init stem loop start (hI.mono hgg) hlA (hst.mono hgg) (ho.mono hgg) (by omega) (by simp; omega) (by omega) (by omega);cases hR : Yz G.init (ls.map toA) start stem loop with
   | false =>
    rw [hR] at c2
    repeat' (first | refine zA4 ?_ | (refine zBD (fun h => ?_) (fun h => ?_) <;> (try (exfalso; omega))) | fail)
    refine zb0 ?_;refine zsw ?_
    repeat' (first | refine zA4 ?_ | (refine zBD (fun h => ?_) (fun h => ?_) <;> (try (exfalso; omega))) | fail)
    exact herr 322 (lasso322 ⟨hgb, hall⟩ hR) rfl rfl rfl
   | true =>
    rw [hR] at c2
    have hmem := isRound_ok hR;simp only [List.length_map] at hmem
    repeat' (first | refine zA4 ?_ | (refine zBD (fun h => ?_) (fun h => ?_) <;> (try (exfalso; omega))) | fail)
    intro w hs;refine Yg (ps := [(1, .tmp 68)]) rfl rfl rfl rfl rfl rfl rfl ?_;revert w hs;refine zne fun b9 => ?_
    refine zsw ?_
    repeat' (first | refine zA4 ?_ | (refine zBD (fun h => ?_) (fun h => ?_) <;> (try (exfalso; omega))) | fail)
    refine zDm 6 Yd (by kernel_rfl) rfl fun gd hgd => ?_
    refine zW ?_;refine Xp (hgd.cell s1) rfl rfl rfl rfl ?_;refine sg_callL [] [] rfl rfl rfl (fun g3 hg3 => cloneInt_spec g3 _ stem (hst.mono (Ghost.tr hgg (Ghost.tr hgd hg3))) (by omega)) ?_;refine zW ?_;refine Xp (hgd.cell s2) rfl rfl rfl rfl ?_
    refine sg_appendK (n := stem.length) (m := loop.length) (cs := stem.flatMap eInt) (ys := loop.flatMap eInt) rfl ?_ (RS.flat ((ho.mono hgg).mono hgd)).2.2 (by exact (RS.flat (ho.mono hgg)).2.1) (by omega) rfl rfl rfl (fun _ => rfl) rfl rfl rfl rfl rfl rfl rfl (all_one (fun _ => rfl) loop) (fun _ => rfl) ?_
    ·exact fun g v L ⟨g1, _, h⟩ => h
    refine Xy ?_;intro g3 hg3;intro v1 L1 h1 v2 L2 h2;obtain ⟨g4, hg4, ho2⟩ := h2;refine zperm (L2 := L1 ++ (L2 ++ _)) ?_ (perm3 L1 L2 _);refine zdropL ?_;have ho3 : OwnS 3 1 v2 (stem ++ loop).length ((stem ++ loop).flatMap eInt) L2 := by rw [List.length_append, List.flatMap_append]; exact ho2
    refine zfzE (e := eInt) (m := 1) (h0 := fun _ => rfl) ho3 fun g5 hg5 hpath => ?_
    have hpath : RS kInt g5 v2 (stem ++ loop) := hpath;rw [lasso0 ⟨hgb, hall⟩ hR];have hpl : (stem ++ loop).length ≤ 2000000 := by rw [List.length_append]; omega
    have hpm : ∀ x ∈ stem ++ loop, 0 ≤ x ∧ x.toNat < ls.length := fun x hx => by
     rcases List.mem_append.1 hx with h | h
     ·exact hmem.2 x h
     ·exact hmem.1 x h
    generalize stem ++ loop = p at hpath hpl hpm ⊢
    obtain ⟨ap, cp, rfl⟩ := hpath.form;have hg25 : g2 ≤ g5 := Ghost.tr hgd (Ghost.tr hg3 hg5);replace q0 := hg25.cell q0;have hS5 := (hS.mono hgg).mono hg25;have hl5 := (hl.mono hgg).mono hg25;clear ho2 ho3 h1 c1 c2 s0 s1 s2 f3' f5' q1' q2
    repeat' (first | refine zA4 ?_ | (refine zBD (fun h => ?_) (fun h => ?_) <;> (try (exfalso; omega))) | fail)
    refine zLg (σ := Ghost × Nat × Value × Own) (fun x => [(11, .int .i64 (x.2.1 : Int))]) [1, 3, 5, 6, 7, 9, 10] (fun x => x.1) (fun x => (b9, Xa [x.2.2.1, .int .i64 (stem.length : Int)] 39) :: (b6, Xa [.slice none 0 0, .int .i64 0] 39) :: (x.2.2.2 ++ F)) (fun x => g5 ≤ x.1 ∧ x.2.1 ≤ p.length ∧ Bld (kSl (Ud k)) 44 x.1 x.2.2.1 (Ul G ls (p.take x.2.1)) x.2.2.2) (fun x => p.length - x.2.1) (g5, 0, .slice none 0 0, []) ⟨Ghost.rfl', Nat.zero_le _, Bld.nil⟩ rfl rfl fun (gc, j, v, H) ⟨h5, hj, hB⟩ => ?_
    simp only at h5 hj hB
    dsimp only
    by_cases hjl : j < p.length
    ·have hx := hpm _ (List.getElem_mem hjl);have ej := RS.int hpath (i := j) hjl;obtain ⟨kk, hkk⟩ := Int.eq_ofNat_of_zero_le hx.1;have hkl : kk < ls.length := by omega
     have hst1 : Ul G ls (p.take (j + 1)) = Ul G ls (p.take j) ++ [G.sts.getD ls[kk].fr.toNat []] := by
      unfold Ul;rw [tkS hjl, List.map_append, hkk];simp [List.getD_eq_getElem?_getD, hkl]
     have hsl : (Ul G ls (p.take j)).length = j := by unfold Ul; simp; omega
     rw [hkk] at ej
     have e0 : g5.cell ((Zj al 3 kk).add 0) = some (.int .i64 ls[kk].fr) := Lies.of_eaddr (RS.enc (e := eArrI) (h0 := fun _ => rfl) hl5 hkl) 0 _ rfl;have hfr := hok _ (List.getElem_mem hkl);generalize ls[kk].fr = fr at e0 hfr hst1
     obtain ⟨f, rfl⟩ := Int.eq_ofNat_of_zero_le hfr.1;have hfl : f < G.sts.length := by omega
     obtain ⟨b1, c1', e1, r1⟩ := hS5.sl (i := f) hfl;have hst2 : G.sts.getD ((f : Nat) : Int).toNat [] = G.sts[f] := by simp [List.getD_eq_getElem?_getD, hfl]
     rw [hst2] at hst1
     have hbl := (bs _ (List.getElem_mem hfl)).1;generalize G.sts[f] = st at e1 r1 hst1 hbl
     clear hfr hst2 hx
     repeat' (first | refine zA4 ?_ | (refine zBD (fun h => ?_) (fun h => ?_) <;> (try (exfalso; omega))) | fail)
     refine zperm (L2 := H ++ (_ :: _ :: F)) ?_ (perm2 _ _ H F).symm;obtain ⟨csB, hoB, hrB⟩ := hB;replace hoB : OwnS 44 1 v (Ul G ls (p.take j)).length csB H := hoB;rw [hsl] at hoB
     refine zDRm 17 H Yd (by kernel_rfl) rfl fun ge hce => ?_
     have hge := Ghost.tr h5 hce;refine zW ?_;refine Xv 0 rfl rfl rfl rfl rfl rfl ?_;refine zW ?_;refine Xp (hge.cell q0) rfl rfl rfl rfl ?_;refine zW ?_;refine zW ?_;refine zW ?_;refine Uc rfl rfl rfl rfl rfl (by omega) (hpath.base hjl) rfl ?_;refine Xp (hge.cell ej) rfl rfl rfl rfl ?_;refine Uc rfl rfl rfl rfl rfl (by omega) (hl5.base hkl) rfl ?_;refine zW ?_
     refine Xp (hge.cell e0) rfl rfl rfl rfl ?_;refine Uc rfl rfl rfl rfl rfl (by omega) (hS5.base hfl) rfl ?_;refine Xp (hge.cell e1) rfl rfl rfl rfl ?_;refine Uf [] H rfl rfl rfl (fun g6 hg6 => cloneVal_spec k g6 _ st (r1.mono (Ghost.tr hge hg6)) (by omega) g6 Ghost.rfl') ?_
     refine sg_oneV (ψ := fun g cs => (kSl (Ud k)).R g cs st) (fun g g' ys hle h => (kSl (Ud k)).mono hle h) rfl rfl ?_ rfl rfl rfl rfl (fun _ => rfl) ?_
     ·rintro g v L' ⟨g1, hle, rfl, h⟩;obtain ⟨a, c, rfl⟩ := h.form;exact ⟨rfl, slR (h.mono hle), rfl, rfl⟩
     refine sg_pushW (ψ := fun g cs => (kSl (Ud k)).R g cs st) (fun g g' ys hle h => (kSl (Ud k)).mono hle h) H [] (List.append_nil _).symm hoB (by omega) rfl rfl rfl rfl rfl rfl rfl rfl rfl rfl (fun _ => rfl) ?_;refine Xy ?_;intro g6 hg6;rintro _ _ ⟨_, _, rfl, _⟩ _ _ ⟨_, _, _, _, rfl, rfl, _⟩ v' H' ⟨g7, hg7, ys, ho', hψ, hl7⟩;obtain ⟨a', c', rfl⟩ := ho'.form
     refine zperm (L2 := (b9, Xa [v, .int .i64 (stem.length : Int)] 39) :: (b6, Xa [.slice none 0 0, .int .i64 0] 39) :: (H' ++ F)) ?_ (by classical exact List.perm_iff_count.2 fun x => by simp only [List.append_eq, List.set_cons_succ, List.set_cons_zero, List.eraseIdx_cons_zero, List.eraseIdx_cons_succ, List.count_cons, List.count_append, List.cons_append, List.nil_append, List.append_nil, List.append_assoc] <;> ac_rfl)
     repeat' (first | refine zA4 ?_ | (refine zBD (fun h => ?_) (fun h => ?_) <;> (try (exfalso; omega))) | fail)
     refine Zo (g6, j + 1, .slice a' (j + 1) c', H') ⟨Ghost.tr hge hg6, by show j + 1 ≤ _; omega, ?_⟩ (by show p.length - (j + 1) < p.length - j; omega) fun _ h => h
     show Bld _ _ g6 _ (Ul G ls (p.take (j + 1))) H'
     rw [hst1];exact Bld.push (cs := csB) (ys := ys) (by rw [hsl]; exact hoB) (fun i hi => (kSl (Ud k)).mono (Ghost.tr hce hg6) (hrB i hi)) ((kSl (Ud k)).mono hg7 hψ) (by rw [hsl]; exact ho')
    ·rw [List.take_of_length_le (by omega)] at hB
     obtain ⟨av, cv, rfl⟩ := hB.form
     repeat' (first | refine zA4 ?_ | (refine zBD (fun h => ?_) (fun h => ?_) <;> (try (exfalso; omega))) | fail)
     refine zswap ?_;refine zsw ?_
     repeat' (first | refine zA4 ?_ | (refine zBD (fun h => ?_) (fun h => ?_) <;> (try (exfalso; omega))) | fail)
     refine zperm (L2 := H ++ (_ :: _ :: F)) ?_ (perm2 _ _ H F).symm;intro w hs;obtain ⟨g6, hg6, ⟨g7, hg7, hs⟩, hr⟩ := hB.freeze hs;exact Xb (resCT (k1 := 0) hs rfl rfl rfl rfl rfl rfl rfl) ⟨g6, Ghost.tr hgg (Ghost.tr hg25 (Ghost.tr h5 hg6)), ⟨g7, hg7, hs.drop.drop⟩, _, rfl, hr⟩
 ·rw [if_neg hgb] at c1
  repeat' (first | refine zA4 ?_ | (refine zBD (fun h => ?_) (fun h => ?_) <;> (try (exfalso; omega))) | fail)
  refine zb0 ?_;refine zsw ?_
  repeat' (first | refine zA4 ?_ | (refine zBD (fun h => ?_) (fun h => ?_) <;> (try (exfalso; omega))) | fail)
  exact herr 230 (lasso230 fun h => hgb h.1) rfl rfl rfl
end
section
open Go.RowKit
theorem graph_rises {G : GraphV} (h : GraphOk G) : rises G.sts.length G.init = true := by
 unfold rises Kh
 refine List.all_eq_true.2 fun i hi => ?_
 have hi := List.mem_range.1 hi
 have e : ∀ j (h : j < G.init.length), G.init.getD j 0 = j := fun j hj => by rw [List.getD_eq_getElem?_getD, List.getElem?_eq_getElem hj]; exact h.ini j hj
 have := h.k
 unfold Vd
 rw [e i hi]
 by_cases h0 : i = 0
 ·subst h0; simp; omega
 ·rw [e (i - 1) (by omega)]; simp [h0]; omega
theorem graph_check {G : GraphV} (h : Vv G = true) (ls : List ArrowI) : ∃ e, Xz G.sts.length G.init ls [] [] = e ∧ e ≠ 1 := by
 classical
 have hG : GraphOk G := of_decide_eq_true h
 refine ⟨_, rfl, ?_⟩
 have := hG.n
 unfold Xz
 rw [if_neg (by rw [graph_rises hG]; simp; omega)]
 split
 ·decide
 ·split
  ·decide
  ·split <;> decide
set_option maxHeartbeats 8000000 in
theorem lasso_spec (k : Nat) (hk : k ≤ 1000) (g : Ghost) (cs : List Value) (G : GraphV) (vl vs vo : Value) (ls : List ArrowI) (start : Int) (stem loop : List Int) (hG : GrRn k g cs G) (hl : RS Jl g vl ls) (hst : RS kInt g vs stem) (ho : RS kInt g vo loop)
  (hll : ls.length ≤ 200000) (hsl : stem.length ≤ 100000) (hol : loop.length ≤ 100000) :
  Pr PP 8 [.agg cs.toArray, vl, .agg #[.int .i64 start, vs, vo]] g fun g2 v => LasV k g2 v (Vz G ls start stem loop) := fun g' hg => by
 have c1 : Pu PP 24 _ g' _ := fun g2 h => graph_spec k hk g cs G hG g2 (Ghost.tr hg h)
 obtain ⟨⟨vS, vi, ve, rfl, ⟨a1, q1, rfl, hcap⟩, hS, hI, hE⟩, bn, bi, be, bs⟩ := hG
 have hS := hS.mono hg
 have hI := hI.mono hg
 have hl := hl.mono hg
 have hst := hst.mono hg
 have ho := ho.mono hg
 obtain ⟨al, cl, rfl⟩ := hl.form
 obtain ⟨ast, cst, rfl⟩ := hst.form
 obtain ⟨ao, co, rfl⟩ := ho.form
 refine cl_pr LasV.mono Tryz.func8 rfl rfl Tryz.ntmps8 rfl fun F => ?_
 refine ze fun b3 => ?_
 intro w hs
 refine wl_boxs hs rfl rfl rfl rfl ?_
 clear hs; intro b5 w hs
 revert w hs
 refine zfz fun g1 hg1 f5 => ?_
 refine zfz fun g2 hg2 f3 => ?_
 have f5 := f5.mono hg2
 have hgg : g' ≤ g2 := Ghost.tr hg1 hg2
 replace c1 : Pu PP 24 [.agg #[.slice a1 G.sts.length q1, vi, ve]] g2 (.int .i64 (if Vv G = true then 0 else 230)) := fun g3 h => c1 g3 (Ghost.tr hgg h)
 have q0 := f3.cells0 0 _ rfl
 have q1' := f3.cells0 1 _ rfl
 have q2 := f3.cells0 2 _ rfl
 have s0 := f5.cells0 0 _ rfl
 have s1 := f5.cells0 1 _ rfl
 have s2 := f5.cells0 2 _ rfl
 have f3' : ∀ j u, [Value.slice a1 G.sts.length q1, vi, ve][j]? = some u → g2.cell ((⟨b3, 0, none⟩ : Addr).add j) = some u := f3.cells0
 have f5' : ∀ j u, [Value.int .i64 start, .slice ast stem.length cst, .slice ao loop.length co][j]? = some u → g2.cell ((⟨b5, 0, none⟩ : Addr).add j) = some u := f5.cells0
 have n3 : [Value.slice a1 G.sts.length q1, vi, ve].length = 3 := rfl
 have n5 : [Value.int .i64 start, .slice ast stem.length cst, .slice ao loop.length co].length = 3 := rfl
 refine zne fun b6 => ?_
 have herr : ∀ e, Vz G ls start stem loop = ([], 0, e) → ∀ {ρ : Env} {s : List Fr} {fn : Func} {N : Nat}, fn.results = #[.cell 6 39, .tmp 7] → Ye ρ 6 = some (.pointer (some ⟨b6, 0, none⟩)) → Ye ρ 7 = some (.int .i64 e) → ∀ w, Sg g2 w ((b6, Xa [.slice none 0 0, .int .i64 0] 39) :: F) → WC PP none (RetQ PP fn fun r w' => ∃ g2, g' ≤ g2 ∧ Sg g2 w' F ∧ LasV k g2 r (Vz G ls start stem loop)) N [] .ret s ρ w := fun e he ρ s fn N hf h6 h7 w ⟨g3, hg3, hs⟩ =>
  Xb (resCT (k1 := 0) hs hf h6 h7 rfl rfl rfl rfl) ⟨g2, hgg, ⟨g3, hg3, hs.drop⟩, LasV.err he⟩
 by_cases hgb : Vv G = true
 ·rw [if_pos hgb] at c1
  obtain ⟨e, he, he1⟩ := graph_check hgb ls
  have c2 : Pu PP 25 [.int .i64 (G.sts.length : Int), vi, .slice al ls.length cl, .agg #[.slice none 0 0, .slice none 0 0]] g2 (.int .i64 e) := det_pu fun g3 h => by
   have := check_spec g3 G.sts.length vi (.slice al ls.length cl) (.slice none 0 0) (.slice none 0 0) G.init ls [] [] (hI.mono (Ghost.tr hgg h)) (hl.mono (Ghost.tr hgg h)) (RS.nil _ _ _ _) (RS.nil _ _ _ _) (by omega) (by omega) (by simp) (by simp);rw [he] at this; exact this
  refine zs ?_;refine zb0 ?_;refine zs ?_
  refine zbs (fun h => ?_) (fun h => ?_)
  ·exact absurd (by simpa using h) he1
  refine zs ?_;refine zL (fun i : Nat => [(30, .int .i64 (i : Int))]) [1, 3, 5, 6, 7, 28, 29] (fun i => i ≤ ls.length ∧ (ls.take i).all (inG G.sts.length) = true) (fun i => ls.length - i) 0 ⟨Nat.zero_le _, rfl⟩ fun i ⟨hi, hp⟩ => ?_
  by_cases hil : i < ls.length
  ·have f0 : ∀ q u, [Value.int .i64 ls[i].fr, .int .i64 ls[i].to, .int .u32 (ls[i].ms : Int)][q]? = some u → g2.cell ((Zj al 3 i).add q) = some u := Lies.of_eaddr (RS.enc (e := eArrI) (h0 := fun _ => rfl) (hl.mono hgg) hil)
   have nf : [Value.int .i64 ls[i].fr, .int .i64 ls[i].to, .int .u32 (ls[i].ms : Int)].length = 3 := rfl
   have hbad : inG G.sts.length ls[i] = false → Vz G ls start stem loop = ([], 0, 230) := fun h => lasso230 fun H => by
    have := List.all_eq_true.1 H.2 _ (List.getElem_mem hil);rw [h] at this; cases this
   have hgood : inG G.sts.length ls[i] = true → (ls.take (i + 1)).all (inG G.sts.length) = true := fun h => Kc hil hp h
   have hin : inG G.sts.length ls[i] = true ↔ 0 ≤ ls[i].fr ∧ ls[i].fr < G.sts.length ∧ 0 ≤ ls[i].to ∧ ls[i].to < G.sts.length := by
    unfold inG; simp only [Bool.and_eq_true, decide_eq_true_eq, and_assoc]
   generalize inG G.sts.length ls[i] = B at hbad hgood hin
   generalize ls[i].fr = fr at f0 nf hin
   generalize ls[i].to = tt at f0 nf hin
   refine zs ?_;refine zbs (fun h => ?_) (fun h => ?_)
   case refine_2 => exact absurd (df h) (by omega)
   refine zs ?_;refine zne fun b9 => ?_
   refine zsw ?_;refine zs ?_;refine zmx ?_;refine zs ?_
   refine zbs (fun h => ?_) (fun h => ?_)
   ·have h := dt h;refine zs ?_;refine Ku ?_;refine zb0 ?_;refine zsw ?_;refine zs ?_;exact herr 230 (hbad (by rw [Bool.eq_false_iff]; intro h; rw [hin] at h; omega)) rfl rfl rfl
   ·have h := df h;refine zs ?_;refine zmx ?_;refine zs ?_
    refine zbs (fun h => ?_) (fun h => ?_)
    ·have h := dt h;refine zs ?_;refine Ku ?_;refine zb0 ?_;refine zsw ?_;refine zs ?_;exact herr 230 (hbad (by rw [Bool.eq_false_iff]; intro h; rw [hin] at h; omega)) rfl rfl rfl
    ·have h := df h;refine zs ?_;refine Ku ?_;exact Vc (i + 1) ⟨by show i + 1 ≤ ls.length; omega, hgood (hin.2 (by omega))⟩ (by show ls.length - (i + 1) < ls.length - i; omega)
  ·have hall := all_end hil hp;refine zs ?_;refine zbs (fun h => ?_) (fun h => ?_)
   case refine_1 => exact absurd (dt h) (by omega)
   refine zs ?_
   have hok : ∀ a ∈ ls, 0 ≤ a.fr ∧ a.fr < G.sts.length ∧ 0 ≤ a.to ∧ a.to < G.sts.length := fun a ha => by
    have := List.all_eq_true.1 hall a ha;unfold inG at this; simpa only [Bool.and_eq_true, decide_eq_true_eq, and_assoc] using this
   have hlA : RS kArr g2 (.slice al ls.length cl) (ls.map toA) := inG_rs hok (hl.mono hgg);refine zD Yd (by kernel_rfl) rfl fun gd hgd => ?_
   refine zW ?_;refine Xp (hgd.cell q0) rfl rfl rfl rfl ?_;refine zW ?_;refine zW ?_
   refine Uf [] [] rfl rfl rfl (fun g3 hg3 => Jd g3 G.sts.length (.slice al ls.length cl) (ls.map toA) (hlA.mono (Ghost.tr hgd hg3)) (by omega) (by simp; omega) (fun a ha => ?_)) ?_
   ·obtain ⟨b, hb, rfl⟩ := List.mem_map.1 ha;have := hok b hb;simp only [toA]; omega
   refine zW ?_;refine Xp (hgd.cell q1') rfl rfl rfl rfl ?_;refine Vm (cs := [Value.int .i64 start, .slice ast stem.length cst, .slice ao loop.length co]) (fun j v hj => hgd.cell (f5' j v hj)) rfl rfl rfl rfl rfl ?_
   refine sg_callWK (u := .bool (Yz G.init (ls.map toA) start stem loop)) (vs := fun v => [v, vi, .agg #[.int .i64 start, .slice ast stem.length cst, .slice ao loop.length co]]) 57 [] [] rfl rfl rfl (fun _ => rfl) (fun _ => rfl) (fun g3 g4 v L' hg4 ⟨g5, hg5, _, hGr⟩ hg3 => isRound_spec g3 v vi (.slice ast stem.length cst) (.slice ao loop.length co) G.sts.length (ls.map toA) G.init stem loop start (hGr.mono (Ghost.tr hg5 hg3)) (hI.mono (Ghost.tr hgg (Ghost.tr hgd (Ghost.tr hg4 hg3)))) (hst.mono (Ghost.tr hgg (Ghost.tr hgd (Ghost.tr hg4 hg3)))) (ho.mono (Ghost.tr hgg (Ghost.tr hgd (Ghost.tr hg4 hg3)))) (by omega) (by omega) (by omega)) (fun _ _ _ h => h) ?_
   refine zW ?_;refine Xy ?_;intro g3 hg3;rintro v57 _ ⟨_, _, rfl, _⟩;refine zup (Ghost.tr hgd hg3) ?_;cases hR : Yz G.init (ls.map toA) start stem loop with
   | false =>
    refine zs ?_;refine zb0 ?_;refine zsw ?_;refine zs ?_;exact herr 322 (lasso322 ⟨hgb, hall⟩ hR) rfl rfl rfl
   | true =>
    have hmem := isRound_ok hR;simp only [List.length_map] at hmem
    refine zs ?_;intro w hs;refine Yg (ps := [(1, .tmp 66)]) rfl rfl rfl rfl rfl rfl rfl ?_;revert w hs;refine zne fun b10 => ?_
    refine zsw ?_;refine zs ?_;intro w hs;refine wl_lits (ps := [(0, .tmp 69), (1, .tmp 71)]) hs rfl rfl rfl rfl rfl rfl rfl rfl rfl rfl ?_;clear hs; intro bl w hs;revert w hs;refine zfz fun g3 hg3 f6 => ?_
    have hg03 := Ghost.tr hgg hg3
    have hLM : RS (kSl kInt) g3 (.slice (some ⟨bl, 0, none⟩) 2 2) [stem, loop] := RS.mk' rfl f6 fun i hi => match i, hi with
     | 0, _ => slR (hst.mono hg03)
     | 1, _ => slR (ho.mono hg03)
    refine zpr (concatI_spec g3 _ [stem, loop] hLM (by simp) (by simp; omega)) fun g5 v2 hg5 hpath => ?_
    rw [show [stem, loop].flatten = stem ++ loop by simp] at hpath
    rw [lasso0 ⟨hgb, hall⟩ hR];have hpl : (stem ++ loop).length ≤ 2000000 := by rw [List.length_append]; omega
    have hpm : ∀ x ∈ stem ++ loop, 0 ≤ x ∧ x.toNat < ls.length := fun x hx => by
     rcases List.mem_append.1 hx with h | h
     ·exact hmem.2 x h
     ·exact hmem.1 x h
    generalize stem ++ loop = p at hpath hpl hpm ⊢
    obtain ⟨ap, cp, rfl⟩ := hpath.form;have hg25 : g2 ≤ g5 := Ghost.tr hg3 hg5;replace q0 := hg25.cell q0;have hS5 := (hS.mono hgg).mono hg25;have hl5 := (hl.mono hgg).mono hg25;clear c1 c2 s0 s1 s2 f3' f5' q1' q2 f6 hLM;refine zs ?_
    refine zLg (σ := Nat × Value × Own) (fun x => [(75, .int .i64 (x.1 : Int))]) [1, 3, 5, 6, 7, 10, 73, 74] (fun x => g5) (fun x => (b10, Xa [x.2.1, .int .i64 (stem.length : Int)] 39) :: (b6, Xa [.slice none 0 0, .int .i64 0] 39) :: (x.2.2 ++ F)) (fun x => x.1 ≤ p.length ∧ Bld (kSl (Ud k)) 44 g5 x.2.1 (Ul G ls (p.take x.1)) x.2.2) (fun x => p.length - x.1) (0, .slice none 0 0, []) ⟨Nat.zero_le _, Bld.nil⟩ rfl rfl fun (j, v, H) ⟨hj, hB⟩ => ?_
    simp only at hj hB
    dsimp only
    by_cases hjl : j < p.length
    ·have hx := hpm _ (List.getElem_mem hjl);have ej := RS.int hpath (i := j) hjl;obtain ⟨kk, hkk⟩ := Int.eq_ofNat_of_zero_le hx.1;have hkl : kk < ls.length := by omega
     have hst1 : Ul G ls (p.take (j + 1)) = Ul G ls (p.take j) ++ [G.sts.getD ls[kk].fr.toNat []] := by
      unfold Ul;rw [tkS hjl, List.map_append, hkk];simp [List.getD_eq_getElem?_getD, hkl]
     have hsl : (Ul G ls (p.take j)).length = j := by unfold Ul; simp; omega
     rw [hkk] at ej
     have e0 : g5.cell ((Zj al 3 kk).add 0) = some (.int .i64 ls[kk].fr) := Lies.of_eaddr (RS.enc (e := eArrI) (h0 := fun _ => rfl) hl5 hkl) 0 _ rfl;have hfr := hok _ (List.getElem_mem hkl);generalize ls[kk].fr = fr at e0 hfr hst1
     obtain ⟨f, rfl⟩ := Int.eq_ofNat_of_zero_le hfr.1;have hfl : f < G.sts.length := by omega
     obtain ⟨b1, c1', e1, r1⟩ := hS5.sl (i := f) hfl;have hst2 : G.sts.getD ((f : Nat) : Int).toNat [] = G.sts[f] := by simp [List.getD_eq_getElem?_getD, hfl]
     rw [hst2] at hst1
     generalize G.sts[f] = st at e1 r1 hst1
     clear hfr hst2 hx;refine zs ?_;refine zbs (fun h => ?_) (fun h => ?_)
     case refine_2 => exact absurd (df h) (by omega)
     refine zs ?_;refine zperm (L2 := H ++ (_ :: _ :: F)) ?_ (perm2 _ _ H F).symm;obtain ⟨csB, hoB, hrB⟩ := hB;replace hoB : OwnS 44 1 v (Ul G ls (p.take j)).length csB H := hoB;rw [hsl] at hoB
     refine zDRm 13 H Yd (by kernel_rfl) rfl fun ge hge => ?_
     refine zW ?_;refine Xv 0 rfl rfl rfl rfl rfl rfl ?_;refine zW ?_;refine Xp (hge.cell q0) rfl rfl rfl rfl ?_;refine zW ?_;refine zW ?_;refine Uc rfl rfl rfl rfl rfl (by omega) (hl5.base hkl) rfl ?_;refine zW ?_;refine Xp (hge.cell e0) rfl rfl rfl rfl ?_;refine Uc rfl rfl rfl rfl rfl (by omega) (hS5.base hfl) rfl ?_;refine Xp (hge.cell e1) rfl rfl rfl rfl ?_
     refine sg_one rfl rfl rfl rfl rfl rfl rfl rfl ?_;refine sg_push H [] (List.append_nil _).symm hoB (by omega) rfl rfl rfl rfl rfl rfl rfl rfl rfl rfl rfl rfl (fun _ => rfl) ?_;refine Xy ?_;intro g6 hg6;rintro _ _ ⟨_, _, _, rfl, rfl, _⟩ v' H' ⟨g7, hg7, ho'⟩;obtain ⟨a', c', rfl⟩ := ho'.form;refine zup (Ghost.tr hge hg6) ?_
     refine zperm (L2 := (b10, Xa [v, .int .i64 (stem.length : Int)] 39) :: (b6, Xa [.slice none 0 0, .int .i64 0] 39) :: (H' ++ F)) ?_ (by classical exact List.perm_iff_count.2 fun x => by simp only [List.append_eq, List.set_cons_succ, List.set_cons_zero, List.eraseIdx_cons_zero, List.eraseIdx_cons_succ, List.count_cons, List.count_append, List.cons_append, List.nil_append, List.append_nil, List.append_assoc] <;> ac_rfl)
     refine zs ?_;refine zst ?_;refine zs ?_;refine Zo (j + 1, .slice a' (j + 1) c', H') ⟨by show j + 1 ≤ _; omega, ?_⟩ (by show p.length - (j + 1) < p.length - j; omega) fun _ h => h
     show Bld _ _ g5 _ (Ul G ls (p.take (j + 1))) H'
     rw [hst1];exact Bld.push (cs := csB) (by rw [hsl]; exact hoB) hrB (slR r1) (by rw [hsl]; exact ho')
    ·rw [List.take_of_length_le (by omega)] at hB
     obtain ⟨av, cv, rfl⟩ := hB.form;refine zs ?_;refine zbs (fun h => ?_) (fun h => ?_)
     case refine_1 => exact absurd (dt h) (by omega)
     refine zs ?_;refine zswap ?_;refine zsw ?_;refine zs ?_;refine zperm (L2 := H ++ (_ :: _ :: F)) ?_ (perm2 _ _ H F).symm;intro w hs;obtain ⟨g6, hg6, ⟨g7, hg7, hs⟩, hr⟩ := hB.freeze hs;exact Xb (resCT (k1 := 0) hs rfl rfl rfl rfl rfl rfl rfl) ⟨g6, Ghost.tr hgg (Ghost.tr hg25 hg6), ⟨g7, hg7, hs.drop.drop⟩, _, rfl, hr⟩
 ·rw [if_neg hgb] at c1
  refine zs ?_;refine zb0 ?_;refine zsw ?_;refine zs ?_;exact herr 230 (lasso230 fun h => hgb h.1) rfl rfl rfl
end
section
open Go.RowKit
theorem cmpSt_self (s : List ValT) : cmpSt s s = 0 := by
 unfold cmpSt
 rw [cmpLs_lex rfl, lexC_self]
 simp [thn, Zc]
theorem same_spec (k : Nat) (g : Ghost) (va vb : Value) (s : List ValT) (ha : RS (Ud k) g va s) (hb : RS (Ud k) g vb s) (hl : s.length ≤ 1000000) :
  Pu PP 11 [va, vb] g (.bool true) := fun g' hg => by
 have c1 := refCmpSt_spec k g' va vb s s (ha.mono hg) (hb.mono hg) (by omega) (by omega)
 rw [cmpSt_self] at c1
 refine Ym Tryz.func11 rfl rfl Tryz.ntmps11 rfl fun F => ?_
 refine zs ?_
 exact zt rfl
theorem equalF_spec (k : Nat) (g : Ghost) (v1 v2 : Value) (S : List (List ValT)) (h1 : RS (kSl (Ud k)) g v1 S) (h2 : RS (kSl (Ud k)) g v2 S) (hS : S.length ≤ 1000000) (hb : ∀ s ∈ S, s.length ≤ 1000000) :
  Pu PP 10 [v1, v2, .func (.func 11) #[] #[]] g (.bool true) := fun g' hg => by
 have h1 := h1.mono hg
 have h2 := h2.mono hg
 obtain ⟨a1, q1, rfl⟩ := h1.form
 obtain ⟨a2, q2, rfl⟩ := h2.form
 refine Ym Tryz.func10 rfl rfl Tryz.ntmps10 rfl fun F => ?_
 refine zs ?_
 refine zbs (fun h => ?_) (fun h => ?_)
 ·simp at h
 refine zs ?_
 refine zL (fun i : Nat => [(17, .int .i64 (i : Int))]) [0, 1, 2, 15, 16] (fun i => i ≤ S.length) (fun i => S.length - i) 0 (Nat.zero_le _) fun i hi => ?_
 by_cases hil : i < S.length
 ·obtain ⟨b1, c1', e1, r1⟩ := h1.sl (i := i) hil;obtain ⟨b2, c2', e2, r2⟩ := h2.sl (i := i) hil;have c1 := same_spec k g' _ _ _ r1 r2 (hb _ (List.getElem_mem hil));refine zs ?_;refine zbs (fun h => ?_) (fun h => ?_)
  case refine_2 => exact absurd (df h) (by omega)
  refine zs ?_;exact Vc (i + 1) (by show i + 1 ≤ S.length; omega) (by show S.length - (i + 1) < S.length - i; omega)
 ·refine zs ?_;refine zbs (fun h => ?_) (fun h => ?_)
  case refine_1 => exact absurd (dt h) (by omega)
  refine zs ?_;exact zt rfl
end
section
open Go.RowKit
theorem cntL_one (v : ValT) : Zz [v] = cntV v := by simp [Zz]
theorem depL_one (v : ValT) : Ut [v] = depV v := by simp [Ut]
def mtrC (b : Nat) (m : Int) : Nat × Obj := (b, Xa [.int .i64 m] 69)
def ValM (k : Nat) : Prop := ∀ (g : Ghost) (cs : List Value) (v : ValT) (deep m : Int) (b : Nat), ValRn k g cs v → 0 ≤ deep → deep ≤ 61 → 0 ≤ m → m ≤ 600 →
 Cl PP 53 [.pointer (some ⟨b, 0, none⟩), .agg cs.toArray, .int .i64 deep] g [mtrC b m] fun _ L' r => ∃ res m', r = .bool res ∧ L' = [mtrC b m'] ∧ (res = true → 0 ≤ m' ∧ m' + cntV v = m ∧ depV v + deep ≤ 61)
theorem vals_spec (k : Nat) (ih : ValM k) (g : Ghost) (vl : Value) (l : List ValT) (deep m : Int) (b : Nat) (hl : RS (Ud k) g vl l) (hd0 : 0 ≤ deep) (hd : deep ≤ 61) (h0 : 0 ≤ m) (hm : m ≤ 600) (hll : l.length ≤ 35184372088832) :
  Cl PP 23 [.pointer (some ⟨b, 0, none⟩), vl, .int .i64 deep] g [mtrC b m] fun _ L' r => ∃ res m', r = .bool res ∧ L' = [mtrC b m'] ∧ (res = true → 0 ≤ m' ∧ m' + Zz l = m ∧ Ut l + deep ≤ 61) := by
 obtain ⟨al, cl, rfl⟩ := hl.form
 refine Qm Tryz.func23 rfl rfl Tryz.ntmps23 rfl fun F => ?_
 unfold mtrC
 refine zs ?_
 refine zLg (σ := Nat × Int) (fun x => [(11, .int .i64 (x.1 : Int))]) [0, 2, 9, 10] (fun _ => g) (fun x => mtrC b x.2 :: F) (fun x => x.1 ≤ l.length ∧ 0 ≤ x.2 ∧ x.2 + Zz (l.take x.1) = m ∧ Ut (l.take x.1) + deep ≤ 61) (fun x => l.length - x.1) (0, m) ⟨Nat.zero_le _, h0, by simp [Zz], by simp [Ut]; omega⟩ rfl rfl fun (i, m1) ⟨hi, p0, p1, p2⟩ => ?_
 simp only at hi p0 p1 p2
 dsimp only
 unfold mtrC
 by_cases hil : i < l.length
 ·obtain ⟨cs1, r1, q1⟩ := hl.get (i := i) hil;have n1 : cs1.length = 7 := r1.len;have q1 := q1.of_eaddr;have ht := tkS hil;refine zs ?_;refine zbs (fun h => ?_) (fun h => ?_)
  case refine_2 => exact absurd (df h) (by omega)
  refine zs ?_;obtain ⟨k, rfl⟩ : ∃ j, k = j + 1 := ⟨k - 1, by cases k; exact (r1 : ValRn 0 _ _ _).elim; rfl⟩
  obtain ⟨vd, vl', vm, rfl, d1, l1, m2, _⟩ := (show ValRn (k + 1) g cs1 l[i] from r1).open';obtain ⟨ad, cd, rfl⟩ := d1.form;obtain ⟨al', cl', rfl⟩ := l1.form;obtain ⟨am, cm, rfl⟩ := m2.form;refine zne fun b8 => ?_
  refine zsw ?_;refine zs ?_;refine zswap ?_;refine zcl (fun g2 hg2 => ih g2 _ l[i] deep m1 b (ValRn.mono hg2 r1) hd0 hd p0 (by omega)) fun v g2 L2 hg2 hp => ?_
  obtain ⟨res, m', rfl, rfl, hp⟩ := hp;refine zup hg2 ?_;unfold mtrC;cases res with
  | false =>
   refine zs ?_;refine zswap ?_;refine Ku ?_;exact fun w hs => Xb (Xo rfl rfl) ⟨g, [mtrC b m'], Ghost.rfl', hs, false, m', rfl, rfl, fun h => by cases h⟩
  | true =>
   obtain ⟨p3, p4, p5⟩ := hp rfl;refine zs ?_;refine zswap ?_;refine Ku ?_
   refine Zo (i + 1, m') ⟨by show i + 1 ≤ l.length; omega, p3, ?_, ?_⟩ (by show l.length - (i + 1) < l.length - i; omega) fun _ h => h
   ·show m' + (Zz (l.take (i + 1)) : Int) = m
    rw [ht, cntL_app, cntL_one]; omega
   ·show (Ut (l.take (i + 1)) : Int) + deep ≤ 61
    rw [ht, depL_app, depL_one]; omega
 ·rw [List.take_of_length_le (by omega)] at p1 p2
  refine zs ?_;refine zbs (fun h => ?_) (fun h => ?_)
  case refine_1 => exact absurd (dt h) (by omega)
  refine zs ?_;exact fun w hs => Xb (Xo rfl rfl) ⟨g, [mtrC b m1], Ghost.rfl', hs, true, m1, rfl, rfl, fun _ => ⟨p0, p1, p2⟩⟩
theorem val_step (k : Nat) (ih : ValM k) : ValM (k + 1) := fun g cs v deep m b hv hd0 hd h0 hm => by
 obtain ⟨vd, vl, vm, rfl, d1, l1, m1, n1, n2, n3, n4⟩ := hv.open'
 obtain ⟨ad, cd, rfl⟩ := d1.form
 obtain ⟨al, cl, rfl⟩ := l1.form
 obtain ⟨am, cm, rfl⟩ := m1.form
 have hcnt : cntV v = Zz v.l + Zz v.m + 1 := by cases v; rw [cntV]; rfl
 have hdep : depV v = max (Ut v.l) (Ut v.m) + 1 := by cases v; rw [depV]; rfl
 refine Qm Tryz.func53 rfl rfl Tryz.ntmps53 rfl fun F => ?_
 unfold mtrC
 refine ze fun b4 => ?_
 refine zfz fun g1 hg1 f4 => ?_
 have q2 := f4.cells0 3 _ rfl
 have q4 := f4.cells0 4 _ rfl
 have q5 := f4.cells0 5 _ rfl
 have q6 := f4.cells0 6 _ rfl
 refine zs ?_
 refine zst ?_
 refine zs ?_
 refine zbs (fun h => ?_) (fun h => ?_)
 ·refine zs ?_;exact fun w hs => Xb (Xo rfl rfl) ⟨g1, [mtrC b (m - 1)], hg1, hs, false, _, rfl, rfl, fun h => by cases h⟩
 have e1 := df h
 refine zs ?_
 refine zbs (fun h => ?_) (fun h => ?_)
 ·refine zs ?_;exact fun w hs => Xb (Xo rfl rfl) ⟨g1, [mtrC b (m - 1)], hg1, hs, false, _, rfl, rfl, fun h => by cases h⟩
 have e2 := df h
 refine zs ?_
 refine zbs (fun h => ?_) (fun h => ?_)
 ·refine zs ?_;exact fun w hs => Xb (Xo rfl rfl) ⟨g1, [mtrC b (m - 1)], hg1, hs, false, _, rfl, rfl, fun h => by cases h⟩
 have e3 := df h
 refine zs ?_
 refine zbs (fun h => ?_) (fun h => ?_)
 ·refine zs ?_;exact fun w hs => Xb (Xo rfl rfl) ⟨g1, [mtrC b (m - 1)], hg1, hs, false, _, rfl, rfl, fun h => by cases h⟩
 have e4 := df h
 refine zs ?_
 refine zcl (fun g2 hg2 => vals_spec k ih g2 _ v.l (deep + 1) (m - 1) b (l1.mono (Ghost.tr hg1 hg2)) (by omega) (by omega) (by omega) (by omega) n3) fun u g2 L2 hg2 hp => ?_
 obtain ⟨res, m', rfl, rfl, hp⟩ := hp
 unfold mtrC
 cases res with
 | false =>
  refine zs ?_;exact fun w hs => Xb (Xo rfl rfl) ⟨g2, [mtrC b m'], Ghost.tr hg1 hg2, hs, false, m', rfl, rfl, fun h => by cases h⟩
 | true =>
  obtain ⟨p1, p2, p3⟩ := hp rfl;replace q6 := hg2.cell q6;refine zs ?_;refine zcl (fun g3 hg3 => vals_spec k ih g3 _ v.m (deep + 1) m' b (m1.mono (Ghost.tr hg1 (Ghost.tr hg2 hg3))) (by omega) (by omega) (by omega) (by omega) n4) fun u g3 L3 hg3 hp => ?_
  obtain ⟨res, m'', rfl, rfl, hp⟩ := hp;unfold mtrC;refine zs ?_
  exact fun w hs => Xb (Xo rfl rfl) ⟨g3, [mtrC b m''], Ghost.tr hg1 (Ghost.tr hg2 hg3), hs, res, m'', rfl, rfl, fun h => by
   obtain ⟨p4, p5, p6⟩ := hp h;omega⟩
theorem val_all : ∀ k, ValM k
 | 0 => fun _ _ _ _ _ _ h => h.elim
 | k + 1 => val_step k (val_all k)
end
section
open Go.RowKit
theorem depL_mem : ∀ {l : List ValT} {x : ValT}, x ∈ l → depV x ≤ Ut l
 | v :: r, x, h => by
  rw [Ut]
  rcases List.mem_cons.1 h with rfl | h
  ·omega
  ·have := depL_mem h; omega
theorem rsg_deep {α : Type} {R R' : List Value → α → Prop} {sz : Nat} {g : Ghost} {v : Value} {xs : List α} (hR : ∀ cs x, x ∈ xs → R cs x → R' cs x) : RSg R sz g v xs → RSg R' sz g v xs
 | ⟨a, cap, e, h⟩ => ⟨a, cap, e, h.imp id fun ⟨b, o, e2, h⟩ => ⟨b, o, e2, fun i hi => let ⟨cs, q1, q2⟩ := h i hi; ⟨cs, hR _ _ (List.getElem_mem hi) q1, q2⟩⟩⟩
theorem len_cntL : ∀ (l : List ValT), l.length ≤ Zz l
 | [] => Nat.zero_le _
 | v :: r => by
  have := len_cntL r;have h : cntV v = Zz v.l + Zz v.m + 1 := by cases v; rw [cntV]; rfl
  rw [Zz, List.length_cons]; omega
structure GrR0 (k : Nat) (g : Ghost) (cs : List Value) (G : GraphV) : Prop where
 cs : ∃ vs vi ve, cs = [vs, vi, ve] ∧ (∃ a c, vs = .slice a G.sts.length c ∧ G.sts.length ≤ c) ∧ RS (kSl (Ud k)) g vs G.sts ∧ RS kInt g vi G.init ∧ RS kEdge g ve G.es
 n : G.sts.length ≤ 35184372088832
 i : G.init.length ≤ 35184372088832
 e : G.es.length ≤ 35184372088832
 s : ∀ s ∈ G.sts, s.length ≤ 35184372088832
def ThinG (G : GraphV) : Prop := G.sts.length ≤ 30 ∧ G.es.length ≤ 120 ∧ G.init.length ≤ 40 ∧ ∀ s ∈ G.sts, Zz s ≤ 600 ∧ Ut s ≤ 60
theorem thin_spec (k : Nat) (g : Ghost) (cs : List Value) (G : GraphV) (hG : GrR0 k g cs G) : Pr PP 6 [.agg cs.toArray] g fun _ v => ∃ res, v = .bool res ∧ (res = true → ThinG G) := fun g' hg => by
 obtain ⟨⟨vs, vi, ve, rfl, ⟨a1, q1, rfl, hcap⟩, hS, hI, hE⟩, bn, bi, be, bs⟩ := hG
 have hS := hS.mono hg
 have hI := hI.mono hg
 have hE := hE.mono hg
 obtain ⟨ai, ci, rfl⟩ := hI.form
 obtain ⟨ae, ce, rfl⟩ := hE.form
 refine cl_pr (fun _ _ _ _ h => h) Tryz.func6 rfl rfl Tryz.ntmps6 rfl fun F => ?_
 refine ze fun b1 => ?_
 refine zfz fun g1 hg1 f1 => ?_
 have q0 := f1.cells0 0 _ rfl
 have q1' := f1.cells0 1 _ rfl
 have q2 := f1.cells0 2 _ rfl
 refine zs ?_
 intro w hs
 refine Yg (ps := [(0, .const (.int .i64 600))]) rfl rfl rfl rfl rfl rfl rfl ?_
 revert w hs
 refine ze' fun b7 => ?_
 refine zs ?_
 have hf : ∀ {ρ : Env} {s : List Fr} {fn : Func} {N : Nat} {p : Nat × Obj}, fn.results = #[.tmp 2] → Ye ρ 2 = some (.bool false) → ∀ w, Sg g1 w (p :: F) → WC PP none (RetQ PP fn fun r w' => ∃ g2, g' ≤ g2 ∧ Sg g2 w' F ∧ ∃ res, r = .bool res ∧ (res = true → ThinG G)) N [] .ret s ρ w := fun hr h w hs =>
  Xb (Xo hr h) ⟨g1, hg1, hs.drop, false, rfl, fun h => by cases h⟩
 refine zbs (fun h => ?_) (fun h => ?_)
 ·refine zs ?_;exact hf rfl rfl
 have e1 := df h
 refine zs ?_
 refine zbs (fun h => ?_) (fun h => ?_)
 ·refine zs ?_;exact hf rfl rfl
 have e2 := df h
 refine zs ?_
 refine zbs (fun h => ?_) (fun h => ?_)
 ·refine zs ?_;exact hf rfl rfl
 have e3 := df h
 refine zs ?_
 refine zLg (σ := Nat × Int) (fun x => [(27, .int .i64 (x.1 : Int))]) [2, 3, 25, 26] (fun _ => g1) (fun x => mtrC b7 x.2 :: F) (fun x => x.1 ≤ G.sts.length ∧ 0 ≤ x.2 ∧ x.2 ≤ 600 ∧ ∀ j (hj : j < G.sts.length), j < x.1 → Zz G.sts[j] ≤ 600 ∧ Ut G.sts[j] ≤ 60) (fun x => G.sts.length - x.1) (0, 600) ⟨Nat.zero_le _, by decide, by decide, fun j _ h => by cases h⟩ rfl rfl fun (i, m) ⟨hi, p0, p1, p2⟩ => ?_
 simp only at hi p0 p1 p2
 dsimp only
 unfold mtrC
 by_cases hil : i < G.sts.length
 ·obtain ⟨b1', c1', x1, r1⟩ := (hS.mono hg1).sl (i := i) hil;have hb := bs _ (List.getElem_mem hil);refine zs ?_;refine zbs (fun h => ?_) (fun h => ?_)
  case refine_2 => exact absurd (df h) (by omega)
  refine zs ?_;refine zcl (fun g2 hg2 => vals_spec k (val_all k) g2 _ G.sts[i] 1 m b7 (r1.mono hg2) (by decide) (by decide) p0 p1 hb) fun v g2 L2 hg2 hp => ?_
  obtain ⟨res, m', rfl, rfl, hp⟩ := hp;refine zup hg2 ?_;unfold mtrC;cases res with
  | false =>
   refine zs ?_;exact hf rfl rfl
  | true =>
   obtain ⟨p3, p4, p5⟩ := hp rfl;refine zs ?_;refine Zo (i + 1, m') ⟨by show i + 1 ≤ _; omega, p3, by show m' ≤ 600; omega, fun j hj hji => ?_⟩ (by show G.sts.length - (i + 1) < G.sts.length - i; omega) fun _ h => h
   by_cases e : j = i
   ·subst e; omega
   ·exact p2 j hj (by have : j < i + 1 := hji; omega)
 ·refine zs ?_;refine zbs (fun h => ?_) (fun h => ?_)
  case refine_1 => exact absurd (dt h) (by omega)
  refine zs ?_
  exact fun w hs => Xb (Xo rfl rfl) ⟨g1, hg1, hs.drop, true, rfl, fun _ => ⟨by omega, by omega, by omega, fun s hs => by
   obtain ⟨j, hj, rfl⟩ := List.getElem_of_mem hs;exact p2 j hj (by omega)⟩⟩
theorem ValRn.deep : ∀ (k n : Nat) {g : Ghost} {cs : List Value} {v : ValT}, ValRn k g cs v → depV v ≤ n → ValRn n g cs v
 | 0, _, _, _, _, h, _ => h.elim
 | k + 1, 0, _, _, v, _, hd => by cases v; rw [depV] at hd; omega
 | k + 1, n + 1, g, cs, v, ⟨vd, vl, vm, e, h1, h2, h3, h4⟩, hd => by
  have hdep : depV v = max (Ut v.l) (Ut v.m) + 1 := by cases v; rw [depV]; rfl
  exact ⟨vd, vl, vm, e, h1, rsg_deep (fun cs x hx h => ValRn.deep k n h (by have := depL_mem hx; omega)) h2, rsg_deep (fun cs x hx h => ValRn.deep k n h (by have := depL_mem hx; omega)) h3, h4⟩
end
section
open Go.RowKit
theorem compR_len (n : Nat) (ls : List Arrow) (inn : List Bool) (k : Nat) : (Zk n ls inn k).length = n := by simp [Zk, andB]
theorem refComponent_spec (g : Ghost) (vl vin : Value) (n k : Nat) (ls : List Arrow) (inn : List Bool) (hl : RS kArr g vl ls) (hv : ValidG n ls) (hin : RS Yt g vin inn) (hlen : inn.length = ls.length) (hk : k < n) :
  Cl PP 84 [.int .i64 (n : Int), vl, vin, .int .i64 (k : Int)] g [] fun _ L' r => OwnB r (Zk n ls inn k) L' := by
 have hn0 := hv.size
 have ho : (oneR n k).length = n := by simp [oneR]
 have hA := rchR_len (inn := inn) (back := false) hv ho n
 have hB := rchR_len (inn := inn) (back := true) hv ho n
 have hT : ∀ i, i < n → (Zk n ls inn k).getD i false = ((rchR ls inn false n (oneR n k)).getD i false && (rchR ls inn true n (oneR n k)).getD i false) := fun i hi => by
  unfold Zk andB;rw [Ve, decide_eq_true hi, Bool.true_and]
 obtain ⟨A, hAe⟩ : ∃ A, A = rchR ls inn false n (oneR n k) := ⟨_, rfl⟩
 obtain ⟨B, hBe⟩ : ∃ B, B = rchR ls inn true n (oneR n k) := ⟨_, rfl⟩
 rw [← hAe] at hA hT
 rw [← hBe] at hB hT
 refine Xj Tryz.func84 rfl rfl Tryz.ntmps84 rfl ?_
 intro w F hs
 refine Y12 ?_
 refine Xf rfl rfl rfl (L := []) hs (refOne_spec g n k hn0 hk) ?_
 rintro u g1 L' w hg1 hs ⟨rfl, r1⟩
 refine Xf rfl rfl rfl (L := []) hs (refReach_spec g1 vl vin u n ls inn _ false (hl.mono hg1) hv (hin.mono hg1) hlen r1 ho) ?_
 rintro va g2 Ha w hg2 hs hown
 rw [← hAe] at hown
 refine Y4 ?_
 refine Xf rfl rfl rfl (L := []) hs (refOne_spec g2 n k hn0 hk) ?_
 rintro u2 g3 L' w hg3 hs ⟨rfl, r3⟩
 have hg03 := Ghost.tr hg1 (Ghost.tr hg2 hg3)
 refine Xf rfl rfl rfl (L := []) hs (refReach_spec g3 vl vin u2 n ls inn _ true (hl.mono hg03) hv (hin.mono hg03) hlen r3 ho) ?_
 rintro vb g4 Hb w hg4 hs hownb
 rw [← hBe] at hownb
 refine Y7 ?_
 obtain ⟨g5, hg5, hs, rb⟩ := hownb.freezeB hs
 have hg05 := Ghost.tr hg03 (Ghost.tr hg4 hg5)
 replace hs := (show St g5 w (Ha ++ F) from hs)
 obtain ⟨ab, cb, rfl⟩ := rb.form
 obtain ⟨aa, ca, rfl⟩ := hown.form
 rw [hA] at hown ⊢
 refine Y11 ?_
 refine Ub n (fun _ (_ : List Bool × Own) => [(0, .int .i64 (n : Int)), (9, .slice aa n ca), (10, .slice ab B.length cb)]) (fun i (x : List Bool × Own) w => Part n i A (Zk n ls inn k) x.1 ∧ OwnB (.slice aa n ca) x.1 x.2 ∧ St g5 w (x.2 ++ F)) (A, Ha) (by repeat (first | exact trivial | refine ⟨rfl, ?_⟩)) ⟨Part.start hA, hown, hs⟩ ?_ ?_ ?_
 ·intro i _ w s' hi hJ hk;refine zP ?_;exact Xn (Ua (by repeat (first | exact trivial | refine ⟨rfl, ?_⟩)) hk)
 ·rintro i ⟨x, H⟩ w hi ⟨hp, hown, hs⟩;simp only at hp hown hs
  have hxl := hp.1;have hiB : i < B.length := by omega
  have hb2 := rb.base hiB;have hc2 := rb.bool hiB;obtain ⟨b, cap, cs, hve, rfl, hcs, hset⟩ := hown.open' (by omega);rw [hxl] at hve
  simp only [Value.slice.injEq, true_and] at hve
  obtain ⟨rfl, rfl⟩ := hve;have cell := hcs i (by omega);have hq := hp.at_ hi;rw [Zw (show i < x.length by omega)] at hq
  have hTi := hT i hi;rw [← hq, Zw hiB] at hTi
  generalize B[i] = q2 at hc2 hTi
  have hs1 := fun c => hset i c (by omega)
  rw [hxl] at hs1
  generalize x[i]'(by omega) = q1 at cell hTi
  refine Y0 ?_;refine Yv _ rfl rfl rfl rfl rfl (hi) rfl rfl rfl ?_;refine Yu hs 0 rfl rfl cell rfl rfl rfl rfl ?_;refine zP ?_;cases q1 with
  | false =>
   refine zG ?_;refine Yv _ rfl rfl rfl rfl rfl (hi) rfl rfl rfl ?_;refine Yh hs 0 rfl rfl rfl cell rfl rfl rfl rfl ?_;clear hs; intro w hs;exact Xn (Xh (Xs (x.set i false, [(b, Xa (cs.set i (.bool false)) 4)]) hi (by omega) ⟨hp.set hi hTi.symm, by simpa [List.length_set] using hs1 false, hs⟩ rfl rfl rfl rfl (by repeat (first | exact trivial | refine ⟨rfl, ?_⟩))))
  | true =>
   refine zG ?_;refine Yb rfl rfl rfl rfl rfl (by omega) hb2 rfl rfl ?_;refine Xd hs (hc2) rfl rfl rfl rfl rfl ?_;refine zG ?_;refine Yv _ rfl rfl rfl rfl rfl (hi) rfl rfl rfl ?_;refine Yh hs 0 rfl rfl rfl cell rfl rfl rfl rfl ?_;clear hs; intro w hs
   exact Xn (Xh (Xs (x.set i q2, [(b, Xa (cs.set i (.bool q2)) 4)]) hi (by omega) ⟨hp.set hi (by rw [hTi, Bool.true_and]), by simpa [List.length_set] using hs1 q2, hs⟩ rfl rfl rfl rfl (by repeat (first | exact trivial | refine ⟨rfl, ?_⟩))))
 ·rintro ⟨x, H⟩ w ⟨hp, hown, hs⟩;simp only at hp hown hs
  have := hp.done (compR_len _ _ _ _);subst this;refine Y24 ?_;exact Xb (Xo rfl rfl) ⟨g5, H, hg05, hs, hown⟩
theorem indexB_spec (g : Ghost) (v : Value) (xs : List Bool) (x : Bool) (hv : RS Yt g v xs) (hl : xs.length ≤ 4611686018427387904) :
  Cl PP 116 [v, .bool x] g [] (Det (.int .i64 (firstI (fun y => x == y) xs))) := by
 obtain ⟨a, cap, rfl⟩ := hv.form
 refine Xj Tryz.func116 rfl rfl Tryz.ntmps116 rfl ?_
 intro w F hs
 refine Y22 ?_
 refine Yw xs.length (fun _ _ => [(7, .int .i64 xs.length), (0, .slice a xs.length cap), (1, .bool x)]) (fun i (_ : Unit) w => St g w F ∧ ∀ j (h : j < i) (h' : j < xs.length), (x == xs[j]) = false) () hl (by repeat (first | exact trivial | refine ⟨rfl, ?_⟩)) ⟨hs, fun j h => by omega⟩ (fun _ _ => rfl) rfl rfl rfl ?_ ?_ (fun _ _ => rfl) rfl
 ·rintro i _ w hi ⟨hs, hj⟩;have hb := hv.base hi;have hc := hv.bool hi;refine Y48 ?_;refine wl_eqB _ rfl rfl rfl rfl rfl rfl rfl ?_;refine zn ?_
  refine Xi rfl (fun h => ?_) (fun h => ?_)
  ·refine Y20 ?_;refine Xb (Xo rfl rfl) ⟨g, [], Ghost.rfl', hs, rfl, ?_⟩;rw [firstI_at hi (fun j h' => hj j h' (by omega)) h]
  ·refine Xq (Xh (Xx () hi hl ⟨hs, fun j h1 h2 => ?_⟩ rfl rfl rfl (by repeat (first | exact trivial | refine ⟨rfl, ?_⟩))))
   by_cases e : j = i
   ·subst e; exact h
   ·exact hj j (by omega) h2
 ·rintro _ w ⟨hs, hj⟩;refine Y24 ?_;refine Xb (Xo rfl rfl) ⟨g, [], Ghost.rfl', hs, rfl, ?_⟩;rw [firstI_none fun j h => hj j h h]
theorem containsB_spec (g : Ghost) (v : Value) (xs : List Bool) (hv : RS Yt g v xs) (hl : xs.length ≤ 4611686018427387904) :
  Cl PP 86 [v, .bool true] g [] (Det (.bool (xs.any id))) := by
 refine Xj Tryz.func86 rfl rfl Tryz.ntmps86 rfl ?_
 intro w F hs
 refine Y12 ?_
 refine Xf rfl rfl rfl (L := []) hs (indexB_spec g v xs true hv hl) ?_
 rintro u g' L' w' hg hs ⟨rfl, rfl⟩
 refine Y7 ?_
 refine Xb (Xo rfl rfl) ⟨g', [], hg, hs, rfl, ?_⟩
 have e : (fun y => true == y) = (id : Bool → Bool) := by funext y; cases y <;> rfl
 rw [← firstI_ge, e]
end
section
open Go.RowKit
theorem pairs_take (ls : List Arrow) (pairs : List (Nat × Nat)) (inn : List Bool) {i : Nat} (hi : i < pairs.length) : (pairs.take (i + 1)).foldl (Uj ls) inn = Uj ls ((pairs.take i).foldl (Uj ls) inn) pairs[i] := by
 rw [Yr hi, List.foldl_append]; rfl
theorem without_part {ls : List Arrow} {inn : List Bool} {m a : Nat} (ha : a < ls.length) : (Ya ls inn m).getD a false = (inn.getD a false && !(ls[a]).ms.testBit m) := by
 rw [Jp ha, hasM_arr ha]
theorem refCores_spec (n : Nat) (ls : List Arrow) (all : List Nat) (pairs : List (Nat × Nat)) (hv : ValidG n ls) (hw : ValidW all pairs) (hal : all.length ≤ 4611686018427387904) (hpl : pairs.length ≤ 4611686018427387904) : ∀ (f : Nat) (g : Ghost) (vl vin va vp : Value) (inn : List Bool), RS kArr g vl ls → RS Yt g vin inn → inn.length = ls.length → RS kNat g va all → RS kPair g vp pairs → Qf ls inn < f →
  Cl PP 44 [.int .i64 (n : Int), vl, vin, .agg #[va, vp]] g [] fun _ L' r => OwnB r (coresS n ls all pairs f inn) L' := by
 intro f
 induction f with
 | zero => intro g vl vin va vp inn _ _ _ _ _ h; omega
 | succ f ih =>
 intro g vl vin va vp inn hl hin hlen ha hp hcnt
 obtain ⟨aa, ca, rfl⟩ := ha.form
 obtain ⟨ap, cp, rfl⟩ := hp.form
 have hn0 := hv.size
 have hl0 := hv.len
 show Cl PP 44 _ g [] fun _ L' r => OwnB r (cTo n ls all pairs (coresS n ls all pairs f) inn n).1 L'
 obtain ⟨rec, hrec⟩ : ∃ rec, rec = coresS n ls all pairs f := ⟨_, rfl⟩
 have hrl : ∀ i, (rec i).length = n := fun i => by rw [hrec]; exact coresS_len _ _ _ _ _ _
 rw [← hrec] at ih ⊢
 refine Xj Tryz.func44 rfl rfl Tryz.ntmps44 rfl ?_
 intro w F hs
 refine Y2 ?_
 refine Yi hs rfl rfl rfl rfl ?_; clear hs; intro wb w hs
 refine Y7 ?_
 obtain ⟨g1, hg1, hs, hwb⟩ := freezeB hs
 replace hs := (show St g1 w F from hs)
 replace hwb := (show Lies g1 wb 0 [.slice aa all.length ca, .slice ap pairs.length cp] from hwb)
 refine Y0 ?_
 refine Jk hs rfl (by omega) rfl rfl rfl rfl rfl rfl rfl ?_
 clear hs; intro ob w hs
 rw [Jo] at hs
 refine Y4 ?_
 refine Jk hs rfl (by omega) rfl rfl rfl rfl rfl rfl rfl ?_
 clear hs; intro db w hs
 rw [Jo] at hs
 refine Y26 ?_
 refine Ub n (fun _ (_ : List Bool × List Bool) => [(0, .int .i64 (n : Int)), (1, vl), (2, vin), (7, .pointer (some ⟨wb, 0, none⟩)), (9, .slice (some ⟨ob, 0, none⟩) n n), (10, .slice (some ⟨db, 0, none⟩) n n)])
  (fun k (x : List Bool × List Bool) w => x = cTo n ls all pairs rec inn k ∧ ∃ g', g1 ≤ g' ∧ St g' w ((db, Xa (x.2.map .bool) 4) :: (ob, Xa (x.1.map .bool) 4) :: F)) (List.replicate n false, List.replicate n false) (by repeat (first | exact trivial | refine ⟨rfl, ?_⟩)) ⟨rfl, g1, Ghost.rfl', hs⟩ ?_ ?_ ?_
 ·intro i _ w s' hi hJ hk;refine zP ?_;exact Xn (Ua (by repeat (first | exact trivial | refine ⟨rfl, ?_⟩)) hk)
 ·rintro k ⟨out, done⟩ w hk ⟨hx, g2, hg12, hs⟩;have hcl := cTo_len (n := n) (ls := ls) (all := all) (pairs := pairs) (rec := rec) (inn := inn) k;rw [← hx] at hcl
  obtain ⟨hol, hdl⟩ := hcl;simp only at hol hdl hs
  have hg02 := Ghost.tr hg1 hg12
  have hstep : cTo n ls all pairs rec inn (k + 1) = cStep n ls all pairs rec inn (out, done) k := by
   unfold cTo at hx ⊢
   rw [List.range_succ, List.foldl_append, ← hx];rfl
  have cell : (done.map Value.bool)[k]? = some (.bool (done[k]'(by omega))) := by simp [hdl, hk]
  have hdk : done.getD k false = done[k]'(by omega) := Zw (by omega);unfold cStep at hstep
  rw [hdk] at hstep
  generalize done[k]'(by omega) = q0 at cell hstep
  refine Y0 ?_;refine Yv _ rfl rfl rfl rfl rfl (hk) rfl rfl rfl ?_;refine Yu hs 0 rfl rfl cell rfl rfl rfl rfl ?_;refine zn ?_;cases q0 with
  | true =>
   refine zT ?_;exact Zm rfl (Xs (out, done) hk (by omega) ⟨by rw [hstep]; rfl, g2, hg12, hs⟩ rfl rfl rfl rfl (by repeat (first | exact trivial | refine ⟨rfl, ?_⟩)))
  | false =>
  rw [if_neg (by decide)] at hstep
  refine Yy rfl rfl (Xq (Zl ?_));obtain ⟨c, hc⟩ : ∃ c, c = Zk n ls inn k := ⟨_, rfl⟩
  have hcn : c.length = n := by rw [hc]; exact compR_len _ _ _ _
  refine Y0 ?_;refine Xf rfl rfl rfl (L := []) hs (refComponent_spec g2 vl vin n k ls inn (hl.mono hg02) hv (hin.mono hg02) hlen hk) ?_;rintro vc g3 Hc w hg3 hs hownc;rw [← hc] at hownc hstep
  refine Y7 ?_;obtain ⟨g4, hg4, hs, rc⟩ := hownc.freezeB hs;replace hs := (show St g4 w ((db, Xa (done.map .bool) 4) :: (ob, Xa (out.map .bool) 4) :: F) from hs)
  have hg14 := Ghost.tr hg12 (Ghost.tr hg3 hg4);obtain ⟨ac, cc, rfl⟩ := rc.form;rw [hcn] at rc ⊢
  have hT1 : (orB n done c).length = n := orB_len _ _ _;refine Y11 ?_
  refine Ub n (fun _ (_ : List Bool) => [(0, .int .i64 (n : Int)), (1, vl), (2, vin), (7, .pointer (some ⟨wb, 0, none⟩)), (9, .slice (some ⟨ob, 0, none⟩) n n), (10, .slice (some ⟨db, 0, none⟩) n n), (11, .int .i64 (k : Int)), (12, .slice ac n cc)]) (fun i (x : List Bool) w => Part n i done (orB n done c) x ∧ St g4 w ((db, Xa (x.map .bool) 4) :: (ob, Xa (out.map .bool) 4) :: F)) done (by repeat (first | exact trivial | refine ⟨rfl, ?_⟩)) ⟨Part.start hdl, hs⟩ ?_ ?_ ?_
  ·intro i _ w s' hi hJ hk;refine zP ?_;exact Xn (Ua (by repeat (first | exact trivial | refine ⟨rfl, ?_⟩)) hk)
  ·clear hs;rintro i x w hi ⟨hp1, hs⟩;have hxl := hp1.1;have hb2 := rc.base (i := i) (by omega);have hc2 := rc.bool (i := i) (by omega);have cell : (x.map Value.bool)[i]? = some (.bool (x[i]'(by omega))) := by simp [hxl, hi]
   have hq := hp1.at_ hi;rw [Zw (show i < x.length by omega)] at hq
   have hTi : (orB n done c).getD i false = (done.getD i false || c.getD i false) := by unfold orB; rw [Ve, decide_eq_true hi, Bool.true_and]
   rw [← hq, Zw (show i < c.length by omega)] at hTi
   generalize c[i]'(by omega) = q2 at hc2 hTi
   generalize x[i]'(by omega) = q1 at cell hTi
   refine Y0 ?_;refine Yv _ rfl rfl rfl rfl rfl (hi) rfl rfl rfl ?_;refine Yu hs 0 rfl rfl cell rfl rfl rfl rfl ?_;refine zP ?_;cases q1 with
   | true =>
    refine zG ?_;refine Yv _ rfl rfl rfl rfl rfl (hi) rfl rfl rfl ?_;refine Yh hs 0 rfl rfl rfl cell rfl rfl rfl rfl ?_;clear hs; intro w hs;exact Xn (Xh (Xs (x.set i true) hi (by omega) ⟨hp1.set hi (by rw [hTi]; rfl), by rw [List.map_set]; exact hs⟩ rfl rfl rfl rfl (by repeat (first | exact trivial | refine ⟨rfl, ?_⟩))))
   | false =>
    refine zG ?_;refine Yb rfl rfl rfl rfl rfl (by omega) hb2 rfl rfl ?_;refine Xd hs (hc2) rfl rfl rfl rfl rfl ?_;refine zG ?_;refine Yv _ rfl rfl rfl rfl rfl (hi) rfl rfl rfl ?_;refine Yh hs 0 rfl rfl rfl cell rfl rfl rfl rfl ?_;clear hs; intro w hs
    exact Xn (Xh (Xs (x.set i q2) hi (by omega) ⟨hp1.set hi (by rw [hTi, Bool.false_or]), by rw [List.map_set]; exact hs⟩ rfl rfl rfl rfl (by repeat (first | exact trivial | refine ⟨rfl, ?_⟩))))
  clear hs;rintro x w ⟨hp1, hs⟩;have := hp1.done hT1;subst this;clear hp1;obtain ⟨D', hD'⟩ : ∃ D', D' = orB n done c := ⟨_, rfl⟩
  rw [← hD'] at hs hstep
  obtain ⟨inner, hI⟩ : ∃ inner, inner = Ze ls inn c := ⟨_, rfl⟩
  have hil : inner.length = ls.length := by rw [hI]; simp [Ze]
  have hg04 := Ghost.tr hg1 hg14;refine Y23 ?_;refine Xf rfl rfl rfl (L := []) hs (refWithin_spec g4 vl vin (.slice ac n cc) n ls inn c (hl.mono hg04) hv (hin.mono hg04) hlen rc hcn) ?_;rintro vi g5 Hi w hg5 hs howni;rw [← hI] at howni hstep
  refine Y7 ?_;obtain ⟨g6, hg6, hs, ri, hback⟩ := howni.lendB hs;obtain ⟨ai, ci, rfl⟩ := howni.form;replace hs := (show St g6 w ((db, Xa (D'.map .bool) 4) :: (ob, Xa (out.map .bool) 4) :: F) from hs)
  have hg46 := Ghost.tr hg5 hg6;have hg16 := Ghost.tr hg14 hg46;have hg06 := Ghost.tr hg1 hg16;refine Y0 ?_;refine Xf rfl rfl rfl (L := []) hs (containsB_spec g6 _ inner ri (by omega)) ?_;rintro u g7 L' w hg7 hs ⟨rfl, rfl⟩;replace hs := (show St g7 w ((db, Xa (D'.map .bool) 4) :: (ob, Xa (out.map .bool) 4) :: F) from hs)
  have hg17 := Ghost.tr hg16 hg7;have hg07 := Ghost.tr hg1 hg17;refine Y7 ?_
  refine Xi rfl (fun h1 => ?_) (fun h1 => ?_)
  ·have h1' : inner.any id = false := by simpa using h1
   rw [if_pos h1'] at hstep
   exact Zm rfl (Xs (out, D') hk (by omega) ⟨hstep.symm, g7, hg17, hs⟩ rfl rfl rfl rfl (by repeat (first | exact trivial | refine ⟨rfl, ?_⟩)))
  have h1' : ¬ inner.any id = false := by
   have : (!inner.any id) = false := h1;simpa using this
  rw [if_neg h1'] at hstep
  refine Y45 ?_;refine Y26 ?_;have hm0 : (all.take 0).any (fun m => !Zp ls inner m) = false := rfl
  refine Ub all.length (fun i (_ : Unit) => [(0, .int .i64 (n : Int)), (1, vl), (2, vin), (7, .pointer (some ⟨wb, 0, none⟩)), (9, .slice (some ⟨ob, 0, none⟩) n n), (10, .slice (some ⟨db, 0, none⟩) n n), (11, .int .i64 (k : Int)), (12, .slice ac n cc), (14, .slice ai inner.length ci), (15, .bool ((all.take i).any fun m => !Zp ls inner m))]) (fun i (_ : Unit) w => ∃ g', g7 ≤ g' ∧ St g' w ((db, Xa (D'.map .bool) 4) :: (ob, Xa (out.map .bool) 4) :: F)) () (by repeat (first | exact trivial | refine ⟨rfl, ?_⟩)) ⟨g7, Ghost.rfl', hs⟩ ?_ ?_ ?_
  ·rintro i _ w s' hi ⟨g8, hg8, hs⟩ hk;refine zP ?_;refine Xd hs (hwb.mono (Ghost.tr hg17 hg8) 0 _ rfl) rfl rfl rfl rfl rfl ?_;refine zP ?_;exact Xn (Ua (by repeat (first | exact trivial | refine ⟨rfl, ?_⟩)) hk)
  ·clear hs;rintro i _ w hi ⟨g8, hg8, hs⟩;have hg18 := Ghost.tr hg17 hg8;have hg08 := Ghost.tr hg1 hg18;have hb := ha.base hi;have hcx := (ha.mono hg08).nat hi;have hsn : (all.take (i + 1)).any (fun m => !Zp ls inner m) = ((all.take i).any (fun m => !Zp ls inner m) || !Zp ls inner all[i]) := by rw [Yr hi, List.any_append]; simp
   generalize (all.take i).any (fun m => !Zp ls inner m) = q1 at hsn ⊢
   refine Y0 ?_;cases q1 with
   | true =>
    refine zG ?_;exact Xn (Xh (Xs () hi (by omega) ⟨g8, hg8, hs⟩ rfl rfl rfl rfl (by rw [hsn, Bool.true_or]; exact (by repeat (first | exact trivial | refine ⟨rfl, ?_⟩)))))
   | false =>
    refine zG ?_;refine Xd hs (hwb.mono hg18 0 _ rfl) rfl rfl rfl rfl rfl ?_;refine zG ?_;refine Yb rfl rfl rfl rfl rfl (by omega) hb rfl rfl ?_;refine Xd hs (hcx) rfl rfl rfl rfl rfl ?_;refine zG ?_;refine Xf rfl rfl rfl (L := []) hs (Jw g8 vl _ n all[i] ls inner (hl.mono hg08) hv (ri.mono (Ghost.tr hg7 hg8)) hil) ?_;rintro u g9 L' w hg9 hs ⟨rfl, rfl⟩;refine zG ?_
    exact Xn (Xh (Xs () hi (by omega) ⟨g9, Ghost.tr hg8 hg9, hs⟩ rfl rfl rfl rfl (by rw [hsn, Bool.false_or]; exact (by repeat (first | exact trivial | refine ⟨rfl, ?_⟩)))))
  clear hs;rintro _ w ⟨g8, hg8, hs⟩;rw [List.take_length];have hg18 := Ghost.tr hg17 hg8;have hg08 := Ghost.tr hg1 hg18;refine Y24 ?_
  refine Xi rfl (fun h2 => ?_) (fun h2 => ?_)
  ·rw [if_pos h2] at hstep
   exact Zm rfl (Xs (out, D') hk (by omega) ⟨hstep.symm, g8, hg18, hs⟩ rfl rfl rfl rfl (by repeat (first | exact trivial | refine ⟨rfl, ?_⟩)))
  rw [if_neg (by rw [h2]; decide)] at hstep
  refine Y57 ?_;refine Yj (cs := [.slice aa all.length ca, .slice ap pairs.length cp]) hs (hwb.mono hg18).at' rfl rfl rfl rfl rfl rfl ?_
  refine Xf rfl rfl rfl (L := []) hs (refSatisfied_spec g8 vl _ _ _ n ls inner all pairs (hl.mono hg08) hv (ri.mono (Ghost.tr hg7 hg8)) hil (ha.mono hg08) (hp.mono hg08) hal hpl) ?_;rintro u g9 L' w hg9 hs ⟨rfl, rfl⟩;replace hs := (show St g9 w ((db, Xa (D'.map .bool) 4) :: (ob, Xa (out.map .bool) 4) :: F) from hs)
  have hg89 := Ghost.tr hg8 hg9;have hg19 := Ghost.tr hg17 hg89;have hg09 := Ghost.tr hg1 hg19;refine zn ?_;have rc9 := rc.mono (Ghost.tr hg46 (Ghost.tr hg7 hg89))
  refine Xi rfl (fun h3 => ?_) (fun h3 => ?_)
  ·rw [if_pos h3] at hstep
   have hT2 : (orB n out c).length = n := orB_len _ _ _;refine Y11 ?_
   refine Ub n (fun _ (_ : List Bool) => [(0, .int .i64 (n : Int)), (1, vl), (2, vin), (7, .pointer (some ⟨wb, 0, none⟩)), (9, .slice (some ⟨ob, 0, none⟩) n n), (10, .slice (some ⟨db, 0, none⟩) n n), (11, .int .i64 (k : Int)), (12, .slice ac n cc)]) (fun i (x : List Bool) w => Part n i out (orB n out c) x ∧ St g9 w ((db, Xa (D'.map .bool) 4) :: (ob, Xa (x.map .bool) 4) :: F)) out (by repeat (first | exact trivial | refine ⟨rfl, ?_⟩)) ⟨Part.start hol, hs⟩ ?_ ?_ ?_
   ·intro i _ w s' hi hJ hk;refine zP ?_;exact Xn (Ua (by repeat (first | exact trivial | refine ⟨rfl, ?_⟩)) hk)
   ·clear hs;rintro i x w hi ⟨hp1, hs⟩;have hxl := hp1.1;have hb2 := rc.base (i := i) (by omega);have hc2 := rc9.bool (i := i) (by omega);have cell : (x.map Value.bool)[i]? = some (.bool (x[i]'(by omega))) := by simp [hxl, hi]
    have hq := hp1.at_ hi;rw [Zw (show i < x.length by omega)] at hq
    have hTi : (orB n out c).getD i false = (out.getD i false || c.getD i false) := by unfold orB; rw [Ve, decide_eq_true hi, Bool.true_and]
    rw [← hq, Zw (show i < c.length by omega)] at hTi
    generalize c[i]'(by omega) = q2 at hc2 hTi
    generalize x[i]'(by omega) = q1 at cell hTi
    refine Y0 ?_;refine Yv _ rfl rfl rfl rfl rfl (hi) rfl rfl rfl ?_;refine Yu hs 1 rfl rfl cell rfl rfl rfl rfl ?_;refine zP ?_;cases q1 with
    | true =>
     refine zG ?_;refine Yv _ rfl rfl rfl rfl rfl (hi) rfl rfl rfl ?_;refine Yh hs 1 rfl rfl rfl cell rfl rfl rfl rfl ?_;clear hs; intro w hs;exact Xn (Xh (Xs (x.set i true) hi (by omega) ⟨hp1.set hi (by rw [hTi]; rfl), by rw [List.map_set]; exact hs⟩ rfl rfl rfl rfl (by repeat (first | exact trivial | refine ⟨rfl, ?_⟩))))
    | false =>
     refine zG ?_;refine Yb rfl rfl rfl rfl rfl (by omega) hb2 rfl rfl ?_;refine Xd hs (hc2) rfl rfl rfl rfl rfl ?_;refine zG ?_;refine Yv _ rfl rfl rfl rfl rfl (hi) rfl rfl rfl ?_;refine Yh hs 1 rfl rfl rfl cell rfl rfl rfl rfl ?_;clear hs; intro w hs
     exact Xn (Xh (Xs (x.set i q2) hi (by omega) ⟨hp1.set hi (by rw [hTi, Bool.false_or]), by rw [List.map_set]; exact hs⟩ rfl rfl rfl rfl (by repeat (first | exact trivial | refine ⟨rfl, ?_⟩))))
   ·clear hs;rintro x w ⟨hp1, hs⟩;have := hp1.done hT2;subst this;exact Zl (Zm rfl (Xs (_, D') hk (by omega) ⟨hstep.symm, g9, hg19, hs⟩ rfl rfl rfl rfl (by repeat (first | exact trivial | refine ⟨rfl, ?_⟩))))
  rw [if_neg (by rw [h3]; decide)] at hstep
  have hless := pairs_less (ls := ls) (all := all) (pairs := pairs) (inn := inn) (nodes := c) (by rw [← hI]; exact h2) (by rw [← hI]; exact h3);rw [← hI] at hless
  obtain ⟨ga, hga1, hga2, hs⟩ := hback g9 w _ (Ghost.tr hg7 hg89) hs;have hg4a := Ghost.tr hg5 hga1;have hg1a := Ghost.tr hg14 hg4a;have hg0a := Ghost.tr hg1 hg1a;refine zS ?_;rw [hil] at howni ⊢
  refine Y11 ?_
  refine Ub pairs.length (fun i (_ : List Bool × Own) => [(0, .int .i64 (n : Int)), (1, vl), (2, vin), (7, .pointer (some ⟨wb, 0, none⟩)), (9, .slice (some ⟨ob, 0, none⟩) n n), (10, .slice (some ⟨db, 0, none⟩) n n), (11, .int .i64 (k : Int)), (12, .slice ac n cc), (14, .slice ai ls.length ci)]) (fun i (x : List Bool × Own) w => x.1 = (pairs.take i).foldl (Uj ls) inner ∧ x.1.length = ls.length ∧ OwnB (.slice ai ls.length ci) x.1 x.2 ∧ ∃ g', ga ≤ g' ∧ St g' w (x.2 ++ (db, Xa (D'.map .bool) 4) :: (ob, Xa (out.map .bool) 4) :: F)) (inner, Hi) (by repeat (first | exact trivial | refine ⟨rfl, ?_⟩)) ⟨rfl, hil, howni, ga, Ghost.rfl', hs⟩ ?_ ?_ ?_
  ·rintro i x w s' hi ⟨_, _, _, g8, hg8, hs⟩ hk;refine zP ?_;refine Xd hs (hwb.mono (Ghost.tr hg1a hg8) 1 _ rfl) rfl rfl rfl rfl rfl ?_;refine zP ?_;exact Xn (Ua (by repeat (first | exact trivial | refine ⟨rfl, ?_⟩)) hk)
  ·clear hs;rintro i ⟨I, H⟩ w hi ⟨hIe, hIl, hown, gb, hgb, hs⟩;simp only at hIe hIl hown hs
   have hg1b := Ghost.tr hg1a hgb;have hg0b := Ghost.tr hg1 hg1b;have hnx : (pairs.take (i + 1)).foldl (Uj ls) inner = Uj ls I pairs[i] := by rw [pairs_take ls pairs inner hi, hIe]
   obtain ⟨pb, po, rfl⟩ := hp.base hi;replace hs : St gb w (H ++ (db, Xa (D'.map .bool) 4) :: (ob, Xa (out.map .bool) 4) :: F) := by assumption
   have hb : ∃ b o, some (⟨pb, po, none⟩ : Addr) = some ⟨b, o, none⟩ := ⟨pb, po, rfl⟩
   obtain ⟨m1, hm1⟩ : ∃ m, m = pairs[i].1 := ⟨_, rfl⟩
   obtain ⟨m2, hm2⟩ : ∃ m, m = pairs[i].2 := ⟨_, rfl⟩
   have hcc : Lies gb pb (po + i * 2) [.int .i64 (m1 : Int), .int .i64 (m2 : Int)] := by rw [hm1, hm2]; exact (hp.mono hg0b).enc hi
   unfold Uj at hnx
   rw [← hm1, ← hm2] at hnx
   obtain ⟨gc, hgc, hs, rI, hbk⟩ := hown.lendB hs;have hgbc := Ghost.tr hgb hgc;have hg1c := Ghost.tr hg1b hgc;have hg0c := Ghost.tr hg0b hgc;refine Y0 ?_;refine Xd hs (hwb.mono hg1c 1 _ rfl) rfl rfl rfl rfl rfl ?_;refine zP ?_;refine Yb rfl rfl rfl rfl rfl (by omega) (hb) rfl rfl ?_;refine wl_ixA rfl rfl rfl rfl rfl (by omega) rfl rfl ?_
   refine Xd hs (hcc.mono hgc 0 _ rfl) rfl rfl rfl rfl rfl ?_;refine Xf rfl rfl rfl (L := []) hs (Jw gc vl _ n m1 ls I (hl.mono hg0c) hv rI hIl) ?_;rintro u gd L' w hgd hs ⟨rfl, rfl⟩;replace hs := (show St gd w ((db, Xa (D'.map .bool) 4) :: (ob, Xa (out.map .bool) 4) :: F) from hs)
   have hg0d := Ghost.tr hg0c hgd;refine zP ?_
   refine Xr 123 rfl (fun q1 => ?_) (fun q1 => ?_)
   ·rw [q1, Bool.true_and] at hnx
    refine zG ?_;refine Xd hs (hwb.mono (Ghost.tr hg1c hgd) 1 _ rfl) rfl rfl rfl rfl rfl ?_;refine zG ?_;refine Yb rfl rfl rfl rfl rfl (by omega) (hb) rfl rfl ?_;refine zG ?_;refine wl_ixA rfl rfl rfl rfl rfl (by omega) rfl rfl ?_;refine Xd hs (hcc.mono (Ghost.tr hgc hgd) 1 _ rfl) rfl rfl rfl rfl rfl ?_
    refine Xf rfl rfl rfl (L := []) hs (Jw gd vl _ n m2 ls I (hl.mono hg0d) hv (rI.mono hgd) hIl) ?_;rintro u ge L' w hge hs ⟨rfl, rfl⟩;replace hs := (show St ge w ((db, Xa (D'.map .bool) 4) :: (ob, Xa (out.map .bool) 4) :: F) from hs)
    refine Y40 ?_;obtain ⟨gf, hgf1, hgf2, hs⟩ := hbk ge w _ (Ghost.tr hgd hge) hs;have hgaf := Ghost.tr hgb hgf1;have hg1f := Ghost.tr hg1b hgf1;have hg0f := Ghost.tr hg1 hg1f;replace hcc := hcc.mono hgf1
    refine Xi rfl (fun h => ?_) (fun h => ?_)
    ·rw [if_pos h] at hnx
     have hTl : (Ya ls I m1).length = ls.length := by simp [Ya]
     refine Y11 ?_
     refine Ub ls.length (fun _ (_ : List Bool × Own) => [(0, .int .i64 (n : Int)), (1, vl), (2, vin), (7, .pointer (some ⟨wb, 0, none⟩)), (9, .slice (some ⟨ob, 0, none⟩) n n), (10, .slice (some ⟨db, 0, none⟩) n n), (11, .int .i64 (k : Int)), (12, .slice ac n cc), (14, .slice ai ls.length ci), (18, .int .i64 (i : Int))]) (fun a (x : List Bool × Own) w => Part ls.length a I (Ya ls I m1) x.1 ∧ OwnB (.slice ai ls.length ci) x.1 x.2 ∧ ∃ g', gf ≤ g' ∧ St g' w (x.2 ++ (db, Xa (D'.map .bool) 4) :: (ob, Xa (out.map .bool) 4) :: F)) (I, H) (by repeat (first | exact trivial | refine ⟨rfl, ?_⟩)) ⟨Part.start hIl, hown, gf, Ghost.rfl', hs⟩ ?_ ?_ ?_
     ·rintro a x w s' hi2 _ hk2;obtain ⟨al, cl, rfl⟩ := hl.form;refine zP ?_;exact Xn (Ua (by repeat (first | exact trivial | refine ⟨rfl, ?_⟩)) hk2)
     ·clear hs hown;rintro a ⟨J, H⟩ w hla ⟨hpt, hown, gg, hgg, hs⟩;simp only at hpt hown hs
      have hJl := hpt.1;have hg0g := Ghost.tr hg0f hgg;obtain ⟨al, cl, rfl⟩ := hl.form;have hbl := hl.base hla;have hcl2 := (hl.mono hg0g).enc hla;obtain ⟨b, cap, cs, hve, rfl, hcs, hset⟩ := hown.open' (by omega);rw [hJl] at hve
      simp only [Value.slice.injEq, true_and] at hve
      obtain ⟨rfl, rfl⟩ := hve;have cell := hcs a (by omega);have hq := hpt.at_ hla;rw [Zw (show a < J.length by omega)] at hq
      have hTi := without_part (ls := ls) (inn := I) (m := m1) hla;rw [← hq] at hTi
      have hs1 := fun c => hset a c (by omega)
      rw [hJl] at hs1
      generalize J[a]'(by omega) = q2 at cell hTi
      have hwg := hwb.mono (Ghost.tr hg1f hgg);have hms := (hv.ok _ (List.getElem_mem hla)).2.2;refine zQ ?_;refine Yf 20 [] Yd (by kernel_rfl) rfl hs ?_;refine zC ?_;refine sg_ixJ _ rfl rfl rfl rfl rfl (hla) rfl rfl ?_;refine Xv 0 rfl rfl cell rfl rfl rfl ?_;refine zC ?_;cases q2 with
      | true =>
       refine zC ?_;refine Uc rfl rfl rfl rfl rfl (by omega) hbl rfl ?_;refine Vm (hcl2.of_eaddr) rfl rfl rfl rfl rfl ?_;refine zC ?_;refine Xp (hwg 1 _ rfl) rfl rfl rfl rfl ?_;refine zC ?_;refine Uc rfl rfl rfl rfl rfl (by omega) hb rfl ?_;refine zC ?_;refine sg_ixA rfl rfl rfl rfl rfl (by omega) rfl ?_;refine Xp (hcc.mono hgg 0 _ rfl) rfl rfl rfl rfl ?_
       refine Vq (vs := [.agg #[.int .i64 (ls[a].fr : Int), .int .i64 (ls[a].to : Int), .int .u32 (ls[a].ms : Int)], .int .i64 (m1 : Int)]) [] [] rfl rfl rfl (fun g' hg' => refHas_spec g' _ _ ls[a].ms m1 (by omega) rfl rfl) (fun g' L' v' h => h) ?_;refine zC ?_;refine Xy ?_;intro gh w hgh;intro hs;refine Yv _ rfl rfl rfl rfl rfl (hla) rfl rfl rfl ?_
       refine Yh hs 0 rfl rfl rfl cell rfl rfl rfl rfl ?_;clear hs; intro w hs
       exact Xn (Xh (Xs (J.set a (!ls[a].ms.testBit m1), [(b, Xa (cs.set a (.bool (!ls[a].ms.testBit m1))) 4)]) hla (by omega) ⟨hpt.set hla (by rw [hTi, Bool.true_and]), by simpa [List.length_set] using hs1 _, gh, Ghost.tr hgg hgh, hs⟩ rfl rfl rfl rfl (by repeat (first | exact trivial | refine ⟨rfl, ?_⟩))))
      | false =>
       refine zC ?_;refine Xy ?_;intro gh w hgh;intro hs;refine Yv _ rfl rfl rfl rfl rfl (hla) rfl rfl rfl ?_;refine Yh hs 0 rfl rfl rfl cell rfl rfl rfl rfl ?_;clear hs; intro w hs
       exact Xn (Xh (Xs (J.set a false, [(b, Xa (cs.set a (.bool false)) 4)]) hla (by omega) ⟨hpt.set hla (by rw [hTi]; rfl), by simpa [List.length_set] using hs1 _, gh, Ghost.tr hgg hgh, hs⟩ rfl rfl rfl rfl (by repeat (first | exact trivial | refine ⟨rfl, ?_⟩))))
     ·clear hs hown;rintro ⟨J, H⟩ w ⟨hpt, hown, gg, hgg, hs⟩;simp only at hpt hown hs
      have := hpt.done hTl;subst this;exact Xh (Xs (_, H) hi (by omega) ⟨hnx.symm, hTl, hown, gg, Ghost.tr hgaf hgg, hs⟩ rfl rfl rfl rfl (by repeat (first | exact trivial | refine ⟨rfl, ?_⟩)))
    ·rw [if_neg (by rw [h]; decide)] at hnx
     exact Xq (Xh (Xs (I, H) hi (by omega) ⟨hnx.symm, hIl, hown, gf, hgaf, hs⟩ rfl rfl rfl rfl (by repeat (first | exact trivial | refine ⟨rfl, ?_⟩))))
   ·rw [q1, Bool.false_and, if_neg (by decide)] at hnx
    refine Y40 ?_;obtain ⟨gf, hgf1, hgf2, hs⟩ := hbk gd w _ hgd hs;exact Yy rfl rfl (Xq (Xh (Xs (I, H) hi (by omega) ⟨hnx.symm, hIl, hown, gf, Ghost.tr hgb hgf1, hs⟩ rfl rfl rfl rfl (by repeat (first | exact trivial | refine ⟨rfl, ?_⟩)))))
  clear hs;rintro ⟨I, H⟩ w ⟨hIe, hIl, hown, gb, hgb, hs⟩;simp only at hIe hIl hown hs
  rw [List.take_length] at hIe
  have hIe' : I = pairsR ls pairs inner := hIe;rw [← hIe'] at hstep hless
  clear hIe hIe';obtain ⟨gc, hgc, hs, rI⟩ := hown.freezeB hs;have hg4c := Ghost.tr hg4a (Ghost.tr hgb hgc);have hg1c := Ghost.tr hg14 hg4c;have hg0c := Ghost.tr hg1 hg1c;refine Y23 ?_;refine Yj (cs := [.slice aa all.length ca, .slice ap pairs.length cp]) hs (hwb.mono hg1c).at' rfl rfl rfl rfl rfl rfl ?_
  refine Xf rfl rfl rfl (L := []) hs (ih gc vl _ _ _ I (hl.mono hg0c) rI hIl (ha.mono hg0c) (hp.mono hg0c) (by omega)) ?_;rintro vr gd Hr w hgd hs hownr;refine Y7 ?_;obtain ⟨ge, hge, hs, rr⟩ := hownr.freezeB hs;obtain ⟨ar, cr, rfl⟩ := rr.form;replace hs := (show St ge w ((db, Xa (D'.map .bool) 4) :: (ob, Xa (out.map .bool) 4) :: F) from hs)
  have hg4e := Ghost.tr hg4c (Ghost.tr hgd hge);have hg1e := Ghost.tr hg14 hg4e;have hrl' := hrl I;obtain ⟨R, hR⟩ : ∃ R, R = rec I := ⟨_, rfl⟩
  rw [← hR] at rr hrl' hstep ⊢
  have rce := rc.mono hg4e;have hT3 : (orB n out (andB n c R)).length = n := orB_len _ _ _;refine Y11 ?_
  refine Ub n (fun _ (_ : List Bool) => [(0, .int .i64 (n : Int)), (1, vl), (2, vin), (7, .pointer (some ⟨wb, 0, none⟩)), (9, .slice (some ⟨ob, 0, none⟩) n n), (10, .slice (some ⟨db, 0, none⟩) n n), (11, .int .i64 (k : Int)), (12, .slice ac n cc), (20, .slice ar R.length cr)]) (fun i (x : List Bool) w => Part n i out (orB n out (andB n c R)) x ∧ St ge w ((db, Xa (D'.map .bool) 4) :: (ob, Xa (x.map .bool) 4) :: F)) out (by repeat (first | exact trivial | refine ⟨rfl, ?_⟩)) ⟨Part.start hol, hs⟩ ?_ ?_ ?_
  ·intro i _ w s' hi hJ hk;refine zP ?_;exact Xn (Ua (by repeat (first | exact trivial | refine ⟨rfl, ?_⟩)) hk)
  ·clear hs;rintro i x w hi ⟨hp1, hs⟩;have hxl := hp1.1;have hb2 := rc.base (i := i) (by omega);have hc2 := rce.bool (i := i) (by omega);have hb3 := rr.base (i := i) (by omega);have hc3 := rr.bool (i := i) (by omega);have cell : (x.map Value.bool)[i]? = some (.bool (x[i]'(by omega))) := by simp [hxl, hi]
   have hq := hp1.at_ hi;rw [Zw (show i < x.length by omega)] at hq
   have hTi : (orB n out (andB n c R)).getD i false = (out.getD i false || c.getD i false && R.getD i false) := by unfold orB andB; rw [Ve, Ve, decide_eq_true hi, Bool.true_and, Bool.true_and]
   rw [← hq, Zw (show i < c.length by omega), Zw (show i < R.length by omega)] at hTi
   generalize c[i]'(by omega) = q2 at hc2 hTi
   generalize R[i]'(by omega) = q3 at hc3 hTi
   generalize x[i]'(by omega) = q1 at cell hTi
   refine Y0 ?_;refine Yv _ rfl rfl rfl rfl rfl (hi) rfl rfl rfl ?_;refine Yu hs 1 rfl rfl cell rfl rfl rfl rfl ?_;refine zP ?_;cases q1 with
   | true =>
    refine zG ?_;refine Yv _ rfl rfl rfl rfl rfl (hi) rfl rfl rfl ?_;refine Yh hs 1 rfl rfl rfl cell rfl rfl rfl rfl ?_;clear hs; intro w hs;exact Xn (Xh (Xs (x.set i true) hi (by omega) ⟨hp1.set hi (by rw [hTi]; rfl), by rw [List.map_set]; exact hs⟩ rfl rfl rfl rfl (by repeat (first | exact trivial | refine ⟨rfl, ?_⟩))))
   | false =>
    refine zG ?_;refine Yb rfl rfl rfl rfl rfl (by omega) hb2 rfl rfl ?_;refine Xd hs (hc2) rfl rfl rfl rfl rfl ?_;refine zG ?_;cases q2 with
    | false =>
     refine zG ?_;refine Yv _ rfl rfl rfl rfl rfl (hi) rfl rfl rfl ?_;refine Yh hs 1 rfl rfl rfl cell rfl rfl rfl rfl ?_;clear hs; intro w hs;exact Xn (Xh (Xs (x.set i false) hi (by omega) ⟨hp1.set hi (by rw [hTi]; rfl), by rw [List.map_set]; exact hs⟩ rfl rfl rfl rfl (by repeat (first | exact trivial | refine ⟨rfl, ?_⟩))))
    | true =>
     refine zG ?_;refine Yb rfl rfl rfl rfl rfl (by omega) hb3 rfl rfl ?_;refine Xd hs (hc3) rfl rfl rfl rfl rfl ?_;refine zG ?_;refine Yv _ rfl rfl rfl rfl rfl (hi) rfl rfl rfl ?_;refine Yh hs 1 rfl rfl rfl cell rfl rfl rfl rfl ?_;clear hs; intro w hs
     exact Xn (Xh (Xs (x.set i q3) hi (by omega) ⟨hp1.set hi (by rw [hTi]; simp), by rw [List.map_set]; exact hs⟩ rfl rfl rfl rfl (by repeat (first | exact trivial | refine ⟨rfl, ?_⟩))))
  ·clear hs;rintro x w ⟨hp1, hs⟩;have := hp1.done hT3;subst this;exact Xh (Xs (_, D') hk (by omega) ⟨hstep.symm, ge, hg1e, hs⟩ rfl rfl rfl rfl (by repeat (first | exact trivial | refine ⟨rfl, ?_⟩)))
 ·clear hs;rintro ⟨out, done⟩ w ⟨hx, g2, hg12, hs⟩;have hcl := cTo_len (n := n) (ls := ls) (all := all) (pairs := pairs) (rec := rec) (inn := inn) n;rw [← hx] at hcl
  refine Y24 ?_;refine Xb (Xo rfl rfl) ⟨g2, [(ob, Xa (out.map .bool) 4)], Ghost.tr hg1 hg12, hs.drop, ?_⟩;rw [← hx]
  show OwnS 4 1 _ out.length (out.map .bool) _
  rw [hcl.1];exact OwnS.lit (by simp [hcl.1])
end
section
open Go.RowKit
theorem Cl.freezeB {f : FuncId} {vs : List Value} {g : Ghost} {l : List Bool} (h : Cl PP f vs g [] fun _ L' r => OwnB r l L') : Cl PP f vs g [] fun g' L' r => L' = [] ∧ RS Yt g' r l :=
 ⟨h.enters, fun w F hs => (h.call w F hs).mono fun _ _ ⟨v, g', L', e1, e2, e3, e4⟩ => by
  obtain ⟨g2, h1, h2, h3⟩ := OwnB.freezeB e4 e3;exact ⟨v, g2, [], e1, Ghost.tr e2 h1, h2, rfl, h3⟩⟩
section
variable {n : Int} {init : List Int} {ls : List ArrowI} {all : List Int} {pairs : List (Int × Int)}
theorem refEvery_I (hC : Checked n init ls all pairs) {g : Ghost} {vl : Value} (hl : RS Jl g vl ls) : Cl PP 45 [vl] g [] fun g' L' r => L' = [] ∧ RS Yt g' r (Jg (ls.map toA)) := every_spec g vl _ (hC.rsA hl) hC.validG.len
theorem refCores_I (hC : Checked n init ls all pairs) {g : Ghost} {vl vin va vp : Value} (hl : RS Jl g vl ls) (ha : RS kInt g va all) (hp : RS Vh g vp pairs) (ha0 : all.length ≤ 4611686018427387904) (hin : RS Yt g vin (Jg (ls.map toA))) :
  Cl PP 44 [.int .i64 (n.toNat : Int), vl, vin, .agg #[va, vp]] g [] fun g' L' r => L' = [] ∧ RS Yt g' r (coresM n.toNat (ls.map toA) (all.map Int.toNat) (pairs.map toP)) :=
 (refCores_spec n.toNat _ _ _ hC.validG hC.validW (by simpa using ha0) (by have := hC.plen; simp; omega) _ g vl vin va vp _ (hC.rsA hl) hin (by simp [Jg]) (hC.all.rs ha) (hC.rsP hp) (Nat.lt_succ_of_le (onCnt_le _))).freezeB
theorem refReach_I (hC : Checked n init ls all pairs) {g : Ghost} {vl vin vf : Value} {back : Bool} {fr : List Bool} (hl : RS Jl g vl ls) (hin : RS Yt g vin (Jg (ls.map toA))) (hf : RS Yt g vf fr) (hfl : fr.length = n.toNat) :
  Cl PP 90 [.int .i64 (n.toNat : Int), vl, vin, vf, .bool back] g [] fun g' L' r => L' = [] ∧ RS Yt g' r (rchR (ls.map toA) (Jg (ls.map toA)) back n.toNat fr) :=
 (refReach_spec g vl vin vf n.toNat _ _ _ back (hC.rsA hl) hC.validG hin (by simp [Jg]) hf hfl).freezeB
end
end
section
open Go.RowKit
end
section
open Go.RowKit
end
section
open Go.RowKit
end
section
open Go.RowKit
end
section
open Go.RowKit
section
variable {n : Int} {init : List Int} {ls : List ArrowI} {all : List Int} {pairs : List (Int × Int)}
theorem initTo_succ (n : Nat) (init : List Nat) {i : Nat} (hi : i < init.length) : initTo n init (i + 1) = (initTo n init i).set init[i] true := by unfold initTo; rw [Yr hi, List.foldl_append]; rfl
theorem initTo_len (n : Nat) (init : List Nat) : ∀ i, i ≤ init.length → (initTo n init i).length = n
 | 0, _ => by simp [initTo]
 | i + 1, h => by rw [initTo_succ n init (by omega), List.length_set, initTo_len n init i (by omega)]
theorem reached_spec (hC : Checked n init ls all pairs) (g : Ghost) (vi vl : Value) (hi : RS kInt g vi init) (hl : RS Jl g vl ls) :
  Cl PP 46 [.int .i64 (n.toNat : Int), vi, vl] g [] fun g' L' r => L' = [] ∧ RS kNat g' r (Qd n.toNat (ls.map toA) (init.map Int.toNat)) := by
 have hiN := hC.init.rs hi
 obtain ⟨N, hN⟩ : ∃ N, N = n.toNat := ⟨_, rfl⟩
 obtain ⟨I, hI⟩ : ∃ I, I = init.map Int.toNat := ⟨_, rfl⟩
 have hlt : ∀ x ∈ I, x < N := fun x hx => by
  rw [hI] at hx
  obtain ⟨y, hy, rfl⟩ := List.mem_map.1 hx;have := hC.init.low y hy;omega
 have hn20 : N ≤ 20000 := by have := hC.n1; omega
 have hIl : I.length ≤ 20000 := by
  rw [hI, List.length_map];have h1 := hC.init.len hC.n0;have h2 := hC.n1;omega
 rw [← hI] at hiN ⊢
 have hev := fun g' (hg : g ≤ g') => refEvery_I hC (hl.mono hg)
 have hre := fun g' vin vf (hg : g ≤ g') h1 h2 h3 => refReach_I (back := false) (fr := initR N I) (vin := vin) (vf := vf) hC (hl.mono hg) h1 h2 h3
 rw [← hN] at hre ⊢
 obtain ⟨ai, ci, rfl⟩ := hiN.form
 refine Xj Tryz.func46 rfl rfl Tryz.ntmps46 rfl ?_
 intro w F hs
 refine Y12 ?_
 refine Jk hs rfl (by omega) rfl rfl rfl rfl rfl rfl rfl ?_
 clear hs; intro ob w hs
 rw [Jo] at hs
 refine Y26 ?_
 refine Ub I.length (fun _ (_ : Unit) => [(0, .int .i64 (N : Int)), (1, .slice ai I.length ci), (2, vl), (7, .slice (some ⟨ob, 0, none⟩) N N)]) (fun i (_ : Unit) w => St g w ((ob, Xa ((initTo N I i).map .bool) 4) :: F)) () (by repeat (first | exact trivial | refine ⟨rfl, ?_⟩)) hs ?_ ?_ ?_
 ·intro i _ w s' hi hJ hk;refine zP ?_;exact Xn (Ua (by repeat (first | exact trivial | refine ⟨rfl, ?_⟩)) hk)
 ·rintro i _ w hii hs;have hb := hiN.base hii;have hc := hiN.nat hii;have hx := hlt _ (List.getElem_mem hii);have hil := initTo_len N I i (by omega);refine Y0 ?_;refine Yb rfl rfl rfl rfl rfl (by omega) (hb) rfl rfl ?_;refine Xd hs (hc) rfl rfl rfl rfl rfl ?_;refine Yv _ rfl rfl rfl rfl rfl (hx) rfl rfl rfl ?_
  refine Yh (u := .bool ((initTo N I i)[I[i]]'(by omega))) hs 0 rfl rfl rfl (by simp [hil, hx]) rfl rfl rfl rfl ?_;clear hs; intro w hs;exact Xn (Xh (Xs () hii (by omega) (by rw [initTo_succ N I hii, List.map_set]; exact hs) rfl rfl rfl rfl (by repeat (first | exact trivial | refine ⟨rfl, ?_⟩))))
 ·rintro _ w hs;have hil := initTo_len N I I.length (Nat.le_refl _);have hrl := (initR_iff hlt).1;obtain ⟨g1, hg1, hs, rI⟩ := OwnS.freezeE (e := eBool) (h0 := fun _ => rfl) (xs := initR N I) (own_bools hil) hs;refine Y23 ?_;refine Xf rfl rfl rfl (L := []) hs (hev g1 hg1) ?_;rintro ve g2 L' w hg2 hs ⟨rfl, re⟩;refine zP ?_;have hg02 := Ghost.tr hg1 hg2
  have hrl' : (rchR (ls.map toA) (Jg (ls.map toA)) false N (initR N I)).length = N := by
   have := hC.validG;rw [← hN] at this
   exact rchR_len this hrl _
  refine Xf rfl rfl rfl (L := []) hs (hre g2 ve _ hg02 re (rI.mono hg2) hrl) ?_;rintro vr g3 L' w hg3 hs ⟨rfl, rr⟩;refine Xf rfl rfl rfl (L := []) hs (refNumbers_spec g3 vr _ rr (by rw [hrl']; omega)) ?_;rintro vk g4 L' w hg4 hs ⟨rfl, rk⟩;refine Y7 ?_;exact Xb (Xo rfl rfl) ⟨g4, [], Ghost.tr hg02 (Ghost.tr hg3 hg4), hs, rfl, rk⟩
theorem refIsR_spec (hC : Checked n init ls all pairs) (g : Ghost) (vi vl va vp : Value) (hi : RS kInt g vi init) (hl : RS Jl g vl ls) (ha : RS kInt g va all) (hp : RS Vh g vp pairs) (ha0 : all.length ≤ 4611686018427387904) :
  Cl PP 15 [.int .i64 (n.toNat : Int), vi, vl, .agg #[va, vp]] g [] (Det (.bool (isR n.toNat (ls.map toA) (all.map Int.toNat) (pairs.map toP) (init.map Int.toNat)))) := by
 have hlt : ∀ x ∈ Qd n.toNat (ls.map toA) (init.map Int.toNat), x < n.toNat := fun x hx => by
  have h1 : ∀ y ∈ init.map Int.toNat, y < n.toNat := fun y hy => by
   obtain ⟨z, hz, rfl⟩ := List.mem_map.1 hy;have := hC.init.low z hz;omega
  have := getD_lt (mem_numsR.1 hx);rw [rchR_len hC.validG (initR_iff h1).1] at this
  exact this
 have hn1 := hC.n1
 have hR := fun g' (hg : g ≤ g') => reached_spec hC g' vi vl (hi.mono hg) (hl.mono hg)
 have hKl : (Qd n.toNat (ls.map toA) (init.map Int.toNat)).length ≤ 20000 := by
  have h := Jc n.toNat _ ((nums_asc _).imp fun h => Nat.ne_of_lt h) hlt;have h' : (Qd n.toNat (ls.map toA) (init.map Int.toNat)).length ≤ n.toNat := h;omega
 have hB : isR n.toNat (ls.map toA) (all.map Int.toNat) (pairs.map toP) (init.map Int.toNat) = (Qd n.toNat (ls.map toA) (init.map Int.toNat)).any fun k => (coresM n.toNat (ls.map toA) (all.map Int.toNat) (pairs.map toP)).getD k false := rfl
 obtain ⟨K, hK⟩ : ∃ K, K = Qd n.toNat (ls.map toA) (init.map Int.toNat) := ⟨_, rfl⟩
 rw [← hK] at hlt hR hKl hB
 have hcl : (coresM n.toNat (ls.map toA) (all.map Int.toNat) (pairs.map toP)).length = n.toNat := coresM_len
 have hCo := fun g' vin (hg : g ≤ g') h => refCores_I (vin := vin) hC (hl.mono hg) (ha.mono hg) (hp.mono hg) ha0 h
 obtain ⟨C, hCe⟩ : ∃ C, C = coresM n.toNat (ls.map toA) (all.map Int.toNat) (pairs.map toP) := ⟨_, rfl⟩
 rw [← hCe] at hcl hCo hB
 refine Xj Tryz.func15 rfl rfl Tryz.ntmps15 rfl ?_
 intro w F hs
 refine Y2 ?_
 refine Yi hs rfl rfl rfl rfl ?_; clear hs; intro wb w hs
 refine Y10 ?_
 refine Yf 6 [] Yd (by kernel_rfl) rfl hs ?_
 refine zC ?_
 refine Uf [] [] rfl rfl rfl (fun g' hg' => refEvery_I hC (hl.mono hg')) ?_
 refine sg_ldW 0 rfl rfl rfl rfl rfl rfl ?_
 refine sg_callW (post := fun g' L' r => L' = [] ∧ RS Yt g' r C) 15 [] [] rfl rfl rfl (fun _ => rfl) (fun _ => rfl) (fun g' g2 v L' hg2 ⟨g3, hg3, hL, hr⟩ hg' => hCo g' v (Ghost.tr hg2 hg') (hr.mono (Ghost.tr hg3 hg'))) ?_
 refine Xy ?_
 intro g1 w hg1
 rintro _ _ ⟨_, _, rfl, _⟩ vc _ ⟨g2, hg2, rfl, rc⟩ hs
 replace hs := (show St g1 w ((wb, Xa [va, vp] 26) :: F) from hs)
 replace rc := rc.mono hg2
 obtain ⟨ac, cc, rfl⟩ := rc.form
 refine Y4 ?_
 refine Xf rfl rfl rfl (L := []) hs (hR g1 hg1) ?_
 rintro vk g3 L' w hg3 hs ⟨rfl, rk⟩
 replace hs := (show St g3 w F from (show St g3 w ((wb, Xa [va, vp] 26) :: F) from hs).drop)
 obtain ⟨ak, ck, rfl⟩ := rk.form
 have hg03 := Ghost.tr hg1 hg3
 replace rc := rc.mono hg3
 refine Y26 ?_
 refine Ub K.length (fun _ (_ : Unit) => [(9, .slice ac C.length cc), (10, .slice ak K.length ck)]) (fun i (_ : Unit) w => St g3 w F ∧ ∀ j (h : j < i) (h' : j < K.length), C.getD K[j] false = false) () (by repeat (first | exact trivial | refine ⟨rfl, ?_⟩)) ⟨hs, fun j h => by omega⟩ ?_ ?_ ?_
 ·intro i _ w s' hi hJ hk;refine zP ?_;exact Xn (Ua (by repeat (first | exact trivial | refine ⟨rfl, ?_⟩)) hk)
 ·clear hs;rintro i _ w hii ⟨hs, hj⟩;have hb := rk.base hii;have hc := rk.nat hii;have hx := hlt _ (List.getElem_mem hii);have hxc : K[i] < C.length := by omega
  have hb2 := rc.base hxc;have hc2 := rc.bool hxc;have hgd := Zw hxc;have hmem := List.getElem_mem hii;refine Y0 ?_;refine Yb rfl rfl rfl rfl rfl (by omega) (hb) rfl rfl ?_;refine Xd hs (hc) rfl rfl rfl rfl rfl ?_;refine zP ?_;refine Yb rfl rfl rfl rfl rfl (by omega) hb2 rfl rfl ?_;refine Xd hs (hc2) rfl rfl rfl rfl rfl ?_;refine zn ?_
  refine Xi rfl (fun h => ?_) (fun h => ?_)
  ·refine Y1 ?_;refine Xb (Xo rfl rfl) ⟨g3, [], hg03, hs, rfl, ?_⟩;rw [hB, List.any_eq_true.2 ⟨_, hmem, by rw [hgd]; exact h⟩]
  ·refine Xq (Xh (Xs () hii (by omega) ⟨hs, fun j h1 h2 => ?_⟩ rfl rfl rfl rfl (by repeat (first | exact trivial | refine ⟨rfl, ?_⟩))))
   by_cases e : j = i
   ·subst e; rw [hgd]; exact h
   ·exact hj j (by omega) h2
 ·clear hs;rintro _ w ⟨hs, hj⟩;refine Y24 ?_;refine Xb (Xo rfl rfl) ⟨g3, [], hg03, hs, rfl, ?_⟩;rw [hB, List.any_eq_false.2];intro x hx;obtain ⟨j, hjl, rfl⟩ := List.getElem_of_mem hx;rw [hj j hjl hjl]; simp
end
end
section
open Go.RowKit
theorem sts_deep {k n : Nat} {g : Ghost} {v : Value} {S : List (List ValT)} (h : ∀ s ∈ S, Ut s ≤ n) (hr : RS (kSl (Ud k)) g v S) : RS (kSl (Ud n)) g v S := by
 have := hr.conv (K' := kSl (Ud n)) id rfl fun g cs x hx hr => by
  obtain ⟨v, rfl, h1⟩ := hr;refine ⟨v, rfl, ?_⟩;have h2 : RSg (ValRn k g) 7 g v x := h1;exact (rsg_deep (fun cs y hy hv => ValRn.deep k n hv (by have := depL_mem hy; have := h x hx; omega)) h2 : RSg (ValRn n g) 7 g v x)
 simpa using this
theorem GrR0.thin {k : Nat} {g : Ghost} {cs : List Value} {G : GraphV} (h : GrR0 k g cs G) (ht : ThinG G) : GrRn 60 g cs G := by
 obtain ⟨⟨vs, vi, ve, h1, h2, h3, h4, h5⟩, bn, bi, be, bs⟩ := h
 obtain ⟨t1, t2, t3, t4⟩ := ht
 exact ⟨⟨vs, vi, ve, h1, h2, sts_deep (fun s hs => (t4 s hs).2) h3, h4, h5⟩, by omega, by omega, by omega, fun s hs => ⟨by have := len_cntL s; have := (t4 s hs).1; omega, by have := (t4 s hs).1; omega⟩⟩
theorem GrR0.mono {k : Nat} {g g' : Ghost} {cs : List Value} {G : GraphV} (hg : g ≤ g') (h : GrR0 k g cs G) : GrR0 k g' cs G := by
 obtain ⟨⟨vs, vi, ve, h1, h2, h3, h4, h5⟩, bn, bi, be, bs⟩ := h
 exact ⟨⟨vs, vi, ve, h1, h2, h3.mono hg, h4.mono hg, h5.mono hg⟩, bn, bi, be, bs⟩
theorem find_round {n : Int} {init : List Int} {ls : List ArrowI} {all : List Int} {pairs : List (Int × Int)} (hC : Xz n init ls all pairs = 0) {r : Rd} (h : RdOk (ls.map toA) n.toNat (all.map Int.toNat) (pairs.map toP) (init.map Int.toNat) r) :
  Yz init (ls.map toA) (r.1 : Int) (r.2.1.map Int.ofNat) (r.2.2.map Int.ofNat) = true ∧ Sats (ls.map toA) (all.map Int.toNat) (pairs.map toP) ((r.2.2.map Int.ofNat).map Int.toNat) := by
 have h1 := accepts_found hC h
 unfold Vw at h1
 rw [if_pos hC] at h1
 constructor
 ·by_cases hr : Yz init (ls.map toA) (r.1 : Int) (r.2.1.map Int.ofNat) (r.2.2.map Int.ofNat) = true
  ·exact hr
  ·rw [if_neg hr] at h1; simp at h1
 ·have e : (r.2.2.map Int.ofNat).map Int.toNat = r.2.2 := by rw [List.map_map]; exact (List.map_congr_left (g := id) (fun x _ => rfl)).trans (List.map_id _)
  rw [e]; exact h.sats
theorem find_cases {n : Int} {init : List Int} {ls : List ArrowI} {all : List Int} {pairs : List (Int × Int)} (hs : smallB n init ls all pairs = true) :
  (∃ r, findI n init ls all pairs = some (some r, 0) ∧ Xz n init ls all pairs = 0 ∧ RdOk (ls.map toA) n.toNat (all.map Int.toNat) (pairs.map toP) (init.map Int.toNat) r) ∨
  (findI n init ls all pairs = some (none, Xz n init ls all pairs) ∧ (Xz n init ls all pairs = 0 → isR n.toNat (ls.map toA) (all.map Int.toNat) (pairs.map toP) (init.map Int.toNat) = false)) := by
 by_cases hC : Xz n init ls all pairs = 0
 ·have hk := Jn hC;simp only [smallB, Bool.and_eq_true, Bool.or_eq_true, decide_eq_true_eq] at hs
  have := hk.n1
  rcases findI_small hC (by omega) (by omega) with ⟨r, h1, h2⟩ | ⟨h1, h2⟩
  ·exact .inl ⟨r, h1, hC, h2⟩
  ·refine .inr ⟨by rw [hC]; exact h1, fun _ => ?_⟩;cases hR : isR n.toNat (ls.map toA) (all.map Int.toNat) (pairs.map toP) (init.map Int.toNat) with
   | false => rfl
   | true => exact absurd h2 ((isR_iff hk.validG (init_lt hC)).1 hR)
 ·refine .inr ⟨?_, fun h => absurd h hC⟩;unfold findI;rw [if_neg hC]
end
section
open Go.RowKit
theorem lassoF_len {G : GraphV} {ls : List ArrowI} {start : Int} {stem loop : List Int} (h1 : stem.length ≤ 100000) (h2 : loop.length ≤ 100000) (hs : ∀ s ∈ G.sts, s.length ≤ 1000) : (Vz G ls start stem loop).1.length ≤ 1000000 ∧ ∀ s ∈ (Vz G ls start stem loop).1, s.length ≤ 1000000 := by
 unfold Vz
 split
 ·split
  ·refine ⟨by simp only [Ul, List.length_map, List.length_append]; omega, fun s h => ?_⟩;simp only [Ul, List.mem_map] at h
   obtain ⟨x, _, rfl⟩ := h;generalize (ls.getD x.toNat ⟨0, 0, 0⟩).fr.toNat = j;rw [List.getD_eq_getElem?_getD]
   by_cases hj : j < G.sts.length
   ·rw [List.getElem?_eq_getElem hj];have := hs _ (List.getElem_mem hj);simp only [Option.getD_some]; omega
   ·rw [List.getElem?_eq_none (by omega)]; simp
  ·simp
 ·simp
set_option maxHeartbeats 8000000 in
theorem rounds_spec (k : Nat) (g : Ghost) (n : Int) (vi vl va vp : Value) (init : List Int) (ls : List ArrowI) (all : List Int) (pairs : List (Int × Int)) (cs : List Value) (G : GraphV) (vl2 vs vo : Value) (ls2 : List ArrowI) (start : Int) (stem loop : List Int)
  (hi : RS kInt g vi init) (hl : RS Jl g vl ls) (ha : RS kInt g va all) (hp : RS Vh g vp pairs) (hG : GrR0 k g cs G) (hl2 : RS Jl g vl2 ls2) (hst : RS kInt g vs stem) (ho : RS kInt g vo loop) :
  Pu PP 3 [.agg #[.int .i64 n, vi, vl, va, vp], .agg cs.toArray, vl2, .agg #[.int .i64 start, vs, vo]] g (.bool true) := fun g' hg => by
 have hi := hi.mono hg
 have hl := hl.mono hg
 have ha := ha.mono hg
 have hp := hp.mono hg
 have hG := hG.mono hg
 have hl2 := hl2.mono hg
 have hst := hst.mono hg
 have ho := ho.mono hg
 have hG' := hG
 obtain ⟨⟨vS, vI, vE, rfl, _⟩, _⟩ := hG'
 obtain ⟨al2, cl2, rfl⟩ := hl2.form
 refine Ym Tryz.func3 rfl rfl Tryz.ntmps3 rfl fun F => ?_
 refine ze fun b4 => ?_
 intro w hs
 refine wl_boxs hs rfl rfl rfl rfl ?_
 clear hs; intro b5 w hs
 refine wl_boxs hs rfl rfl rfl rfl ?_
 clear hs; intro b7 w hs
 revert w hs
 refine zfz fun g1 hg1 f7 => ?_
 refine zfz fun g2 hg2 f5 => ?_
 refine zfz fun g3 hg3 f4 => ?_
 have f5 := f5.mono hg3
 have f7 := f7.mono (Ghost.tr hg2 hg3)
 have hgg : g' ≤ g3 := Ghost.tr hg1 (Ghost.tr hg2 hg3)
 replace hi := hi.mono hgg
 replace hl := hl.mono hgg
 replace ha := ha.mono hgg
 replace hp := hp.mono hgg
 replace hG := hG.mono hgg
 replace hl2 := hl2.mono hgg
 replace hst := hst.mono hgg
 replace ho := ho.mono hgg
 have q0 := f4.cells0 0 _ rfl
 have q1 := f4.cells0 1 _ rfl
 have q2 := f4.cells0 2 _ rfl
 have qw : ∀ j u, [va, vp][j]? = some u → g3.cell (((⟨b4, 0, none⟩ : Addr).add 3).add j) = some u := fun j u h => by
  have := f4.cells0 (3 + j) u (by
   match j, h with
   | 0, h => exact h
   | 1, h => exact h)
  rw [Yo] at this ⊢; rw [Yo]; simpa [Nat.add_assoc] using this
 have nw : [va, vp].length = 2 := rfl
 have a4 : ∀ j u, [Value.int .i64 n, vi, vl, va, vp][j]? = some u → g3.cell ((⟨b4, 0, none⟩ : Addr).add j) = some u := f4.cells0
 have a5 : ∀ j u, [vS, vI, vE][j]? = some u → g3.cell ((⟨b5, 0, none⟩ : Addr).add j) = some u := f5.cells0
 have a7 : ∀ j u, [Value.int .i64 start, vs, vo][j]? = some u → g3.cell ((⟨b7, 0, none⟩ : Addr).add j) = some u := f7.cells0
 have n4 : [Value.int .i64 n, vi, vl, va, vp].length = 5 := rfl
 have n5 : [vS, vI, vE].length = 3 := rfl
 have n7 : [Value.int .i64 start, vs, vo].length = 3 := rfl
 have c1 : Pu PP 4 [] g3 (.bool true) := det_pu fun g4 h => sane_spec g4
 have c2 : Pu PP 5 [.agg #[.int .i64 n, vi, vl, va, vp]] g3 (.bool (smallB n init ls all pairs)) := det_pu fun g4 h => small_spec g4 n vi vl va vp init ls all pairs (hi.mono h) (hl.mono h) (ha.mono h) (hp.mono h)
 have c3 : Pu PP 7 [.agg #[.int .i64 start, vs, vo]] g3 (.bool (briefB stem loop)) := det_pu fun g4 h => brief_spec g4 _ vs vo stem loop (hst.mono h) (ho.mono h)
 have fin : ∀ {g4 : Ghost} {ρ : Env} {s : List Fr} {fn : Func} {N : Nat}, g3 ≤ g4 → fn.results = #[.tmp 8] → Ye ρ 8 = some (.bool true) → ∀ w, Sg g4 w F → WC PP none (RetQ PP fn fun r w' => Sg g' w' F ∧ r = .bool true) N [] .ret s ρ w := fun hg4 hf h8 w hs =>
  Xb (Xo hf h8) ⟨hs.up (Ghost.tr hgg hg4), rfl⟩
 cases hB : smallB n init ls all pairs with
 | false =>
  rw [hB] at c2
  refine zs ?_;exact fin Ghost.rfl' rfl rfl
 | true =>
  rw [hB] at c2
  refine zs ?_;refine zpr (thin_spec k g3 _ G hG) fun g4 v hg4 hv => ?_
  obtain ⟨res, rfl, hth⟩ := hv;refine zup hg4 ?_;cases res with
  | false =>
   refine zs ?_;exact fin Ghost.rfl' rfl rfl
  | true =>
   have hT := hth rfl;have hGn := hG.thin hT;refine zs ?_
   refine zbs (fun h => ?_) (fun h => ?_)
   ·refine zs ?_;exact fin Ghost.rfl' rfl rfl
   have hl20 := df h;refine zs ?_;cases hBr : briefB stem loop with
   | false =>
    rw [hBr] at c3
    refine zs ?_;exact fin Ghost.rfl' rfl rfl
   | true =>
    rw [hBr] at c3
    simp only [briefB, Bool.and_eq_true, decide_eq_true_eq] at hBr
    have hSl := lassoF_len (G := G) (ls := ls2) (start := start) (stem := stem) (loop := loop) (by omega) (by omega) (fun s hs => (hGn.s s hs).1);refine zs ?_;refine zpr (lasso_spec 60 (by decide) g3 [vS, vI, vE] G (.slice al2 ls2.length cl2) vs vo ls2 start stem loop hGn hl2 hst ho (by omega) (by omega) (by omega)) fun g4 v hg4 hv => ?_
    obtain ⟨vs1, rfl, r1⟩ := hv;have a5' : ∀ j u, [vS, vI, vE][j]? = some u → g4.cell ((⟨b5, 0, none⟩ : Addr).add j) = some u := fun j u h => hg4.cell (a5 j u h)
    have a7' : ∀ j u, [Value.int .i64 start, vs, vo][j]? = some u → g4.cell ((⟨b7, 0, none⟩ : Addr).add j) = some u := fun j u h => hg4.cell (a7 j u h)
    obtain ⟨x1, y1, rfl⟩ := r1.form;refine zs ?_;refine zne fun b9 => ?_
    refine zsw ?_;refine zs ?_;refine zpr (refLasso_spec 60 g4 [vS, vI, vE] G (.slice al2 ls2.length cl2) vs vo ls2 start stem loop ((hG.mono hg4).thin hT) (hl2.mono hg4) (hst.mono hg4) (ho.mono hg4) (by omega) (by omega) (by omega)) fun g5 v hg5 hv => ?_
    obtain ⟨vs2, rfl, r2⟩ := hv;obtain ⟨x2, y2, rfl⟩ := r2.form;have c4 := equalF_spec 60 g5 _ _ _ (r1.mono hg5) r2 hSl.1 hSl.2;generalize (Vz G ls2 start stem loop).1 = S at *
    generalize (Vz G ls2 start stem loop).2.1 = back at *
    generalize (Vz G ls2 start stem loop).2.2 = e at *
    refine zs ?_;refine zne fun b11 => ?_
    refine zsw ?_;refine zs ?_
    refine zbs (fun h => ?_) (fun h => ?_)
    ·simp at h
    refine zs ?_
    refine zbs (fun h => ?_) (fun h => ?_)
    ·simp at h
    refine zs ?_;refine Ku ?_;refine Ku ?_;refine zup (Ghost.tr hg4 hg5) ?_
    obtain ⟨hn, s1, s2⟩ : (n ≤ 12 ∨ n > 20000) ∧ (init.length ≤ 40 ∧ ls.length ≤ 40) ∧ (all.length ≤ 40 ∧ pairs.length ≤ 40) := by
     simp only [smallB, Bool.and_eq_true, Bool.or_eq_true, decide_eq_true_eq] at hB
     omega
    have c5 : Pu PP 14 [.int .i64 n, vi, vl, .agg #[va, vp]] g3 (.int .i64 (Xz n init ls all pairs)) := det_pu fun g4 h => refCheck_spec g4 n vi vl va vp init ls all pairs (hi.mono h) (hl.mono h) (ha.mono h) (hp.mono h) (by omega) (by omega) (by omega) (by omega)
    refine zs ?_
    rcases find_cases hB with ⟨r, hf, hC, hr⟩ | ⟨hf, hno⟩
    ·obtain ⟨hR, hSat⟩ := find_round hC hr;have hk := Jn hC;have hnn : (n.toNat : Int) = n := Int.toNat_of_nonneg hk.n0;have hsl := hr.stem;have hol := hr.loop;rw [hC] at c5
     refine zpr (show Pr PP 13 [.int .i64 n, vi, vl, .agg #[va, vp]] g3 fun g' v => ∃ vs vlo, v = .tuple #[.agg #[.int .i64 (r.1 : Int), vs, vlo], .bool true, .int .i64 0] ∧ RS kNat g' vs r.2.1 ∧ RS kNat g' vlo r.2.2 from fun g' hg => Find_spec g' n vi vl va vp init ls all pairs (hi.mono hg) (hl.mono hg) (ha.mono hg) (hp.mono hg) (by omega) (by omega) (by omega) (by omega) _ hf) fun g4 v hg4 hv => ?_
     obtain ⟨w1, w2, rfl, k1, k2⟩ := hv;have c6 := refAccepts_spec g4 n vi vl va vp w1 w2 init ls all pairs (r.1 : Int) (r.2.1.map Int.ofNat) (r.2.2.map Int.ofNat) (hi.mono hg4) (hl.mono hg4) (ha.mono hg4) (hp.mono hg4) k1.ofNat k2.ofNat (by omega) (by omega) (by omega) (by omega) (by rw [List.length_map]; have := hk.n1; omega) (by rw [List.length_map]; have := hk.n1; omega) hC hR hSat
     obtain ⟨x3, y3, rfl⟩ := k1.form;obtain ⟨x4, y4, rfl⟩ := k2.form;replace c5 : Pu PP 14 [.int .i64 n, vi, vl, .agg #[va, vp]] g4 (.int .i64 0) := fun g5 h => c5 g5 (Ghost.tr hg4 h)
     replace q0 := hg4.cell q0;replace q1 := hg4.cell q1;replace q2 := hg4.cell q2;have qw' : ∀ j u, [va, vp][j]? = some u → g4.cell (((⟨b4, 0, none⟩ : Addr).add 3).add j) = some u := fun j u h => hg4.cell (qw j u h)
     generalize r.1 = r1' at *
     generalize r.2.1.length = L1 at *
     generalize r.2.2.length = L2 at *
     refine zs ?_;refine zne fun b13 => ?_
     refine zsw ?_;have hn0 := hk.n0;have hn1 := hk.n1;refine zs ?_;refine zbs (fun h => ?_) (fun h => ?_)
     case refine_2 => exact absurd (df h) (by omega)
     refine zs ?_;refine Ku ?_;refine zup (Ghost.tr hgg hg4) ?_;refine zt (congrArg Value.bool ?_);exact decide_eq_true (by omega)
    ·refine zpr (show Pr PP 13 [.int .i64 n, vi, vl, .agg #[va, vp]] g3 fun g' r => ∃ vs vlo, r = .tuple #[.agg #[.int .i64 0, vs, vlo], .bool false, .int .i64 (Xz n init ls all pairs)] ∧ RS kNat g' vs [] ∧ RS kNat g' vlo [] from fun g' hg => Find_spec g' n vi vl va vp init ls all pairs (hi.mono hg) (hl.mono hg) (ha.mono hg) (hp.mono hg) (by omega) (by omega) (by omega) (by omega) _ hf) fun g4 v hg4 hv => ?_
     obtain ⟨w1, w2, rfl, k1, k2⟩ := hv;obtain ⟨x3, y3, rfl⟩ := k1.form;obtain ⟨x4, y4, rfl⟩ := k2.form;refine zup hg4 ?_;refine zs ?_;refine zne fun b13 => ?_
     refine zsw ?_
     by_cases hC : Xz n init ls all pairs = 0
     ·have hk := Jn hC;have hnn : (n.toNat : Int) = n := Int.toNat_of_nonneg hk.n0
      have c6 : Pu PP 15 [.int .i64 n, vi, vl, .agg #[va, vp]] g3 (.bool false) := det_pu fun g4 h => by
       have := refIsR_spec hk g4 vi vl va vp (hi.mono h) (hl.mono h) (ha.mono h) (hp.mono h) (by omega);rw [hno hC, hnn] at this; exact this
      rw [hC] at c5 ⊢
      refine zs ?_;refine Ku ?_;exact fin Ghost.rfl' rfl rfl
     ·generalize Xz n init ls all pairs = e0 at c5 hC
      refine zs ?_
      refine zbs (fun h => ?_) (fun h => ?_)
      ·simp at h
      refine zs ?_;refine zbs (fun h => ?_) (fun h => ?_)
      case refine_2 => simp at h; exact absurd h hC
      refine zs ?_;refine zbs (fun h => ?_) (fun h => ?_)
      case refine_2 => simp at h; exact absurd h hC
      refine zs ?_;refine Ku ?_;exact fin Ghost.rfl' rfl rfl
end
section
open Go.RowKit
theorem okWide_agg {P : Program} [Tabbed P] {t : Nat} {te : TE} {fs : List (Nat × Nat)} {W : World} {base : Nat} {v : Value} (h : Xc (tb P) t = some te) (hd : te.td = .struct fs) (hv : Value.okWide P W .any base t v) : ∃ cs : List Value, v = .agg cs.toArray := by
 obtain ⟨l, hl1, _⟩ := Qs h hd
 unfold Value.okWide at hv
 rw [hl1] at hv
 obtain ⟨cs, rfl, _⟩ := hv
 exact ⟨cs.toList, rfl⟩
section
variable {P : Program} [Tabbed P] {H : Type} {enc : TypeId × Value → H} {W : World} {spare : Nat → Bool} {held : Bool} {fuel : Nat} {cs : List Value} {x : DataW H × List MemPlace}
theorem Kp {t : Nat} {te : TE} (h : Xc (tb P) t = some te) : P.cellsOf t = te.zs.length := by
 obtain ⟨i, h1, h2, _⟩ := Um h
 simp [Program.cellsOf, h1, h2]
theorem Qj {t : Nat} {te : TE} {k : IntKind} (h : Xc (tb P) t = some te) (hd : te.td = .int k) (hx : DataW.trod enc P W 0 spare held fuel t cs = some x) : ∃ n, cs = [.int k n] ∧ (Lit.int k n).wf = true := by
 obtain ⟨n, h1, _, h2⟩ := DataW.trod_int (und_int h hd) hx
 exact ⟨n, h1, h2⟩
theorem in_slice {α : Type} {K : Kd α} {t e : Nat} {te ee : TE} (h : Xc (tb P) t = some te) (hd : te.td = .slice e) (he : Xc (tb P) e = some ee) (hz : ee.zs.length = K.sz) (hpos : 0 < K.sz)
  (hel : ∀ n cs' y, DataW.trod enc P W 0 spare held n e cs' = some y → ∃ x, K.R (Zq W) cs' x) (hx : DataW.trod enc P W 0 spare held fuel t cs = some x) :
  ∃ a xs cap, cs = [.slice a xs.length cap] ∧ RS K (Zq W) (.slice a xs.length cap) xs ∧ xs.length ≤ cap := by
 have hc : P.cellsOf e = K.sz := (Kp he).trans hz
 rcases Deep.open_slice (Zf h hd) hx with ⟨rfl, _⟩ | ⟨a, len, cap, m, n, D, Pl, rfl, _, hl, _, hm, _, hall⟩
 ·exact ⟨none, [], 0, rfl, RS.nil _ _ _ _, Nat.le_refl _⟩
 ·rw [hc] at hall
  have hlm : len ≤ m := by rw [hm]; split <;> omega
  have key : ∀ k, k ≤ len → ∃ xs : List α, xs.length = k ∧ ∀ i (hi : i < xs.length), ∃ cs', W.cells? 0 (a.add (i * K.sz)) K.sz = some cs' ∧ K.R (Zq W) cs' xs[i] := by
   intro k
   induction k with
   | zero => intro _; exact ⟨[], rfl, fun i hi => by simp at hi⟩
   | succ k ih =>
    intro hk;obtain ⟨xs, h1, h2⟩ := ih (by omega);obtain ⟨cs', q1, q2⟩ := hall k (by omega);obtain ⟨y, hy⟩ := hel _ _ _ q2;refine ⟨xs ++ [y], by simp [h1], fun i hi => ?_⟩
    by_cases hik : i < xs.length
    ·rw [List.getElem_append_left hik]; exact h2 i hik
    ·have : i = xs.length := by simp at hi; omega
     subst this;rw [List.getElem_append_right (Nat.le_refl _)];simp only [Nat.sub_self, List.getElem_cons_zero];rw [h1];exact ⟨cs', q1, hy⟩
  obtain ⟨xs, h1, h2⟩ := key len (Nat.le_refl _);subst h1;refine ⟨some a, xs, cap, rfl, ⟨some a, cap, rfl, ?_⟩, hl⟩
  by_cases hx0 : xs = []
  ·exact .inl hx0
  ·right;have h0 : 0 < xs.length := List.length_pos_iff.2 hx0;obtain ⟨cs0, q1, _⟩ := h2 0 h0;obtain ⟨_, q2, q3⟩ := World.cells?_some q1
   have hsp : a.spot = none := by
    have := q3 0 hpos;rw [Nat.zero_mul] at this
    have ea : (a.add 0).add 0 = a := by simp [Addr.add]
    rw [ea, List.getElem?_eq_getElem (by omega)] at this
    unfold World.cell? at this
    split at this
    ·split at this
     ·cases this
     ·rename_i hs; simpa using hs
    ·cases this
   obtain ⟨b, o, sp⟩ := a;simp only at hsp
   subst hsp;refine ⟨b, o, rfl, fun i hi => ?_⟩;obtain ⟨cs', q1, q2⟩ := h2 i hi;obtain ⟨_, q3, q4⟩ := World.cells?_some q1;refine ⟨cs', q2, fun j u hu => ?_⟩;have hj : j < K.sz := by rw [← q3]; exact (List.getElem?_eq_some_iff.1 hu).1
   have := q4 j hj;rw [hu, Yo, Yo] at this
   exact this
theorem in_field {t : Nat} {te : TE} {fs : List (Nat × Nat)} (h : Xc (tb P) t = some te) (hd : te.td = .struct fs) (hx : DataW.trod enc P W 0 spare held fuel t cs = some x) :
  cs.length = te.zs.length ∧ ∀ (j off ft : Nat) (fte : TE), fs[j]? = some (off, ft) → Xc (tb P) ft = some fte → ∃ n y, DataW.trod enc P W 0 spare held n ft ((cs.drop off).take fte.zs.length) = some y := by
 obtain ⟨l, hl1, hl2⟩ := Qs h hd
 obtain ⟨xs, n, _, _, h1, h2, h3⟩ := DataW.trod_struct hl1 hx
 refine ⟨h1.trans (Kp h), fun j off ft fte hj hf => ?_⟩
 rw [← hl2, List.getElem?_map, Option.map_eq_some_iff] at hj
 obtain ⟨f, hf1, hf2⟩ := hj
 simp only [Prod.mk.injEq] at hf2
 have hj' : l[j]? = some f := by simpa using hf1
 have := h3 j f hj'
 rw [hf2.1, hf2.2, Kp hf] at this
 have hlt : j < xs.length := by rw [h2]; exact (Array.getElem?_eq_some_iff.1 hj').1
 exact ⟨n, xs[j], by rw [this, List.getElem?_eq_getElem hlt]⟩
theorem in_array {t m e : Nat} {te ee : TE} (h : Xc (tb P) t = some te) (hd : te.td = .array m e) (he : Xc (tb P) e = some ee) (hx : DataW.trod enc P W 0 spare held fuel t cs = some x) :
  cs.length = te.zs.length ∧ ∀ i, i < m → ∃ n y, DataW.trod enc P W 0 spare held n e ((cs.drop (i * ee.zs.length)).take ee.zs.length) = some y := by
 obtain ⟨xs, n, _, _, h1, h2, h3⟩ := DataW.trod_array (und_array h hd) hx
 refine ⟨h1.trans (Kp h), fun i hi => ?_⟩
 have := h3 i hi
 rw [Kp he] at this
 exact ⟨n, xs[i], by rw [this, List.getElem?_eq_getElem (by omega)]⟩
end
section
variable {H : Type} {enc : TypeId × Value → H} {W : World} {spare : Nat → Bool} {held : Bool} {fuel : Nat} {cs : List Value} {x : DataW H × List MemPlace}
theorem in_ints (h : DataW.trod enc PP W 0 spare held fuel 22 cs = some x) : ∃ a xs cap, cs = [.slice a xs.length cap] ∧ RS kInt (Zq W) (.slice a xs.length cap) xs ∧ xs.length ≤ cap :=
 in_slice (K := kInt) rfl rfl rfl rfl (by decide) (fun n cs' y hy => by
  obtain ⟨m, h1, _⟩ := Qj rfl rfl hy;exact ⟨m, h1⟩) h
theorem list3 {α : Type} : ∀ {l : List α}, l.length = 3 → ∃ a b c, l = [a, b, c]
 | [a, b, c], _ => ⟨a, b, c, rfl⟩
theorem list2 {α : Type} : ∀ {l : List α}, l.length = 2 → ∃ a b, l = [a, b]
 | [a, b], _ => ⟨a, b, rfl⟩
theorem list5 {α : Type} : ∀ {l : List α}, l.length = 5 → ∃ a b c d e, l = [a, b, c, d, e]
 | [a, b, c, d, e], _ => ⟨a, b, c, d, e, rfl⟩
theorem wf_u32 {n : Int} (h : (Lit.int .u32 n).wf = true) : 0 ≤ n := by
 simp only [Lit.wf, Bool.and_eq_true, decide_eq_true_eq] at h
 have : IntKind.u32.min = 0 := rfl
 omega
theorem in_arrow (h : DataW.trod enc PP W 0 spare held fuel 74 cs = some x) : ∃ a, cs = eArrI a := by
 obtain ⟨h1, h2⟩ := in_field (P := PP) (t := 74) rfl rfl h
 obtain ⟨c1, c2, c3, rfl⟩ := list3 h1
 obtain ⟨n1, y1, q1⟩ := h2 0 _ _ _ rfl rfl
 obtain ⟨n2, y2, q2⟩ := h2 1 _ _ _ rfl rfl
 obtain ⟨n3, y3, q3⟩ := h2 2 _ _ _ rfl rfl
 obtain ⟨m1, e1, _⟩ := Qj (P := PP) rfl rfl q1
 obtain ⟨m2, e2, _⟩ := Qj (P := PP) rfl rfl q2
 obtain ⟨m3, e3, w3⟩ := Qj (P := PP) rfl rfl q3
 have f1 : c1 = .int .i64 m1 := by simpa using e1
 have f2 : c2 = .int .i64 m2 := by simpa using e2
 have f3 : c3 = .int .u32 m3 := by simpa using e3
 have h0 := wf_u32 w3
 refine ⟨⟨m1, m2, m3.toNat⟩, ?_⟩
 rw [f1, f2, f3]
 simp only [eArrI, Int.toNat_of_nonneg h0]
theorem in_arrows (h : DataW.trod enc PP W 0 spare held fuel 23 cs = some x) : ∃ a xs cap, cs = [.slice a xs.length cap] ∧ RS Jl (Zq W) (.slice a xs.length cap) xs ∧ xs.length ≤ cap :=
 in_slice (K := Jl) rfl rfl rfl rfl (by decide) (fun n cs' y hy => in_arrow hy) h
theorem in_pair (h : DataW.trod enc PP W 0 spare held fuel 55 cs = some x) : ∃ p, cs = ePairI p := by
 obtain ⟨h1, h2⟩ := in_array (P := PP) (t := 55) rfl rfl rfl h
 obtain ⟨c1, c2, rfl⟩ := list2 h1
 obtain ⟨n1, y1, q1⟩ := h2 0 (by decide)
 obtain ⟨n2, y2, q2⟩ := h2 1 (by decide)
 obtain ⟨m1, e1, _⟩ := Qj (P := PP) rfl rfl q1
 obtain ⟨m2, e2, _⟩ := Qj (P := PP) rfl rfl q2
 have f1 : c1 = .int .i64 m1 := by simpa using e1
 have f2 : c2 = .int .i64 m2 := by simpa using e2
 exact ⟨(m1, m2), by rw [f1, f2]; rfl⟩
theorem in_pairs (h : DataW.trod enc PP W 0 spare held fuel 24 cs = some x) : ∃ a xs cap, cs = [.slice a xs.length cap] ∧ RS Vh (Zq W) (.slice a xs.length cap) xs ∧ xs.length ≤ cap :=
 in_slice (K := Vh) rfl rfl rfl rfl (by decide) (fun n cs' y hy => in_pair hy) h
theorem in_net (h : DataW.trod enc PP W 0 spare held fuel 28 cs = some x) : ∃ n vi vl va vp init ls all pairs, cs = [.int .i64 n, vi, vl, va, vp] ∧ RS kInt (Zq W) vi init ∧ RS Jl (Zq W) vl ls ∧ RS kInt (Zq W) va all ∧ RS Vh (Zq W) vp pairs := by
 obtain ⟨h1, h2⟩ := in_field (P := PP) (t := 28) rfl rfl h
 obtain ⟨c1, c2, c3, c4, c5, rfl⟩ := list5 h1
 obtain ⟨n1, y1, q1⟩ := h2 0 _ _ _ rfl rfl
 obtain ⟨n2, y2, q2⟩ := h2 1 _ _ _ rfl rfl
 obtain ⟨n3, y3, q3⟩ := h2 2 _ _ _ rfl rfl
 obtain ⟨n4, y4, q4⟩ := h2 3 _ _ _ rfl rfl
 obtain ⟨m1, e1, _⟩ := Qj (P := PP) rfl rfl q1
 obtain ⟨a2, x2, p2, e2, r2, _⟩ := in_ints q2
 obtain ⟨a3, x3, p3, e3, r3, _⟩ := in_arrows q3
 obtain ⟨_, h5⟩ := in_field (P := PP) (t := 26) rfl rfl q4
 obtain ⟨n5, y5, q5⟩ := h5 0 _ _ _ rfl rfl
 obtain ⟨n6, y6, q6⟩ := h5 1 _ _ _ rfl rfl
 obtain ⟨a5, x5, p5, e5, r5, _⟩ := in_ints q5
 obtain ⟨a6, x6, p6, e6, r6, _⟩ := in_pairs q6
 have f1 : c1 = .int .i64 m1 := by simpa using e1
 have f2 : c2 = .slice a2 x2.length p2 := by simpa using e2
 have f3 : c3 = .slice a3 x3.length p3 := by simpa using e3
 have f5 : c4 = .slice a5 x5.length p5 := by simpa using e5
 have f6 : c5 = .slice a6 x6.length p6 := by simpa using e6
 exact ⟨m1, _, _, _, _, x2, x3, x5, x6, by rw [f1, f2, f3, f5, f6], r2, r3, r5, r6⟩
theorem in_round (h : DataW.trod enc PP W 0 spare held fuel 34 cs = some x) : ∃ n vs vl stem loop, cs = [.int .i64 n, vs, vl] ∧ RS kInt (Zq W) vs stem ∧ RS kInt (Zq W) vl loop := by
 obtain ⟨h1, h2⟩ := in_field (P := PP) (t := 34) rfl rfl h
 obtain ⟨c1, c2, c3, rfl⟩ := list3 h1
 obtain ⟨n1, y1, q1⟩ := h2 0 _ _ _ rfl rfl
 obtain ⟨n2, y2, q2⟩ := h2 1 _ _ _ rfl rfl
 obtain ⟨n3, y3, q3⟩ := h2 2 _ _ _ rfl rfl
 obtain ⟨m1, e1, _⟩ := Qj (P := PP) rfl rfl q1
 obtain ⟨a2, x2, p2, e2, r2, _⟩ := in_ints q2
 obtain ⟨a3, x3, p3, e3, r3, _⟩ := in_ints q3
 have f1 : c1 = .int .i64 m1 := by simpa using e1
 have f2 : c2 = .slice a2 x2.length p2 := by simpa using e2
 have f3 : c3 = .slice a3 x3.length p3 := by simpa using e3
 exact ⟨m1, _, _, x2, x3, by rw [f1, f2, f3], r2, r3⟩
end
theorem cl_row {f : FuncId} {vs : List Value} {W : World} (h : Cl PP f vs (Zq W) [] (Det (.bool true))) : Calls PP f vs.toArray W fun e W' => e = .returned (.bool true) ∧ Below W.heap.size W W' := by
 refine (h.call W [] (by simpa using st_begin W)).mono fun e W' ⟨v, g', L', he, hg, hs, hL, hv⟩ => ?_
 subst hv
 exact ⟨he, hs.below hg⟩
end
section
open Go.RowKit
section
variable {P : Program} [Tabbed P] {H : Type} {enc : TypeId × Value → H} {W : World} {spare : Nat → Bool} {held : Bool} {fuel : Nat} {cs : List Value} {x : DataW H × List MemPlace}
theorem weightsAll_mem {P : Program} {e : TypeId} : ∀ {l : List (DataW H)} {d : DataW H}, d ∈ l → ∀ m ∈ d.weights P e, m ∈ DataW.weightsAll P e l
 | [], _, h, _, _ => by cases h
 | d0 :: l, d, h, m, hm => by
  rw [DataW.weightsAll, List.mem_append]
  rcases List.mem_cons.1 h with e' | h
  ·rw [← e']; exact .inl hm
  ·exact .inr (weightsAll_mem h m hm)
theorem Qx {α : Type} {K : Kd α} {Q : α → Prop} {t e : Nat} {te ee : TE} (h : Xc (tb P) t = some te) (hd : te.td = .slice e) (he : Xc (tb P) e = some ee) (hz : ee.zs.length = K.sz) (hpos : 0 < K.sz)
  (hel : ∀ n cs' y, fuel = n + 1 → DataW.trod enc P W 0 spare held n e cs' = some y → (∀ m ∈ y.1.weights P e, m ∈ x.1.weights P t) → ∃ z, K.R (Zq W) cs' z ∧ Q z) (hx : DataW.trod enc P W 0 spare held fuel t cs = some x) :
  ∃ a xs cap, cs = [.slice a xs.length cap] ∧ RS K (Zq W) (.slice a xs.length cap) xs ∧ xs.length ≤ cap ∧ (∀ z ∈ xs, Q z) ∧ (xs = [] ∨ ∃ m ∈ x.1.weights P t, xs.length * ee.bytes ≤ m) := by
 have hc : P.cellsOf e = K.sz := (Kp he).trans hz
 have hu := Zf h hd
 have hbe : P.bytesOf e = ee.bytes := by
  obtain ⟨i, h1, _, h3, _⟩ := Um he;simp [Program.bytesOf, h1, h3]
 rcases DataW.trod_slice hu hx with ⟨rfl, _⟩ | ⟨a, len, cap, elems, rest, n, hf, rfl, rfl, _, hl, _, hlen, hall, _, _⟩
 ·exact ⟨none, [], 0, rfl, RS.nil _ _ _ _, Nat.le_refl _, (fun z hz => by cases hz), .inl rfl⟩
 ·rw [hc] at hall
  have hwt : ∀ y ∈ elems, ∀ m ∈ y.1.weights P e, m ∈ (DataW.slice (elems.map (·.1)) (rest.map (·.1))).weights P t := fun y hy m hm => by
   rw [DataW.weights, hu];simp only [List.mem_cons, List.mem_append];exact .inr (.inl (weightsAll_mem (List.mem_map.2 ⟨y, hy, rfl⟩) m hm))
  have key : ∀ k, k ≤ len → ∃ xs : List α, xs.length = k ∧ (∀ z ∈ xs, Q z) ∧ ∀ i (hi : i < xs.length), ∃ cs', W.cells? 0 (a.add (i * K.sz)) K.sz = some cs' ∧ K.R (Zq W) cs' xs[i] := by
   intro k
   induction k with
   | zero => intro _; exact ⟨[], rfl, (fun z hz => by cases hz), fun i hi => by simp at hi⟩
   | succ k ih =>
    intro hk;obtain ⟨xs, h1, h0, h2⟩ := ih (by omega);have h3 := hall k (by omega);have hkl : k < elems.length := by omega
    rw [List.getElem?_eq_getElem hkl] at h3
    obtain ⟨cs', q1, q2⟩ := Option.bind_eq_some_iff.1 h3;obtain ⟨y, hy, hq⟩ := hel n cs' _ hf q2 (hwt _ (List.getElem_mem hkl))
    refine ⟨xs ++ [y], by simp [h1], fun z hz => ?_, fun i hi => ?_⟩
    ·rcases List.mem_append.1 hz with hz | hz
     ·exact h0 z hz
     ·rw [List.mem_singleton.1 hz]; exact hq
    ·by_cases hik : i < xs.length
     ·rw [List.getElem_append_left hik]; exact h2 i hik
     ·have : i = xs.length := by simp at hi; omega
      subst this;rw [List.getElem_append_right (Nat.le_refl _)];simp only [Nat.sub_self, List.getElem_cons_zero];rw [h1];exact ⟨cs', q1, hy⟩
  obtain ⟨xs, h1, hQ, h2⟩ := key len (Nat.le_refl _);subst h1
  refine ⟨some a, xs, cap, rfl, ⟨some a, cap, rfl, ?_⟩, hl, hQ, ?_⟩
  ·by_cases hx0 : xs = []
   ·exact .inl hx0
   ·right;have h0 : 0 < xs.length := List.length_pos_iff.2 hx0;obtain ⟨cs0, q1, _⟩ := h2 0 h0;obtain ⟨_, q2, q3⟩ := World.cells?_some q1
    have hsp : a.spot = none := by
     have := q3 0 hpos;rw [Nat.zero_mul] at this
     have ea : (a.add 0).add 0 = a := by simp [Addr.add]
     rw [ea, List.getElem?_eq_getElem (by omega)] at this
     unfold World.cell? at this
     split at this
     ·split at this
      ·cases this
      ·rename_i hs; simpa using hs
     ·cases this
    obtain ⟨b, o, sp⟩ := a;simp only at hsp
    subst hsp;refine ⟨b, o, rfl, fun i hi => ?_⟩;obtain ⟨cs', q1, q2⟩ := h2 i hi;obtain ⟨_, q3, q4⟩ := World.cells?_some q1;refine ⟨cs', q2, fun j u hu => ?_⟩;have hj : j < K.sz := by rw [← q3]; exact (List.getElem?_eq_some_iff.1 hu).1
    have := q4 j hj;rw [hu, Yo, Yo] at this
    exact this
  ·right;refine ⟨(elems.length + rest.length) * ee.bytes, ?_, Nat.mul_le_mul_right _ (by omega)⟩;simp only;rw [DataW.weights, hu];simp only [List.length_map, hbe];exact List.mem_cons_self
theorem in_fieldQ {t : Nat} {te : TE} {fs : List (Nat × Nat)} (h : Xc (tb P) t = some te) (hd : te.td = .struct fs) (hx : DataW.trod enc P W 0 spare held fuel t cs = some x) :
  cs.length = te.zs.length ∧ ∃ n, fuel = n + 1 ∧ ∀ (j off ft : Nat) (fte : TE), fs[j]? = some (off, ft) → Xc (tb P) ft = some fte → ∃ y, DataW.trod enc P W 0 spare held n ft ((cs.drop off).take fte.zs.length) = some y ∧ ∀ m ∈ y.1.weights P ft, m ∈ x.1.weights P t := by
 obtain ⟨l, hl1, hl2⟩ := Qs h hd
 obtain ⟨xs, n, hf, hxx, h1, h2, h3⟩ := DataW.trod_struct hl1 hx
 refine ⟨h1.trans (Kp h), n, hf, fun j off ft fte hj hfte => ?_⟩
 rw [← hl2, List.getElem?_map, Option.map_eq_some_iff] at hj
 obtain ⟨f, hf1, hf2⟩ := hj
 simp only [Prod.mk.injEq] at hf2
 have hj' : l[j]? = some f := by simpa using hf1
 have := h3 j f hj'
 rw [hf2.1, hf2.2, Kp hfte] at this
 have hlt : j < xs.length := by rw [h2]; exact (Array.getElem?_eq_some_iff.1 hj').1
 refine ⟨xs[j], by rw [this, List.getElem?_eq_getElem hlt], fun m hm => ?_⟩
 rw [hxx, DataW.weights, hl1]
 refine DataW.weights_mem_each (j := j) (t := ft) (d := xs[j].1) ?_ ?_ m hm
 ·rw [List.getElem?_map, hf1]; simp [hf2.2]
 ·rw [List.getElem?_map, List.getElem?_eq_getElem hlt]; rfl
end
section
variable {H : Type} {enc : TypeId × Value → H} {W : World} {spare : Nat → Bool} {held : Bool}
end
end
section
open Go.RowKit
theorem list7 {α : Type} : ∀ {l : List α}, l.length = 7 → ∃ a b c d e f g, l = [a, b, c, d, e, f, g]
 | [a, b, c, d, e, f, g], _ => ⟨a, b, c, d, e, f, g, rfl⟩
section
variable {H : Type} {enc : TypeId × Value → H} {W : World} {spare : Nat → Bool} {held : Bool}
theorem wlen {l b : Nat} {ws : List Nat} (hb : 8 ≤ b) (hws : ∀ m ∈ ws, m ≤ reachBytes) : (∃ m ∈ ws, l * b ≤ m) → l ≤ 35184372088832 := fun ⟨m, hm, hlm⟩ => by
 have h3 : m ≤ 0x7ffffffff000 := hws m hm
 have h4 := Nat.mul_le_mul_left l hb
 omega
theorem in_valK : ∀ (k fuel : Nat) (cs : List Value) (x : DataW H × List MemPlace), fuel ≤ k → DataW.trod enc PP W 0 spare held fuel 85 cs = some x → (∀ m ∈ x.1.weights PP 85, m ≤ reachBytes) → ∃ v, ValRn k (Zq W) cs v := by
 intro k
 induction k with
 | zero => intro fuel cs x hf h; cases Nat.le_zero.1 hf; simp [DataW.trod] at h
 | succ k ih =>
  intro fuel cs x hf h hw;obtain ⟨h1, n, rfl, h2⟩ := in_fieldQ (P := PP) (t := 85) rfl rfl h;obtain ⟨c1, c2, c3, c4, c5, c6, c7, rfl⟩ := list7 h1;obtain ⟨y1, q1, _⟩ := h2 0 _ _ _ rfl rfl;obtain ⟨y2, q2, _⟩ := h2 1 _ _ _ rfl rfl;obtain ⟨y3, q3, w3⟩ := h2 2 _ _ _ rfl rfl;obtain ⟨y4, q4, w4⟩ := h2 3 _ _ _ rfl rfl;obtain ⟨y5, q5, w5⟩ := h2 4 _ _ _ rfl rfl
  obtain ⟨y6, q6, w6⟩ := h2 5 _ _ _ rfl rfl;obtain ⟨i1, e1, _⟩ := Qj rfl rfl q1;obtain ⟨i2, e2, _⟩ := Qj rfl rfl q2;obtain ⟨_, n', hn', h5⟩ := in_fieldQ (P := PP) (t := 83) rfl rfl q3;obtain ⟨z1, p1, _⟩ := h5 0 _ _ _ rfl rfl;obtain ⟨z2, p2, u2⟩ := h5 1 _ _ _ rfl rfl;obtain ⟨b1, g1, _⟩ := DataW.trod_bool (und_bool (P := PP) (t := 4) rfl rfl) p1
  obtain ⟨s1, g4, g5, _⟩ := DataW.trod_string (Qt (P := PP) (t := 9) rfl rfl) q4
  obtain ⟨a3, n3, k3, e3, r3, _, _, b3⟩ := Qx (P := PP) (K := kInt) (Q := fun _ => True) rfl rfl rfl rfl (by decide) (fun n cs' y _ hy _ => by
   obtain ⟨m, hm, _⟩ := Qj rfl rfl hy;exact ⟨m, hm, trivial⟩) p2
  obtain ⟨a5, n5, k5, e5, r5, _, _, b5⟩ := Qx (P := PP) (K := Ud k) (Q := fun _ => True) rfl rfl rfl rfl (show 0 < 7 by decide) (fun n' cs' y hn' hy hwy => by
   obtain ⟨d, hd1⟩ := ih n' cs' y (by omega) hy (fun m hm => hw m (w5 m (hwy m hm)));exact ⟨d, hd1, trivial⟩) q5
  obtain ⟨a6, n6, k6, e6, r6, _, _, b6⟩ := Qx (P := PP) (K := Ud k) (Q := fun _ => True) rfl rfl rfl rfl (show 0 < 7 by decide) (fun n' cs' y hn' hy hwy => by
   obtain ⟨d, hd1⟩ := ih n' cs' y (by omega) hy (fun m hm => hw m (w6 m (hwy m hm)));exact ⟨d, hd1, trivial⟩) q6
  cases e1;cases e2;cases g1;cases g4;cases e3;cases e5;cases e6
  refine ⟨.mk i1 i2 b1 n3 s1 n5 n6, _, _, _, rfl, r3, r5, r6, ?_, ?_, ?_, ?_⟩
  ·rcases b3 with e | b3
   ·show n3.length ≤ _; rw [e]; simp
   ·exact wlen (by decide) (fun m hm => hw m (w3 m (u2 m hm))) b3
  ·have h8 : s1.data.toList.length ≤ reachBytes := hw _ (w4 _ (by rw [g5]; simp [DataW.weights]));have h9 : s1.toList.length = s1.data.toList.length := by rw [ByteArray.toList_eq]
   show s1.toList.length ≤ _
   rw [h9];exact Nat.le_trans h8 (by decide)
  ·rcases b5 with e | b5
   ·show n5.length ≤ _; rw [e]; simp
   ·exact wlen (by decide) (fun m hm => hw m (w5 m hm)) b5
  ·rcases b6 with e | b6
   ·show n6.length ≤ _; rw [e]; simp
   ·exact wlen (by decide) (fun m hm => hw m (w6 m hm)) b6
theorem in_edge {fuel : Nat} {cs : List Value} {x : DataW H × List MemPlace} (h : DataW.trod enc PP W 0 spare held fuel 158 cs = some x) : ∃ e, kEdge.R (Zq W) cs e := by
 obtain ⟨h1, h2⟩ := in_field (P := PP) (t := 158) rfl rfl h
 obtain ⟨c1, c2, rfl⟩ := list2 h1
 obtain ⟨n1, y1, q1⟩ := h2 0 _ _ _ rfl rfl
 obtain ⟨n2, y2, q2⟩ := h2 1 _ _ _ rfl rfl
 obtain ⟨m1, e1, _⟩ := Qj (P := PP) rfl rfl q1
 obtain ⟨m2, e2, _⟩ := Qj (P := PP) rfl rfl q2
 have f1 : c1 = .int .i64 m1 := by simpa using e1
 have f2 : c2 = .int .i64 m2 := by simpa using e2
 exact ⟨(m1, m2), by rw [f1, f2]; rfl⟩
theorem in_graph {fuel : Nat} {cs : List Value} {x : DataW H × List MemPlace} (hw : ∀ m ∈ x.1.weights PP 32, m ≤ reachBytes) (h : DataW.trod enc PP W 0 spare held fuel 32 cs = some x) : ∃ k G, GrR0 k (Zq W) cs G := by
 obtain ⟨h1, n, rfl, h2⟩ := in_fieldQ (P := PP) (t := 32) rfl rfl h
 obtain ⟨c1, c2, c3, rfl⟩ := list3 h1
 obtain ⟨y1, q1, w1⟩ := h2 0 _ _ _ rfl rfl
 obtain ⟨y2, q2, w2⟩ := h2 1 _ _ _ rfl rfl
 obtain ⟨y3, q3, w3⟩ := h2 2 _ _ _ rfl rfl
 obtain ⟨a1, n1, k1, e1, r1, l1, Q1, b1⟩ := Qx (P := PP) (K := kSl (Ud n)) (Q := fun s : List ValT => s.length ≤ 35184372088832) rfl rfl rfl rfl (show 0 < 1 by decide) (fun n' cs' y hn' hy hwy => by
  obtain ⟨a5, n5, k5, e5, r5, _, _, b5⟩ := Qx (P := PP) (K := Ud n) (Q := fun _ => True) rfl rfl rfl rfl (show 0 < 7 by decide) (fun n'' cs'' y' hn'' hy' hwy' => by
   obtain ⟨d, hd1⟩ := in_valK n n'' cs'' y' (by omega) hy' (fun m hm => hw m (w1 m (hwy m (hwy' m hm))));exact ⟨d, hd1, trivial⟩) hy
  cases e5;refine ⟨n5, ⟨_, rfl, r5⟩, ?_⟩
  rcases b5 with e | b5
  ·rw [e]; simp
  ·exact wlen (by decide) (fun m hm => hw m (w1 m (hwy m hm))) b5) q1
 obtain ⟨a2, n2, k2, e2, r2, _, _, b2⟩ := Qx (P := PP) (K := kInt) (Q := fun _ => True) rfl rfl rfl rfl (by decide) (fun n cs' y _ hy _ => by
  obtain ⟨m, hm, _⟩ := Qj rfl rfl hy;exact ⟨m, hm, trivial⟩) q2
 obtain ⟨a3, n3, k3, e3, r3, _, _, b3⟩ := Qx (P := PP) (K := kEdge) (Q := fun _ => True) rfl rfl rfl rfl (show 0 < 2 by decide) (fun n cs' y _ hy _ => by
  obtain ⟨m, hm⟩ := in_edge hy;exact ⟨m, hm, trivial⟩) q3
 cases e1
 cases e2
 cases e3
 refine ⟨n, ⟨n1, n2, n3⟩, ⟨_, _, _, rfl, ⟨_, _, rfl, l1⟩, r1, r2, r3⟩, ?_, ?_, ?_, Q1⟩
 ·rcases b1 with e | b1
  ·show n1.length ≤ _; rw [e]; simp
  ·exact wlen (by decide) (fun m hm => hw m (w1 m hm)) b1
 ·rcases b2 with e | b2
  ·show n2.length ≤ _; rw [e]; simp
  ·exact wlen (by decide) (fun m hm => hw m (w2 m hm)) b2
 ·rcases b3 with e | b3
  ·show n3.length ≤ _; rw [e]; simp
  ·exact wlen (by decide) (fun m hm => hw m (w3 m hm)) b3
end
end
section
open Go.ChangeShapes Go.WideShapes Go.RowKit Go.Proofs.YtpmlighdpgbecaaGreatDoor
abbrev tooLargeS : ByteArray := { data := #[98, 121, 116, 101, 115, 46, 66, 117, 102, 102, 101, 114, 58, 32, 116, 111, 111, 32, 108, 97, 114, 103, 101] }
noncomputable def low : Nat := (World.holding Tryz.prog default ⟨#[], #[], []⟩).heap.size
def laidSet (cs : Array Value) (o : Obj) : Obj := match o with
 | .cells _ t frozen => .cells cs t frozen
 | o => o
def litVals (d : DataW Unit) : Array Value := match d with
 | .agg l => (l.map fun | .lit (.int k n) => Value.int k n | _ => Value.int .i64 0).toArray
 | _ => #[]
noncomputable def laidWorld (os : Os) : World :=
 let w0 := World.holding Tryz.prog os ⟨#[.cells #[.string tooLargeS] 300], #[], []⟩
 { w0 with heap := (((w0.heap.modify 1 (laidSet #[.iface 285 (.pointer (some ⟨low, 0, none⟩))])).modify 2 (laidSet (litVals Rows.laid_internal_strconv_uint64pow10))).modify 3 (laidSet (litVals Rows.laid_math_bits_deBruijn32tab))).modify 4 (laidSet (litVals Rows.laid_math_bits_deBruijn64tab)) }
set_option maxRecDepth 100000
theorem laidRun_eq (os : Os) (args : Array Value) : (DataW.laidRun Tryz.prog ((laidWorld os).forCall (fun _ _ => 0) ⟨#[], args, []⟩).memory 8 (Rows.fairRoundsRow.laid.map (·.1))).map (·.1) = some Rows.fairRoundsRow.laid := by kernel_rfl
theorem laidRun_rows (os : Os) (args : Array Value) : (DataW.laidRun Tryz.prog ((laidWorld os).forCall (fun _ _ => 0) ⟨#[], args, []⟩).memory 8 (Rows.fairRoundsRow.laid.map (·.1))).map (fun x => decide x.2.Nodup && laidRowsB Tryz.prog ((laidWorld os).forCall (fun _ _ => 0) ⟨#[], args, []⟩).memory x.2) = some true := by kernel_rfl
theorem laidWorld_met (os : Os) (args : Array Value) : laidMetH Tryz.prog Rows.fairRoundsRow.laid ((laidWorld os).forCall (fun _ _ => 0) ⟨#[], args, []⟩).memory :=
 laidMetH_of_parts (l := Rows.fairRoundsRow.laid) (show laidMet Tryz.prog (Rows.fairRoundsRow.laid.filter fun x => x.2.handleName?.isNone) _ from (show Rows.fairRoundsRow.laid.filter (fun x => x.2.handleName?.isNone) = Rows.fairRoundsRow.laid by kernel_rfl).symm ▸ laidMet_of_run' 8 (laidRun_eq os args) (laidRun_rows os args)) (by kernel_rfl)
abbrev zeroArgs : Array Value := #[.agg #[.int .i64 0, .slice none 0 0, .slice none 0 0, .slice none 0 0, .slice none 0 0], .agg #[.slice none 0 0, .slice none 0 0, .slice none 0 0], .slice none 0 0, .agg #[.int .i64 0, .slice none 0 0, .slice none 0 0]]
end
end Go.Proofs.YtpmlighdpgbecaaGreatDoor.S
