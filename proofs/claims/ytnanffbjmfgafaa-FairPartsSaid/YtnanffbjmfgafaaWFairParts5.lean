/- What the statement FairParts is proved with, part 5: walks of the code, each against a pure version of it. -/
import Derived.Carry
import Derived.Deep.Slices
import Derived.OpenShut
import Derived.Test.YtnanffbjmfgafaaWFairParts4
set_option linter.all false
namespace Go.Proofs.Ytnanffbjmfgafaa.S
open Go.RowKit
theorem rightB_iff {n : Int} {init : List Int} {ls : List ArrowI} {all : List Int} {pairs : List (Int × Int)} (h : rightB n init ls all pairs = true) : (init.length ≤ 40 ∧ ls.length ≤ 40 ∧ all.length ≤ 40 ∧ pairs.length ≤ 40) ∧ checkI n init ls all pairs = 0 := by
  simp only [rightB, Bool.and_eq_true] at h
  exact ⟨(small_lens h.1).2, by simpa using h.2⟩
def psiTup : Ghost → Value → Own → Prop := fun g v L => L = [] ∧ ∃ (start : Int) (stem loop : List Int) (vs vlo : Value) (b : Bool), v = .tuple #[.agg #[.int .i64 start, vs, vlo], .bool b] ∧ RS kInt g vs stem ∧ RS kInt g vlo loop ∧ stem.length ≤ 60 ∧ loop.length ≤ 60
theorem psiTup_mono : (TY.pred psiTup).Mono := fun _ _ _ _ hle ⟨h0, start, stem, loop, vs, vlo, b, e, r1, r2, k⟩ => ⟨h0, start, stem, loop, vs, vlo, b, e, r1.mono hle, r2.mono hle, k⟩
def psiCs : Ghost → List Value → Prop := fun g cs => ∃ (start : Int) (stem loop : List Int) (vs vlo : Value), cs = [.int .i64 start, vs, vlo] ∧ RS kInt g vs stem ∧ RS kInt g vlo loop ∧ stem.length ≤ 200 ∧ loop.length ≤ 200
theorem psiCs_mono : ∀ g g' cs, g ≤ g' → psiCs g cs → psiCs g' cs := fun _ _ _ hle ⟨start, stem, loop, vs, vlo, e, r1, r2, k⟩ => ⟨start, stem, loop, vs, vlo, e, r1.mono hle, r2.mono hle, k⟩
def psiRd : Ghost → Value → Own → Prop := fun g v L => L = [] ∧ ∃ cs : List Value, v = .agg cs.toArray ∧ cs.length = 3 ∧ cs.all Value.oneCell' = true ∧ psiCs g cs
theorem psiRd_mono : (TY.pred psiRd).Mono := fun _ _ _ _ hle ⟨h0, cs, e, h1, h2, h3⟩ => ⟨h0, cs, e, h1, h2, psiCs_mono _ _ _ hle h3⟩
def psiB : Ghost → Value → Own → Prop := fun _ v L => L = [] ∧ ∃ b : Bool, v = .bool b
theorem parts_spec (g : Ghost) (n : Int) (vi vl va vp : Value) (init : List Int) (ls : List ArrowI) (all : List Int) (pairs : List (Int × Int)) (start : Int) (vs vlo : Value) (stem loop : List Int) (ac : Option Addr) (cc : Nat) (choices : List Int)
    (hi : RS kInt g vi init) (hl : RS kArrI g vl ls) (ha : RS kInt g va all) (hp : RS kPairI g vp pairs) (hst : RS kInt g vs stem) (hlo : RS kInt g vlo loop) (hc : RS kInt g (.slice ac choices.length cc) choices) (hcc : choices.length ≤ cc) :
    Cl PP 6 [.agg #[.int .i64 n, vi, vl, va, vp], .agg #[.int .i64 start, vs, vlo], .slice ac choices.length cc] g [] (Det (.bool true)) := by
  refine cl_intro Try.func6 rfl rfl Try.ntmps6 rfl ?_
  intro w F hs
  repeat (refine wc_seq ?_)
  refine wc_region ?_
  refine wl_box hs rfl rfl rfl rfl ?_; clear hs; intro nb w hs
  refine wl_box hs rfl rfl rfl rfl ?_; clear hs; intro rb w hs
  repeat (refine wl_p rfl rfl rfl ?_)
  refine wl_nil (wk_seq ?_)
  replace hs := (show St g w ((nb, cellsO [.int .i64 n, vi, vl, va, vp] 28) :: (rb, cellsO [.int .i64 start, vs, vlo] 33) :: F) from St.perm (show St g w ((rb, cellsO [.int .i64 start, vs, vlo] 33) :: (nb, cellsO [.int .i64 n, vi, vl, va, vp] 28) :: F) from hs) (by classical exact List.perm_iff_count.2 fun x => by simp only [List.append_eq, List.set_cons_succ, List.set_cons_zero, List.eraseIdx_cons_zero, List.eraseIdx_cons_succ, List.count_cons, List.count_append, List.cons_append, List.nil_append, List.append_nil, List.append_assoc] <;> ac_rfl))
  obtain ⟨g1, hg1, hs, hnb⟩ := freezeB hs
  repeat (refine wc_seq ?_)
  refine wc_region ?_
  refine wl_call (L := []) rfl rfl rfl hs (sane_spec g1) ?_
  rintro u g2 L' w hg2 hs ⟨rfl, rfl⟩
  have hg02 := Ghost.tr hg1 hg2
  replace hnb := hnb.mono hg2
  repeat (refine wl_p rfl rfl rfl ?_)
  refine wl_nil (wk_seq ?_)
  refine wc_condF rfl rfl (wc_skip (wk_seq ?_))
  repeat (refine wc_seq ?_)
  refine wc_region ?_
  refine wl_ldGN (cs := [.int .i64 n, vi, vl, va, vp]) hs hnb.at' rfl rfl rfl rfl rfl rfl ?_
  refine wl_call (L := []) rfl rfl rfl hs (right_spec g2 n _ _ _ _ init ls all pairs (hi.mono hg02) (hl.mono hg02) (ha.mono hg02) (hp.mono hg02)) ?_
  rintro u g3 L' w hg3 hs ⟨rfl, rfl⟩
  have hg03 := Ghost.tr hg02 hg3
  repeat (refine wl_p rfl rfl rfl ?_)
  refine wl_case 25 rfl (fun q1 => ?_) (fun q1 => ?_)
  · repeat (first | refine wl_p rfl rfl rfl ?_ | refine wl_skip rfl rfl rfl ?_)
    refine wl_nil (wk_seq ?_)
    refine wc_condT rfl rfl ?_
    repeat (refine wc_seq ?_)
    refine wc_region ?_
    repeat (refine wl_p rfl rfl rfl ?_)
    refine wl_nil (wk_seq ?_)
    exact wc_retV (res1 rfl rfl) ⟨g3, [], hg03, hs.drop, rfl, rfl⟩
  · have hR : rightB n init ls all pairs = true := by simpa using q1
    obtain ⟨⟨l1, l2, l3, l4⟩, hC⟩ := rightB_iff hR
    repeat (first | refine wl_p rfl rfl rfl ?_ | refine wl_skip rfl rfl rfl ?_)
    refine wl_ldW hs 0 rfl rfl rfl rfl rfl rfl rfl ?_
    refine wl_call (L := []) rfl rfl rfl hs (brief_spec g3 _ _ _ stem loop (hst.mono hg03) (hlo.mono hg03)) ?_
    rintro u g4 L' w hg4 hs ⟨rfl, rfl⟩
    have hg04 := Ghost.tr hg03 hg4
    repeat (first | refine wl_p rfl rfl rfl ?_ | refine wl_skip rfl rfl rfl ?_)
    refine wl_nil (wk_seq ?_)
    refine wc_cond rfl (fun q2 => ?_) (fun q2 => ?_)
    · repeat (refine wc_seq ?_)
      refine wc_region ?_
      repeat (refine wl_p rfl rfl rfl ?_)
      refine wl_nil (wk_seq ?_)
      exact wc_retV (res1 rfl rfl) ⟨g4, [], hg04, hs.drop, rfl, rfl⟩
    · have hBr : briefB stem loop = true := by
        have : (!briefB stem loop) = false := q2
        simpa using this
      simp only [briefB, Bool.and_eq_true, decide_eq_true_eq] at hBr
      have hg24 := Ghost.tr hg3 hg4
      replace hs := (show St g4 w ((rb, cellsO [.int .i64 start, vs, vlo] 33) :: F) from hs)
      refine wc_skip (wk_seq ?_)
      have hminc : (if (60 : Int) < (choices.length : Int) then (60 : Int) else (choices.length : Int)) = ((min choices.length 60 : Nat) : Int) := by split <;> omega
      have hpart := (hc.mono hg04).part 0 (min choices.length 60) (Nat.zero_le _) (Nat.min_le_left _ _) hcc _ rfl
      have hwalk : ∀ g', g4 ≤ g' → Cl PP 25 [vi, vl, .slice (if cc = 0 then ac else ac.map (·.add (0 * kInt.sz))) (min choices.length 60 - 0) (cc - 0)] g' [] RoundPost := fun g' hg' => by
        have hh := hpart.mono hg'
        have e1 : ((choices.take (min choices.length 60)).drop 0).length = min choices.length 60 - 0 := by simp
        generalize (choices.take (min choices.length 60)).drop 0 = xs at hh e1
        rw [← e1, Nat.sub_zero] at hh ⊢
        exact walk_spec g' vi vl _ cc init ls xs (hi.mono (Ghost.tr hg04 hg')) (hl.mono (Ghost.tr hg04 hg')) hh (by omega) l1 l2 (by omega)
      repeat (refine wc_seq ?_)
      refine wc_draw 15 [] pp_mix (by kernel_rfl) rfl hs ?_
      repeat (first | refine sg_p rfl rfl ?_ | refine sg_skip rfl rfl ?_)
      refine sg_ldG (hnb.mono hg24 1 _ rfl) rfl rfl rfl rfl ?_
      repeat (first | refine sg_p rfl rfl ?_ | refine sg_skip rfl rfl ?_)
      refine sg_ldG (hnb.mono hg24 2 _ rfl) rfl rfl rfl rfl ?_
      repeat (first | refine sg_p rfl rfl ?_ | refine sg_skip rfl rfl ?_)
      refine sg_min rfl rfl rfl ?_
      rw [hminc]
      refine sg_slice (l1 := 0) (h' := ((min choices.length 60 : Nat) : Int)) rfl rfl rfl (by omega) hcc rfl rfl rfl rfl ?_
      refine sg_call (post := RoundPost) [] [] rfl rfl rfl (fun g' hg' => hwalk g' hg') ?_
      refine sg_derW (Ψ := psiTup) 40 rfl psiTup_mono rfl rfl (fun _ => rfl) (fun g1 v L' _ h => ⟨v, fun w => pureV_ok (by simp [pureV, ev, look]) w _ _ _ _ _, by obtain ⟨g2, hle, _, start, stem, loop, vs, vlo, b, e, r1, r2, k1, k2⟩ := h; exact ⟨rfl, start, stem, loop, vs, vlo, b, e, r1.mono hle, r2.mono hle, k1, k2⟩⟩) ?_
      refine sg_derW (Ψ := psiRd) 30 rfl psiRd_mono rfl rfl (fun _ => rfl) (fun g1 v L' _ h => by
        obtain ⟨_, start, stem, loop, vs, vlo, b, rfl, r1, r2, k1, k2⟩ := h
        exact ⟨.agg #[.int .i64 start, vs, vlo], fun w => pureV_ok (by simp [pureV, ev, look]) w _ _ _ _ _, rfl, [.int .i64 start, vs, vlo], rfl, rfl, by simp only [List.all_cons, List.all_nil, r1.one, r2.one]; rfl, start, stem, loop, vs, vlo, rfl, r1, r2, by omega, by omega⟩) ?_
      refine sg_derW (Ψ := psiB) 30 rfl (fun _ _ _ _ _ h => h) rfl rfl (fun _ => rfl) (fun g1 v L' _ h => by
        obtain ⟨_, start, stem, loop, vs, vlo, b, rfl, r1, r2, k1, k2⟩ := h
        exact ⟨.bool b, fun w => pureV_ok (by simp [pureV, ev, look]) w _ _ _ _ _, rfl, b, rfl⟩) ?_
      refine sg_newP (n := 3) (ψ := psiCs) psiCs_mono (fun g => ⟨0, [], [], _, _, rfl, RS.nil _ _ _ _, RS.nil _ _ _ _, by simp, by simp⟩) rfl rfl rfl ?_
      refine sg_stM (n := 3) (ψ := psiCs) rfl rfl (fun g v L' ⟨_, cs, e, h1, h2, h3⟩ => ⟨cs, e, h1, h2, h3⟩) rfl rfl rfl rfl rfl rfl ?_
      refine sg_end ?_
      intro g5 w hg5
      rintro _ _ ⟨_, _, rfl, _⟩ _ _ ⟨rfl, _⟩ _ _ ⟨rfl, _⟩ v42 _ ⟨rfl, b42, rfl⟩ _ _ ⟨cb, cs7, rfl, rfl, hl7, start7, stem7, loop7, vs7, vlo7, rfl, r17, r27, k17, k27⟩ hs
      have hg05 := Ghost.tr hg04 hg5
      have hg25 := Ghost.tr hg24 hg5
      repeat (refine wl_p rfl rfl rfl ?_)
      refine wl_nil (wk_seq ?_)
      replace hs := (show St g5 w ((cb, cellsO [.int .i64 start7, vs7, vlo7] 33) :: (rb, cellsO [.int .i64 start, vs, vlo] 33) :: F) from hs)
      repeat (refine wc_seq ?_)
      refine wc_region ?_
      repeat (refine wl_p rfl rfl rfl ?_)
      refine wl_nil (wk_seq ?_)
      have hst5 := hst.mono hg05
      have hlo5 := hlo.mono hg05
      refine wc_meetK (fun (_ : Unit) => [(3, .pointer (some ⟨nb, 0, none⟩)), (4, .pointer (some ⟨rb, 0, none⟩))])
        (fun _ w => ∃ start stem loop vs vlo, RS kInt g5 vs stem ∧ RS kInt g5 vlo loop ∧ stem.length ≤ 200 ∧ loop.length ≤ 200 ∧ St g5 w ((rb, cellsO [.int .i64 start, vs, vlo] 33) :: F)) ?_ ?_
      · refine wc_cond rfl (fun q3 => ?_) (fun q3 => ?_)
        · repeat (refine wc_seq ?_)
          refine wc_region ?_
          refine wl_ldW hs 0 rfl rfl rfl rfl rfl rfl rfl ?_
          refine wl_stN (cs := [.int .i64 start7, vs7, vlo7]) hs 1 rfl rfl rfl rfl rfl (Nat.le_of_ble_eq_true rfl) (by simp only [List.all_cons, List.all_nil, r17.one, r27.one]; rfl) rfl ?_
          clear hs; intro w hs
          exact wl_nil (wk_meet () (by repeat (first | exact trivial | refine ⟨rfl, ?_⟩)) ⟨start7, stem7, loop7, vs7, vlo7, r17, r27, k17, k27, hs.drop⟩)
        · exact wc_skip (wk_meet () (by repeat (first | exact trivial | refine ⟨rfl, ?_⟩)) ⟨start, stem, loop, vs, vlo, hst5, hlo5, by omega, hBr.2, hs.drop⟩)
      · clear hs
        rintro _ w ⟨start, stem, loop, vs, vlo, hst, hlo, hsl, hll, hs⟩
        have hi5 := hi.mono hg05
        have hl5 := hl.mono hg05
        have ha5 := ha.mono hg05
        have hp5 := hp.mono hg05
        have hnb5 := hnb.mono hg25
        repeat (refine wc_seq ?_)
        refine wc_region ?_
        repeat (refine wl_p rfl rfl rfl ?_)
        refine wl_ldG hs (hnb5 0 _ rfl) rfl rfl rfl rfl rfl ?_
        repeat (refine wl_p rfl rfl rfl ?_)
        refine wl_ldG hs (hnb5 1 _ rfl) rfl rfl rfl rfl rfl ?_
        repeat (refine wl_p rfl rfl rfl ?_)
        refine wl_ldG hs (hnb5 2 _ rfl) rfl rfl rfl rfl rfl ?_
        repeat (refine wl_p rfl rfl rfl ?_)
        refine wl_ldGN (cs := [va, vp]) hs hnb5.at3 rfl rfl rfl rfl rfl rfl ?_
        refine wl_ldW hs 0 rfl rfl rfl rfl rfl rfl rfl ?_
        refine wl_call (L := []) rfl rfl rfl hs (accepts_spec g5 n _ _ _ _ _ _ init ls all pairs start stem loop hi5 hl5 ha5 hp5 hst hlo (by omega) (by omega) (by omega) (by omega) (by omega) (by omega)) ?_
        rintro u g6 L' w hg6 hs ⟨rfl, rfl⟩
        replace hs := (show St g6 w ((rb, cellsO [.int .i64 start, vs, vlo] 33) :: F) from hs)
        repeat (refine wl_p rfl rfl rfl ?_)
        refine wl_nil (wk_seq ?_)
        repeat (refine wc_seq ?_)
        refine wc_region ?_
        repeat (refine wl_p rfl rfl rfl ?_)
        refine wl_nil (wk_seq ?_)
        repeat (refine wc_seq ?_)
        refine wc_region ?_
        repeat (refine wl_p rfl rfl rfl ?_)
        refine wl_ldG hs (hnb5.mono hg6 3 _ rfl) rfl rfl rfl rfl rfl ?_
        obtain ⟨aa, ca, rfl⟩ := ha.form
        have hs6 : St g6 w ((rb, cellsO [.int .i64 start, vs, vlo] 33) :: F) := by assumption
        repeat (refine wl_p rfl rfl rfl ?_)
        refine wl_nil (wk_seq ?_)
        have hl3 : all.length ≤ 4611686018427387904 := by omega
        refine wc_for all.length (fun i (_ : Unit) => [(61, .int .i64 all.length), (60, .slice aa all.length ca), (11, .bool ((all.take i).all fun m => (acceptsI n init ls [m] [] start stem loop).1)), (3, .pointer (some ⟨nb, 0, none⟩)), (4, .pointer (some ⟨rb, 0, none⟩)), (9, .bool (acceptsI n init ls all pairs start stem loop).1), (10, .int .i64 (acceptsI n init ls all pairs start stem loop).2)])
          (fun i (_ : Unit) w => ∃ g', g6 ≤ g' ∧ St g' w ((rb, cellsO [.int .i64 start, vs, vlo] 33) :: F)) () hl3 (by repeat (first | exact trivial | refine ⟨rfl, ?_⟩)) ⟨g6, Ghost.rfl', hs6⟩ (fun _ _ => rfl) rfl rfl rfl ?_ ?_ (fun _ _ => rfl) rfl
        · rintro i _ w hii ⟨g7, hg7, hs⟩
          have hg57 := Ghost.tr hg6 hg7
          have hb := ha.base hii
          have hcm := (ha5.mono hg57).int hii
          have hsn : ((all.take (i + 1)).all fun m => (acceptsI n init ls [m] [] start stem loop).1) = (((all.take i).all fun m => (acceptsI n init ls [m] [] start stem loop).1) && (acceptsI n init ls [all[i]] [] start stem loop).1) := by rw [take_snoc hii, List.all_append]; simp
          have he : (acceptsI n init ls [all[i]] [] start stem loop).2 = (acceptsI n init ls all pairs start stem loop).2 := parts_e hC (parts_mark hC (List.getElem_mem hii))
          generalize all[i] = m at hcm hsn he
          repeat (refine wc_seq ?_)
          refine wc_region ?_
          refine wl_ix rfl rfl rfl rfl rfl (by omega) hb rfl rfl ?_
          refine wl_ldG hs (hcm) rfl rfl rfl rfl rfl ?_
          repeat (refine wl_p rfl rfl rfl ?_)
          refine wl_nil (wk_seq ?_)
          repeat (refine wc_seq ?_)
          refine wc_region ?_
          repeat (refine wl_p rfl rfl rfl ?_)
          refine wl_ldG hs (hnb5.mono hg57 0 _ rfl) rfl rfl rfl rfl rfl ?_
          repeat (refine wl_p rfl rfl rfl ?_)
          refine wl_ldG hs (hnb5.mono hg57 1 _ rfl) rfl rfl rfl rfl rfl ?_
          repeat (refine wl_p rfl rfl rfl ?_)
          refine wl_ldG hs (hnb5.mono hg57 2 _ rfl) rfl rfl rfl rfl rfl ?_
          repeat (refine wl_p rfl rfl rfl ?_)
          refine wl_lit (ps := [(0, .tmp 73)]) hs rfl rfl rfl rfl rfl rfl rfl rfl rfl rfl ?_
          clear hs; intro mb w hs
          refine wl_build (ps := [(0, .tmp 74)]) rfl rfl rfl rfl rfl rfl rfl ?_
          refine wl_ldW hs 1 rfl rfl rfl rfl rfl rfl rfl ?_
          obtain ⟨g8, hg8, hs, hmb⟩ := freezeB hs
          have hg58 := Ghost.tr hg57 hg8
          have rm : RS kInt g8 (.slice (some ⟨mb, 0, none⟩) 1 1) [m] := RS.ofFlat [m] rfl hmb
          refine wl_call (L := []) rfl rfl rfl hs (accepts_spec g8 n _ _ _ _ _ _ init ls [m] [] start stem loop (hi5.mono hg58) (hl5.mono hg58) rm (RS.nil _ _ _ _) (hst.mono hg58) (hlo.mono hg58) (by omega) (by omega) (by simp) (by simp) (by omega) (by omega)) ?_
          rintro u g9 L' w hg9 hs ⟨rfl, rfl⟩
          replace hs := (show St g9 w ((rb, cellsO [.int .i64 start, vs, vlo] 33) :: F) from hs)
          have hg69 := Ghost.tr hg7 (Ghost.tr hg8 hg9)
          rw [he]
          repeat (refine wl_p rfl rfl rfl ?_)
          refine wl_nil (wk_seq ?_)
          have fin : ∀ (s : Bool), s = (((all.take i).all fun m => (acceptsI n init ls [m] [] start stem loop).1) && (acceptsI n init ls [m] [] start stem loop).1) → ((all.take (i + 1)).all fun m => (acceptsI n init ls [m] [] start stem loop).1) = s := fun s h => by rw [hsn, h]
          repeat (refine wc_seq ?_)
          refine wc_region ?_
          repeat (refine wl_p rfl rfl rfl ?_)
          generalize hea : ((all.take i).all fun m => (acceptsI n init ls [m] [] start stem loop).1) = ea at fin
          generalize (acceptsI n init ls [m] [] start stem loop).1 = em at fin
          refine wl_case 81 rfl (fun qa => ?_) (fun qa => ?_)
          · rw [qa, Bool.true_and] at fin
            repeat (first | refine wl_p rfl rfl rfl ?_ | refine wl_skip rfl rfl rfl ?_)
            refine wl_nil (wk_seq ?_)
            repeat (refine wc_seq ?_)
            refine wc_region ?_
            repeat (refine wl_p rfl rfl rfl ?_)
            refine wl_nil (wk_seq ?_)
            refine wc_condF rfl (by simp) (wc_skip (wk_blk (wk_next () hii hl3 ⟨g9, hg69, hs⟩ rfl rfl rfl ⟨rfl, rfl, (by rw [fin em rfl]; rfl), (by repeat (first | exact trivial | refine ⟨rfl, ?_⟩))⟩)))
          · rw [qa, Bool.false_and] at fin
            repeat (first | refine wl_p rfl rfl rfl ?_ | refine wl_skip rfl rfl rfl ?_)
            refine wl_nil (wk_seq ?_)
            repeat (refine wc_seq ?_)
            refine wc_region ?_
            repeat (refine wl_p rfl rfl rfl ?_)
            refine wl_nil (wk_seq ?_)
            refine wc_condF rfl (by simp) (wc_skip (wk_blk (wk_next () hii hl3 ⟨g9, hg69, hs⟩ rfl rfl rfl ⟨rfl, rfl, (by rw [fin false rfl]; rfl), (by repeat (first | exact trivial | refine ⟨rfl, ?_⟩))⟩)))
        · rintro _ w ⟨g7, hg7, hs⟩
          rw [List.take_length]
          have hg57 := Ghost.tr hg6 hg7
          refine wk_seq ?_
          repeat (refine wc_seq ?_)
          refine wc_region ?_
          repeat (refine wl_p rfl rfl rfl ?_)
          refine wl_ldG hs (hnb5.mono hg57 4 _ rfl) rfl rfl rfl rfl rfl ?_
          obtain ⟨ap, cp, rfl⟩ := hp.form
          have hs7 : St g7 w ((rb, cellsO [.int .i64 start, vs, vlo] 33) :: F) := by assumption
          repeat (refine wl_p rfl rfl rfl ?_)
          refine wl_nil (wk_seq ?_)
          have hl4 : pairs.length ≤ 4611686018427387904 := by omega
          refine wc_for pairs.length (fun i (_ : Unit) => [(91, .int .i64 pairs.length), (90, .slice ap pairs.length cp), (11, .bool ((all.all fun m => (acceptsI n init ls [m] [] start stem loop).1) && (pairs.take i).all fun p => (acceptsI n init ls [] [p] start stem loop).1)), (3, .pointer (some ⟨nb, 0, none⟩)), (4, .pointer (some ⟨rb, 0, none⟩)), (9, .bool (acceptsI n init ls all pairs start stem loop).1), (10, .int .i64 (acceptsI n init ls all pairs start stem loop).2)])
            (fun i (_ : Unit) w => ∃ g', g7 ≤ g' ∧ St g' w ((rb, cellsO [.int .i64 start, vs, vlo] 33) :: F)) () hl4 ⟨rfl, rfl, rfl, (by rw [List.take_zero, List.all_nil, Bool.and_true]; rfl), (by repeat (first | exact trivial | refine ⟨rfl, ?_⟩))⟩ ⟨g7, Ghost.rfl', hs7⟩ (fun _ _ => rfl) rfl rfl rfl ?_ ?_ (fun _ _ => rfl) rfl
          · rintro i _ w hii ⟨g8, hg8, hs⟩
            have hg58 := Ghost.tr hg57 hg8
            have hb := hp.base hii
            have hcE := Lies.of_eaddr ((hp5.mono hg58).enc hii)
            have hsn : ((all.all fun m => (acceptsI n init ls [m] [] start stem loop).1) && (pairs.take (i + 1)).all fun p => (acceptsI n init ls [] [p] start stem loop).1) = (((all.all fun m => (acceptsI n init ls [m] [] start stem loop).1) && (pairs.take i).all fun p => (acceptsI n init ls [] [p] start stem loop).1) && (acceptsI n init ls [] [pairs[i]] start stem loop).1) := by rw [take_snoc hii, List.all_append]; simp [Bool.and_assoc]
            have he : (acceptsI n init ls [] [pairs[i]] start stem loop).2 = (acceptsI n init ls all pairs start stem loop).2 := parts_e hC (parts_pair hC (List.getElem_mem hii))
            generalize pairs[i] = p at hcE hsn he
            repeat (refine wc_seq ?_)
            refine wc_region ?_
            refine wl_ix rfl rfl rfl rfl rfl (by omega) hb rfl rfl ?_
            refine wl_ldGN (cs := ePairI p) hs hcE rfl rfl rfl rfl rfl rfl ?_
            refine wl_new hs rfl rfl rfl ?_; clear hs; intro qb w hs
            refine wl_stN (cs := ePairI p) hs 0 rfl rfl rfl rfl rfl (Nat.le_of_ble_eq_true rfl) rfl rfl ?_
            clear hs; intro w hs
            refine wl_nil (wk_seq ?_)
            repeat (refine wc_seq ?_)
            refine wc_region ?_
            repeat (refine wl_p rfl rfl rfl ?_)
            refine wl_ldG hs (hnb5.mono hg58 0 _ rfl) rfl rfl rfl rfl rfl ?_
            repeat (refine wl_p rfl rfl rfl ?_)
            refine wl_ldG hs (hnb5.mono hg58 1 _ rfl) rfl rfl rfl rfl rfl ?_
            repeat (refine wl_p rfl rfl rfl ?_)
            refine wl_ldG hs (hnb5.mono hg58 2 _ rfl) rfl rfl rfl rfl rfl ?_
            repeat (refine wl_p rfl rfl rfl ?_)
            refine wl_ldW hs 0 rfl rfl rfl rfl rfl rfl rfl ?_
            refine wl_lit (ps := [(0, .tmp 103)]) hs rfl rfl rfl rfl rfl rfl rfl rfl rfl rfl ?_
            clear hs; intro mb w hs
            refine wl_build (ps := [(1, .tmp 104)]) rfl rfl rfl rfl rfl rfl rfl ?_
            refine wl_ldW hs 2 rfl rfl rfl rfl rfl rfl rfl ?_
            obtain ⟨g9, hg9, hs, hmb⟩ := freezeB hs
            have hg59 := Ghost.tr hg58 hg9
            have rm : RS kPairI g9 (.slice (some ⟨mb, 0, none⟩) 1 1) [p] := RS.ofFlat [p] rfl hmb
            refine wl_call (L := []) rfl rfl rfl hs (accepts_spec g9 n _ _ _ _ _ _ init ls [] [p] start stem loop (hi5.mono hg59) (hl5.mono hg59) (RS.nil _ _ _ _) rm (hst.mono hg59) (hlo.mono hg59) (by omega) (by omega) (by simp) (by simp) (by omega) (by omega)) ?_
            rintro u g10 L' w hg10 hs ⟨rfl, rfl⟩
            replace hs := (show St g10 w ((rb, cellsO [.int .i64 start, vs, vlo] 33) :: F) from St.drop (p := (qb, cellsO (ePairI p) 46)) hs)
            have hg710 := Ghost.tr hg8 (Ghost.tr hg9 hg10)
            rw [he]
            repeat (refine wl_p rfl rfl rfl ?_)
            refine wl_nil (wk_seq ?_)
            repeat (refine wc_seq ?_)
            refine wc_region ?_
            repeat (refine wl_p rfl rfl rfl ?_)
            generalize hea : ((all.all fun m => (acceptsI n init ls [m] [] start stem loop).1) && (pairs.take i).all fun p => (acceptsI n init ls [] [p] start stem loop).1) = ea at hsn
            generalize (acceptsI n init ls [] [p] start stem loop).1 = em at hsn
            refine wl_case 111 rfl (fun qa => ?_) (fun qa => ?_)
            · rw [qa, Bool.true_and] at hsn
              repeat (first | refine wl_p rfl rfl rfl ?_ | refine wl_skip rfl rfl rfl ?_)
              refine wl_nil (wk_seq ?_)
              repeat (refine wc_seq ?_)
              refine wc_region ?_
              repeat (refine wl_p rfl rfl rfl ?_)
              refine wl_nil (wk_seq ?_)
              refine wc_condF rfl (by simp) (wc_skip (wk_blk (wk_next () hii hl4 ⟨g10, hg710, hs⟩ rfl rfl rfl ⟨rfl, rfl, (by rw [hsn]; rfl), (by repeat (first | exact trivial | refine ⟨rfl, ?_⟩))⟩)))
            · rw [qa, Bool.false_and] at hsn
              repeat (first | refine wl_p rfl rfl rfl ?_ | refine wl_skip rfl rfl rfl ?_)
              refine wl_nil (wk_seq ?_)
              repeat (refine wc_seq ?_)
              refine wc_region ?_
              repeat (refine wl_p rfl rfl rfl ?_)
              refine wl_nil (wk_seq ?_)
              refine wc_condF rfl (by simp) (wc_skip (wk_blk (wk_next () hii hl4 ⟨g10, hg710, hs⟩ rfl rfl rfl ⟨rfl, rfl, (by rw [hsn]; rfl), (by repeat (first | exact trivial | refine ⟨rfl, ?_⟩))⟩)))
          · rintro _ w ⟨g8, hg8, hs⟩
            rw [List.take_length]
            have hg08 := Ghost.tr hg05 (Ghost.tr hg57 hg8)
            refine wk_seq ?_
            repeat (refine wc_seq ?_)
            refine wc_region ?_
            repeat (refine wl_p rfl rfl rfl ?_)
            by_cases he0 : (acceptsI n init ls all pairs start stem loop).2 = 0
            · have hpa := parts_all hC he0
              rw [he0, ← hpa]
              repeat (first | refine wl_p rfl rfl rfl ?_ | refine wl_skip rfl rfl rfl ?_)
              refine wl_eqB true (by simp) rfl rfl rfl rfl rfl rfl ?_
              repeat (first | refine wl_p rfl rfl rfl ?_ | refine wl_skip rfl rfl rfl ?_)
              refine wl_nil (wk_seq ?_)
              exact wc_retV (res1 rfl rfl) ⟨g8, [], hg08, hs.drop, rfl, rfl⟩
            · rw [parts_no hC he0]
              refine wl_case 120 rfl (fun qz => ?_) (fun qz => ?_)
              · repeat (first | refine wl_p rfl rfl rfl ?_ | refine wl_skip rfl rfl rfl ?_)
                refine wl_nil (wk_seq ?_)
                exact wc_retV (res1 rfl rfl) ⟨g8, [], hg08, hs.drop, rfl, rfl⟩
              · exfalso
                have : ((acceptsI n init ls all pairs start stem loop).2 != 0) = false := qz
                exact he0 (by simpa using this)
end Go.Proofs.Ytnanffbjmfgafaa.S

namespace Go.Proofs.Ytnanffbjmfgafaa.S
open Go.RowKit
theorem ghostOf_cell (W : World) (a : Addr) : (ghostOf W).cell a = W.cell? a := rfl
theorem okWide_agg {P : Program} [Tabbed P] {t : Nat} {te : TE} {fs : List (Nat × Nat)} {W : World} {base : Nat} {v : Value} (h : tabAt (tb P) t = some te) (hd : te.td = .struct fs) (hv : Value.okWide P W .any base t v) : ∃ cs : List Value, v = .agg cs.toArray := by
  obtain ⟨l, hl1, _⟩ := und_struct h hd
  unfold Value.okWide at hv
  rw [hl1] at hv
  obtain ⟨cs, rfl, _⟩ := hv
  exact ⟨cs.toList, rfl⟩
theorem okWide_sl {P : Program} [Tabbed P] {t e : Nat} {te : TE} {W : World} {base : Nat} {v : Value} (h : tabAt (tb P) t = some te) (hd : te.td = .slice e) (hv : Value.okWide P W .any base t v) : ∃ a n c, v = .slice a n c := by
  obtain ⟨a, n, c, e⟩ := WideShapes.okWide_slice (und_slice h hd) hv
  exact ⟨a, n, c, e⟩
section
variable {P : Program} [Tabbed P] {H : Type} {enc : TypeId × Value → H} {W : World} {spare : Nat → Bool} {held : Bool} {fuel : Nat} {cs : List Value} {x : DataW H × List MemPlace}
theorem tab_cells {t : Nat} {te : TE} (h : tabAt (tb P) t = some te) : P.cellsOf t = te.zs.length := by
  obtain ⟨i, h1, h2, _⟩ := tab_info h
  simp [Program.cellsOf, h1, h2]
theorem in_int {t : Nat} {te : TE} {k : IntKind} (h : tabAt (tb P) t = some te) (hd : te.td = .int k) (hx : DataW.trod enc P W 0 spare held fuel t cs = some x) : ∃ n, cs = [.int k n] ∧ (Lit.int k n).wf = true := by
  obtain ⟨n, h1, _, h2⟩ := DataW.trod_int (und_int h hd) hx
  exact ⟨n, h1, h2⟩
theorem in_slice {α : Type} {K : Kd α} {t e : Nat} {te ee : TE} (h : tabAt (tb P) t = some te) (hd : te.td = .slice e) (he : tabAt (tb P) e = some ee) (hz : ee.zs.length = K.sz) (hpos : 0 < K.sz)
    (hel : ∀ n cs' y, DataW.trod enc P W 0 spare held n e cs' = some y → ∃ x, K.R (ghostOf W) cs' x) (hx : DataW.trod enc P W 0 spare held fuel t cs = some x) :
    ∃ a xs cap, cs = [.slice a xs.length cap] ∧ RS K (ghostOf W) (.slice a xs.length cap) xs ∧ xs.length ≤ cap := by
  have hc : P.cellsOf e = K.sz := (tab_cells he).trans hz
  rcases Deep.open_slice (und_slice h hd) hx with ⟨rfl, _⟩ | ⟨a, len, cap, m, n, D, Pl, rfl, _, hl, _, hm, _, hall⟩
  · exact ⟨none, [], 0, rfl, RS.nil _ _ _ _, Nat.le_refl _⟩
  · rw [hc] at hall
    have hlm : len ≤ m := by rw [hm]; split <;> omega
    have key : ∀ k, k ≤ len → ∃ xs : List α, xs.length = k ∧ ∀ i (hi : i < xs.length), ∃ cs', W.cells? 0 (a.add (i * K.sz)) K.sz = some cs' ∧ K.R (ghostOf W) cs' xs[i] := by
      intro k
      induction k with
      | zero => intro _; exact ⟨[], rfl, fun i hi => by simp at hi⟩
      | succ k ih =>
        intro hk
        obtain ⟨xs, h1, h2⟩ := ih (by omega)
        obtain ⟨cs', q1, q2⟩ := hall k (by omega)
        obtain ⟨y, hy⟩ := hel _ _ _ q2
        refine ⟨xs ++ [y], by simp [h1], fun i hi => ?_⟩
        by_cases hik : i < xs.length
        · rw [List.getElem_append_left hik]; exact h2 i hik
        · have : i = xs.length := by simp at hi; omega
          subst this
          rw [List.getElem_append_right (Nat.le_refl _)]
          simp only [Nat.sub_self, List.getElem_cons_zero]
          rw [h1]
          exact ⟨cs', q1, hy⟩
    obtain ⟨xs, h1, h2⟩ := key len (Nat.le_refl _)
    subst h1
    refine ⟨some a, xs, cap, rfl, ⟨some a, cap, rfl, ?_⟩, hl⟩
    by_cases hx0 : xs = []
    · exact .inl hx0
    · right
      have h0 : 0 < xs.length := List.length_pos_iff.2 hx0
      obtain ⟨cs0, q1, _⟩ := h2 0 h0
      obtain ⟨_, q2, q3⟩ := World.cells?_some q1
      have hsp : a.spot = none := by
        have := q3 0 hpos
        rw [Nat.zero_mul] at this
        have ea : (a.add 0).add 0 = a := by simp [Addr.add]
        rw [ea, List.getElem?_eq_getElem (by omega)] at this
        unfold World.cell? at this
        split at this
        · split at this
          · cases this
          · rename_i hs; simpa using hs
        · cases this
      obtain ⟨b, o, sp⟩ := a
      simp only at hsp
      subst hsp
      refine ⟨b, o, rfl, fun i hi => ?_⟩
      obtain ⟨cs', q1, q2⟩ := h2 i hi
      obtain ⟨_, q3, q4⟩ := World.cells?_some q1
      refine ⟨cs', q2, fun j u hu => ?_⟩
      have hj : j < K.sz := by rw [← q3]; exact (List.getElem?_eq_some_iff.1 hu).1
      have := q4 j hj
      rw [hu, addr_add, addr_add] at this
      exact this
theorem in_field {t : Nat} {te : TE} {fs : List (Nat × Nat)} (h : tabAt (tb P) t = some te) (hd : te.td = .struct fs) (hx : DataW.trod enc P W 0 spare held fuel t cs = some x) :
    cs.length = te.zs.length ∧ ∀ (j off ft : Nat) (fte : TE), fs[j]? = some (off, ft) → tabAt (tb P) ft = some fte → ∃ n y, DataW.trod enc P W 0 spare held n ft ((cs.drop off).take fte.zs.length) = some y := by
  obtain ⟨l, hl1, hl2⟩ := und_struct h hd
  obtain ⟨xs, n, _, _, h1, h2, h3⟩ := DataW.trod_struct hl1 hx
  refine ⟨h1.trans (tab_cells h), fun j off ft fte hj hf => ?_⟩
  rw [← hl2, List.getElem?_map, Option.map_eq_some_iff] at hj
  obtain ⟨f, hf1, hf2⟩ := hj
  simp only [Prod.mk.injEq] at hf2
  have hj' : l[j]? = some f := by simpa using hf1
  have := h3 j f hj'
  rw [hf2.1, hf2.2, tab_cells hf] at this
  have hlt : j < xs.length := by rw [h2]; exact (Array.getElem?_eq_some_iff.1 hj').1
  exact ⟨n, xs[j], by rw [this, List.getElem?_eq_getElem hlt]⟩
theorem in_array {t m e : Nat} {te ee : TE} (h : tabAt (tb P) t = some te) (hd : te.td = .array m e) (he : tabAt (tb P) e = some ee) (hx : DataW.trod enc P W 0 spare held fuel t cs = some x) :
    cs.length = te.zs.length ∧ ∀ i, i < m → ∃ n y, DataW.trod enc P W 0 spare held n e ((cs.drop (i * ee.zs.length)).take ee.zs.length) = some y := by
  obtain ⟨xs, n, _, _, h1, h2, h3⟩ := DataW.trod_array (und_array h hd) hx
  refine ⟨h1.trans (tab_cells h), fun i hi => ?_⟩
  have := h3 i hi
  rw [tab_cells he] at this
  exact ⟨n, xs[i], by rw [this, List.getElem?_eq_getElem (by omega)]⟩
end
section
variable {H : Type} {enc : TypeId × Value → H} {W : World} {spare : Nat → Bool} {held : Bool} {fuel : Nat} {cs : List Value} {x : DataW H × List MemPlace}
theorem in_ints (h : DataW.trod enc PP W 0 spare held fuel 22 cs = some x) : ∃ a xs cap, cs = [.slice a xs.length cap] ∧ RS kInt (ghostOf W) (.slice a xs.length cap) xs ∧ xs.length ≤ cap :=
  in_slice (K := kInt) rfl rfl rfl rfl (by decide) (fun n cs' y hy => by
    obtain ⟨m, h1, _⟩ := in_int rfl rfl hy
    exact ⟨m, h1⟩) h
theorem list3 {α : Type} : ∀ {l : List α}, l.length = 3 → ∃ a b c, l = [a, b, c]
  | [a, b, c], _ => ⟨a, b, c, rfl⟩
theorem list2 {α : Type} : ∀ {l : List α}, l.length = 2 → ∃ a b, l = [a, b]
  | [a, b], _ => ⟨a, b, rfl⟩
theorem list5 {α : Type} : ∀ {l : List α}, l.length = 5 → ∃ a b c d e, l = [a, b, c, d, e]
  | [a, b, c, d, e], _ => ⟨a, b, c, d, e, rfl⟩
theorem wf_u32 {n : Int} (h : (Lit.int .u32 n).wf = true) : 0 ≤ n := by
  simp only [Lit.wf, Bool.and_eq_true, decide_eq_true_eq] at h
  have : IntKind.u32.min = 0 := rfl
  omega
theorem in_arrow (h : DataW.trod enc PP W 0 spare held fuel 56 cs = some x) : ∃ a, cs = eArrI a := by
  obtain ⟨h1, h2⟩ := in_field (P := PP) (t := 56) rfl rfl h
  obtain ⟨c1, c2, c3, rfl⟩ := list3 h1
  obtain ⟨n1, y1, q1⟩ := h2 0 _ _ _ rfl rfl
  obtain ⟨n2, y2, q2⟩ := h2 1 _ _ _ rfl rfl
  obtain ⟨n3, y3, q3⟩ := h2 2 _ _ _ rfl rfl
  obtain ⟨m1, e1, _⟩ := in_int (P := PP) rfl rfl q1
  obtain ⟨m2, e2, _⟩ := in_int (P := PP) rfl rfl q2
  obtain ⟨m3, e3, w3⟩ := in_int (P := PP) rfl rfl q3
  have f1 : c1 = .int .i64 m1 := by simpa using e1
  have f2 : c2 = .int .i64 m2 := by simpa using e2
  have f3 : c3 = .int .u32 m3 := by simpa using e3
  have h0 := wf_u32 w3
  refine ⟨⟨m1, m2, m3.toNat⟩, ?_⟩
  rw [f1, f2, f3]
  simp only [eArrI, Int.toNat_of_nonneg h0]
theorem in_arrows (h : DataW.trod enc PP W 0 spare held fuel 23 cs = some x) : ∃ a xs cap, cs = [.slice a xs.length cap] ∧ RS kArrI (ghostOf W) (.slice a xs.length cap) xs ∧ xs.length ≤ cap :=
  in_slice (K := kArrI) rfl rfl rfl rfl (by decide) (fun n cs' y hy => in_arrow hy) h
theorem in_pair (h : DataW.trod enc PP W 0 spare held fuel 46 cs = some x) : ∃ p, cs = ePairI p := by
  obtain ⟨h1, h2⟩ := in_array (P := PP) (t := 46) rfl rfl rfl h
  obtain ⟨c1, c2, rfl⟩ := list2 h1
  obtain ⟨n1, y1, q1⟩ := h2 0 (by decide)
  obtain ⟨n2, y2, q2⟩ := h2 1 (by decide)
  obtain ⟨m1, e1, _⟩ := in_int (P := PP) rfl rfl q1
  obtain ⟨m2, e2, _⟩ := in_int (P := PP) rfl rfl q2
  have f1 : c1 = .int .i64 m1 := by simpa using e1
  have f2 : c2 = .int .i64 m2 := by simpa using e2
  exact ⟨(m1, m2), by rw [f1, f2]; rfl⟩
theorem in_pairs (h : DataW.trod enc PP W 0 spare held fuel 24 cs = some x) : ∃ a xs cap, cs = [.slice a xs.length cap] ∧ RS kPairI (ghostOf W) (.slice a xs.length cap) xs ∧ xs.length ≤ cap :=
  in_slice (K := kPairI) rfl rfl rfl rfl (by decide) (fun n cs' y hy => in_pair hy) h
theorem in_net (h : DataW.trod enc PP W 0 spare held fuel 28 cs = some x) : ∃ n vi vl va vp init ls all pairs, cs = [.int .i64 n, vi, vl, va, vp] ∧ RS kInt (ghostOf W) vi init ∧ RS kArrI (ghostOf W) vl ls ∧ RS kInt (ghostOf W) va all ∧ RS kPairI (ghostOf W) vp pairs := by
  obtain ⟨h1, h2⟩ := in_field (P := PP) (t := 28) rfl rfl h
  obtain ⟨c1, c2, c3, c4, c5, rfl⟩ := list5 h1
  obtain ⟨n1, y1, q1⟩ := h2 0 _ _ _ rfl rfl
  obtain ⟨n2, y2, q2⟩ := h2 1 _ _ _ rfl rfl
  obtain ⟨n3, y3, q3⟩ := h2 2 _ _ _ rfl rfl
  obtain ⟨n4, y4, q4⟩ := h2 3 _ _ _ rfl rfl
  obtain ⟨m1, e1, _⟩ := in_int (P := PP) rfl rfl q1
  obtain ⟨a2, x2, p2, e2, r2, _⟩ := in_ints q2
  obtain ⟨a3, x3, p3, e3, r3, _⟩ := in_arrows q3
  obtain ⟨_, h5⟩ := in_field (P := PP) (t := 26) rfl rfl q4
  obtain ⟨n5, y5, q5⟩ := h5 0 _ _ _ rfl rfl
  obtain ⟨n6, y6, q6⟩ := h5 1 _ _ _ rfl rfl
  obtain ⟨a5, x5, p5, e5, r5, _⟩ := in_ints q5
  obtain ⟨a6, x6, p6, e6, r6, _⟩ := in_pairs q6
  have f1 : c1 = .int .i64 m1 := by simpa using e1
  have f2 : c2 = .slice a2 x2.length p2 := by simpa using e2
  have f3 : c3 = .slice a3 x3.length p3 := by simpa using e3
  have f5 : c4 = .slice a5 x5.length p5 := by simpa using e5
  have f6 : c5 = .slice a6 x6.length p6 := by simpa using e6
  exact ⟨m1, _, _, _, _, x2, x3, x5, x6, by rw [f1, f2, f3, f5, f6], r2, r3, r5, r6⟩
theorem in_round (h : DataW.trod enc PP W 0 spare held fuel 33 cs = some x) : ∃ n vs vl stem loop, cs = [.int .i64 n, vs, vl] ∧ RS kInt (ghostOf W) vs stem ∧ RS kInt (ghostOf W) vl loop := by
  obtain ⟨h1, h2⟩ := in_field (P := PP) (t := 33) rfl rfl h
  obtain ⟨c1, c2, c3, rfl⟩ := list3 h1
  obtain ⟨n1, y1, q1⟩ := h2 0 _ _ _ rfl rfl
  obtain ⟨n2, y2, q2⟩ := h2 1 _ _ _ rfl rfl
  obtain ⟨n3, y3, q3⟩ := h2 2 _ _ _ rfl rfl
  obtain ⟨m1, e1, _⟩ := in_int (P := PP) rfl rfl q1
  obtain ⟨a2, x2, p2, e2, r2, _⟩ := in_ints q2
  obtain ⟨a3, x3, p3, e3, r3, _⟩ := in_ints q3
  have f1 : c1 = .int .i64 m1 := by simpa using e1
  have f2 : c2 = .slice a2 x2.length p2 := by simpa using e2
  have f3 : c3 = .slice a3 x3.length p3 := by simpa using e3
  exact ⟨m1, _, _, x2, x3, by rw [f1, f2, f3], r2, r3⟩
end
/-- A contract, as the row asks for it. -/
theorem cl_row {f : FuncId} {vs : List Value} {W : World} (h : Cl PP f vs (ghostOf W) [] (Det (.bool true))) : Calls PP f vs.toArray W fun e W' => e = .returned (.bool true) ∧ Below W.heap.size W W' := by
  refine (h.call W [] (by simpa using st_begin W)).mono fun e W' ⟨v, g', L', he, hg, hs, hL, hv⟩ => ?_
  subst hv
  exact ⟨he, hs.below hg⟩
end Go.Proofs.Ytnanffbjmfgafaa.S
