/- What the statement FairThrough is proved with, part 5: walks of the code, each against a pure version of it. -/
import Derived.Carry
import Derived.Deep.Slices
import Derived.OpenShut
import Derived.Test.YtnanffbjmfgafaaWFairThrough4
set_option linter.all false
namespace Go.Proofs.Ytnanffbjmfgafaa.S
open Go.RowKit
section
variable {P : Program} [Tabbed P] {ρ : Env} {w : World} {g : Ghost} {L : Own}
theorem resCT {fn : Func} {t1 t2 : Tmp} {ty1 E1 b1 k1 : Nat} {l1 : List Value} {v2 : Value} {te1 : TE} (hs : St g w L) (h : fn.results = #[.cell t1 ty1, .tmp t2])
    (h1 : look ρ t1 = some (.pointer (some ⟨b1, 0, none⟩))) (h2 : look ρ t2 = some v2)
    (hk1 : L[k1]? = some (b1, cellsO l1 E1)) (ht1 : tabAt (tb P) ty1 = some te1) (hA1 : te1.td.isAgg = true) (hl : l1.length = te1.zs.length) : ResV P fn ρ w (.tuple #[.agg l1.toArray, v2]) := fun _ _ a ha => by
  have c1 := run_loadVarN (P := P) w ht1 hA1 (a := ⟨b1, 0, none⟩) hl (fun j v hv => by rw [addr_add]; exact hs.cellL (mem_of_at hk1) (by simpa using hv))
  simp only [results, h]; simp [getD_of ha h1, getD_of ha h2, asAddr, c1]
end
theorem firstI_cases {α : Type} (p : α → Bool) (xs : List α) : firstI p xs = -1 ∨ ∃ k : Nat, k < xs.length ∧ firstI p xs = (k : Int) := by
  unfold firstI
  split
  · rename_i h
    exact .inr ⟨xs.findIdx p, List.findIdx_lt_length.2 (List.any_eq_true.1 h), rfl⟩
  · exact .inl rfl
theorem nats_at (out : List Nat) (pad : List Value) (k : Nat) (h : k < out.length) : (out.flatMap eNat ++ pad)[k]? = some (.int .i64 (out[k] : Int)) := by
  rw [flat_nats, List.getElem?_append_left (by simpa using h)]
  simp [h]
/-- What walk hands back: some round. -/
def RoundPost : Ghost → Own → Value → Prop := fun g' L' r => L' = [] ∧ ∃ (start : Int) (stem loop : List Int) (vs vlo : Value) (b : Bool), r = .tuple #[.agg #[.int .i64 start, vs, vlo], .bool b] ∧ RS kInt g' vs stem ∧ RS kInt g' vlo loop ∧ stem.length ≤ 60 ∧ loop.length ≤ 60
theorem walk_spec (g : Ghost) (vi vl : Value) (ac : Option Addr) (cc : Nat) (init : List Int) (ls : List ArrowI) (choices : List Int) (hi : RS kInt g vi init) (hl : RS kArrI g vl ls) (hc : RS kInt g (.slice ac choices.length cc) choices) (hcc : choices.length ≤ cc)
    (hi0 : init.length ≤ 40) (hl0 : ls.length ≤ 40) (hc0 : choices.length ≤ 60) : Cl PP 25 [vi, vl, .slice ac choices.length cc] g [] RoundPost := by
  obtain ⟨ai, ci, rfl⟩ := hi.form
  obtain ⟨al, cl, rfl⟩ := hl.form
  refine cl_intro Try.func25 rfl rfl Try.ntmps25 rfl ?_
  intro w F hs
  repeat (refine wc_seq ?_)
  refine wc_region ?_
  refine wl_new hs rfl rfl rfl ?_; clear hs; intro rb w hs
  repeat (refine wl_p rfl rfl rfl ?_)
  refine wl_nil (wk_seq ?_)
  replace hs := (show St g w ((rb, cellsO [.int .i64 0, .slice none 0 0, .slice none 0 0] 33) :: F) from hs)
  have nothing : ∀ (g' : Ghost) (w : World) (X : Own), g ≤ g' → St g' w ((rb, cellsO [.int .i64 0, .slice none 0 0, .slice none 0 0] 33) :: (X ++ F)) → ∃ g' L', g ≤ g' ∧ St g' w (L' ++ F) ∧ RoundPost g' L' (.tuple #[.agg #[.int .i64 0, .slice none 0 0, .slice none 0 0], .bool false]) := fun g' w X hle h =>
    ⟨g', [], hle, h.drop.dropL, rfl, 0, [], [], _, _, _, rfl, RS.nil _ _ _ _, RS.nil _ _ _ _, by simp, by simp⟩
  repeat (refine wc_seq ?_)
  refine wc_region ?_
  repeat (refine wl_p rfl rfl rfl ?_)
  refine wl_case 22 rfl (fun q1 => ?_) (fun q1 => ?_)
  · repeat (first | refine wl_p rfl rfl rfl ?_ | refine wl_skip rfl rfl rfl ?_)
    refine wl_nil (wk_seq ?_)
    refine wc_condT rfl rfl ?_
    repeat (refine wc_seq ?_)
    refine wc_region ?_
    refine wl_build (ps := []) rfl rfl rfl rfl rfl rfl rfl ?_
    refine wl_stN hs 0 rfl rfl rfl rfl rfl (Nat.le_of_ble_eq_true rfl) rfl rfl ?_; clear hs; intro w hs
    repeat (refine wl_p rfl rfl rfl ?_)
    refine wl_nil (wk_seq ?_)
    exact wc_retV (resCT (k1 := 0) hs rfl rfl rfl rfl rfl rfl rfl) (nothing g w [] Ghost.rfl' hs)
  · have hi1 : 0 < init.length := by
      have h9 : ((init.length : Int) == 0) = false := q1
      have : init.length ≠ 0 := fun e => by rw [e] at h9; simp at h9
      omega
    repeat (first | refine wl_p rfl rfl rfl ?_ | refine wl_skip rfl rfl rfl ?_)
    refine wl_nil (wk_seq ?_)
    refine wc_cond rfl (fun q2 => ?_) (fun q2 => ?_)
    · repeat (refine wc_seq ?_)
      refine wc_region ?_
      refine wl_build (ps := []) rfl rfl rfl rfl rfl rfl rfl ?_
      refine wl_stN hs 0 rfl rfl rfl rfl rfl (Nat.le_of_ble_eq_true rfl) rfl rfl ?_; clear hs; intro w hs
      repeat (refine wl_p rfl rfl rfl ?_)
      refine wl_nil (wk_seq ?_)
      exact wc_retV (resCT (k1 := 0) hs rfl rfl rfl rfl rfl rfl rfl) (nothing g w [] Ghost.rfl' hs)
    · have hc1 : 0 < choices.length := by
        have h9 : ((choices.length : Int) == 0) = false := q2
        have : choices.length ≠ 0 := fun e => by rw [e] at h9; simp at h9
        omega
      obtain ⟨k, hk1, hk2⟩ := pickU choices[0] init.length hi1 (by omega)
      have hci := hi.int hk1
      refine wc_skip (wk_seq ?_)
      repeat (refine wc_seq ?_)
      refine wc_region ?_
      repeat (refine wl_p rfl rfl rfl ?_)
      refine wl_ix rfl rfl rfl rfl rfl (by omega) (hc.base hc1) rfl rfl ?_
      refine wl_ldG hs ((hc.int hc1)) rfl rfl rfl rfl rfl ?_
      refine wl_conv _ rfl rfl rfl rfl rfl rfl rfl ?_
      repeat (refine wl_p rfl rfl rfl ?_)
      refine wl_conv _ rfl rfl rfl rfl rfl rfl rfl ?_
      refine wl_rem _ rfl (u64_len _ hi1 (by omega)) rfl rfl rfl rfl ?_
      refine wl_conv (k : Int) hk2 rfl rfl rfl rfl rfl rfl ?_
      refine wl_ix rfl rfl rfl rfl rfl (by omega) (hi.base hk1) rfl rfl ?_
      refine wl_ldG hs (hci) rfl rfl rfl rfl rfl ?_
      repeat (refine wl_p rfl rfl rfl ?_)
      refine wl_nil (wk_seq ?_)
      generalize init[k] = start
      repeat (refine wc_seq ?_)
      refine wc_region ?_
      repeat (refine wl_p rfl rfl rfl ?_)
      refine wl_lit (ps := []) hs rfl rfl rfl rfl rfl rfl rfl rfl rfl rfl ?_
      clear hs; intro pb0 w hs
      repeat (refine wl_p rfl rfl rfl ?_)
      refine wl_lit (ps := [(0, .tmp 42)]) hs rfl rfl rfl rfl rfl rfl rfl rfl rfl rfl ?_
      clear hs; intro nb0 w hs
      repeat (refine wl_p rfl rfl rfl ?_)
      refine wl_nil (wk_seq ?_)
      replace hs := (show St g w ((rb, cellsO [.int .i64 0, .slice none 0 0, .slice none 0 0] 33) :: ([(pb0, cellsO [] 3)] ++ ([(nb0, cellsO [.int .i64 start] 3)] ++ F))) from St.perm (show St g w ((nb0, cellsO [.int .i64 start] 3) :: (pb0, cellsO [] 3) :: (rb, cellsO [.int .i64 0, .slice none 0 0, .slice none 0 0] 33) :: F) from hs) (by classical exact List.perm_iff_count.2 fun x => by simp only [List.append_eq, List.set_cons_succ, List.set_cons_zero, List.eraseIdx_cons_zero, List.eraseIdx_cons_succ, List.count_cons, List.count_append, List.cons_append, List.nil_append, List.append_nil, List.append_assoc] <;> ac_rfl))
      repeat (refine wc_seq ?_)
      refine wc_region ?_
      repeat (refine wl_p rfl rfl rfl ?_)
      refine wl_slice rfl rfl rfl (by omega) hcc rfl rfl rfl rfl rfl ?_
      have hrt := hc.part 1 choices.length (by omega) (Nat.le_refl _) hcc _ rfl
      rw [show ((1 : Int)).toNat = 1 from rfl, Int.toNat_natCast]
      generalize hct : (choices.take choices.length).drop 1 = ct at hrt
      have hctl : ct.length ≤ 59 := by rw [← hct, List.length_drop, List.length_take]; omega
      obtain ⟨a5, c5, e5⟩ := hrt.form
      rw [show kInt.sz = 1 from rfl] at e5 hrt
      rw [show (TE.zs ⟨.int .i64, [.int .i64], 8⟩).length = 1 from rfl, e5]
      rw [e5] at hrt
      repeat (refine wl_p rfl rfl rfl ?_)
      refine wl_nil (wk_seq ?_)
      have hctl2 : ct.length ≤ 4611686018427387904 := by omega
      refine wc_for ct.length (fun _ (x : Int × Value × Value) => [(46, .int .i64 ct.length), (45, .slice a5 ct.length c5), (1, .slice al ls.length cl), (6, .pointer (some ⟨rb, 0, none⟩)), (8, .int .i64 start), (9, .int .i64 x.1), (10, x.2.1), (11, x.2.2)])
        (fun i (x : Int × Value × Value) w => ∃ g' path nodes H10 H11, g ≤ g' ∧ OwnS 3 1 x.2.1 path.length (path.flatMap eNat) H10 ∧ OwnS 3 1 x.2.2 nodes.length (nodes.flatMap eInt) H11 ∧ path.length = i ∧ nodes.length = i + 1 ∧ St g' w ((rb, cellsO [.int .i64 0, .slice none 0 0, .slice none 0 0] 33) :: (H10 ++ (H11 ++ F)))) (start, _, _) hctl2
        (by repeat (first | exact trivial | refine ⟨rfl, ?_⟩)) ⟨g, [], [start], _, _, Ghost.rfl', OwnS.lit (m := 0) rfl, OwnS.lit (m := 1) rfl, rfl, rfl, hs⟩ (fun _ _ => rfl) rfl rfl rfl ?_ ?_ (fun _ _ => rfl) rfl
      · rintro i ⟨at0, v10, v11⟩ w hii ⟨g1, path, nodes, H10, H11, hg1, ho10, ho11, hpl, hnl, hs⟩
        simp only at ho10 ho11
        have hbi := hrt.base hii
        have hci := (hrt.mono hg1).int hii
        generalize ct[i] = c at hci
        repeat (refine wc_seq ?_)
        refine wc_region ?_
        refine wl_ix rfl rfl rfl rfl rfl (by omega) (hbi) rfl rfl ?_
        refine wl_ldG hs (hci) rfl rfl rfl rfl rfl ?_
        repeat (refine wl_p rfl rfl rfl ?_)
        refine wl_nil (wk_seq ?_)
        repeat (refine wc_seq ?_)
        refine wc_region ?_
        repeat (refine wl_p rfl rfl rfl ?_)
        refine wl_nil (wk_seq ?_)
        repeat (refine wc_seq ?_)
        refine wc_region ?_
        repeat (refine wl_p rfl rfl rfl ?_)
        refine wl_nil (wk_seq ?_)
        have hll : ls.length ≤ 4611686018427387904 := by omega
        refine wc_for ls.length (fun _ (v14 : Value) => [(52, .int .i64 ls.length), (51, .slice al ls.length cl), (14, v14), (13, .int .i64 c), (47, .int .i64 (i : Int)), (46, .int .i64 ct.length), (45, .slice a5 ct.length c5), (1, .slice al ls.length cl), (6, .pointer (some ⟨rb, 0, none⟩)), (8, .int .i64 start), (9, .int .i64 at0), (10, v10), (11, v11)])
          (fun j (v14 : Value) w => ∃ out H14, OwnS 3 1 v14 out.length (out.flatMap eNat) H14 ∧ (∀ x ∈ out, x < ls.length) ∧ out.length ≤ j ∧ St g1 w (H14 ++ ((rb, cellsO [.int .i64 0, .slice none 0 0, .slice none 0 0] 33) :: (H10 ++ (H11 ++ F))))) (.slice none 0 0) hll
          (by repeat (first | exact trivial | refine ⟨rfl, ?_⟩)) ⟨[], [], OwnS.nil _ _, (fun x hx => by cases hx), Nat.le_refl _, hs⟩ (fun _ _ => rfl) rfl rfl rfl ?_ ?_ (fun _ _ => rfl) rfl
        · rintro j v14 w hj ⟨out, H14, ho14, hout, hol, hs⟩
          have hbj := hl.base hj
          have hcE := Lies.of_eaddr ((hl.mono hg1).enc hj)
          generalize ls[j] = a at hcE
          repeat (refine wc_seq ?_)
          refine wc_region ?_
          repeat (refine wl_p rfl rfl rfl ?_)
          refine wl_ix rfl rfl rfl rfl rfl (by omega) hbj rfl rfl ?_
          refine wl_ldGN (cs := eArrI a) hs hcE rfl rfl rfl rfl rfl rfl ?_
          refine wl_new hs rfl rfl rfl ?_; clear hs; intro ab w hs
          repeat (refine wl_p rfl rfl rfl ?_)
          refine wl_stN (cs := eArrI a) hs 0 rfl rfl rfl rfl rfl (Nat.le_of_ble_eq_true rfl) rfl rfl ?_
          clear hs; intro w hs
          refine wl_nil (wk_seq ?_)
          repeat (refine wc_seq ?_)
          refine wc_region ?_
          repeat (refine wl_p rfl rfl rfl ?_)
          refine wl_ldO hs 0 rfl rfl rfl rfl rfl rfl rfl ?_
          repeat (refine wl_p rfl rfl rfl ?_)
          refine wl_nil (wk_seq ?_)
          replace hs := (show St g1 w (H14 ++ ((rb, cellsO [.int .i64 0, .slice none 0 0, .slice none 0 0] 33) :: (H10 ++ (H11 ++ F)))) from hs.drop)
          refine wc_cond rfl (fun q3 => ?_) (fun q3 => ?_)
          · repeat (refine wc_seq ?_)
            refine wc_region ?_
            repeat (refine wl_p rfl rfl rfl ?_)
            refine wl_push hs ho14 (by omega) rfl rfl rfl rfl rfl rfl rfl rfl rfl rfl rfl rfl rfl rfl ?_
            intro v14' w H14' ho14' hs
            repeat (refine wl_p rfl rfl rfl ?_)
            refine wl_nil (wk_blk (wk_next v14' hj hll ⟨out ++ [j], H14', ?_, ?_, by simp; omega, hs⟩ rfl rfl rfl (by repeat (first | exact trivial | refine ⟨rfl, ?_⟩))))
            · simp only [List.length_append, List.length_cons, List.length_nil, List.flatMap_append, List.flatMap_cons, List.flatMap_nil, List.append_nil]
              exact ho14'
            · intro x hx
              rcases List.mem_append.1 hx with h | h
              · exact hout x h
              · rw [List.mem_singleton.1 h]; exact hj
          · exact wc_skip (wk_blk (wk_next v14 hj hll ⟨out, H14, ho14, hout, by omega, hs⟩ rfl rfl rfl (by repeat (first | exact trivial | refine ⟨rfl, ?_⟩))))
        · rintro v14 w ⟨out, H14, ho14, hout, hol, hs⟩
          obtain ⟨a14, c14, hv14⟩ := ho14.form
          refine wk_seq ?_
          repeat (refine wc_seq ?_)
          refine wc_region ?_
          rw [hv14] at ho14 ⊢
          repeat (refine wl_p rfl rfl rfl ?_)
          refine wl_nil (wk_seq ?_)
          refine wc_cond rfl (fun q4 => ?_) (fun q4 => ?_)
          · refine wc_exit rfl (wk_seq ?_)
            repeat (refine wc_seq ?_)
            refine wc_region ?_
            refine wl_build (ps := []) rfl rfl rfl rfl rfl rfl rfl ?_
            replace hs := (show St g1 w ((rb, cellsO [.int .i64 0, .slice none 0 0, .slice none 0 0] 33) :: ((H14 ++ (H10 ++ H11)) ++ F)) from hs.perm (by classical exact List.perm_iff_count.2 fun x => by simp only [List.append_eq, List.set_cons_succ, List.set_cons_zero, List.eraseIdx_cons_zero, List.eraseIdx_cons_succ, List.count_cons, List.count_append, List.cons_append, List.nil_append, List.append_nil, List.append_assoc] <;> ac_rfl))
            refine wl_stN hs 0 rfl rfl rfl rfl rfl (Nat.le_of_ble_eq_true rfl) rfl rfl ?_; clear hs; intro w hs
            repeat (refine wl_p rfl rfl rfl ?_)
            refine wl_nil (wk_seq ?_)
            exact wc_retV (resCT (k1 := 0) hs rfl rfl rfl rfl rfl rfl rfl) (nothing g1 w _ hg1 hs)
          · have ho1 : 0 < out.length := by
              have h9 : ((out.length : Int) == 0) = false := q4
              have : out.length ≠ 0 := fun e => by rw [e] at h9; simp at h9
              omega
            obtain ⟨b14, cap14, pad14, hsl, p1, p2, p3, rfl⟩ := ho14.pos ho1
            obtain ⟨k2, hk21, hk22⟩ := pickU c out.length ho1 (by omega)
            have hkl : out[k2] < ls.length := hout _ (List.getElem_mem hk21)
            have hcell := nats_at out pad14 k2 hk21
            rw [hsl]
            refine wc_skip (wk_seq ?_)
            repeat (refine wc_seq ?_)
            refine wc_region ?_
            repeat (refine wl_p rfl rfl rfl ?_)
            refine wl_conv _ rfl rfl rfl rfl rfl rfl rfl ?_
            repeat (refine wl_p rfl rfl rfl ?_)
            refine wl_conv _ rfl rfl rfl rfl rfl rfl rfl ?_
            refine wl_rem _ rfl (u64_len _ ho1 (by omega)) rfl rfl rfl rfl ?_
            refine wl_conv (k2 : Int) hk22 rfl rfl rfl rfl rfl rfl ?_
            refine wl_ixJ k2 rfl rfl rfl rfl rfl hk21 rfl rfl rfl ?_
            refine wl_ldO hs 0 rfl rfl hcell rfl rfl rfl rfl ?_
            repeat (refine wl_p rfl rfl rfl ?_)
            refine wl_nil (wk_seq ?_)
            generalize out[k2] = kk at hkl
            have hbk := hl.base hkl
            have hcE := Lies.of_eaddr ((hl.mono hg1).enc hkl)
            generalize ls[kk] = a at hcE
            replace hs := (show St g1 w (H10 ++ ((rb, cellsO [.int .i64 0, .slice none 0 0, .slice none 0 0] 33) :: (H11 ++ F))) from (St.dropL (H := [(b14, cellsO (out.flatMap eNat ++ pad14) 3)]) hs).perm (by classical exact List.perm_iff_count.2 fun x => by simp only [List.append_eq, List.set_cons_succ, List.set_cons_zero, List.eraseIdx_cons_zero, List.eraseIdx_cons_succ, List.count_cons, List.count_append, List.cons_append, List.nil_append, List.append_nil, List.append_assoc] <;> ac_rfl))
            repeat (refine wc_seq ?_)
            refine wc_draw 10 H10 pp_mix (by kernel_rfl) rfl hs ?_
            repeat (first | refine sg_p rfl rfl ?_ | refine sg_skip rfl rfl ?_)
            refine sg_one rfl rfl rfl rfl rfl rfl rfl rfl ?_
            refine sg_pushF (ge := g) hg1 H10 [] (List.append_nil _).symm ho10 (by omega) rfl rfl rfl rfl rfl rfl rfl rfl rfl rfl rfl rfl (fun _ => rfl) ?_
            repeat (first | refine sg_p rfl rfl ?_ | refine sg_skip rfl rfl ?_)
            refine sg_ix rfl rfl rfl rfl rfl (by omega) hbk rfl ?_
            repeat (first | refine sg_p rfl rfl ?_ | refine sg_skip rfl rfl ?_)
            refine sg_ldG (hcE 1 _ rfl) rfl rfl rfl rfl ?_
            refine sg_assignW (psiF_mono _ _ _ _ _) (fun g v L' h => h.1) rfl rfl (fun _ => rfl) ?_
            refine sg_end ?_
            intro g20 w hg20
            rintro _ _ ⟨_, _, _, _, rfl, _⟩ _ _ ⟨rfl, _⟩ v10' _ ⟨rfl, hF10⟩ hs
            repeat (refine wl_p rfl rfl rfl ?_)
            refine wl_nil (wk_seq ?_)
            obtain ⟨g2, H10', hg02, hg220, ho10', hs⟩ := psiF.back (L' := []) ⟨rfl, hF10⟩ (Ghost.tr hg1 hg20) hs
            replace ho10' := (show OwnS 3 1 v10' (path.length + 1) (path.flatMap eNat ++ [.int .i64 (kk : Int)]) H10' from ho10')
            replace hs := (show St g2 w (H10' ++ ((rb, cellsO [.int .i64 0, .slice none 0 0, .slice none 0 0] 33) :: (H11 ++ F))) from hs)
            replace hs := (show St g2 w (H11 ++ ((rb, cellsO [.int .i64 0, .slice none 0 0, .slice none 0 0] 33) :: (H10' ++ F))) from hs.perm (by classical exact List.perm_iff_count.2 fun x => by simp only [List.append_eq, List.set_cons_succ, List.set_cons_zero, List.eraseIdx_cons_zero, List.eraseIdx_cons_succ, List.count_cons, List.count_append, List.cons_append, List.nil_append, List.append_nil, List.append_assoc] <;> ac_rfl))
            obtain ⟨g3, hg3, hs, hrn, hback⟩ := OwnS.lend (e := eInt) (h0 := fun _ => rfl) ho11 hs
            obtain ⟨a11, c11, rfl⟩ := ho11.form
            have hs3 : St g3 w ((rb, cellsO [.int .i64 0, .slice none 0 0, .slice none 0 0] 33) :: (H10' ++ F)) := by assumption
            repeat (refine wc_seq ?_)
            refine wc_region ?_
            repeat (refine wl_p rfl rfl rfl ?_)
            refine wl_call (L := []) rfl rfl rfl hs3 (index_spec g3 _ nodes a.to hrn (by omega)) ?_
            rintro u g4 L' w hg4 hs4 ⟨rfl, rfl⟩
            obtain ⟨g5, hg25, hg54, hs⟩ := hback g4 w _ hg4 hs4
            have hg05 := Ghost.tr hg02 hg25
            replace hs := (show St g5 w ((rb, cellsO [.int .i64 0, .slice none 0 0, .slice none 0 0] 33) :: (H10' ++ (H11 ++ F))) from St.perm (show St g5 w (H11 ++ ((rb, cellsO [.int .i64 0, .slice none 0 0, .slice none 0 0] 33) :: (H10' ++ F))) from hs) (by classical exact List.perm_iff_count.2 fun x => by simp only [List.append_eq, List.set_cons_succ, List.set_cons_zero, List.eraseIdx_cons_zero, List.eraseIdx_cons_succ, List.count_cons, List.count_append, List.cons_append, List.nil_append, List.append_nil, List.append_assoc] <;> ac_rfl))
            repeat (refine wl_p rfl rfl rfl ?_)
            refine wl_nil (wk_seq ?_)
            obtain ⟨a10, c10, hv10⟩ := ho10'.form
            rw [hv10]
            rw [hv10] at ho10'
            repeat (refine wc_seq ?_)
            refine wc_meetK (fun (b : Bool) => [(103, .bool b), (18, .int .i64 (firstI (fun y => a.to == y) nodes)), (17, .int .i64 (kk : Int)), (13, .int .i64 c), (47, .int .i64 (i : Int)), (46, .int .i64 ct.length), (45, .slice a5 ct.length c5), (1, .slice al ls.length cl), (6, .pointer (some ⟨rb, 0, none⟩)), (8, .int .i64 start), (9, .int .i64 a.to), (10, .slice a10 (path.length + 1) c10), (11, .slice a11 nodes.length c11)])
              (fun b w => (b = true → firstI (fun y => a.to == y) nodes ≥ 0) ∧ St g5 w ((rb, cellsO [.int .i64 0, .slice none 0 0, .slice none 0 0] 33) :: (H10' ++ (H11 ++ F)))) ?_ ?_
            · refine wc_region ?_
              repeat (refine wl_p rfl rfl rfl ?_)
              refine wl_case 94 rfl (fun q5 => ?_) (fun q5 => ?_)
              · have q5' := of_decide_eq_true q5
                repeat (first | refine wl_p rfl rfl rfl ?_ | refine wl_skip rfl rfl rfl ?_)
                refine wl_rem _ rfl (by decide) rfl rfl rfl rfl ?_
                repeat (first | refine wl_p rfl rfl rfl ?_ | refine wl_skip rfl rfl rfl ?_)
                refine wl_case 98 rfl (fun q6 => ?_) (fun q6 => ?_)
                · repeat (first | refine wl_p rfl rfl rfl ?_ | refine wl_skip rfl rfl rfl ?_)
                  exact wl_nil (wk_meet true (by repeat (first | exact trivial | refine ⟨rfl, ?_⟩)) ⟨fun _ => q5', hs⟩)
                · repeat (first | refine wl_p rfl rfl rfl ?_ | refine wl_skip rfl rfl rfl ?_)
                  exact wl_nil (wk_meet _ (by repeat (first | exact trivial | refine ⟨rfl, ?_⟩)) ⟨fun _ => q5', hs⟩)
              · repeat (first | refine wl_p rfl rfl rfl ?_ | refine wl_skip rfl rfl rfl ?_)
                exact wl_nil (wk_meet false (by repeat (first | exact trivial | refine ⟨rfl, ?_⟩)) ⟨fun h => by (cases h), hs⟩)
            · rintro b w ⟨hb, hs⟩
              refine wc_cond rfl (fun q7 => ?_) (fun q7 => ?_)
              · have hge := hb q7
                obtain ⟨kx, hkx1, hkx2⟩ : ∃ k : Nat, k < nodes.length ∧ firstI (fun y => a.to == y) nodes = (k : Int) := by
                  rcases firstI_cases (fun y => a.to == y) nodes with h | h
                  · omega
                  · exact h
                rw [hkx2]
                replace hs := (show St g5 w (H10' ++ ((rb, cellsO [.int .i64 0, .slice none 0 0, .slice none 0 0] 33) :: (H11 ++ F))) from hs.perm (by classical exact List.perm_iff_count.2 fun x => by simp only [List.append_eq, List.set_cons_succ, List.set_cons_zero, List.eraseIdx_cons_zero, List.eraseIdx_cons_succ, List.count_cons, List.count_append, List.cons_append, List.nil_append, List.append_nil, List.append_assoc] <;> ac_rfl))
                have ho10n : OwnS 3 1 (.slice a10 (path.length + 1) c10) (path ++ [kk]).length ((path ++ [kk]).flatMap eNat) H10' := by
                  simp only [List.length_append, List.length_cons, List.length_nil, List.flatMap_append, List.flatMap_cons, List.flatMap_nil, List.append_nil]
                  exact ho10'
                have hcap10 : path.length + 1 ≤ c10 := by
                  rcases ho10' with ⟨e, h1, _⟩ | ⟨b, cap, pad, e, h1, h2, h3, _⟩
                  · omega
                  · cases e; exact h3
                obtain ⟨g6, hg6, hs, hrp⟩ := OwnS.freezeE (e := eNat) (h0 := fun _ => rfl) ho10n hs
                have hpl1 : (path ++ [kk]).length = path.length + 1 := by simp
                repeat (refine wc_seq ?_)
                refine wc_draw 8 [] pp_mix (by kernel_rfl) rfl hs ?_
                repeat (first | refine sg_p rfl rfl ?_ | refine sg_skip rfl rfl ?_)
                refine sg_slice (l1 := 0) (h' := (kx : Int)) rfl rfl rfl (by omega) hcap10 rfl rfl rfl rfl ?_
                repeat (first | refine sg_p rfl rfl ?_ | refine sg_skip rfl rfl ?_)
                refine sg_slice (l1 := (kx : Int)) (h' := ((path.length + 1 : Nat) : Int)) rfl rfl rfl (by omega) hcap10 rfl rfl rfl rfl ?_
                refine sg_build (ps := [(0, .tmp 104), (1, .tmp 107), (2, .tmp 110)]) rfl rfl rfl rfl rfl rfl ?_
                refine sg_end ?_
                intro g7 w hg7
                intro hs
                have r1 := hrp.part 0 kx (Nat.zero_le _) (by omega) hcap10 _ rfl
                have r2 := hrp.part kx (path.length + 1) (by omega) (by omega) hcap10 _ rfl
                refine wl_stN (cs := [.int .i64 start, .slice (if c10 = 0 then a10 else a10.map (·.add (0 * 1))) (kx - 0) (c10 - 0), .slice (if c10 = kx then a10 else a10.map (·.add (kx * 1))) (path.length + 1 - kx) (c10 - kx)]) hs 0 rfl rfl rfl rfl rfl (Nat.le_of_ble_eq_true rfl) rfl rfl ?_
                clear hs; intro w hs
                repeat (refine wl_p rfl rfl rfl ?_)
                refine wl_nil (wk_seq ?_)
                refine wc_retV (resCT (k1 := 0) hs rfl rfl rfl rfl rfl rfl rfl) ⟨g7, [], Ghost.tr hg05 (Ghost.tr hg6 hg7), hs.drop.dropL, rfl, start, _, _, _, _, _, rfl, r1.ofNat.mono hg7, r2.ofNat.mono hg7, ?_, ?_⟩
                · rw [List.length_map, List.length_drop, List.length_take]; omega
                · rw [List.length_map, List.length_drop, List.length_take]; omega
              · refine wc_skip (wk_seq ?_)
                replace hs := (show St g5 w (H11 ++ ((rb, cellsO [.int .i64 0, .slice none 0 0, .slice none 0 0] 33) :: (H10' ++ F))) from hs.perm (by classical exact List.perm_iff_count.2 fun x => by simp only [List.append_eq, List.set_cons_succ, List.set_cons_zero, List.eraseIdx_cons_zero, List.eraseIdx_cons_succ, List.count_cons, List.count_append, List.cons_append, List.nil_append, List.append_nil, List.append_assoc] <;> ac_rfl))
                repeat (refine wc_seq ?_)
                refine wc_region ?_
                repeat (refine wl_p rfl rfl rfl ?_)
                refine wl_push hs ho11 (by omega) rfl rfl rfl rfl rfl rfl rfl rfl rfl rfl rfl rfl rfl rfl ?_
                intro v11' w H11' ho11' hs
                repeat (refine wl_p rfl rfl rfl ?_)
                refine wl_nil (wk_blk (wk_next (a.to, _, v11') hii hctl2 ⟨g5, path ++ [kk], nodes ++ [a.to], H10', H11', hg05, ?_, ?_, by simp [hpl], by simp [hnl], hs.perm (by classical exact List.perm_iff_count.2 fun x => by simp only [List.append_eq, List.set_cons_succ, List.set_cons_zero, List.eraseIdx_cons_zero, List.eraseIdx_cons_succ, List.count_cons, List.count_append, List.cons_append, List.nil_append, List.append_nil, List.append_assoc] <;> ac_rfl)⟩ rfl rfl rfl (by repeat (first | exact trivial | refine ⟨rfl, ?_⟩))))
                · simp only [List.length_append, List.length_cons, List.length_nil, List.flatMap_append, List.flatMap_cons, List.flatMap_nil, List.append_nil]
                  exact ho10'
                · simp only [List.length_append, List.length_cons, List.length_nil, List.flatMap_append, List.flatMap_cons, List.flatMap_nil, List.append_nil]
                  exact ho11'
      · rintro ⟨at0, v10, v11⟩ w ⟨g1, path, nodes, H10, H11, hg1, ho10, ho11, hpl, hnl, hs⟩
        refine wk_seq ?_
        repeat (refine wc_seq ?_)
        refine wc_region ?_
        refine wl_build (ps := []) rfl rfl rfl rfl rfl rfl rfl ?_
        replace hs := (show St g1 w ((rb, cellsO [.int .i64 0, .slice none 0 0, .slice none 0 0] 33) :: ((H10 ++ H11) ++ F)) from hs.perm (by classical exact List.perm_iff_count.2 fun x => by simp only [List.append_eq, List.set_cons_succ, List.set_cons_zero, List.eraseIdx_cons_zero, List.eraseIdx_cons_succ, List.count_cons, List.count_append, List.cons_append, List.nil_append, List.append_nil, List.append_assoc] <;> ac_rfl))
        refine wl_stN hs 0 rfl rfl rfl rfl rfl (Nat.le_of_ble_eq_true rfl) rfl rfl ?_; clear hs; intro w hs
        repeat (refine wl_p rfl rfl rfl ?_)
        refine wl_nil (wk_seq ?_)
        exact wc_retV (resCT (k1 := 0) hs rfl rfl rfl rfl rfl rfl rfl) (nothing g1 w _ hg1 hs)
end Go.Proofs.Ytnanffbjmfgafaa.S

namespace Go.Proofs.Ytnanffbjmfgafaa.S
open Go.RowKit
theorem satF_eq (ms : List Bool) (all : List Nat) (pairs : List (Nat × Nat)) : satF ms all pairs = (all.all (fun k => ms.getD k false) && pairs.all (fun p => !ms.getD p.1 false || ms.getD p.2 false)) := by
  unfold satF lackingF
  cases h1 : all.findIdx? fun k => !ms.getD k false with
  | some i =>
    have : all.all (fun k => ms.getD k false) = false := by
      rw [List.all_eq_false]
      obtain ⟨hi, hp, _⟩ := List.findIdx?_eq_some_iff_getElem.1 h1
      exact ⟨all[i], List.getElem_mem hi, by simpa using hp⟩
    rw [this]; rfl
  | none =>
    have e1 : all.all (fun k => ms.getD k false) = true := by
      rw [List.all_eq_true]
      intro x hx
      have := List.findIdx?_eq_none_iff.1 h1 x hx
      simpa using this
    rw [e1, Bool.true_and]
    cases h2 : pairs.findIdx? fun p => ms.getD p.1 false && !ms.getD p.2 false with
    | some i =>
      have : pairs.all (fun p => !ms.getD p.1 false || ms.getD p.2 false) = false := by
        rw [List.all_eq_false]
        obtain ⟨hi, hp, _⟩ := List.findIdx?_eq_some_iff_getElem.1 h2
        refine ⟨pairs[i], List.getElem_mem hi, ?_⟩
        revert hp
        cases ms.getD pairs[i].1 false <;> cases ms.getD pairs[i].2 false <;> simp
      rw [this]; rfl
    | none =>
      have : pairs.all (fun p => !ms.getD p.1 false || ms.getD p.2 false) = true := by
        rw [List.all_eq_true]
        intro x hx
        have := List.findIdx?_eq_none_iff.1 h2 x hx
        revert this
        cases ms.getD x.1 false <;> cases ms.getD x.2 false <;> simp
      rw [this]; rfl
theorem risesTo_one {m : Int} (h0 : 0 ≤ m) (h1 : m < 16) : rises 16 [m] = true := by
  simp [rises, risesTo, risesAt, h0, h1]
theorem rises_nil (b : Int) : rises b [] = true := rfl
/-- The check of a part of a condition. -/
theorem check_part {n : Int} {init : List Int} {ls : List ArrowI} {all : List Int} {pairs : List (Int × Int)} (h : checkI n init ls all pairs = 0) {all' : List Int} {pairs' : List (Int × Int)} (ha : rises 16 all' = true) (hl : pairs'.length ≤ 16) (hp : ∀ p ∈ pairs', p ∈ pairs) :
    checkI n init ls all' pairs' = 0 := by
  unfold checkI at h ⊢
  split at h
  · cases h
  · rename_i k1
    rw [if_neg k1]
    split at h
    · cases h
    · rename_i k2
      rw [if_neg k2]
      split at h
      · cases h
      · rename_i k3
        rw [if_neg k3]
        split at h
        · cases h
        · rename_i k4
          simp only [Bool.or_eq_true, not_or] at k4
          rw [if_neg]
          simp only [Bool.or_eq_true, not_or]
          refine ⟨⟨by rw [ha]; simp, by simp; omega⟩, ?_⟩
          intro hb
          obtain ⟨p, hp1, hp2⟩ := List.any_eq_true.1 hb
          exact k4.2 (List.any_eq_true.2 ⟨p, hp p hp1, hp2⟩)
section
variable {n : Int} {init : List Int} {ls : List ArrowI} {all : List Int} {pairs : List (Int × Int)} {start : Int} {stem loop : List Int}
theorem accepts_of (h : checkI n init ls all pairs = 0) : acceptsI n init ls all pairs start stem loop = if isRoundF init (ls.map toA) start stem loop = true then (satF (metF (ls.map toA) (loop.map Int.toNat)) (all.map Int.toNat) (pairs.map toP), 0) else (false, 322) := by
  unfold acceptsI
  rw [if_pos h]
theorem parts_mark (h : checkI n init ls all pairs = 0) {m : Int} (hm : m ∈ all) : checkI n init ls [m] [] = 0 := by
  obtain ⟨h0, h1⟩ := (checked h).all.low m hm
  exact check_part h (risesTo_one h0 h1) (by simp) (fun p hp => by cases hp)
theorem parts_pair (h : checkI n init ls all pairs = 0) {p : Int × Int} (hp : p ∈ pairs) : checkI n init ls [] [p] = 0 :=
  check_part h (rises_nil _) (by simp) (fun q hq => by rw [List.mem_singleton.1 hq]; exact hp)
theorem parts_e (h : checkI n init ls all pairs = 0) {all' : List Int} {pairs' : List (Int × Int)} (h' : checkI n init ls all' pairs' = 0) : (acceptsI n init ls all' pairs' start stem loop).2 = (acceptsI n init ls all pairs start stem loop).2 := by
  rw [accepts_of h, accepts_of h']
  split <;> rfl
theorem parts_all (h : checkI n init ls all pairs = 0) (he : (acceptsI n init ls all pairs start stem loop).2 = 0) :
    (acceptsI n init ls all pairs start stem loop).1 = (all.all (fun m => (acceptsI n init ls [m] [] start stem loop).1) && pairs.all (fun p => (acceptsI n init ls [] [p] start stem loop).1)) := by
  have hr : isRoundF init (ls.map toA) start stem loop = true := by
    rw [accepts_of h] at he
    split at he
    · assumption
    · cases he
  have e1 : all.all (fun m => (acceptsI n init ls [m] [] start stem loop).1) = (all.map Int.toNat).all (fun k => (metF (ls.map toA) (loop.map Int.toNat)).getD k false) := by
    rw [List.all_map, Bool.eq_iff_iff, List.all_eq_true, List.all_eq_true]
    refine forall_congr' fun m => forall_congr' fun hm => ?_
    rw [accepts_of (parts_mark h hm), if_pos hr, satF_eq]
    simp
  have e2 : pairs.all (fun p => (acceptsI n init ls [] [p] start stem loop).1) = (pairs.map toP).all (fun p => !(metF (ls.map toA) (loop.map Int.toNat)).getD p.1 false || (metF (ls.map toA) (loop.map Int.toNat)).getD p.2 false) := by
    rw [List.all_map, Bool.eq_iff_iff, List.all_eq_true, List.all_eq_true]
    refine forall_congr' fun m => forall_congr' fun hm => ?_
    rw [accepts_of (parts_pair h hm), if_pos hr, satF_eq]
    simp
  rw [e1, e2, accepts_of h, if_pos hr, satF_eq]
theorem parts_no (h : checkI n init ls all pairs = 0) (he : (acceptsI n init ls all pairs start stem loop).2 ≠ 0) : (acceptsI n init ls all pairs start stem loop).1 = false := by
  rw [accepts_of h] at he ⊢
  split
  · rename_i q; rw [if_pos q] at he; exact absurd rfl he
  · rfl
end
end Go.Proofs.Ytnanffbjmfgafaa.S

namespace Go.Proofs.Ytnanffbjmfgafaa.S
open Go.RowKit
theorem rightB_iff {n : Int} {init : List Int} {ls : List ArrowI} {all : List Int} {pairs : List (Int × Int)} (h : rightB n init ls all pairs = true) : (init.length ≤ 40 ∧ ls.length ≤ 40 ∧ all.length ≤ 40 ∧ pairs.length ≤ 40) ∧ checkI n init ls all pairs = 0 := by
  simp only [rightB, Bool.and_eq_true] at h
  exact ⟨(small_lens h.1).2, by simpa using h.2⟩
def psiTup : Ghost → Value → Own → Prop := fun g v L => L = [] ∧ ∃ (start : Int) (stem loop : List Int) (vs vlo : Value) (b : Bool), v = .tuple #[.agg #[.int .i64 start, vs, vlo], .bool b] ∧ RS kInt g vs stem ∧ RS kInt g vlo loop ∧ stem.length ≤ 60 ∧ loop.length ≤ 60
theorem psiTup_mono : (TY.pred psiTup).Mono := fun _ _ _ _ hle ⟨h0, start, stem, loop, vs, vlo, b, e, r1, r2, k⟩ => ⟨h0, start, stem, loop, vs, vlo, b, e, r1.mono hle, r2.mono hle, k⟩
def psiCs : Ghost → List Value → Prop := fun g cs => ∃ (start : Int) (stem loop : List Int) (vs vlo : Value), cs = [.int .i64 start, vs, vlo] ∧ RS kInt g vs stem ∧ RS kInt g vlo loop ∧ stem.length ≤ 200 ∧ loop.length ≤ 200
theorem psiCs_mono : ∀ g g' cs, g ≤ g' → psiCs g cs → psiCs g' cs := fun _ _ _ hle ⟨start, stem, loop, vs, vlo, e, r1, r2, k⟩ => ⟨start, stem, loop, vs, vlo, e, r1.mono hle, r2.mono hle, k⟩
def psiRd : Ghost → Value → Own → Prop := fun g v L => L = [] ∧ ∃ cs : List Value, v = .agg cs.toArray ∧ cs.length = 3 ∧ cs.all Value.oneCell' = true ∧ psiCs g cs
theorem psiRd_mono : (TY.pred psiRd).Mono := fun _ _ _ _ hle ⟨h0, cs, e, h1, h2, h3⟩ => ⟨h0, cs, e, h1, h2, psiCs_mono _ _ _ hle h3⟩
def psiB : Ghost → Value → Own → Prop := fun _ v L => L = [] ∧ ∃ b : Bool, v = .bool b
theorem parts_spec (g : Ghost) (n : Int) (vi vl va vp : Value) (init : List Int) (ls : List ArrowI) (all : List Int) (pairs : List (Int × Int)) (start : Int) (vs vlo : Value) (stem loop : List Int) (ac : Option Addr) (cc : Nat) (choices : List Int)
    (hi : RS kInt g vi init) (hl : RS kArrI g vl ls) (ha : RS kInt g va all) (hp : RS kPairI g vp pairs) (hst : RS kInt g vs stem) (hlo : RS kInt g vlo loop) (hc : RS kInt g (.slice ac choices.length cc) choices) (hcc : choices.length ≤ cc) :
    Cl PP 6 [.agg #[.int .i64 n, vi, vl, va, vp], .agg #[.int .i64 start, vs, vlo], .slice ac choices.length cc] g [] (Det (.bool true)) := by
  refine cl_intro Try.func6 rfl rfl Try.ntmps6 rfl ?_
  intro w F hs
  repeat (refine wc_seq ?_)
  refine wc_region ?_
  refine wl_box hs rfl rfl rfl rfl ?_; clear hs; intro nb w hs
  refine wl_box hs rfl rfl rfl rfl ?_; clear hs; intro rb w hs
  repeat (refine wl_p rfl rfl rfl ?_)
  refine wl_nil (wk_seq ?_)
  replace hs := (show St g w ((nb, cellsO [.int .i64 n, vi, vl, va, vp] 28) :: (rb, cellsO [.int .i64 start, vs, vlo] 33) :: F) from St.perm (show St g w ((rb, cellsO [.int .i64 start, vs, vlo] 33) :: (nb, cellsO [.int .i64 n, vi, vl, va, vp] 28) :: F) from hs) (by classical exact List.perm_iff_count.2 fun x => by simp only [List.append_eq, List.set_cons_succ, List.set_cons_zero, List.eraseIdx_cons_zero, List.eraseIdx_cons_succ, List.count_cons, List.count_append, List.cons_append, List.nil_append, List.append_nil, List.append_assoc] <;> ac_rfl))
  obtain ⟨g1, hg1, hs, hnb⟩ := freezeB hs
  repeat (refine wc_seq ?_)
  refine wc_region ?_
  refine wl_call (L := []) rfl rfl rfl hs (sane_spec g1) ?_
  rintro u g2 L' w hg2 hs ⟨rfl, rfl⟩
  have hg02 := Ghost.tr hg1 hg2
  replace hnb := hnb.mono hg2
  repeat (refine wl_p rfl rfl rfl ?_)
  refine wl_nil (wk_seq ?_)
  refine wc_condF rfl rfl (wc_skip (wk_seq ?_))
  repeat (refine wc_seq ?_)
  refine wc_region ?_
  refine wl_ldGN (cs := [.int .i64 n, vi, vl, va, vp]) hs hnb.at' rfl rfl rfl rfl rfl rfl ?_
  refine wl_call (L := []) rfl rfl rfl hs (right_spec g2 n _ _ _ _ init ls all pairs (hi.mono hg02) (hl.mono hg02) (ha.mono hg02) (hp.mono hg02)) ?_
  rintro u g3 L' w hg3 hs ⟨rfl, rfl⟩
  have hg03 := Ghost.tr hg02 hg3
  repeat (refine wl_p rfl rfl rfl ?_)
  refine wl_case 25 rfl (fun q1 => ?_) (fun q1 => ?_)
  · repeat (first | refine wl_p rfl rfl rfl ?_ | refine wl_skip rfl rfl rfl ?_)
    refine wl_nil (wk_seq ?_)
    refine wc_condT rfl rfl ?_
    repeat (refine wc_seq ?_)
    refine wc_region ?_
    repeat (refine wl_p rfl rfl rfl ?_)
    refine wl_nil (wk_seq ?_)
    exact wc_retV (res1 rfl rfl) ⟨g3, [], hg03, hs.drop, rfl, rfl⟩
  · have hR : rightB n init ls all pairs = true := by simpa using q1
    obtain ⟨⟨l1, l2, l3, l4⟩, hC⟩ := rightB_iff hR
    repeat (first | refine wl_p rfl rfl rfl ?_ | refine wl_skip rfl rfl rfl ?_)
    refine wl_ldW hs 0 rfl rfl rfl rfl rfl rfl rfl ?_
    refine wl_call (L := []) rfl rfl rfl hs (brief_spec g3 _ _ _ stem loop (hst.mono hg03) (hlo.mono hg03)) ?_
    rintro u g4 L' w hg4 hs ⟨rfl, rfl⟩
    have hg04 := Ghost.tr hg03 hg4
    repeat (first | refine wl_p rfl rfl rfl ?_ | refine wl_skip rfl rfl rfl ?_)
    refine wl_nil (wk_seq ?_)
    refine wc_cond rfl (fun q2 => ?_) (fun q2 => ?_)
    · repeat (refine wc_seq ?_)
      refine wc_region ?_
      repeat (refine wl_p rfl rfl rfl ?_)
      refine wl_nil (wk_seq ?_)
      exact wc_retV (res1 rfl rfl) ⟨g4, [], hg04, hs.drop, rfl, rfl⟩
    · have hBr : briefB stem loop = true := by
        have : (!briefB stem loop) = false := q2
        simpa using this
      simp only [briefB, Bool.and_eq_true, decide_eq_true_eq] at hBr
      have hg24 := Ghost.tr hg3 hg4
      replace hs := (show St g4 w ((rb, cellsO [.int .i64 start, vs, vlo] 33) :: F) from hs)
      refine wc_skip (wk_seq ?_)
      have hminc : (if (60 : Int) < (choices.length : Int) then (60 : Int) else (choices.length : Int)) = ((min choices.length 60 : Nat) : Int) := by split <;> omega
      have hpart := (hc.mono hg04).part 0 (min choices.length 60) (Nat.zero_le _) (Nat.min_le_left _ _) hcc _ rfl
      have hwalk : ∀ g', g4 ≤ g' → Cl PP 25 [vi, vl, .slice (if cc = 0 then ac else ac.map (·.add (0 * kInt.sz))) (min choices.length 60 - 0) (cc - 0)] g' [] RoundPost := fun g' hg' => by
        have hh := hpart.mono hg'
        have e1 : ((choices.take (min choices.length 60)).drop 0).length = min choices.length 60 - 0 := by simp
        generalize (choices.take (min choices.length 60)).drop 0 = xs at hh e1
        rw [← e1, Nat.sub_zero] at hh ⊢
        exact walk_spec g' vi vl _ cc init ls xs (hi.mono (Ghost.tr hg04 hg')) (hl.mono (Ghost.tr hg04 hg')) hh (by omega) l1 l2 (by omega)
      repeat (refine wc_seq ?_)
      refine wc_draw 15 [] pp_mix (by kernel_rfl) rfl hs ?_
      repeat (first | refine sg_p rfl rfl ?_ | refine sg_skip rfl rfl ?_)
      refine sg_ldG (hnb.mono hg24 1 _ rfl) rfl rfl rfl rfl ?_
      repeat (first | refine sg_p rfl rfl ?_ | refine sg_skip rfl rfl ?_)
      refine sg_ldG (hnb.mono hg24 2 _ rfl) rfl rfl rfl rfl ?_
      repeat (first | refine sg_p rfl rfl ?_ | refine sg_skip rfl rfl ?_)
      refine sg_min rfl rfl rfl ?_
      rw [hminc]
      refine sg_slice (l1 := 0) (h' := ((min choices.length 60 : Nat) : Int)) rfl rfl rfl (by omega) hcc rfl rfl rfl rfl ?_
      refine sg_call (post := RoundPost) [] [] rfl rfl rfl (fun g' hg' => hwalk g' hg') ?_
      refine sg_derW (Ψ := psiTup) 40 rfl psiTup_mono rfl rfl (fun _ => rfl) (fun g1 v L' _ h => ⟨v, fun w => pureV_ok (by simp [pureV, ev, look]) w _ _ _ _ _, by obtain ⟨g2, hle, _, start, stem, loop, vs, vlo, b, e, r1, r2, k1, k2⟩ := h; exact ⟨rfl, start, stem, loop, vs, vlo, b, e, r1.mono hle, r2.mono hle, k1, k2⟩⟩) ?_
      refine sg_derW (Ψ := psiRd) 30 rfl psiRd_mono rfl rfl (fun _ => rfl) (fun g1 v L' _ h => by
        obtain ⟨_, start, stem, loop, vs, vlo, b, rfl, r1, r2, k1, k2⟩ := h
        exact ⟨.agg #[.int .i64 start, vs, vlo], fun w => pureV_ok (by simp [pureV, ev, look]) w _ _ _ _ _, rfl, [.int .i64 start, vs, vlo], rfl, rfl, by simp only [List.all_cons, List.all_nil, r1.one, r2.one]; rfl, start, stem, loop, vs, vlo, rfl, r1, r2, by omega, by omega⟩) ?_
      refine sg_derW (Ψ := psiB) 30 rfl (fun _ _ _ _ _ h => h) rfl rfl (fun _ => rfl) (fun g1 v L' _ h => by
        obtain ⟨_, start, stem, loop, vs, vlo, b, rfl, r1, r2, k1, k2⟩ := h
        exact ⟨.bool b, fun w => pureV_ok (by simp [pureV, ev, look]) w _ _ _ _ _, rfl, b, rfl⟩) ?_
      refine sg_newP (n := 3) (ψ := psiCs) psiCs_mono (fun g => ⟨0, [], [], _, _, rfl, RS.nil _ _ _ _, RS.nil _ _ _ _, by simp, by simp⟩) rfl rfl rfl ?_
      refine sg_stM (n := 3) (ψ := psiCs) rfl rfl (fun g v L' ⟨_, cs, e, h1, h2, h3⟩ => ⟨cs, e, h1, h2, h3⟩) rfl rfl rfl rfl rfl rfl ?_
      refine sg_end ?_
      intro g5 w hg5
      rintro _ _ ⟨_, _, rfl, _⟩ _ _ ⟨rfl, _⟩ _ _ ⟨rfl, _⟩ v42 _ ⟨rfl, b42, rfl⟩ _ _ ⟨cb, cs7, rfl, rfl, hl7, start7, stem7, loop7, vs7, vlo7, rfl, r17, r27, k17, k27⟩ hs
      have hg05 := Ghost.tr hg04 hg5
      have hg25 := Ghost.tr hg24 hg5
      repeat (refine wl_p rfl rfl rfl ?_)
      refine wl_nil (wk_seq ?_)
      replace hs := (show St g5 w ((cb, cellsO [.int .i64 start7, vs7, vlo7] 33) :: (rb, cellsO [.int .i64 start, vs, vlo] 33) :: F) from hs)
      repeat (refine wc_seq ?_)
      refine wc_region ?_
      repeat (refine wl_p rfl rfl rfl ?_)
      refine wl_nil (wk_seq ?_)
      have hst5 := hst.mono hg05
      have hlo5 := hlo.mono hg05
      refine wc_meetK (fun (_ : Unit) => [(3, .pointer (some ⟨nb, 0, none⟩)), (4, .pointer (some ⟨rb, 0, none⟩))])
        (fun _ w => ∃ start stem loop vs vlo, RS kInt g5 vs stem ∧ RS kInt g5 vlo loop ∧ stem.length ≤ 200 ∧ loop.length ≤ 200 ∧ St g5 w ((rb, cellsO [.int .i64 start, vs, vlo] 33) :: F)) ?_ ?_
      · refine wc_cond rfl (fun q3 => ?_) (fun q3 => ?_)
        · repeat (refine wc_seq ?_)
          refine wc_region ?_
          refine wl_ldW hs 0 rfl rfl rfl rfl rfl rfl rfl ?_
          refine wl_stN (cs := [.int .i64 start7, vs7, vlo7]) hs 1 rfl rfl rfl rfl rfl (Nat.le_of_ble_eq_true rfl) (by simp only [List.all_cons, List.all_nil, r17.one, r27.one]; rfl) rfl ?_
          clear hs; intro w hs
          exact wl_nil (wk_meet () (by repeat (first | exact trivial | refine ⟨rfl, ?_⟩)) ⟨start7, stem7, loop7, vs7, vlo7, r17, r27, k17, k27, hs.drop⟩)
        · exact wc_skip (wk_meet () (by repeat (first | exact trivial | refine ⟨rfl, ?_⟩)) ⟨start, stem, loop, vs, vlo, hst5, hlo5, by omega, hBr.2, hs.drop⟩)
      · clear hs
        rintro _ w ⟨start, stem, loop, vs, vlo, hst, hlo, hsl, hll, hs⟩
        have hi5 := hi.mono hg05
        have hl5 := hl.mono hg05
        have ha5 := ha.mono hg05
        have hp5 := hp.mono hg05
        have hnb5 := hnb.mono hg25
        repeat (refine wc_seq ?_)
        refine wc_region ?_
        repeat (refine wl_p rfl rfl rfl ?_)
        refine wl_ldG hs (hnb5 0 _ rfl) rfl rfl rfl rfl rfl ?_
        repeat (refine wl_p rfl rfl rfl ?_)
        refine wl_ldG hs (hnb5 1 _ rfl) rfl rfl rfl rfl rfl ?_
        repeat (refine wl_p rfl rfl rfl ?_)
        refine wl_ldG hs (hnb5 2 _ rfl) rfl rfl rfl rfl rfl ?_
        repeat (refine wl_p rfl rfl rfl ?_)
        refine wl_ldGN (cs := [va, vp]) hs hnb5.at3 rfl rfl rfl rfl rfl rfl ?_
        refine wl_ldW hs 0 rfl rfl rfl rfl rfl rfl rfl ?_
        refine wl_call (L := []) rfl rfl rfl hs (accepts_spec g5 n _ _ _ _ _ _ init ls all pairs start stem loop hi5 hl5 ha5 hp5 hst hlo (by omega) (by omega) (by omega) (by omega) (by omega) (by omega)) ?_
        rintro u g6 L' w hg6 hs ⟨rfl, rfl⟩
        replace hs := (show St g6 w ((rb, cellsO [.int .i64 start, vs, vlo] 33) :: F) from hs)
        repeat (refine wl_p rfl rfl rfl ?_)
        refine wl_nil (wk_seq ?_)
        repeat (refine wc_seq ?_)
        refine wc_region ?_
        repeat (refine wl_p rfl rfl rfl ?_)
        refine wl_nil (wk_seq ?_)
        repeat (refine wc_seq ?_)
        refine wc_region ?_
        repeat (refine wl_p rfl rfl rfl ?_)
        refine wl_ldG hs (hnb5.mono hg6 3 _ rfl) rfl rfl rfl rfl rfl ?_
        obtain ⟨aa, ca, rfl⟩ := ha.form
        have hs6 : St g6 w ((rb, cellsO [.int .i64 start, vs, vlo] 33) :: F) := by assumption
        repeat (refine wl_p rfl rfl rfl ?_)
        refine wl_nil (wk_seq ?_)
        have hl3 : all.length ≤ 4611686018427387904 := by omega
        refine wc_for all.length (fun i (_ : Unit) => [(61, .int .i64 all.length), (60, .slice aa all.length ca), (11, .bool ((all.take i).all fun m => (acceptsI n init ls [m] [] start stem loop).1)), (3, .pointer (some ⟨nb, 0, none⟩)), (4, .pointer (some ⟨rb, 0, none⟩)), (9, .bool (acceptsI n init ls all pairs start stem loop).1), (10, .int .i64 (acceptsI n init ls all pairs start stem loop).2)])
          (fun i (_ : Unit) w => ∃ g', g6 ≤ g' ∧ St g' w ((rb, cellsO [.int .i64 start, vs, vlo] 33) :: F)) () hl3 (by repeat (first | exact trivial | refine ⟨rfl, ?_⟩)) ⟨g6, Ghost.rfl', hs6⟩ (fun _ _ => rfl) rfl rfl rfl ?_ ?_ (fun _ _ => rfl) rfl
        · rintro i _ w hii ⟨g7, hg7, hs⟩
          have hg57 := Ghost.tr hg6 hg7
          have hb := ha.base hii
          have hcm := (ha5.mono hg57).int hii
          have hsn : ((all.take (i + 1)).all fun m => (acceptsI n init ls [m] [] start stem loop).1) = (((all.take i).all fun m => (acceptsI n init ls [m] [] start stem loop).1) && (acceptsI n init ls [all[i]] [] start stem loop).1) := by rw [take_snoc hii, List.all_append]; simp
          have he : (acceptsI n init ls [all[i]] [] start stem loop).2 = (acceptsI n init ls all pairs start stem loop).2 := parts_e hC (parts_mark hC (List.getElem_mem hii))
          generalize all[i] = m at hcm hsn he
          repeat (refine wc_seq ?_)
          refine wc_region ?_
          refine wl_ix rfl rfl rfl rfl rfl (by omega) hb rfl rfl ?_
          refine wl_ldG hs (hcm) rfl rfl rfl rfl rfl ?_
          repeat (refine wl_p rfl rfl rfl ?_)
          refine wl_nil (wk_seq ?_)
          repeat (refine wc_seq ?_)
          refine wc_region ?_
          repeat (refine wl_p rfl rfl rfl ?_)
          refine wl_ldG hs (hnb5.mono hg57 0 _ rfl) rfl rfl rfl rfl rfl ?_
          repeat (refine wl_p rfl rfl rfl ?_)
          refine wl_ldG hs (hnb5.mono hg57 1 _ rfl) rfl rfl rfl rfl rfl ?_
          repeat (refine wl_p rfl rfl rfl ?_)
          refine wl_ldG hs (hnb5.mono hg57 2 _ rfl) rfl rfl rfl rfl rfl ?_
          repeat (refine wl_p rfl rfl rfl ?_)
          refine wl_lit (ps := [(0, .tmp 73)]) hs rfl rfl rfl rfl rfl rfl rfl rfl rfl rfl ?_
          clear hs; intro mb w hs
          refine wl_build (ps := [(0, .tmp 74)]) rfl rfl rfl rfl rfl rfl rfl ?_
          refine wl_ldW hs 1 rfl rfl rfl rfl rfl rfl rfl ?_
          obtain ⟨g8, hg8, hs, hmb⟩ := freezeB hs
          have hg58 := Ghost.tr hg57 hg8
          have rm : RS kInt g8 (.slice (some ⟨mb, 0, none⟩) 1 1) [m] := RS.ofFlat [m] rfl hmb
          refine wl_call (L := []) rfl rfl rfl hs (accepts_spec g8 n _ _ _ _ _ _ init ls [m] [] start stem loop (hi5.mono hg58) (hl5.mono hg58) rm (RS.nil _ _ _ _) (hst.mono hg58) (hlo.mono hg58) (by omega) (by omega) (by simp) (by simp) (by omega) (by omega)) ?_
          rintro u g9 L' w hg9 hs ⟨rfl, rfl⟩
          replace hs := (show St g9 w ((rb, cellsO [.int .i64 start, vs, vlo] 33) :: F) from hs)
          have hg69 := Ghost.tr hg7 (Ghost.tr hg8 hg9)
          rw [he]
          repeat (refine wl_p rfl rfl rfl ?_)
          refine wl_nil (wk_seq ?_)
          have fin : ∀ (s : Bool), s = (((all.take i).all fun m => (acceptsI n init ls [m] [] start stem loop).1) && (acceptsI n init ls [m] [] start stem loop).1) → ((all.take (i + 1)).all fun m => (acceptsI n init ls [m] [] start stem loop).1) = s := fun s h => by rw [hsn, h]
          repeat (refine wc_seq ?_)
          refine wc_region ?_
          repeat (refine wl_p rfl rfl rfl ?_)
          generalize hea : ((all.take i).all fun m => (acceptsI n init ls [m] [] start stem loop).1) = ea at fin
          generalize (acceptsI n init ls [m] [] start stem loop).1 = em at fin
          refine wl_case 81 rfl (fun qa => ?_) (fun qa => ?_)
          · rw [qa, Bool.true_and] at fin
            repeat (first | refine wl_p rfl rfl rfl ?_ | refine wl_skip rfl rfl rfl ?_)
            refine wl_nil (wk_seq ?_)
            repeat (refine wc_seq ?_)
            refine wc_region ?_
            repeat (refine wl_p rfl rfl rfl ?_)
            refine wl_nil (wk_seq ?_)
            refine wc_condF rfl (by simp) (wc_skip (wk_blk (wk_next () hii hl3 ⟨g9, hg69, hs⟩ rfl rfl rfl ⟨rfl, rfl, (by rw [fin em rfl]; rfl), (by repeat (first | exact trivial | refine ⟨rfl, ?_⟩))⟩)))
          · rw [qa, Bool.false_and] at fin
            repeat (first | refine wl_p rfl rfl rfl ?_ | refine wl_skip rfl rfl rfl ?_)
            refine wl_nil (wk_seq ?_)
            repeat (refine wc_seq ?_)
            refine wc_region ?_
            repeat (refine wl_p rfl rfl rfl ?_)
            refine wl_nil (wk_seq ?_)
            refine wc_condF rfl (by simp) (wc_skip (wk_blk (wk_next () hii hl3 ⟨g9, hg69, hs⟩ rfl rfl rfl ⟨rfl, rfl, (by rw [fin false rfl]; rfl), (by repeat (first | exact trivial | refine ⟨rfl, ?_⟩))⟩)))
        · rintro _ w ⟨g7, hg7, hs⟩
          rw [List.take_length]
          have hg57 := Ghost.tr hg6 hg7
          refine wk_seq ?_
          repeat (refine wc_seq ?_)
          refine wc_region ?_
          repeat (refine wl_p rfl rfl rfl ?_)
          refine wl_ldG hs (hnb5.mono hg57 4 _ rfl) rfl rfl rfl rfl rfl ?_
          obtain ⟨ap, cp, rfl⟩ := hp.form
          have hs7 : St g7 w ((rb, cellsO [.int .i64 start, vs, vlo] 33) :: F) := by assumption
          repeat (refine wl_p rfl rfl rfl ?_)
          refine wl_nil (wk_seq ?_)
          have hl4 : pairs.length ≤ 4611686018427387904 := by omega
          refine wc_for pairs.length (fun i (_ : Unit) => [(91, .int .i64 pairs.length), (90, .slice ap pairs.length cp), (11, .bool ((all.all fun m => (acceptsI n init ls [m] [] start stem loop).1) && (pairs.take i).all fun p => (acceptsI n init ls [] [p] start stem loop).1)), (3, .pointer (some ⟨nb, 0, none⟩)), (4, .pointer (some ⟨rb, 0, none⟩)), (9, .bool (acceptsI n init ls all pairs start stem loop).1), (10, .int .i64 (acceptsI n init ls all pairs start stem loop).2)])
            (fun i (_ : Unit) w => ∃ g', g7 ≤ g' ∧ St g' w ((rb, cellsO [.int .i64 start, vs, vlo] 33) :: F)) () hl4 ⟨rfl, rfl, rfl, (by rw [List.take_zero, List.all_nil, Bool.and_true]; rfl), (by repeat (first | exact trivial | refine ⟨rfl, ?_⟩))⟩ ⟨g7, Ghost.rfl', hs7⟩ (fun _ _ => rfl) rfl rfl rfl ?_ ?_ (fun _ _ => rfl) rfl
          · rintro i _ w hii ⟨g8, hg8, hs⟩
            have hg58 := Ghost.tr hg57 hg8
            have hb := hp.base hii
            have hcE := Lies.of_eaddr ((hp5.mono hg58).enc hii)
            have hsn : ((all.all fun m => (acceptsI n init ls [m] [] start stem loop).1) && (pairs.take (i + 1)).all fun p => (acceptsI n init ls [] [p] start stem loop).1) = (((all.all fun m => (acceptsI n init ls [m] [] start stem loop).1) && (pairs.take i).all fun p => (acceptsI n init ls [] [p] start stem loop).1) && (acceptsI n init ls [] [pairs[i]] start stem loop).1) := by rw [take_snoc hii, List.all_append]; simp [Bool.and_assoc]
            have he : (acceptsI n init ls [] [pairs[i]] start stem loop).2 = (acceptsI n init ls all pairs start stem loop).2 := parts_e hC (parts_pair hC (List.getElem_mem hii))
            generalize pairs[i] = p at hcE hsn he
            repeat (refine wc_seq ?_)
            refine wc_region ?_
            refine wl_ix rfl rfl rfl rfl rfl (by omega) hb rfl rfl ?_
            refine wl_ldGN (cs := ePairI p) hs hcE rfl rfl rfl rfl rfl rfl ?_
            refine wl_new hs rfl rfl rfl ?_; clear hs; intro qb w hs
            refine wl_stN (cs := ePairI p) hs 0 rfl rfl rfl rfl rfl (Nat.le_of_ble_eq_true rfl) rfl rfl ?_
            clear hs; intro w hs
            refine wl_nil (wk_seq ?_)
            repeat (refine wc_seq ?_)
            refine wc_region ?_
            repeat (refine wl_p rfl rfl rfl ?_)
            refine wl_ldG hs (hnb5.mono hg58 0 _ rfl) rfl rfl rfl rfl rfl ?_
            repeat (refine wl_p rfl rfl rfl ?_)
            refine wl_ldG hs (hnb5.mono hg58 1 _ rfl) rfl rfl rfl rfl rfl ?_
            repeat (refine wl_p rfl rfl rfl ?_)
            refine wl_ldG hs (hnb5.mono hg58 2 _ rfl) rfl rfl rfl rfl rfl ?_
            repeat (refine wl_p rfl rfl rfl ?_)
            refine wl_ldW hs 0 rfl rfl rfl rfl rfl rfl rfl ?_
            refine wl_lit (ps := [(0, .tmp 103)]) hs rfl rfl rfl rfl rfl rfl rfl rfl rfl rfl ?_
            clear hs; intro mb w hs
            refine wl_build (ps := [(1, .tmp 104)]) rfl rfl rfl rfl rfl rfl rfl ?_
            refine wl_ldW hs 2 rfl rfl rfl rfl rfl rfl rfl ?_
            obtain ⟨g9, hg9, hs, hmb⟩ := freezeB hs
            have hg59 := Ghost.tr hg58 hg9
            have rm : RS kPairI g9 (.slice (some ⟨mb, 0, none⟩) 1 1) [p] := RS.ofFlat [p] rfl hmb
            refine wl_call (L := []) rfl rfl rfl hs (accepts_spec g9 n _ _ _ _ _ _ init ls [] [p] start stem loop (hi5.mono hg59) (hl5.mono hg59) (RS.nil _ _ _ _) rm (hst.mono hg59) (hlo.mono hg59) (by omega) (by omega) (by simp) (by simp) (by omega) (by omega)) ?_
            rintro u g10 L' w hg10 hs ⟨rfl, rfl⟩
            replace hs := (show St g10 w ((rb, cellsO [.int .i64 start, vs, vlo] 33) :: F) from St.drop (p := (qb, cellsO (ePairI p) 46)) hs)
            have hg710 := Ghost.tr hg8 (Ghost.tr hg9 hg10)
            rw [he]
            repeat (refine wl_p rfl rfl rfl ?_)
            refine wl_nil (wk_seq ?_)
            repeat (refine wc_seq ?_)
            refine wc_region ?_
            repeat (refine wl_p rfl rfl rfl ?_)
            generalize hea : ((all.all fun m => (acceptsI n init ls [m] [] start stem loop).1) && (pairs.take i).all fun p => (acceptsI n init ls [] [p] start stem loop).1) = ea at hsn
            generalize (acceptsI n init ls [] [p] start stem loop).1 = em at hsn
            refine wl_case 111 rfl (fun qa => ?_) (fun qa => ?_)
            · rw [qa, Bool.true_and] at hsn
              repeat (first | refine wl_p rfl rfl rfl ?_ | refine wl_skip rfl rfl rfl ?_)
              refine wl_nil (wk_seq ?_)
              repeat (refine wc_seq ?_)
              refine wc_region ?_
              repeat (refine wl_p rfl rfl rfl ?_)
              refine wl_nil (wk_seq ?_)
              refine wc_condF rfl (by simp) (wc_skip (wk_blk (wk_next () hii hl4 ⟨g10, hg710, hs⟩ rfl rfl rfl ⟨rfl, rfl, (by rw [hsn]; rfl), (by repeat (first | exact trivial | refine ⟨rfl, ?_⟩))⟩)))
            · rw [qa, Bool.false_and] at hsn
              repeat (first | refine wl_p rfl rfl rfl ?_ | refine wl_skip rfl rfl rfl ?_)
              refine wl_nil (wk_seq ?_)
              repeat (refine wc_seq ?_)
              refine wc_region ?_
              repeat (refine wl_p rfl rfl rfl ?_)
              refine wl_nil (wk_seq ?_)
              refine wc_condF rfl (by simp) (wc_skip (wk_blk (wk_next () hii hl4 ⟨g10, hg710, hs⟩ rfl rfl rfl ⟨rfl, rfl, (by rw [hsn]; rfl), (by repeat (first | exact trivial | refine ⟨rfl, ?_⟩))⟩)))
          · rintro _ w ⟨g8, hg8, hs⟩
            rw [List.take_length]
            have hg08 := Ghost.tr hg05 (Ghost.tr hg57 hg8)
            refine wk_seq ?_
            repeat (refine wc_seq ?_)
            refine wc_region ?_
            repeat (refine wl_p rfl rfl rfl ?_)
            by_cases he0 : (acceptsI n init ls all pairs start stem loop).2 = 0
            · have hpa := parts_all hC he0
              rw [he0, ← hpa]
              repeat (first | refine wl_p rfl rfl rfl ?_ | refine wl_skip rfl rfl rfl ?_)
              refine wl_eqB true (by simp) rfl rfl rfl rfl rfl rfl ?_
              repeat (first | refine wl_p rfl rfl rfl ?_ | refine wl_skip rfl rfl rfl ?_)
              refine wl_nil (wk_seq ?_)
              exact wc_retV (res1 rfl rfl) ⟨g8, [], hg08, hs.drop, rfl, rfl⟩
            · rw [parts_no hC he0]
              refine wl_case 120 rfl (fun qz => ?_) (fun qz => ?_)
              · repeat (first | refine wl_p rfl rfl rfl ?_ | refine wl_skip rfl rfl rfl ?_)
                refine wl_nil (wk_seq ?_)
                exact wc_retV (res1 rfl rfl) ⟨g8, [], hg08, hs.drop, rfl, rfl⟩
              · exfalso
                have : ((acceptsI n init ls all pairs start stem loop).2 != 0) = false := qz
                exact he0 (by simpa using this)
end Go.Proofs.Ytnanffbjmfgafaa.S

namespace Go.Proofs.Ytnanffbjmfgafaa.S
open Go.RowKit
theorem ghostOf_cell (W : World) (a : Addr) : (ghostOf W).cell a = W.cell? a := rfl
theorem okWide_agg {P : Program} [Tabbed P] {t : Nat} {te : TE} {fs : List (Nat × Nat)} {W : World} {base : Nat} {v : Value} (h : tabAt (tb P) t = some te) (hd : te.td = .struct fs) (hv : Value.okWide P W .any base t v) : ∃ cs : List Value, v = .agg cs.toArray := by
  obtain ⟨l, hl1, _⟩ := und_struct h hd
  unfold Value.okWide at hv
  rw [hl1] at hv
  obtain ⟨cs, rfl, _⟩ := hv
  exact ⟨cs.toList, rfl⟩
theorem okWide_sl {P : Program} [Tabbed P] {t e : Nat} {te : TE} {W : World} {base : Nat} {v : Value} (h : tabAt (tb P) t = some te) (hd : te.td = .slice e) (hv : Value.okWide P W .any base t v) : ∃ a n c, v = .slice a n c := by
  obtain ⟨a, n, c, e⟩ := WideShapes.okWide_slice (und_slice h hd) hv
  exact ⟨a, n, c, e⟩
section
variable {P : Program} [Tabbed P] {H : Type} {enc : TypeId × Value → H} {W : World} {spare : Nat → Bool} {held : Bool} {fuel : Nat} {cs : List Value} {x : DataW H × List MemPlace}
theorem tab_cells {t : Nat} {te : TE} (h : tabAt (tb P) t = some te) : P.cellsOf t = te.zs.length := by
  obtain ⟨i, h1, h2, _⟩ := tab_info h
  simp [Program.cellsOf, h1, h2]
theorem in_int {t : Nat} {te : TE} {k : IntKind} (h : tabAt (tb P) t = some te) (hd : te.td = .int k) (hx : DataW.trod enc P W 0 spare held fuel t cs = some x) : ∃ n, cs = [.int k n] ∧ (Lit.int k n).wf = true := by
  obtain ⟨n, h1, _, h2⟩ := DataW.trod_int (und_int h hd) hx
  exact ⟨n, h1, h2⟩
theorem in_slice {α : Type} {K : Kd α} {t e : Nat} {te ee : TE} (h : tabAt (tb P) t = some te) (hd : te.td = .slice e) (he : tabAt (tb P) e = some ee) (hz : ee.zs.length = K.sz) (hpos : 0 < K.sz)
    (hel : ∀ n cs' y, DataW.trod enc P W 0 spare held n e cs' = some y → ∃ x, K.R (ghostOf W) cs' x) (hx : DataW.trod enc P W 0 spare held fuel t cs = some x) :
    ∃ a xs cap, cs = [.slice a xs.length cap] ∧ RS K (ghostOf W) (.slice a xs.length cap) xs ∧ xs.length ≤ cap := by
  have hc : P.cellsOf e = K.sz := (tab_cells he).trans hz
  rcases Deep.open_slice (und_slice h hd) hx with ⟨rfl, _⟩ | ⟨a, len, cap, m, n, D, Pl, rfl, _, hl, _, hm, _, hall⟩
  · exact ⟨none, [], 0, rfl, RS.nil _ _ _ _, Nat.le_refl _⟩
  · rw [hc] at hall
    have hlm : len ≤ m := by rw [hm]; split <;> omega
    have key : ∀ k, k ≤ len → ∃ xs : List α, xs.length = k ∧ ∀ i (hi : i < xs.length), ∃ cs', W.cells? 0 (a.add (i * K.sz)) K.sz = some cs' ∧ K.R (ghostOf W) cs' xs[i] := by
      intro k
      induction k with
      | zero => intro _; exact ⟨[], rfl, fun i hi => by simp at hi⟩
      | succ k ih =>
        intro hk
        obtain ⟨xs, h1, h2⟩ := ih (by omega)
        obtain ⟨cs', q1, q2⟩ := hall k (by omega)
        obtain ⟨y, hy⟩ := hel _ _ _ q2
        refine ⟨xs ++ [y], by simp [h1], fun i hi => ?_⟩
        by_cases hik : i < xs.length
        · rw [List.getElem_append_left hik]; exact h2 i hik
        · have : i = xs.length := by simp at hi; omega
          subst this
          rw [List.getElem_append_right (Nat.le_refl _)]
          simp only [Nat.sub_self, List.getElem_cons_zero]
          rw [h1]
          exact ⟨cs', q1, hy⟩
    obtain ⟨xs, h1, h2⟩ := key len (Nat.le_refl _)
    subst h1
    refine ⟨some a, xs, cap, rfl, ⟨some a, cap, rfl, ?_⟩, hl⟩
    by_cases hx0 : xs = []
    · exact .inl hx0
    · right
      have h0 : 0 < xs.length := List.length_pos_iff.2 hx0
      obtain ⟨cs0, q1, _⟩ := h2 0 h0
      obtain ⟨_, q2, q3⟩ := World.cells?_some q1
      have hsp : a.spot = none := by
        have := q3 0 hpos
        rw [Nat.zero_mul] at this
        have ea : (a.add 0).add 0 = a := by simp [Addr.add]
        rw [ea, List.getElem?_eq_getElem (by omega)] at this
        unfold World.cell? at this
        split at this
        · split at this
          · cases this
          · rename_i hs; simpa using hs
        · cases this
      obtain ⟨b, o, sp⟩ := a
      simp only at hsp
      subst hsp
      refine ⟨b, o, rfl, fun i hi => ?_⟩
      obtain ⟨cs', q1, q2⟩ := h2 i hi
      obtain ⟨_, q3, q4⟩ := World.cells?_some q1
      refine ⟨cs', q2, fun j u hu => ?_⟩
      have hj : j < K.sz := by rw [← q3]; exact (List.getElem?_eq_some_iff.1 hu).1
      have := q4 j hj
      rw [hu, addr_add, addr_add] at this
      exact this
theorem in_field {t : Nat} {te : TE} {fs : List (Nat × Nat)} (h : tabAt (tb P) t = some te) (hd : te.td = .struct fs) (hx : DataW.trod enc P W 0 spare held fuel t cs = some x) :
    cs.length = te.zs.length ∧ ∀ (j off ft : Nat) (fte : TE), fs[j]? = some (off, ft) → tabAt (tb P) ft = some fte → ∃ n y, DataW.trod enc P W 0 spare held n ft ((cs.drop off).take fte.zs.length) = some y := by
  obtain ⟨l, hl1, hl2⟩ := und_struct h hd
  obtain ⟨xs, n, _, _, h1, h2, h3⟩ := DataW.trod_struct hl1 hx
  refine ⟨h1.trans (tab_cells h), fun j off ft fte hj hf => ?_⟩
  rw [← hl2, List.getElem?_map, Option.map_eq_some_iff] at hj
  obtain ⟨f, hf1, hf2⟩ := hj
  simp only [Prod.mk.injEq] at hf2
  have hj' : l[j]? = some f := by simpa using hf1
  have := h3 j f hj'
  rw [hf2.1, hf2.2, tab_cells hf] at this
  have hlt : j < xs.length := by rw [h2]; exact (Array.getElem?_eq_some_iff.1 hj').1
  exact ⟨n, xs[j], by rw [this, List.getElem?_eq_getElem hlt]⟩
theorem in_array {t m e : Nat} {te ee : TE} (h : tabAt (tb P) t = some te) (hd : te.td = .array m e) (he : tabAt (tb P) e = some ee) (hx : DataW.trod enc P W 0 spare held fuel t cs = some x) :
    cs.length = te.zs.length ∧ ∀ i, i < m → ∃ n y, DataW.trod enc P W 0 spare held n e ((cs.drop (i * ee.zs.length)).take ee.zs.length) = some y := by
  obtain ⟨xs, n, _, _, h1, h2, h3⟩ := DataW.trod_array (und_array h hd) hx
  refine ⟨h1.trans (tab_cells h), fun i hi => ?_⟩
  have := h3 i hi
  rw [tab_cells he] at this
  exact ⟨n, xs[i], by rw [this, List.getElem?_eq_getElem (by omega)]⟩
end
section
variable {H : Type} {enc : TypeId × Value → H} {W : World} {spare : Nat → Bool} {held : Bool} {fuel : Nat} {cs : List Value} {x : DataW H × List MemPlace}
theorem in_ints (h : DataW.trod enc PP W 0 spare held fuel 22 cs = some x) : ∃ a xs cap, cs = [.slice a xs.length cap] ∧ RS kInt (ghostOf W) (.slice a xs.length cap) xs ∧ xs.length ≤ cap :=
  in_slice (K := kInt) rfl rfl rfl rfl (by decide) (fun n cs' y hy => by
    obtain ⟨m, h1, _⟩ := in_int rfl rfl hy
    exact ⟨m, h1⟩) h
theorem list3 {α : Type} : ∀ {l : List α}, l.length = 3 → ∃ a b c, l = [a, b, c]
  | [a, b, c], _ => ⟨a, b, c, rfl⟩
theorem list2 {α : Type} : ∀ {l : List α}, l.length = 2 → ∃ a b, l = [a, b]
  | [a, b], _ => ⟨a, b, rfl⟩
theorem list5 {α : Type} : ∀ {l : List α}, l.length = 5 → ∃ a b c d e, l = [a, b, c, d, e]
  | [a, b, c, d, e], _ => ⟨a, b, c, d, e, rfl⟩
theorem wf_u32 {n : Int} (h : (Lit.int .u32 n).wf = true) : 0 ≤ n := by
  simp only [Lit.wf, Bool.and_eq_true, decide_eq_true_eq] at h
  have : IntKind.u32.min = 0 := rfl
  omega
theorem in_arrow (h : DataW.trod enc PP W 0 spare held fuel 56 cs = some x) : ∃ a, cs = eArrI a := by
  obtain ⟨h1, h2⟩ := in_field (P := PP) (t := 56) rfl rfl h
  obtain ⟨c1, c2, c3, rfl⟩ := list3 h1
  obtain ⟨n1, y1, q1⟩ := h2 0 _ _ _ rfl rfl
  obtain ⟨n2, y2, q2⟩ := h2 1 _ _ _ rfl rfl
  obtain ⟨n3, y3, q3⟩ := h2 2 _ _ _ rfl rfl
  obtain ⟨m1, e1, _⟩ := in_int (P := PP) rfl rfl q1
  obtain ⟨m2, e2, _⟩ := in_int (P := PP) rfl rfl q2
  obtain ⟨m3, e3, w3⟩ := in_int (P := PP) rfl rfl q3
  have f1 : c1 = .int .i64 m1 := by simpa using e1
  have f2 : c2 = .int .i64 m2 := by simpa using e2
  have f3 : c3 = .int .u32 m3 := by simpa using e3
  have h0 := wf_u32 w3
  refine ⟨⟨m1, m2, m3.toNat⟩, ?_⟩
  rw [f1, f2, f3]
  simp only [eArrI, Int.toNat_of_nonneg h0]
theorem in_arrows (h : DataW.trod enc PP W 0 spare held fuel 23 cs = some x) : ∃ a xs cap, cs = [.slice a xs.length cap] ∧ RS kArrI (ghostOf W) (.slice a xs.length cap) xs ∧ xs.length ≤ cap :=
  in_slice (K := kArrI) rfl rfl rfl rfl (by decide) (fun n cs' y hy => in_arrow hy) h
theorem in_pair (h : DataW.trod enc PP W 0 spare held fuel 46 cs = some x) : ∃ p, cs = ePairI p := by
  obtain ⟨h1, h2⟩ := in_array (P := PP) (t := 46) rfl rfl rfl h
  obtain ⟨c1, c2, rfl⟩ := list2 h1
  obtain ⟨n1, y1, q1⟩ := h2 0 (by decide)
  obtain ⟨n2, y2, q2⟩ := h2 1 (by decide)
  obtain ⟨m1, e1, _⟩ := in_int (P := PP) rfl rfl q1
  obtain ⟨m2, e2, _⟩ := in_int (P := PP) rfl rfl q2
  have f1 : c1 = .int .i64 m1 := by simpa using e1
  have f2 : c2 = .int .i64 m2 := by simpa using e2
  exact ⟨(m1, m2), by rw [f1, f2]; rfl⟩
theorem in_pairs (h : DataW.trod enc PP W 0 spare held fuel 24 cs = some x) : ∃ a xs cap, cs = [.slice a xs.length cap] ∧ RS kPairI (ghostOf W) (.slice a xs.length cap) xs ∧ xs.length ≤ cap :=
  in_slice (K := kPairI) rfl rfl rfl rfl (by decide) (fun n cs' y hy => in_pair hy) h
theorem in_net (h : DataW.trod enc PP W 0 spare held fuel 28 cs = some x) : ∃ n vi vl va vp init ls all pairs, cs = [.int .i64 n, vi, vl, va, vp] ∧ RS kInt (ghostOf W) vi init ∧ RS kArrI (ghostOf W) vl ls ∧ RS kInt (ghostOf W) va all ∧ RS kPairI (ghostOf W) vp pairs := by
  obtain ⟨h1, h2⟩ := in_field (P := PP) (t := 28) rfl rfl h
  obtain ⟨c1, c2, c3, c4, c5, rfl⟩ := list5 h1
  obtain ⟨n1, y1, q1⟩ := h2 0 _ _ _ rfl rfl
  obtain ⟨n2, y2, q2⟩ := h2 1 _ _ _ rfl rfl
  obtain ⟨n3, y3, q3⟩ := h2 2 _ _ _ rfl rfl
  obtain ⟨n4, y4, q4⟩ := h2 3 _ _ _ rfl rfl
  obtain ⟨m1, e1, _⟩ := in_int (P := PP) rfl rfl q1
  obtain ⟨a2, x2, p2, e2, r2, _⟩ := in_ints q2
  obtain ⟨a3, x3, p3, e3, r3, _⟩ := in_arrows q3
  obtain ⟨_, h5⟩ := in_field (P := PP) (t := 26) rfl rfl q4
  obtain ⟨n5, y5, q5⟩ := h5 0 _ _ _ rfl rfl
  obtain ⟨n6, y6, q6⟩ := h5 1 _ _ _ rfl rfl
  obtain ⟨a5, x5, p5, e5, r5, _⟩ := in_ints q5
  obtain ⟨a6, x6, p6, e6, r6, _⟩ := in_pairs q6
  have f1 : c1 = .int .i64 m1 := by simpa using e1
  have f2 : c2 = .slice a2 x2.length p2 := by simpa using e2
  have f3 : c3 = .slice a3 x3.length p3 := by simpa using e3
  have f5 : c4 = .slice a5 x5.length p5 := by simpa using e5
  have f6 : c5 = .slice a6 x6.length p6 := by simpa using e6
  exact ⟨m1, _, _, _, _, x2, x3, x5, x6, by rw [f1, f2, f3, f5, f6], r2, r3, r5, r6⟩
theorem in_round (h : DataW.trod enc PP W 0 spare held fuel 33 cs = some x) : ∃ n vs vl stem loop, cs = [.int .i64 n, vs, vl] ∧ RS kInt (ghostOf W) vs stem ∧ RS kInt (ghostOf W) vl loop := by
  obtain ⟨h1, h2⟩ := in_field (P := PP) (t := 33) rfl rfl h
  obtain ⟨c1, c2, c3, rfl⟩ := list3 h1
  obtain ⟨n1, y1, q1⟩ := h2 0 _ _ _ rfl rfl
  obtain ⟨n2, y2, q2⟩ := h2 1 _ _ _ rfl rfl
  obtain ⟨n3, y3, q3⟩ := h2 2 _ _ _ rfl rfl
  obtain ⟨m1, e1, _⟩ := in_int (P := PP) rfl rfl q1
  obtain ⟨a2, x2, p2, e2, r2, _⟩ := in_ints q2
  obtain ⟨a3, x3, p3, e3, r3, _⟩ := in_ints q3
  have f1 : c1 = .int .i64 m1 := by simpa using e1
  have f2 : c2 = .slice a2 x2.length p2 := by simpa using e2
  have f3 : c3 = .slice a3 x3.length p3 := by simpa using e3
  exact ⟨m1, _, _, x2, x3, by rw [f1, f2, f3], r2, r3⟩
end
/-- A contract, as the row asks for it. -/
theorem cl_row {f : FuncId} {vs : List Value} {W : World} (h : Cl PP f vs (ghostOf W) [] (Det (.bool true))) : Calls PP f vs.toArray W fun e W' => e = .returned (.bool true) ∧ Below W.heap.size W W' := by
  refine (h.call W [] (by simpa using st_begin W)).mono fun e W' ⟨v, g', L', he, hg, hs, hL, hv⟩ => ?_
  subst hv
  exact ⟨he, hs.below hg⟩
end Go.Proofs.Ytnanffbjmfgafaa.S

namespace Go.Proofs.Ytnanffbjmfgafaa.S
open Go.RowKit
theorem indexFuncI_spec (g : Ghost) (v : Value) (xs : List Int) (fid : Nat) (first caps : Array Value) (p : Int → Bool) (hv : RS kInt g v xs) (hl : xs.length ≤ 4611686018427387904)
    (hp : ∀ g' q, g ≤ g' → Cl PP fid (first.toList ++ [.int .i64 q] ++ caps.toList) g' [] (Det (.bool (p q)))) :
    Cl PP 68 [v, .func (.func fid) first caps] g [] (Det (.int .i64 (firstI p xs))) := by
  obtain ⟨a, cap, rfl⟩ := hv.form
  refine cl_intro Try.func68 rfl rfl Try.ntmps68 rfl ?_
  intro w F hs
  repeat (refine wc_seq ?_)
  refine wc_region ?_
  repeat (refine wl_p rfl rfl rfl ?_)
  refine wl_nil (wk_seq ?_)
  repeat (refine wc_seq ?_)
  refine wc_region ?_
  repeat (refine wl_p rfl rfl rfl ?_)
  refine wl_nil (wk_seq ?_)
  refine wc_for xs.length (fun _ _ => [(7, .int .i64 xs.length), (0, .slice a xs.length cap), (1, .func (.func fid) first caps)]) (fun i (g' : Ghost) w => St g' w F ∧ g ≤ g' ∧ ∀ j (h : j < i) (h' : j < xs.length), p xs[j] = false) g hl ⟨rfl, rfl, rfl, rfl, trivial⟩ ⟨hs, Ghost.rfl', fun j h => by omega⟩ (fun _ _ => rfl) rfl rfl rfl ?_ ?_ (fun _ _ => rfl) rfl
  · rintro i g' w hi ⟨hs, hg, hj⟩
    have hv' := hv.mono hg
    have hb := hv'.base hi
    have hc := hv'.int hi
    repeat (refine wc_seq ?_)
    refine wc_region ?_
    repeat (first | refine wl_p rfl rfl rfl ?_ | refine wl_skip rfl rfl rfl ?_ | refine wl_ldO hs 0 rfl rfl rfl rfl rfl rfl rfl ?_ | refine wl_ldO hs 1 rfl rfl rfl rfl rfl rfl rfl ?_ | refine wl_ldO hs 2 rfl rfl rfl rfl rfl rfl rfl ?_ | refine wl_ldO hs 3 rfl rfl rfl rfl rfl rfl rfl ?_ | refine wl_ldG hs (by assumption) rfl rfl rfl rfl rfl ?_ | refine wl_ix rfl rfl rfl rfl rfl (by omega) (by assumption) rfl rfl ?_ | refine wl_ixAJ _ rfl rfl rfl rfl rfl (by omega) rfl rfl rfl ?_ | refine wl_ixA rfl rfl rfl rfl rfl (by omega) rfl rfl ?_)
    refine wl_nil (wk_seq ?_)
    repeat (refine wc_seq ?_)
    refine wc_region ?_
    repeat (first | refine wl_p rfl rfl rfl ?_ | refine wl_skip rfl rfl rfl ?_)
    refine wl_ix rfl rfl rfl rfl rfl (by omega) hb rfl rfl ?_
    refine wl_ldG hs (hc) rfl rfl rfl rfl rfl ?_
    refine wl_call rfl rfl rfl (L := []) hs (hp g' xs[i] hg) ?_
    rintro u g2 L' w' hg2 hs ⟨rfl, rfl⟩
    refine wl_nil (wk_seq ?_)
    refine wc_cond rfl (fun h => ?_) (fun h => ?_)
    · repeat (refine wc_seq ?_)
      refine wc_region ?_
      repeat (first | refine wl_p rfl rfl rfl ?_ | refine wl_skip rfl rfl rfl ?_ | refine wl_ldO hs 0 rfl rfl rfl rfl rfl rfl rfl ?_ | refine wl_ldO hs 1 rfl rfl rfl rfl rfl rfl rfl ?_ | refine wl_ldO hs 2 rfl rfl rfl rfl rfl rfl rfl ?_ | refine wl_ldO hs 3 rfl rfl rfl rfl rfl rfl rfl ?_ | refine wl_ldG hs (by assumption) rfl rfl rfl rfl rfl ?_ | refine wl_ix rfl rfl rfl rfl rfl (by omega) (by assumption) rfl rfl ?_ | refine wl_ixAJ _ rfl rfl rfl rfl rfl (by omega) rfl rfl rfl ?_ | refine wl_ixA rfl rfl rfl rfl rfl (by omega) rfl rfl ?_)
      refine wl_nil (wk_seq ?_)
      refine wc_retV (res1 rfl rfl) ⟨g2, [], Ghost.tr hg hg2, hs, rfl, ?_⟩
      rw [firstI_at hi (fun j h' => hj j h' (by omega)) h]
    · refine wc_skip (wk_blk (wk_next g2 hi hl ⟨hs, Ghost.tr hg hg2, fun j h1 h2 => ?_⟩ rfl rfl rfl ⟨rfl, rfl, rfl, trivial⟩))
      by_cases e : j = i
      · subst e; exact h
      · exact hj j (by omega) h2
  · rintro g' w ⟨hs, hg, hj⟩
    refine wk_seq ?_
    repeat (refine wc_seq ?_)
    refine wc_region ?_
    repeat (refine wl_p rfl rfl rfl ?_)
    refine wl_nil (wk_seq ?_)
    refine wc_retV (res1 rfl rfl) ⟨g', [], hg, hs, rfl, ?_⟩
    rw [firstI_none fun j h => hj j h h]
theorem containsFuncI_spec (g : Ghost) (v : Value) (xs : List Int) (fid : Nat) (first caps : Array Value) (p : Int → Bool) (hv : RS kInt g v xs) (hl : xs.length ≤ 4611686018427387904)
    (hp : ∀ g' q, g ≤ g' → Cl PP fid (first.toList ++ [.int .i64 q] ++ caps.toList) g' [] (Det (.bool (p q)))) :
    Cl PP 37 [v, .func (.func fid) first caps] g [] (Det (.bool (xs.any p))) := by
  refine cl_intro Try.func37 rfl rfl Try.ntmps37 rfl ?_
  intro w F hs
  repeat (refine wc_seq ?_)
  refine wc_region ?_
  repeat (refine wl_p rfl rfl rfl ?_)
  refine wl_nil (wk_seq ?_)
  repeat (refine wc_seq ?_)
  refine wc_region ?_
  repeat (refine wl_p rfl rfl rfl ?_)
  refine wl_call rfl rfl rfl (L := []) hs (indexFuncI_spec g v xs fid first caps p hv hl hp) ?_
  rintro u g' L' w' hg hs ⟨rfl, rfl⟩
  repeat (refine wl_p rfl rfl rfl ?_)
  refine wl_nil (wk_seq ?_)
  refine wc_retV (res1 rfl rfl) ⟨g', [], hg, hs, rfl, ?_⟩
  rw [← firstI_ge]
def withinB (l m : List Int) : Bool := !(l.any fun i => !(m.any fun y => i == y))
theorem withinB_iff {l m : List Int} : withinB l m = true ↔ ∀ x ∈ l, x ∈ m := by
  unfold withinB
  rw [Bool.not_eq_true', List.any_eq_false]
  exact ⟨fun h x hx => by simpa using h x hx, fun h x hx => by simpa using h x hx⟩
theorem within1_spec (g : Ghost) (mb : Nat) (vm : Value) (m : List Int) (x : Int) (hb : Lies g mb 0 [vm]) (hm : RS kInt g vm m) (hl : m.length ≤ 4611686018427387904) :
    Cl PP 59 [.int .i64 x, .pointer (some ⟨mb, 0, none⟩)] g [] (Det (.bool (!(m.any fun y => x == y)))) := by
  obtain ⟨a, c, rfl⟩ := hm.form
  refine cl_intro Try.func59 rfl rfl Try.ntmps59 rfl ?_
  intro w F hs
  repeat (refine wc_seq ?_)
  refine wc_region ?_
  repeat (refine wl_p rfl rfl rfl ?_)
  refine wl_nil (wk_seq ?_)
  repeat (refine wc_seq ?_)
  refine wc_region ?_
  refine wl_ldG hs (hb 0 _ rfl) rfl rfl rfl rfl rfl ?_
  repeat (refine wl_p rfl rfl rfl ?_)
  refine wl_call rfl rfl rfl (L := []) hs (contains_spec g _ m x hm hl) ?_
  rintro u g' L' w' hg hs ⟨rfl, rfl⟩
  repeat (refine wl_p rfl rfl rfl ?_)
  refine wl_nil (wk_seq ?_)
  exact wc_retV (res1 rfl rfl) ⟨g', [], hg, hs, rfl, rfl⟩
theorem lawWithin_spec (g : Ghost) (vl vm : Value) (l m : List Int) (hl : RS kInt g vl l) (hm : RS kInt g vm m) (hl0 : l.length ≤ 4611686018427387904) (hm0 : m.length ≤ 4611686018427387904) :
    Cl PP 21 [vl, vm] g [] (Det (.bool (withinB l m))) := by
  obtain ⟨am, cm, rfl⟩ := hm.form
  refine cl_intro Try.func21 rfl rfl Try.ntmps21 rfl ?_
  intro w F hs
  repeat (refine wc_seq ?_)
  refine wc_region ?_
  refine wl_box hs rfl rfl rfl rfl ?_; clear hs; intro mb w hs
  repeat (refine wl_p rfl rfl rfl ?_)
  refine wl_nil (wk_seq ?_)
  obtain ⟨g1, hg1, hs, hb⟩ := freezeB hs
  replace hs := (show St g1 w F from hs)
  replace hb := (show Lies g1 mb 0 [.slice am m.length cm] from hb)
  repeat (refine wc_seq ?_)
  refine wc_region ?_
  repeat (refine wl_p rfl rfl rfl ?_)
  refine wl_call rfl rfl rfl (L := []) hs (containsFuncI_spec g1 vl l 59 #[] #[.pointer (some ⟨mb, 0, none⟩)] (fun i => !(m.any fun y => i == y)) (hl.mono hg1) hl0 (fun g' q hg' => within1_spec g' mb _ m q (hb.mono hg') (hm.mono (Ghost.tr hg1 hg')) hm0)) ?_
  rintro u g' L' w' hg hs ⟨rfl, rfl⟩
  repeat (refine wl_p rfl rfl rfl ?_)
  refine wl_nil (wk_seq ?_)
  exact wc_retV (res1 rfl rfl) ⟨g', [], Ghost.tr hg1 hg, hs, rfl, rfl⟩
theorem arrowed1_spec (g : Ghost) (mb : Nat) (p : Int × Int) (mark : Int) (hb : Lies g mb 0 [.int .i64 mark]) :
    Cl PP 24 [.agg (ePairI p).toArray, .pointer (some ⟨mb, 0, none⟩)] g [] (Det (.bool (p.1 == mark))) := by
  refine cl_intro Try.func24 rfl rfl Try.ntmps24 rfl ?_
  intro w F hs
  repeat (refine wc_seq ?_)
  refine wc_region ?_
  refine wl_box hs rfl rfl rfl rfl ?_; clear hs; intro b w hs
  repeat (refine wl_p rfl rfl rfl ?_)
  refine wl_nil (wk_seq ?_)
  repeat (refine wc_seq ?_)
  refine wc_region ?_
  repeat (first | refine wl_p rfl rfl rfl ?_ | refine wl_skip rfl rfl rfl ?_ | refine wl_ldO hs 0 rfl rfl rfl rfl rfl rfl rfl ?_ | refine wl_ldO hs 1 rfl rfl rfl rfl rfl rfl rfl ?_ | refine wl_ldO hs 2 rfl rfl rfl rfl rfl rfl rfl ?_ | refine wl_ldO hs 3 rfl rfl rfl rfl rfl rfl rfl ?_ | refine wl_ldG hs (by assumption) rfl rfl rfl rfl rfl ?_ | refine wl_ix rfl rfl rfl rfl rfl (by omega) (by assumption) rfl rfl ?_ | refine wl_ixAJ _ rfl rfl rfl rfl rfl (by omega) rfl rfl rfl ?_ | refine wl_ixA rfl rfl rfl rfl rfl (by omega) rfl rfl ?_)
  refine wl_ldG hs (hb 0 _ rfl) rfl rfl rfl rfl rfl ?_
  repeat (refine wl_p rfl rfl rfl ?_)
  refine wl_nil (wk_seq ?_)
  refine wc_retV (res1 rfl rfl) ⟨g, [], Ghost.rfl', hs.drop, rfl, ?_⟩
  rfl
end Go.Proofs.Ytnanffbjmfgafaa.S

namespace Go.Proofs.Ytnanffbjmfgafaa.S
open Go.RowKit
inductive Rc (E : Nat → Nat → Prop) : Nat → Nat → Prop
  | refl (x : Nat) : Rc E x x
  | tail {x y z : Nat} : Rc E x y → E y z → Rc E x z
theorem Rc.trans {E : Nat → Nat → Prop} {x y z : Nat} (h : Rc E x y) (k : Rc E y z) : Rc E x z := by
  induction k with
  | refl => exact h
  | tail _ e ih => exact .tail ih e
theorem Rc.one {E : Nat → Nat → Prop} {x y : Nat} (h : E x y) : Rc E x y := .tail (.refl x) h
theorem sk_new {α : Type} : ∀ (m : List (Nat × α)) (k : Nat) (v : α), lk m k = none → (sk m k v).length = m.length + 1
  | [], _, _, _ => rfl
  | (k', u) :: r, k, v, h => by
    simp only [lk] at h
    split at h
    · cases h
    · rename_i hne
      simp only [sk, if_neg hne, List.length_cons, sk_new r k v h]
theorem lowOf_sk (m : List (Nat × Nat)) (k v x : Nat) : lowOf (sk m k v) x = if x = k then v else lowOf m x := by
  unfold lowOf
  rw [lk_sk]
  split <;> rfl
section
variable (ls : List Arrow) (nodes : List Nat) (on : List Bool)
/-- An arrow of the piece leads from x to y. -/
def EdgeP (x y : Nat) : Prop := ∃ k, k ∈ outAt ls ls.length x ∧ arrIn ls nodes on k = true ∧ toOf ls k = y
def Ex (s : Tj) (y k : Nat) : Prop := (k ∈ outAt ls ls.length y ∧ y ∉ s.path.map (·.1)) ∨ ∃ a, (y, a) ∈ s.path ∧ k ∈ (outAt ls ls.length y).take a
structure Inv (s : Tj) : Prop where
  vis : ∀ x, (lk s.idx x).isSome = true ↔ x ∈ s.st ∨ x ∈ s.out.flatten
  on_ : ∀ x, (lk s.on x).getD false = true ↔ x ∈ s.st
  nodup : (s.st ++ s.out.flatten).Nodup
  inc : s.st.Pairwise fun x y => lowOf s.idx x < lowOf s.idx y
  lt : ∀ x, (lk s.idx x).isSome = true → lowOf s.idx x < s.idx.length
  pinc : (s.path.map (·.1)).Pairwise fun x y => lowOf s.idx x < lowOf s.idx y
  pst : ∀ g ∈ s.path.map (·.1), g ∈ s.st
  r1 : ∀ g ∈ s.path.map (·.1), ∀ y ∈ s.st, lowOf s.idx g ≤ lowOf s.idx y → Rc (EdgeP ls nodes on) g y
  lw : ∀ y ∈ s.st, lowOf s.low y ≤ lowOf s.idx y ∧ ∃ z ∈ s.st, lowOf s.idx z = lowOf s.low y ∧ Rc (EdgeP ls nodes on) y z
  lws : ∀ y ∈ s.st, y ∉ s.path.map (·.1) → lowOf s.low y < lowOf s.idx y
  near : ∀ y ∈ s.st, ∀ g ∈ s.path.map (·.1), lowOf s.idx g ≤ lowOf s.idx y → (∀ g' ∈ s.path.map (·.1), lowOf s.idx g' ≤ lowOf s.idx y → lowOf s.idx g' ≤ lowOf s.idx g) → lowOf s.low g ≤ lowOf s.low y
  ex : ∀ y ∈ s.st, ∀ k, Ex ls s y k → arrIn ls nodes on k = true → (lk s.idx (toOf ls k)).isSome = true ∧ (toOf ls k ∈ s.st → lowOf s.low y ≤ lowOf s.idx (toOf ls k))
  mem : ∀ x, (lk s.idx x).isSome = true → x ∈ nodes
  scc : ∀ c ∈ s.out, c ≠ [] ∧ c.Pairwise (· ≤ ·) ∧ ∀ x ∈ c, ∀ y ∈ c, Rc (EdgeP ls nodes on) x y
  ord : ∀ i (h : i < s.out.length), ∀ y ∈ s.out[i], ∀ z, EdgeP ls nodes on y z → ∃ j, ∃ h : j < s.out.length, j ≤ i ∧ z ∈ s.out[j]
end
section
variable {ls : List Arrow} {nodes : List Nat} {on : List Bool} {s : Tj}
theorem Inv.init : Inv ls nodes on Tj.init := by
  refine ⟨fun x => by simp [Tj.init, lk], fun x => by simp [Tj.init, lk], by simp [Tj.init], by simp [Tj.init], fun x h => by simp [Tj.init, lk] at h, by simp [Tj.init], by simp [Tj.init], by simp [Tj.init], by simp [Tj.init], by simp [Tj.init], by simp [Tj.init], by simp [Tj.init],
    fun x h => by simp [Tj.init, lk] at h, by simp [Tj.init], fun i h => by simp [Tj.init] at h⟩
theorem pw_inj {l : List Nat} {f : Nat → Nat} (h : l.Pairwise fun x y => f x < f y) : ∀ x ∈ l, ∀ y ∈ l, f x = f y → x = y := by
  induction l with
  | nil => intro x hx; cases hx
  | cons a l ih =>
    obtain ⟨h1, h2⟩ := List.pairwise_cons.1 h
    intro x hx y hy e
    rcases List.mem_cons.1 hx with ex | hx' <;> rcases List.mem_cons.1 hy with ey | hy'
    · rw [ex, ey]
    · have := h1 y hy'; rw [ex] at e; omega
    · have := h1 x hx'; rw [ey] at e; omega
    · exact ih h2 x hx' y hy' e
/-- The last one has the greatest number. -/
theorem pw_last {p : List Nat} {x : Nat} {f : Nat → Nat} (h : (p ++ [x]).Pairwise fun a b => f a < f b) : ∀ g ∈ p, f g < f x := fun g hg =>
  (List.pairwise_append.1 h).2.2 g hg x (by simp)
/-- An arrow is looked at that changes nothing but the place. -/
theorem Inv.step {p : List (Nat × Nat)} {x a k : Nat} (hI : Inv ls nodes on s) (hp : s.path = p ++ [(x, a)]) (hk : (outAt ls ls.length x)[a]? = some k)
    (hok : arrIn ls nodes on k = true → (lk s.idx (toOf ls k)).isSome = true ∧ toOf ls k ∉ s.st) : Inv ls nodes on { s with path := p ++ [(x, a + 1)] } := by
  have hg : (p ++ [(x, a + 1)]).map (·.1) = s.path.map (·.1) := by rw [hp]; simp
  refine ⟨hI.vis, hI.on_, hI.nodup, hI.inc, hI.lt, by rw [hg]; exact hI.pinc, by rw [hg]; exact hI.pst, by rw [hg]; exact hI.r1, hI.lw, by rw [hg]; exact hI.lws, by rw [hg]; exact hI.near, ?_, hI.mem, hI.scc, hI.ord⟩
  intro y hy k' hex harr
  have key : Ex ls s y k' ∨ k' = k := by
    rcases hex with ⟨h1, h2⟩ | ⟨b, h1, h2⟩
    · rw [hg] at h2; exact .inl (.inl ⟨h1, h2⟩)
    · rcases List.mem_append.1 h1 with h1 | h1
      · exact .inl (.inr ⟨b, by rw [hp]; exact List.mem_append_left _ h1, h2⟩)
      · simp only [List.mem_singleton, Prod.mk.injEq] at h1
        obtain ⟨rfl, rfl⟩ := h1
        have hlt : a < (outAt ls ls.length y).length := (List.getElem?_eq_some_iff.1 hk).1
        rw [List.take_succ_eq_append_getElem hlt] at h2
        rcases List.mem_append.1 h2 with h2 | h2
        · exact .inl (.inr ⟨a, by rw [hp]; simp, h2⟩)
        · right
          rw [List.getElem?_eq_getElem hlt, Option.some.injEq] at hk
          rw [List.mem_singleton.1 h2, hk]
  rcases key with h | rfl
  · exact hI.ex y hy k' h harr
  · obtain ⟨h1, h2⟩ := hok harr
    exact ⟨h1, fun h => absurd h h2⟩
/-- An arrow to a node on the stack. -/
theorem Inv.lower {p : List (Nat × Nat)} {x a k : Nat} (hI : Inv ls nodes on s) (hp : s.path = p ++ [(x, a)]) (hk : (outAt ls ls.length x)[a]? = some k) (harr : arrIn ls nodes on k = true) (hst : toOf ls k ∈ s.st) :
    Inv ls nodes on { s with path := p ++ [(x, a + 1)], low := sk s.low x (min (lowOf s.low x) (lowOf s.idx (toOf ls k))) } := by
  have hg : (p ++ [(x, a + 1)]).map (·.1) = s.path.map (·.1) := by rw [hp]; simp
  have hxg : x ∈ s.path.map (·.1) := by rw [hp]; simp
  have hxs := hI.pst x hxg
  have hlw : ∀ y, lowOf (sk s.low x (min (lowOf s.low x) (lowOf s.idx (toOf ls k)))) y = if y = x then min (lowOf s.low x) (lowOf s.idx (toOf ls k)) else lowOf s.low y := fun y => lowOf_sk _ _ _ _
  have hle : ∀ y, lowOf (sk s.low x (min (lowOf s.low x) (lowOf s.idx (toOf ls k)))) y ≤ lowOf s.low y := fun y => by
    rw [hlw]; split
    · rename_i e; subst e; omega
    · exact Nat.le_refl _
  have hkm : k ∈ outAt ls ls.length x := List.mem_of_getElem? hk
  refine ⟨hI.vis, hI.on_, hI.nodup, hI.inc, hI.lt, by rw [hg]; exact hI.pinc, by rw [hg]; exact hI.pst, by rw [hg]; exact hI.r1, ?_, ?_, ?_, ?_, hI.mem, hI.scc, hI.ord⟩
  · intro y hy
    obtain ⟨h1, z, hz, h2, h3⟩ := hI.lw y hy
    refine ⟨Nat.le_trans (hle y) h1, ?_⟩
    simp only [hlw]
    split
    · rename_i e
      subst e
      by_cases hm : lowOf s.low y ≤ lowOf s.idx (toOf ls k)
      · exact ⟨z, hz, by rw [h2]; omega, h3⟩
      · exact ⟨_, hst, by omega, .one ⟨k, hkm, harr, rfl⟩⟩
    · exact ⟨z, hz, h2, h3⟩
  · intro y hy hny
    rw [hg] at hny
    exact Nat.lt_of_le_of_lt (hle y) (hI.lws y hy hny)
  · rw [hg]
    intro y hy g hgg (h1 : lowOf s.idx g ≤ lowOf s.idx y) (h2 : ∀ g' ∈ s.path.map (·.1), lowOf s.idx g' ≤ lowOf s.idx y → lowOf s.idx g' ≤ lowOf s.idx g)
    simp only [hlw]
    by_cases hyx : y = x
    · subst hyx
      have := h2 y hxg (Nat.le_refl _)
      have hgy : g = y := pw_inj hI.pinc g hgg y hxg (by omega)
      subst hgy
      exact Nat.le_refl _
    · rw [if_neg hyx]
      have := hI.near y hy g hgg h1 h2
      split
      · rename_i e; subst e; omega
      · exact this
  · intro y hy k' hex hk'
    have key : Ex ls s y k' ∨ (y = x ∧ k' = k) := by
      rcases hex with ⟨h1, h2⟩ | ⟨b, h1, h2⟩
      · rw [hg] at h2; exact .inl (.inl ⟨h1, h2⟩)
      · rcases List.mem_append.1 h1 with h1 | h1
        · exact .inl (.inr ⟨b, by rw [hp]; exact List.mem_append_left _ h1, h2⟩)
        · simp only [List.mem_singleton, Prod.mk.injEq] at h1
          obtain ⟨rfl, rfl⟩ := h1
          have hlt : a < (outAt ls ls.length y).length := (List.getElem?_eq_some_iff.1 hk).1
          rw [List.take_succ_eq_append_getElem hlt] at h2
          rcases List.mem_append.1 h2 with h2 | h2
          · exact .inl (.inr ⟨a, by rw [hp]; simp, h2⟩)
          · right
            rw [List.getElem?_eq_getElem hlt, Option.some.injEq] at hk
            exact ⟨rfl, by rw [List.mem_singleton.1 h2, hk]⟩
    rcases key with h | ⟨rfl, rfl⟩
    · obtain ⟨h1, h2⟩ := hI.ex y hy k' h hk'
      exact ⟨h1, fun h => Nat.le_trans (hle y) (h2 h)⟩
    · refine ⟨(hI.vis _).2 (.inl hst), fun _ => ?_⟩
      rw [hlw, if_pos rfl]
      exact Nat.min_le_right _ _
/-- A new node is entered: a root, or along an arrow of the node that is being visited. -/
theorem Inv.enter {y : Nat} (hI : Inv ls nodes on s) (hy : lk s.idx y = none) (hyn : y ∈ nodes) (p1 : List (Nat × Nat)) (hg : p1.map (·.1) = s.path.map (·.1))
    (hreach : ∀ g ∈ s.path.map (·.1), Rc (EdgeP ls nodes on) g y)
    (hex : ∀ z, ∀ k, (∃ a, (z, a) ∈ p1 ∧ k ∈ (outAt ls ls.length z).take a) → Ex ls s z k ∨ toOf ls k = y) : Inv ls nodes on ({ s with path := p1 }.enter y) := by
  have hyv : ¬ (lk s.idx y).isSome = true := by rw [hy]; simp
  have hyst : y ∉ s.st := fun h => hyv ((hI.vis y).2 (.inl h))
  have hyout : y ∉ s.out.flatten := fun h => hyv ((hI.vis y).2 (.inr h))
  have hix : ∀ x, lowOf (sk s.idx y s.idx.length) x = if x = y then s.idx.length else lowOf s.idx x := fun x => lowOf_sk _ _ _ _
  have hgl : (lk (sk s.idx y s.idx.length) y).getD 0 = s.idx.length := by rw [lk_sk, if_pos rfl]; rfl
  have hlw : ∀ x, lowOf (sk s.low y ((lk (sk s.idx y s.idx.length) y).getD 0)) x = if x = y then s.idx.length else lowOf s.low x := fun x => by rw [hgl]; exact lowOf_sk _ _ _ _
  have hne : ∀ x ∈ s.st, x ≠ y := fun x hx e => hyst (e ▸ hx)
  have hlt : ∀ x ∈ s.st, lowOf s.idx x < s.idx.length := fun x hx => hI.lt x ((hI.vis x).2 (.inl hx))
  have hvis' : ∀ x, (lk (sk s.idx y s.idx.length) x).isSome = true ↔ x = y ∨ (lk s.idx x).isSome = true := fun x => by
    rw [lk_sk]
    by_cases e : x = y
    · simp [e]
    · simp [e]
  have hgm : ∀ g, g ∈ (p1 ++ [((y, 0) : Nat × Nat)]).map Prod.fst ↔ g ∈ s.path.map (·.1) ∨ g = y := fun g => by
    rw [List.map_append, hg, List.mem_append]; simp
  have hgs : ∀ g ∈ s.path.map (·.1), g ≠ y := fun g h => hne g (hI.pst g h)
  have e : ({ s with path := p1 }.enter y) = { s with idx := sk s.idx y s.idx.length, low := sk s.low y ((lk (sk s.idx y s.idx.length) y).getD 0), on := sk s.on y true, st := s.st ++ [y], path := p1 ++ [(y, 0)] } := rfl
  rw [e]
  refine ⟨fun x => ?_, fun x => ?_, ?_, ?_, fun x hx => ?_, ?_, fun g h => ?_, fun g h z hz hle => ?_, fun z hz => ?_, fun z hz hnz => ?_, fun z hz g h h1 h2 => ?_, fun z hz k hexk harr => ?_, fun x hx => ?_, hI.scc, hI.ord⟩
  · rw [hvis', hI.vis]
    simp only [List.mem_append, List.mem_singleton]
    constructor
    · rintro (h | h | h)
      · exact .inl (.inr h)
      · exact .inl (.inl h)
      · exact .inr h
    · rintro ((h | h) | h)
      · exact .inr (.inl h)
      · exact .inl h
      · exact .inr (.inr h)
  · rw [lk_sk]
    by_cases e : x = y
    · simp [e]
    · simp [e, hI.on_]
  · have hn := hI.nodup
    rw [List.append_assoc]
    have hp : (s.st ++ ([y] ++ s.out.flatten)).Perm (y :: (s.st ++ s.out.flatten)) := List.perm_middle
    rw [hp.nodup_iff]
    exact List.nodup_cons.2 ⟨fun h => (List.mem_append.1 h).elim hyst hyout, hn⟩
  · refine List.pairwise_append.2 ⟨hI.inc.imp_of_mem fun ha hb h => ?_, by simp, fun a ha b hb => ?_⟩
    · simp only [hix]
      rw [if_neg (hne _ ha), if_neg (hne _ hb)]
      exact h
    · rw [List.mem_singleton.1 hb]
      simp only [hix, if_true]
      rw [if_neg (hne _ ha)]
      exact hlt a ha
  · simp only [hix]
    rw [sk_new _ _ _ hy]
    rcases (hvis' x).1 hx with e | h
    · rw [if_pos e]; omega
    · have := hI.lt x h
      split <;> omega
  · rw [List.map_append, hg]
    refine List.pairwise_append.2 ⟨hI.pinc.imp_of_mem fun ha hb h => ?_, by simp, fun a ha b hb => ?_⟩
    · simp only [hix]
      rw [if_neg (hgs _ ha), if_neg (hgs _ hb)]
      exact h
    · have : b = y := by simpa using hb
      rw [this]
      simp only [hix, if_true]
      rw [if_neg (hgs _ ha)]
      exact hlt a (hI.pst a ha)
  · rcases (hgm g).1 h with h | h
    · exact List.mem_append_left _ (hI.pst g h)
    · rw [h]; simp
  · simp only [hix] at hle
    rcases List.mem_append.1 hz with hz | hz
    · rw [if_neg (hne z hz)] at hle
      rcases (hgm g).1 h with h | h
      · rw [if_neg (hgs g h)] at hle
        exact hI.r1 g h z hz hle
      · rw [if_pos h] at hle
        have := hlt z hz
        omega
    · rw [List.mem_singleton.1 hz]
      rcases (hgm g).1 h with h | h
      · exact hreach g h
      · rw [h]; exact .refl _
  · simp only [hix, hlw]
    rcases List.mem_append.1 hz with hz | hz
    · rw [if_neg (hne z hz), if_neg (hne z hz)]
      obtain ⟨h1, u, hu, h2, h3⟩ := hI.lw z hz
      exact ⟨h1, u, List.mem_append_left _ hu, by rw [if_neg (hne u hu)]; exact h2, h3⟩
    · rw [List.mem_singleton.1 hz]
      simp only [if_true]
      exact ⟨Nat.le_refl _, y, by simp, by simp, .refl _⟩
  · simp only [hix, hlw]
    rcases List.mem_append.1 hz with hz | hz
    · rw [if_neg (hne z hz), if_neg (hne z hz)]
      exact hI.lws z hz fun h => hnz ((hgm z).2 (.inl h))
    · exact absurd ((hgm z).2 (.inr (List.mem_singleton.1 hz))) hnz
  · simp only [hix, hlw] at h1 h2 ⊢
    rcases List.mem_append.1 hz with hz | hz
    · rw [if_neg (hne z hz)] at h1 h2 ⊢
      rcases (hgm g).1 h with h | h
      · rw [if_neg (hgs g h)] at h1 ⊢
        refine hI.near z hz g h h1 fun g' hg' hle => ?_
        have := h2 g' ((hgm g').2 (.inl hg'))
        rw [if_neg (hgs g' hg'), if_neg (hgs g h)] at this
        exact this hle
      · rw [if_pos h] at h1
        have := hlt z hz
        omega
    · have hzy := List.mem_singleton.1 hz
      rw [if_pos hzy] at h1 h2 ⊢
      rcases (hgm g).1 h with h | h
      · have := h2 y ((hgm y).2 (.inr rfl))
        rw [if_pos rfl, if_neg (hgs g h)] at this
        have h3 := this (Nat.le_refl _)
        have := hlt g (hI.pst g h)
        omega
      · rw [if_pos h]; exact Nat.le_refl _
  · have hvis2 : (lk s.idx (toOf ls k)).isSome = true → (lk (sk s.idx y s.idx.length) (toOf ls k)).isSome = true := fun h => (hvis' _).2 (.inr h)
    rcases List.mem_append.1 hz with hz | hz
    · have key : Ex ls s z k ∨ toOf ls k = y := by
        rcases hexk with ⟨h1, h2⟩ | ⟨b, h1, h2⟩
        · exact .inl (.inl ⟨h1, fun h => h2 ((hgm z).2 (.inl h))⟩)
        · rcases List.mem_append.1 h1 with h1 | h1
          · exact hex z k ⟨b, h1, h2⟩
          · simp only [List.mem_singleton, Prod.mk.injEq] at h1
            exact absurd h1.1 (hne z hz)
      simp only [hix, hlw]
      rw [if_neg (hne z hz)]
      rcases key with h | h
      · obtain ⟨h3, h4⟩ := hI.ex z hz k h harr
        refine ⟨hvis2 h3, fun hm => ?_⟩
        rcases List.mem_append.1 hm with hm | hm
        · rw [if_neg (hne _ hm)]; exact h4 hm
        · rw [if_pos (List.mem_singleton.1 hm)]
          have := (hI.lw z hz).1
          have := hlt z hz
          omega
      · refine ⟨(hvis' _).2 (.inl h), fun _ => ?_⟩
        rw [if_pos h]
        have := (hI.lw z hz).1
        have := hlt z hz
        omega
    · exfalso
      have hzy := List.mem_singleton.1 hz
      rcases hexk with ⟨h1, h2⟩ | ⟨b, h1, h2⟩
      · exact h2 ((hgm z).2 (.inr hzy))
      · rcases List.mem_append.1 h1 with h1 | h1
        · have : z ∈ p1.map (·.1) := List.mem_map.2 ⟨_, h1, rfl⟩
          rw [hg] at this
          exact hgs z this hzy
        · simp only [List.mem_singleton, Prod.mk.injEq] at h1
          rw [h1.2] at h2
          cases h2
  · rcases (hvis' x).1 hx with e | h
    · rw [e]; exact hyn
    · exact hI.mem x h
end
end Go.Proofs.Ytnanffbjmfgafaa.S

namespace Go.Proofs.Ytnanffbjmfgafaa.S
open Go.RowKit
section
variable {ls : List Arrow} {nodes : List Nat} {on : List Bool} {s : Tj}
theorem up_low (s : Tj) (p : List (Nat × Nat)) (x y : Nat) : lowOf (s.up p x).low y = match p.getLast? with
    | none => lowOf s.low y
    | some (z, _) => if y = z then min (lowOf s.low z) (lowOf s.low x) else lowOf s.low y := by
  unfold Tj.up
  rcases p.getLast? with _ | ⟨z, b⟩
  · rfl
  · exact lowOf_sk _ _ _ _
theorem up_eq (s : Tj) (p : List (Nat × Nat)) (x : Nat) : s.up p x = { s with path := p, low := (s.up p x).low } := by
  unfold Tj.up
  split <;> rfl
/-- Some node on the stack is the least; it is being visited. -/
theorem Inv.least (hI : Inv ls nodes on s) (h : s.st ≠ []) : ∃ y ∈ s.st, y ∈ s.path.map (·.1) ∧ lowOf s.low y = lowOf s.idx y ∧ ∀ z ∈ s.st, lowOf s.idx y ≤ lowOf s.idx z := by
  rcases hst : s.st with _ | ⟨y, r⟩
  · exact absurd hst h
  · have hy : y ∈ s.st := by rw [hst]; simp
    have hinc := hI.inc
    rw [hst] at hinc
    have h1 := (List.pairwise_cons.1 hinc).1
    have h2 : ∀ z ∈ s.st, lowOf s.idx y ≤ lowOf s.idx z := fun z hz => by
      rw [hst] at hz
      rcases List.mem_cons.1 hz with e | hz
      · rw [e]; exact Nat.le_refl _
      · exact Nat.le_of_lt (h1 z hz)
    obtain ⟨h3, z, hz, h4, _⟩ := hI.lw y hy
    have h5 := h2 z hz
    have h6 : lowOf s.low y = lowOf s.idx y := by omega
    refine ⟨y, by simp, ?_, h6, fun z hz => h2 z (by rw [hst]; exact hz)⟩
    by_cases hg : y ∈ s.path.map (·.1)
    · exact hg
    · have := hI.lws y hy hg
      omega
theorem Inv.empty (hI : Inv ls nodes on s) (h : s.path = []) : s.st = [] := by
  by_cases hst : s.st = []
  · exact hst
  · obtain ⟨y, _, hy, _⟩ := hI.least hst
    rw [h] at hy
    cases hy
/-- A node that is done, and is not the first of its component. -/
theorem Inv.leave {p : List (Nat × Nat)} {x a : Nat} (hI : Inv ls nodes on s) (hp : s.path = p ++ [(x, a)]) (ha : (outAt ls ls.length x).length ≤ a) (hne : lowOf (s.up p x).low x ≠ lowOf (s.up p x).idx x) : Inv ls nodes on (s.up p x) := by
  have hxg : x ∈ s.path.map (·.1) := by rw [hp]; simp
  have hxs := hI.pst x hxg
  have hpg : s.path.map (·.1) = p.map (·.1) ++ [x] := by rw [hp]; simp
  have hlast : ∀ g ∈ p.map (·.1), lowOf s.idx g < lowOf s.idx x := pw_last (by rw [← hpg]; exact hI.pinc)
  have hgm : ∀ g, g ∈ s.path.map (·.1) ↔ g ∈ p.map (·.1) ∨ g = x := fun g => by rw [hpg, List.mem_append]; simp
  rw [up_eq] at hne ⊢
  simp only at hne
  rcases hpl : p.getLast? with _ | ⟨z, b⟩
  · exfalso
    have hp0 : p = [] := by simpa using hpl
    rw [up_low, hpl] at hne
    simp only at hne
    obtain ⟨y, hy, hyg, h1, _⟩ := hI.least (List.ne_nil_of_mem hxs)
    rw [hpg, hp0] at hyg
    have : y = x := by simpa using hyg
    rw [this] at h1
    exact hne h1
  · have hzp : (z, b) ∈ p := List.mem_of_getLast? hpl
    have hzg : z ∈ p.map (·.1) := List.mem_map.2 ⟨_, hzp, rfl⟩
    have hzs := hI.pst z ((hgm z).2 (.inl hzg))
    have hzx : lowOf s.idx z < lowOf s.idx x := hlast z hzg
    have hxz : x ≠ z := fun e => by rw [e] at hzx; omega
    have hlw : ∀ y, lowOf (s.up p x).low y = if y = z then min (lowOf s.low z) (lowOf s.low x) else lowOf s.low y := fun y => by rw [up_low, hpl]
    have hle : ∀ y, lowOf (s.up p x).low y ≤ lowOf s.low y := fun y => by
      rw [hlw]; split
      · rename_i e; subst e; omega
      · exact Nat.le_refl _
    have hzmax : ∀ g ∈ p.map (·.1), lowOf s.idx g ≤ lowOf s.idx z := fun g hg => by
      obtain ⟨q, hq⟩ : ∃ q, p = q ++ [(z, b)] := by
        rcases List.eq_nil_or_concat p with e | ⟨q, e, h⟩
        · rw [e] at hzp; cases hzp
        · refine ⟨q, ?_⟩
          rw [List.concat_eq_append] at h
          rw [h] at hpl ⊢
          simp at hpl
          rw [hpl]
      have hpi : (p.map (·.1)).Pairwise fun x y => lowOf s.idx x < lowOf s.idx y := by
        have := hI.pinc
        rw [hpg] at this
        exact (List.pairwise_append.1 this).1
      rw [hq, List.map_append] at hpi hg
      rcases List.mem_append.1 hg with hg | hg
      · exact Nat.le_of_lt (pw_last hpi g hg)
      · have : g = z := by simpa using hg
        rw [this]; exact Nat.le_refl _
    rw [hlw, if_neg hxz] at hne
    refine ⟨hI.vis, hI.on_, hI.nodup, hI.inc, hI.lt, ?_, fun g h => hI.pst g ((hgm g).2 (.inl h)), fun g h => hI.r1 g ((hgm g).2 (.inl h)), ?_, ?_, ?_, ?_, hI.mem, hI.scc, hI.ord⟩
    · have := hI.pinc
      rw [hpg] at this
      exact (List.pairwise_append.1 this).1
    · intro y hy
      obtain ⟨h1, u, hu, h2, h3⟩ := hI.lw y hy
      refine ⟨Nat.le_trans (hle y) h1, ?_⟩
      simp only [hlw]
      split
      · rename_i e
        subst e
        by_cases hm : lowOf s.low y ≤ lowOf s.low x
        · exact ⟨u, hu, by rw [h2]; omega, h3⟩
        · obtain ⟨_, v, hv, h4, h5⟩ := hI.lw x hxs
          exact ⟨v, hv, by omega, (hI.r1 y ((hgm y).2 (.inl hzg)) x hxs (Nat.le_of_lt hzx)).trans h5⟩
      · exact ⟨u, hu, h2, h3⟩
    · intro y hy hny
      by_cases hyx : y = x
      · rw [hyx]
        have := (hI.lw x hxs).1
        show lowOf (s.up p x).low x < lowOf s.idx x
        rw [hlw, if_neg hxz]
        omega
      · refine Nat.lt_of_le_of_lt (hle y) (hI.lws y hy fun h => ?_)
        rcases (hgm y).1 h with h | h
        · exact hny h
        · exact hyx h
    · intro y hy g hg (h1 : lowOf s.idx g ≤ lowOf s.idx y) (h2 : ∀ g' ∈ p.map (·.1), lowOf s.idx g' ≤ lowOf s.idx y → lowOf s.idx g' ≤ lowOf s.idx g)
      show lowOf (s.up p x).low g ≤ lowOf (s.up p x).low y
      by_cases hxy : lowOf s.idx x ≤ lowOf s.idx y
      · have hyz : y ≠ z := fun e => by rw [e] at hxy; omega
        have hgz : g = z := by
          have h3 := h2 z hzg (by omega)
          have h4 := hzmax g hg
          have hpi := hI.pinc
          exact pw_inj hpi g ((hgm g).2 (.inl hg)) z ((hgm z).2 (.inl hzg)) (by omega)
        rw [hgz, hlw, hlw, if_pos rfl, if_neg hyz]
        have := hI.near y hy x hxg hxy fun g' hg' _ => by
          rcases (hgm g').1 hg' with h | h
          · exact Nat.le_of_lt (hlast g' h)
          · rw [h]; exact Nat.le_refl _
        omega
      · have hn := hI.near y hy g ((hgm g).2 (.inl hg)) h1 fun g' hg' hle' => by
          rcases (hgm g').1 hg' with h | h
          · exact h2 g' h hle'
          · rw [h] at hle'; omega
        by_cases hyz : y = z
        · have : g = y := by
            have h3 := h2 z hzg (by rw [hyz]; exact Nat.le_refl _)
            exact pw_inj hI.pinc g ((hgm g).2 (.inl hg)) y ((hgm y).2 (.inl (by rw [hyz]; exact hzg))) (by rw [hyz] at h1 ⊢; omega)
          rw [this]; exact Nat.le_refl _
        · rw [hlw y, if_neg hyz]
          exact Nat.le_trans (hle g) hn
    · intro y hy k hex harr
      have key : Ex ls s y k := by
        rcases hex with ⟨h1, h2⟩ | ⟨b', h1, h2⟩
        · by_cases hyx : y = x
          · subst hyx
            exact .inr ⟨a, by rw [hp]; simp, by rw [List.take_of_length_le ha]; exact h1⟩
          · exact .inl ⟨h1, fun h => by
              rcases (hgm y).1 h with h | h
              · exact h2 h
              · exact hyx h⟩
        · exact .inr ⟨b', by rw [hp]; exact List.mem_append_left _ h1, h2⟩
      obtain ⟨h3, h4⟩ := hI.ex y hy k key harr
      exact ⟨h3, fun h => Nat.le_trans (hle y) (h4 h)⟩
theorem popU_eq (x : Nat) : ∀ (b a : List Nat), x ∉ b → popU x (b ++ x :: a) = some (a, b ++ [x])
  | [], a, _ => by simp [popU]
  | y :: b, a, h => by
    have h1 : y ≠ x := fun e => h (by simp [e])
    have h2 : x ∉ b := fun e => h (by simp [e])
    simp [popU, h1, popU_eq x b a h2]
theorem offAll_lk : ∀ (c : List Nat) (m : List (Nat × Bool)) (y : Nat), lk (offAll m c) y = if y ∈ c then some false else lk m y
  | [], m, y => by simp [offAll]
  | x :: c, m, y => by
    have : offAll m (x :: c) = offAll (sk m x false) c := rfl
    rw [this, offAll_lk c, lk_sk]
    by_cases h1 : y ∈ c
    · simp [h1]
    · by_cases h2 : y = x
      · simp [h2]
      · simp [h1, h2]
/-- The first node of its component is done: the component is taken off the stack. -/
theorem Inv.pop {p : List (Nat × Nat)} {x a : Nat} (hI : Inv ls nodes on s) (hp : s.path = p ++ [(x, a)]) (ha : (outAt ls ls.length x).length ≤ a) (heq : lowOf (s.up p x).low x = lowOf (s.up p x).idx x) :
    ∃ s', (s.up p x).comp x = some s' ∧ Inv ls nodes on s' ∧ s'.path = p ∧ s'.idx = s.idx := by
  have hxg : x ∈ s.path.map (·.1) := by rw [hp]; simp
  have hxs := hI.pst x hxg
  have hpg : s.path.map (·.1) = p.map (·.1) ++ [x] := by rw [hp]; simp
  have hlast : ∀ g ∈ p.map (·.1), lowOf s.idx g < lowOf s.idx x := pw_last (by rw [← hpg]; exact hI.pinc)
  have hgm : ∀ g, g ∈ s.path.map (·.1) ↔ g ∈ p.map (·.1) ∨ g = x := fun g => by rw [hpg, List.mem_append]; simp
  have hgmax : ∀ g' ∈ s.path.map (·.1), lowOf s.idx g' ≤ lowOf s.idx x := fun g' hg' => by
    rcases (hgm g').1 hg' with h | h
    · exact Nat.le_of_lt (hlast g' h)
    · rw [h]; exact Nat.le_refl _
  have hxe : lowOf s.low x = lowOf s.idx x := by
    rw [up_eq] at heq
    simp only at heq
    rw [up_low] at heq
    split at heq
    · exact heq
    · rename_i z b hpl
      have hzg : z ∈ p.map (·.1) := List.mem_map.2 ⟨_, List.mem_of_getLast? hpl, rfl⟩
      have hxz : x ≠ z := fun e => by have := hlast z hzg; rw [e] at this; omega
      rw [if_neg hxz] at heq
      exact heq
  have hlw : ∀ y, lowOf (s.up p x).low y = lowOf s.low y := fun y => by
    rw [up_low]
    split
    · rfl
    · rename_i z b hpl
      have hzg : z ∈ p.map (·.1) := List.mem_map.2 ⟨_, List.mem_of_getLast? hpl, rfl⟩
      have h1 := hlast z hzg
      have h2 := (hI.lw z (hI.pst z ((hgm z).2 (.inl hzg)))).1
      split
      · rename_i e; rw [e]; omega
      · rfl
  obtain ⟨A, B, hAB⟩ := List.append_of_mem hxs
  have hinc := hI.inc
  rw [hAB] at hinc
  obtain ⟨hA, hxB, hAxB⟩ := List.pairwise_append.1 hinc
  obtain ⟨hxB1, hB⟩ := List.pairwise_cons.1 hxB
  have hAx : ∀ y ∈ A, lowOf s.idx y < lowOf s.idx x := fun y hy => hAxB y hy x (by simp)
  have hCx : ∀ y ∈ x :: B, lowOf s.idx x ≤ lowOf s.idx y := fun y hy => by
    rcases List.mem_cons.1 hy with e | h
    · rw [e]; exact Nat.le_refl _
    · exact Nat.le_of_lt (hxB1 y h)
  have hst : ∀ y, y ∈ s.st ↔ y ∈ A ∨ y ∈ x :: B := fun y => by rw [hAB, List.mem_append]
  have hsplit : ∀ y ∈ s.st, lowOf s.idx x ≤ lowOf s.idx y → y ∈ x :: B := fun y hy h => by
    rcases (hst y).1 hy with h1 | h1
    · have := hAx y h1; omega
    · exact h1
  have hsplit2 : ∀ y ∈ s.st, lowOf s.idx y < lowOf s.idx x → y ∈ A := fun y hy h => by
    rcases (hst y).1 hy with h1 | h1
    · exact h1
    · have := hCx y h1; omega
  have hxB0 : x ∉ B := fun h => by have := hxB1 x h; omega
  have hpop : popU x s.st.reverse = some (A.reverse, B.reverse ++ [x]) := by
    rw [hAB, List.reverse_append, List.reverse_cons, List.append_assoc]
    exact popU_eq x B.reverse A.reverse (by simpa using hxB0)
  have hupst : (s.up p x).st = s.st := by rw [up_eq]
  have hupix : (s.up p x).idx = s.idx := by rw [up_eq]
  have hupon : (s.up p x).on = s.on := by rw [up_eq]
  have hupout : (s.up p x).out = s.out := up_out s p x
  have hupp : (s.up p x).path = p := by rw [up_eq]
  have hc : ∀ y, y ∈ sortN (B.reverse ++ [x]) ↔ y ∈ x :: B := fun y => by rw [(sortN_perm _).mem_iff]; simp [or_comm]
  have hcB : ∀ y, y ∈ B.reverse ++ [x] ↔ y ∈ x :: B := fun y => by simp [or_comm]
  have hgray : ∀ y ∈ B, y ∉ s.path.map (·.1) := fun y hy h => by
    have := hgmax y h
    have := hxB1 y hy
    omega
  have hlowx : ∀ y ∈ x :: B, lowOf s.idx x ≤ lowOf s.low y := fun y hy => by
    have := hI.near y ((hst y).2 (.inr hy)) x hxg (hCx y hy) fun g' hg' _ => hgmax g' hg'
    omega
  refine ⟨{ idx := s.idx, low := (s.up p x).low, on := offAll s.on (B.reverse ++ [x]), st := A, path := p, out := s.out ++ [sortN (B.reverse ++ [x])] }, by unfold Tj.comp; rw [hupst, hpop]; simp only [hupix, hupon, hupout, hupp, List.reverse_reverse], ?_, rfl, rfl⟩
  have hto : ∀ y ∈ x :: B, Rc (EdgeP ls nodes on) x y := fun y hy => hI.r1 x hxg y ((hst y).2 (.inr hy)) (hCx y hy)
  have hback : ∀ (m y : Nat), lowOf s.idx y ≤ m → y ∈ x :: B → Rc (EdgeP ls nodes on) y x := by
    intro m
    induction m with
    | zero =>
      intro y hm hy
      have h1 := hCx y hy
      rcases List.mem_cons.1 hy with e | h
      · rw [e]; exact .refl _
      · have := hxB1 y h; omega
    | succ m ih =>
      intro y hm hy
      rcases List.mem_cons.1 hy with e | h
      · rw [e]; exact .refl _
      · have hys := (hst y).2 (.inr hy)
        have h1 := hI.lws y hys (hgray y h)
        obtain ⟨_, z, hz, h2, h3⟩ := hI.lw y hys
        have h4 := hlowx y hy
        exact h3.trans (ih z (by omega) (hsplit z hz (by omega)))
  have hex : ∀ y ∈ x :: B, ∀ k, k ∈ outAt ls ls.length y → Ex ls s y k := fun y hy k hk => by
    rcases List.mem_cons.1 hy with e | h
    · subst e
      exact .inr ⟨a, by rw [hp]; simp, by rw [List.take_of_length_le ha]; exact hk⟩
    · exact .inl ⟨hk, hgray y h⟩
  have hperm : (A ++ (s.out ++ [sortN (B.reverse ++ [x])]).flatten).Perm (s.st ++ s.out.flatten) := by
    rw [List.flatten_append, hAB]
    simp only [List.flatten_cons, List.flatten_nil, List.append_nil]
    rw [List.append_assoc]
    refine List.Perm.append_left A ?_
    have h1 : (sortN (B.reverse ++ [x])).Perm (x :: B) := (sortN_perm _).trans (by
      refine List.perm_append_comm.trans ?_
      exact (List.reverse_perm B).cons x)
    exact (List.perm_append_comm).trans (h1.append_right _)
  have hmemp : ∀ y, (y ∈ A ∨ y ∈ (s.out ++ [sortN (B.reverse ++ [x])]).flatten) ↔ (y ∈ s.st ∨ y ∈ s.out.flatten) := fun y => by
    rw [← List.mem_append, ← List.mem_append]; exact hperm.mem_iff
  refine ⟨fun y => ?_, fun y => ?_, ?_, hA, hI.lt, ?_, fun g h => ?_, fun g h z hz => ?_, fun y hy => ?_, fun y hy hny => ?_, fun y hy g hg h1 h2 => ?_, fun y hy k hexk harr => ?_, hI.mem, fun c hcm => ?_, fun i hi y hy z hyz => ?_⟩
  · rw [hI.vis]; exact (hmemp y).symm
  · rw [offAll_lk]
    split
    · rename_i h
      have hyB := (hcB y).1 h
      constructor
      · intro h; cases h
      · intro hyA
        have h1 := hAx y hyA
        have h2 := hCx y hyB
        omega
    · rename_i h
      rw [hI.on_, hst]
      constructor
      · rintro (h1 | h1)
        · exact h1
        · exact absurd ((hcB y).2 h1) h
      · exact .inl
  · exact hperm.nodup_iff.2 hI.nodup
  · have := hI.pinc
    rw [hpg] at this
    exact (List.pairwise_append.1 this).1
  · exact hsplit2 g (hI.pst g ((hgm g).2 (.inl h))) (hlast g h)
  · exact hI.r1 g ((hgm g).2 (.inl h)) z ((hst z).2 (.inl hz))
  · obtain ⟨h1, z, hz, h2, h3⟩ := hI.lw y ((hst y).2 (.inl hy))
    have := hAx y hy
    rw [hlw]
    exact ⟨h1, z, hsplit2 z hz (by omega), h2, h3⟩
  · have := hAx y hy
    rw [hlw]
    refine hI.lws y ((hst y).2 (.inl hy)) fun h => ?_
    rcases (hgm y).1 h with h | h
    · exact hny h
    · rw [h] at this; omega
  · rw [hlw, hlw]
    refine hI.near y ((hst y).2 (.inl hy)) g ((hgm g).2 (.inl hg)) h1 fun g' hg' hle => ?_
    rcases (hgm g').1 hg' with h | h
    · exact h2 g' h hle
    · have := hAx y hy
      rw [h] at hle
      omega
  · have hyx := hAx y hy
    have key : Ex ls s y k := by
      rcases hexk with ⟨h1, h2⟩ | ⟨b', h1, h2⟩
      · exact .inl ⟨h1, fun h => by
          rcases (hgm y).1 h with h | h
          · exact h2 h
          · rw [h] at hyx; omega⟩
      · exact .inr ⟨b', by rw [hp]; exact List.mem_append_left _ h1, h2⟩
    obtain ⟨h3, h4⟩ := hI.ex y ((hst y).2 (.inl hy)) k key harr
    rw [hlw]
    exact ⟨h3, fun h => h4 ((hst _).2 (.inl h))⟩
  · rcases List.mem_append.1 hcm with hcm | hcm
    · exact hI.scc c hcm
    · rw [List.mem_singleton.1 hcm]
      refine ⟨fun h => ?_, sortN_sorted _, fun u hu v hv => ?_⟩
      · have := (hc x).2 (by simp)
        rw [h] at this
        cases this
      · exact (hback _ u (Nat.le_refl _) ((hc u).1 hu)).trans (hto v ((hc v).1 hv))
  · rw [List.length_append] at hi
    by_cases hi2 : i < s.out.length
    · rw [List.getElem_append_left hi2] at hy
      obtain ⟨j, hj, h1, h2⟩ := hI.ord i hi2 y hy z hyz
      exact ⟨j, by rw [List.length_append]; omega, h1, by rw [List.getElem_append_left hj]; exact h2⟩
    · have hie : i = s.out.length := by simp at hi; omega
      subst hie
      rw [List.getElem_append_right (Nat.le_refl _)] at hy
      simp only [Nat.sub_self, List.getElem_cons_zero] at hy
      have hyB := (hc y).1 hy
      obtain ⟨k, hk, harr, hkz⟩ := hyz
      obtain ⟨h3, h4⟩ := hI.ex y ((hst y).2 (.inr hyB)) k (hex y hyB k hk) harr
      rw [hkz] at h3 h4
      rcases (hI.vis z).1 h3 with h | h
      · have h5 := h4 h
        have h6 := hlowx y hyB
        have hzB := hsplit z h (by omega)
        exact ⟨s.out.length, by simp, Nat.le_refl _, by rw [List.getElem_append_right (Nat.le_refl _)]; simp only [Nat.sub_self, List.getElem_cons_zero]; exact (hc z).2 hzB⟩
      · obtain ⟨c, hcm, hzc⟩ := List.mem_flatten.1 h
        obtain ⟨j, hj, hjc⟩ := List.getElem_of_mem hcm
        exact ⟨j, by rw [List.length_append]; omega, by omega, by rw [List.getElem_append_left hj, hjc]; exact hzc⟩
end
end Go.Proofs.Ytnanffbjmfgafaa.S

namespace Go.Proofs.Ytnanffbjmfgafaa.S
open Go.RowKit
def degR (ls : List Arrow) (x : Nat) : Nat := (outAt ls ls.length x).length
def unvis (ls : List Arrow) (m : List (Nat × Nat)) : List Nat → Nat
  | [] => 0
  | x :: r => (if (lk m x).isSome = true then 0 else degR ls x + 3) + unvis ls m r
def onPath (ls : List Arrow) : List (Nat × Nat) → Nat
  | [] => 0
  | (x, a) :: r => (degR ls x + 1 - a) + onPath ls r
theorem onPath_app (ls : List Arrow) : ∀ p q, onPath ls (p ++ q) = onPath ls p + onPath ls q
  | [], q => by simp [onPath]
  | (x, a) :: p, q => by simp only [List.cons_append, onPath, onPath_app ls p q]; omega
def phi (ls : List Arrow) (nodes : List Nat) (s : Tj) : Nat := unvis ls s.idx nodes + onPath ls s.path
theorem unvis_le (ls : List Arrow) (m : List (Nat × Nat)) (y v : Nat) : ∀ nodes, unvis ls (sk m y v) nodes ≤ unvis ls m nodes
  | [] => Nat.le_refl _
  | x :: r => by
    have := unvis_le ls m y v r
    simp only [unvis, lk_sk]
    by_cases h : x = y
    · rw [if_pos h]; simp only [Option.isSome_some, if_true]; omega
    · rw [if_neg h]; omega
theorem unvis_new (ls : List Arrow) (m : List (Nat × Nat)) (y v : Nat) (hy : lk m y = none) : ∀ nodes, y ∈ nodes → unvis ls (sk m y v) nodes + (degR ls y + 3) ≤ unvis ls m nodes
  | [], h => by cases h
  | x :: r, h => by
    simp only [unvis, lk_sk]
    by_cases e : x = y
    · have := unvis_le ls m y v r
      subst e
      simp only [if_true, Option.isSome_some, hy, Option.isSome_none, Bool.false_eq_true, if_false]
      omega
    · have := unvis_new ls m y v hy r (by rcases List.mem_cons.1 h with h | h; exact absurd h.symm e; exact h)
      rw [if_neg e]
      omega
theorem arrIn_to {ls : List Arrow} {nodes : List Nat} {on : List Bool} {k : Nat} (h : arrIn ls nodes on k = true) : toOf ls k ∈ nodes := by
  unfold arrIn at h
  unfold toOf
  rw [Bool.and_eq_true] at h
  have h2 := h.2
  rcases hk : ls[k]? with _ | b
  · rw [hk] at h2; cases h2
  · rw [hk] at h2
    simpa using h2
structure Inv2 (ls : List Arrow) (nodes : List Nat) (on : List Bool) (s : Tj) : Prop where
  inv : Inv ls nodes on s
  pa : ∀ q ∈ s.path, q.2 ≤ degR ls q.1
section
variable {ls : List Arrow} {nodes : List Nat} {on : List Bool} {s : Tj}
theorem Inv2.scan {p : List (Nat × Nat)} {x a : Nat} (h : Inv2 ls nodes on s) (hp : s.path = p ++ [(x, a)]) (ha : a < (outAt ls ls.length x).length) :
    Inv2 ls nodes on (s.scan ls nodes on p x a).1 ∧ phi ls nodes (s.scan ls nodes on p x a).1 + 1 ≤ phi ls nodes s := by
  have hI := h.inv
  obtain ⟨k, hk⟩ : ∃ k, (outAt ls ls.length x)[a]? = some k := ⟨_, List.getElem?_eq_getElem ha⟩
  have hkd : (outAt ls ls.length x).getD a 0 = k := by rw [List.getD_eq_getElem?_getD, hk]; rfl
  have hkm : k ∈ outAt ls ls.length x := List.mem_of_getElem? hk
  have hpa : ∀ q ∈ p, q.2 ≤ degR ls q.1 := fun q hq => h.pa q (by rw [hp]; exact List.mem_append_left _ hq)
  have hpa1 : ∀ q ∈ p ++ [(x, a + 1)], q.2 ≤ degR ls q.1 := fun q hq => by
    rcases List.mem_append.1 hq with hq | hq
    · exact hpa q hq
    · rw [List.mem_singleton.1 hq]; exact ha
  have hph : onPath ls (p ++ [(x, a + 1)]) + 1 = onPath ls s.path := by
    rw [hp, onPath_app, onPath_app]
    simp only [onPath]
    have : a < degR ls x := ha
    omega
  have hxg : x ∈ s.path.map (·.1) := by rw [hp]; simp
  have hgeq : (p ++ [(x, a + 1)]).map (·.1) = s.path.map (·.1) := by rw [hp]; simp
  unfold Tj.scan Tj.arrow
  simp only [hkd]
  split
  · rename_i h1
    refine ⟨⟨hI.step hp hk (fun h2 => by rw [h1] at h2; cases h2), hpa1⟩, ?_⟩
    unfold phi
    simp only
    omega
  · rename_i h1
    have harr : arrIn ls nodes on k = true := by simpa using h1
    have hyn := arrIn_to harr
    split
    · rename_i h2
      refine ⟨⟨hI.enter h2 hyn (p ++ [(x, a + 1)]) hgeq (fun g hg => ?_) (fun z k' hz => ?_), fun q hq => ?_⟩, ?_⟩
      · refine .tail (hI.r1 g hg x (hI.pst x hxg) ?_) ⟨k, hkm, harr, rfl⟩
        have hpg : s.path.map (·.1) = p.map (·.1) ++ [x] := by rw [hp]; simp
        have hg2 := hg
        rw [hpg] at hg2
        rcases List.mem_append.1 hg2 with hg2 | hg2
        · exact Nat.le_of_lt (pw_last (by rw [← hpg]; exact hI.pinc) g hg2)
        · rw [List.mem_singleton.1 hg2]; exact Nat.le_refl _
      · obtain ⟨b, hb, hkb⟩ := hz
        rcases List.mem_append.1 hb with hb | hb
        · exact .inl (.inr ⟨b, by rw [hp]; exact List.mem_append_left _ hb, hkb⟩)
        · simp only [List.mem_singleton, Prod.mk.injEq] at hb
          obtain ⟨rfl, rfl⟩ := hb
          rw [List.take_succ_eq_append_getElem ha] at hkb
          rcases List.mem_append.1 hkb with hkb | hkb
          · exact .inl (.inr ⟨a, by rw [hp]; simp, hkb⟩)
          · right
            rw [List.getElem?_eq_getElem ha, Option.some.injEq] at hk
            rw [List.mem_singleton.1 hkb, hk]
      · rcases List.mem_append.1 hq with hq | hq
        · exact hpa1 q hq
        · rw [List.mem_singleton.1 hq]; exact Nat.zero_le _
      · have := unvis_new ls s.idx (toOf ls k) s.idx.length h2 nodes hyn
        show unvis ls (sk s.idx (toOf ls k) s.idx.length) nodes + onPath ls ((p ++ [(x, a + 1)]) ++ [(toOf ls k, 0)]) + 1 ≤ unvis ls s.idx nodes + onPath ls s.path
        rw [onPath_app]
        simp only [onPath]
        omega
    · rename_i h2
      split
      · rename_i h3
        refine ⟨⟨hI.lower hp hk harr ((hI.on_ _).1 h3), hpa1⟩, ?_⟩
        unfold phi
        simp only
        omega
      · rename_i h3
        refine ⟨⟨hI.step hp hk (fun _ => ⟨(by
          rcases hq : lk s.idx (toOf ls k) with _ | v
          · exact absurd hq h2
          · rfl), fun hm => h3 ((hI.on_ _).2 hm)⟩), hpa1⟩, ?_⟩
        unfold phi
        simp only
        omega
theorem Inv2.done {p : List (Nat × Nat)} {x a : Nat} (h : Inv2 ls nodes on s) (hp : s.path = p ++ [(x, a)]) (ha : ¬ a < (outAt ls ls.length x).length) :
    ∃ s', s.done p x = some s' ∧ Inv2 ls nodes on s' ∧ phi ls nodes s' + 1 ≤ phi ls nodes s := by
  have hI := h.inv
  have hpa : ∀ q ∈ p, q.2 ≤ degR ls q.1 := fun q hq => h.pa q (by rw [hp]; exact List.mem_append_left _ hq)
  have hax : a ≤ degR ls x := h.pa (x, a) (by rw [hp]; simp)
  have hph : ∀ s' : Tj, s'.idx = s.idx → s'.path = p → phi ls nodes s' + 1 ≤ phi ls nodes s := fun s' e1 e2 => by
    unfold phi
    rw [e1, e2, hp, onPath_app]
    simp only [onPath]
    omega
  unfold Tj.done
  split
  · rename_i heq
    obtain ⟨s', e, hI', e1, e2⟩ := hI.pop hp (Nat.le_of_not_lt ha) heq
    exact ⟨s', e, ⟨hI', by rw [e1]; exact hpa⟩, hph s' e2 e1⟩
  · rename_i hne
    exact ⟨_, rfl, ⟨hI.leave hp (Nat.le_of_not_lt ha) hne, by rw [up_eq]; exact hpa⟩, hph _ (by rw [up_eq]) (by rw [up_eq])⟩
theorem runT_total : ∀ (f : Nat) (s : Tj), Inv2 ls nodes on s → phi ls nodes s + 1 ≤ f → ∃ f' s', runT ls nodes on f s = some (f', s') ∧ Inv2 ls nodes on s' ∧ s'.path = [] ∧ f + phi ls nodes s' ≤ f' + phi ls nodes s + 1 ∧ ∀ y, (lk s.idx y).isSome = true → (lk s'.idx y).isSome = true
  | 0, s, _, h => by omega
  | f + 1, s, hI, hf => by
    rcases List.eq_nil_or_concat s.path with hp | ⟨p, ⟨x, a⟩, hp⟩
    · exact ⟨f, s, runT_end hp, hI, hp, by omega, fun _ h => h⟩
    · rw [List.concat_eq_append] at hp
      by_cases ha : a < (outAt ls ls.length x).length
      · obtain ⟨h1, h2⟩ := hI.scan hp ha
        obtain ⟨f', s', e, h3, h4, h5, h6⟩ := runT_total f _ h1 (by omega)
        refine ⟨f', s', by rw [runT_scan hp ha]; exact e, h3, h4, by omega, fun y hy => h6 y ?_⟩
        unfold Tj.scan Tj.arrow
        simp only
        split
        · exact hy
        · split
          · show (lk (sk s.idx _ _) y).isSome = true
            rw [lk_sk]
            split
            · rfl
            · exact hy
          · split <;> exact hy
      · obtain ⟨s1, e1, h1, h2⟩ := hI.done hp ha
        obtain ⟨f', s', e, h3, h4, h5, h6⟩ := runT_total f _ h1 (by omega)
        have g1 : s.path.getLast? = some (x, a) := by rw [hp]; simp
        have g2 : s.path.dropLast = p := by rw [hp]; simp
        refine ⟨f', s', by simp only [runT, g1, g2, ha, if_false, e1]; exact e, h3, h4, by omega, fun y hy => h6 y ?_⟩
        have : s1.idx = s.idx := by
          unfold Tj.done at e1
          split at e1
          · unfold Tj.comp at e1
            split at e1
            · cases e1; rw [up_eq]
            · cases e1
          · cases e1; rw [up_eq]
        rw [this]; exact hy
theorem rootsT_total : ∀ (rs : List Nat) (f : Nat) (s : Tj), (∀ r ∈ rs, r ∈ nodes) → Inv2 ls nodes on s → s.path = [] → phi ls nodes s ≤ f → ∃ s', rootsT ls nodes on rs f s = some s' ∧ Inv2 ls nodes on s' ∧ s'.path = [] ∧ (∀ y, (lk s.idx y).isSome = true → (lk s'.idx y).isSome = true) ∧ ∀ r ∈ rs, (lk s'.idx r).isSome = true
  | [], f, s, _, hI, hp, _ => ⟨s, rfl, hI, hp, fun _ h => h, fun r h => by cases h⟩
  | r :: rs, f, s, hrs, hI, hp, hf => by
    unfold rootsT
    by_cases hv : (lk s.idx r).isSome = true
    · rw [if_pos hv]
      obtain ⟨s', e, h1, h2, h3, h4⟩ := rootsT_total rs f s (fun q hq => hrs q (by simp [hq])) hI hp hf
      exact ⟨s', e, h1, h2, h3, fun q hq => by
        rcases List.mem_cons.1 hq with e | hq
        · rw [e]; exact h3 r hv
        · exact h4 q hq⟩
    · rw [if_neg hv]
      have hn : lk s.idx r = none := by
        rcases hq : lk s.idx r with _ | v
        · rfl
        · rw [hq] at hv; exact absurd rfl hv
      have hrn := hrs r (by simp)
      have hu := unvis_new ls s.idx r s.idx.length hn nodes hrn
      have hphi : phi ls nodes s = unvis ls s.idx nodes := by unfold phi; rw [hp]; rfl
      rcases f with _ | f
      · omega
      · have hE : Inv2 ls nodes on ({ s with path := [] }.enter r) := by
          refine ⟨hI.inv.enter hn hrn [] (by rw [hp]) (fun g hg => by rw [hp] at hg; cases hg) (fun z k ⟨b, hb, _⟩ => by cases hb), fun q hq => ?_⟩
          have : q = (r, 0) := by simpa [Tj.enter] using hq
          rw [this]; exact Nat.zero_le _
        have hpE : phi ls nodes ({ s with path := [] }.enter r) + 2 ≤ phi ls nodes s := by
          show unvis ls (sk s.idx r s.idx.length) nodes + onPath ls [(r, 0)] + 2 ≤ phi ls nodes s
          simp only [onPath]
          omega
        obtain ⟨f', s1, e1, h1, h2, h3, h4⟩ := runT_total f _ hE (by omega)
        obtain ⟨s', e, h5, h6, h7, h8⟩ := rootsT_total rs f' s1 (fun q hq => hrs q (by simp [hq])) h1 h2 (by omega)
        have hgr : ∀ y, (lk s.idx y).isSome = true → (lk s'.idx y).isSome = true := fun y hy => h7 y (h4 y (by
          show (lk (sk s.idx r s.idx.length) y).isSome = true
          rw [lk_sk]
          split
          · rfl
          · exact hy))
        refine ⟨s', by simpa only [e1] using e, h5, h6, hgr, fun q hq => ?_⟩
        rcases List.mem_cons.1 hq with eq | hq
        · rw [eq]
          refine h7 r (h4 r ?_)
          show (lk (sk s.idx r s.idx.length) r).isSome = true
          rw [lk_sk, if_pos rfl]; rfl
        · exact h8 q hq
structure CompsOk (ls : List Arrow) (nodes : List Nat) (on : List Bool) (cs : List (List Nat)) : Prop where
  mem : ∀ x, x ∈ cs.flatten ↔ x ∈ nodes
  nodup : cs.flatten.Nodup
  scc : ∀ c ∈ cs, c ≠ [] ∧ c.Pairwise (· ≤ ·) ∧ ∀ x ∈ c, ∀ y ∈ c, Rc (EdgeP ls nodes on) x y
  ord : ∀ i (h : i < cs.length), ∀ y ∈ cs[i], ∀ z, EdgeP ls nodes on y z → ∃ j, ∃ h : j < cs.length, j ≤ i ∧ z ∈ cs[j]
theorem unvis_all (ls : List Arrow) : ∀ nodes : List Nat, unvis ls [] nodes ≤ nodes.length * (ls.length + 3)
  | [] => by simp [unvis]
  | x :: r => by
    have h1 := unvis_all ls r
    have h2 : degR ls x ≤ ls.length := outAt_len _ _ _
    simp only [unvis, lk, Option.isSome_none, Bool.false_eq_true, if_false, List.length_cons, Nat.add_mul, Nat.one_mul]
    omega
theorem comps_total (ls : List Arrow) (nodes : List Nat) (on : List Bool) (hb : nodes.length * (ls.length + 3) ≤ 1000000) : ∃ cs, compsR ls nodes on = some cs ∧ CompsOk ls nodes on cs := by
  have h0 : phi ls nodes Tj.init ≤ 1000000 := by
    have := unvis_all ls nodes
    show unvis ls [] nodes + onPath ls [] ≤ 1000000
    simp only [onPath]
    omega
  obtain ⟨s', e, hI, hp, _, hv⟩ := rootsT_total (on := on) nodes 1000000 Tj.init (fun _ h => h) ⟨Inv.init, fun q hq => by cases hq⟩ rfl h0
  have hst := hI.inv.empty hp
  refine ⟨s'.out, by unfold compsR; rw [e]; rfl, fun x => ⟨fun h => hI.inv.mem x ((hI.inv.vis x).2 (.inr h)), fun h => ?_⟩, ?_, hI.inv.scc, hI.inv.ord⟩
  · rcases (hI.inv.vis x).1 (hv x h) with h1 | h1
    · rw [hst] at h1; cases h1
    · exact h1
  · have := hI.inv.nodup
    rw [hst] at this
    exact this
end
end Go.Proofs.Ytnanffbjmfgafaa.S

namespace Go.Proofs.Ytnanffbjmfgafaa.S
open Go.RowKit
/-- A walk along arrows of which P holds. -/
inductive Wk (ls : List Arrow) (P : Nat → Prop) : Nat → List Nat → Nat → Prop
  | nil (x : Nat) : Wk ls P x [] x
  | cons {k y : Nat} {w : List Nat} : k < ls.length → P k → Wk ls P (toOf ls k) w y → Wk ls P (frOf ls k) (k :: w) y
section
variable {ls : List Arrow} {P Q : Nat → Prop}
theorem Wk.mono {x y : Nat} {w : List Nat} (h : Wk ls P x w y) (hPQ : ∀ k ∈ w, P k → Q k) : Wk ls Q x w y := by
  induction h with
  | nil x => exact .nil x
  | cons hk hp _ ih => exact .cons hk (hPQ _ (by simp) hp) (ih fun k hk h => hPQ k (by simp [hk]) h)
theorem Wk.all {x y : Nat} {w : List Nat} (h : Wk ls P x w y) : ∀ k ∈ w, k < ls.length ∧ P k := by
  induction h with
  | nil x => intro k hk; cases hk
  | cons hk hp _ ih =>
    intro k hk2
    rcases List.mem_cons.1 hk2 with e | h
    · rw [e]; exact ⟨hk, hp⟩
    · exact ih k h
theorem Wk.app {x y z : Nat} {w v : List Nat} (h : Wk ls P x w y) (k : Wk ls P y v z) : Wk ls P x (w ++ v) z := by
  induction h with
  | nil x => exact k
  | cons hk hp _ ih => exact .cons hk hp (ih k)
theorem Wk.one {k : Nat} (hk : k < ls.length) (hp : P k) : Wk ls P (frOf ls k) [k] (toOf ls k) := .cons hk hp (.nil _)
theorem frOf_at {k : Nat} (h : k < ls.length) : frOf ls k = (ls[k]).fr := by unfold frOf; rw [List.getElem?_eq_getElem h]
theorem toOf_at {k : Nat} (h : k < ls.length) : toOf ls k = (ls[k]).to := by unfold toOf; rw [List.getElem?_eq_getElem h]
theorem mem_outAt {x k : Nat} : k ∈ outAt ls ls.length x ↔ k < ls.length ∧ frOf ls k = x := by
  unfold outAt
  rw [List.mem_filter, List.mem_range]
  constructor
  · rintro ⟨h1, h2⟩
    rw [List.getElem?_eq_getElem h1] at h2
    exact ⟨h1, by rw [frOf_at h1]; simpa using h2⟩
  · rintro ⟨h1, h2⟩
    rw [frOf_at h1] at h2
    exact ⟨h1, by rw [List.getElem?_eq_getElem h1]; simpa using h2⟩
theorem arrIn_iff {nodes : List Nat} {on : List Bool} {k : Nat} (hk : k < ls.length) : arrIn ls nodes on k = true ↔ on.getD k false = true ∧ toOf ls k ∈ nodes := by
  unfold arrIn
  rw [toOf_at hk, List.getElem?_eq_getElem hk]
  simp
theorem mem_withinF {nodes : List Nat} {on : List Bool} {k : Nat} : k ∈ withinF ls nodes on ↔ k < ls.length ∧ frOf ls k ∈ nodes ∧ on.getD k false = true ∧ toOf ls k ∈ nodes := by
  unfold withinF
  rw [List.mem_flatMap]
  constructor
  · rintro ⟨x, hx, h⟩
    obtain ⟨h1, h2⟩ := List.mem_filter.1 h
    obtain ⟨h3, h4⟩ := mem_outAt.1 h1
    exact ⟨h3, h4 ▸ hx, (arrIn_iff h3).1 h2⟩
  · rintro ⟨h1, h2, h3⟩
    exact ⟨_, h2, List.mem_filter.2 ⟨mem_outAt.2 ⟨h1, rfl⟩, (arrIn_iff h1).2 h3⟩⟩
theorem edge_iff {nodes : List Nat} {on : List Bool} {x y : Nat} : EdgeP ls nodes on x y ↔ ∃ k, k < ls.length ∧ frOf ls k = x ∧ toOf ls k = y ∧ on.getD k false = true ∧ y ∈ nodes := by
  unfold EdgeP
  constructor
  · rintro ⟨k, h1, h2, rfl⟩
    obtain ⟨h3, h4⟩ := mem_outAt.1 h1
    obtain ⟨h5, h6⟩ := (arrIn_iff h3).1 h2
    exact ⟨k, h3, h4, rfl, h5, h6⟩
  · rintro ⟨k, h1, h2, rfl, h3, h4⟩
    exact ⟨k, mem_outAt.2 ⟨h1, h2⟩, (arrIn_iff h1).2 ⟨h3, h4⟩, rfl⟩
theorem rc_wk {nodes : List Nat} {on : List Bool} {x y : Nat} (h : Rc (EdgeP ls nodes on) x y) : ∃ w, Wk ls (fun k => on.getD k false = true ∧ toOf ls k ∈ nodes) x w y := by
  induction h with
  | refl => exact ⟨[], .nil _⟩
  | tail _ e ih =>
    obtain ⟨w, hw⟩ := ih
    obtain ⟨k, h1, rfl, rfl, h2, h3⟩ := edge_iff.1 e
    exact ⟨_, hw.app (.one h1 ⟨h2, h3⟩)⟩
end
/-- The marks of the arrows satisfy the condition. -/
def Sats (ls : List Arrow) (all : List Nat) (pairs : List (Nat × Nat)) (l : List Nat) : Prop :=
  (∀ m ∈ all, ∃ k ∈ l, hasM ls k m = true) ∧ ∀ p ∈ pairs, (∃ k ∈ l, hasM ls k p.1 = true) → ∃ k ∈ l, hasM ls k p.2 = true
theorem metF_at (ls : List Arrow) (l : List Nat) {m : Nat} (h : m < 16) : (metF ls l).getD m false = l.any fun k => hasM ls k m := by
  unfold metF
  rw [List.getD_eq_getElem?_getD, List.getElem?_map, List.getElem?_range h]
  rfl
section
variable {ls : List Arrow} {all : List Nat} {pairs : List (Nat × Nat)} {l : List Nat}
theorem met_yes {m : Nat} (h : m < 16) : (metF ls l).getD m false = true ↔ ∃ k ∈ l, hasM ls k m = true := by rw [metF_at _ _ h]; simp
theorem met_no {m : Nat} (h : m < 16) : (metF ls l).getD m false = false ↔ ∀ k ∈ l, hasM ls k m = false := by rw [metF_at _ _ h]; simp
theorem lack_cases (hw : ValidW all pairs) :
    (∃ i, lackingF (metF ls l) all pairs = (3, i) ∧ ∃ m ∈ all, ∀ k ∈ l, hasM ls k m = false) ∨
    (∃ i, ∃ h : i < pairs.length, lackingF (metF ls l) all pairs = (4, i) ∧ (∃ k ∈ l, hasM ls k pairs[i].1 = true) ∧ ∀ k ∈ l, hasM ls k pairs[i].2 = false) ∨
    (lackingF (metF ls l) all pairs = (0, 0) ∧ Sats ls all pairs l) := by
  unfold lackingF
  split
  · rename_i i h
    obtain ⟨h1, h2, _⟩ := List.findIdx?_eq_some_iff_getElem.1 h
    refine .inl ⟨i, rfl, all[i], List.getElem_mem h1, ?_⟩
    exact (met_no (hw.all_ok _ (List.getElem_mem h1))).1 (by simpa using h2)
  · rename_i h
    have hall := List.findIdx?_eq_none_iff.1 h
    split
    · rename_i i h
      obtain ⟨h1, h2, _⟩ := List.findIdx?_eq_some_iff_getElem.1 h
      have hp := hw.pairs_ok _ (List.getElem_mem h1)
      simp only [Bool.and_eq_true, Bool.not_eq_true'] at h2
      exact .inr (.inl ⟨i, h1, rfl, (met_yes hp.1).1 h2.1, (met_no hp.2).1 h2.2⟩)
    · rename_i h
      have hprs := List.findIdx?_eq_none_iff.1 h
      refine .inr (.inr ⟨rfl, fun m hm => (met_yes (hw.all_ok m hm)).1 (by simpa using hall m hm), fun p hp h1 => ?_⟩)
      have h2 := hprs p hp
      have hpo := hw.pairs_ok p hp
      rw [(met_yes hpo.1).2 h1] at h2
      exact (met_yes hpo.2).1 (by simpa using h2)
theorem satF_iff (hw : ValidW all pairs) : satF (metF ls l) all pairs = true ↔ Sats ls all pairs l := by
  unfold satF
  rcases lack_cases (ls := ls) (l := l) hw with ⟨i, e, m, hm, h⟩ | ⟨i, hi, e, h1, h2⟩ | ⟨e, h⟩
  · rw [e]
    refine ⟨fun h => by simp at h, fun hs => ?_⟩
    obtain ⟨k, hk, h3⟩ := hs.1 m hm
    rw [h k hk] at h3; cases h3
  · rw [e]
    refine ⟨fun h => by simp at h, fun hs => ?_⟩
    obtain ⟨k, hk, h3⟩ := hs.2 _ (List.getElem_mem hi) h1
    rw [h2 k hk] at h3; cases h3
  · rw [e]
    exact ⟨fun _ => h, fun _ => rfl⟩
end
theorem comp_uniq {cs : List (List Nat)} (h : cs.flatten.Nodup) {i j : Nat} (hi : i < cs.length) (hj : j < cs.length) {x : Nat} (h1 : x ∈ cs[i]) (h2 : x ∈ cs[j]) : i = j := by
  have hp := (List.pairwise_flatten.1 h).2
  rcases Nat.lt_trichotomy i j with hlt | e | hlt
  · exact absurd rfl (List.pairwise_iff_getElem.1 hp i j hi hj hlt x h1 x h2)
  · exact e
  · exact absurd rfl (List.pairwise_iff_getElem.1 hp j i hj hi hlt x h2 x h1)
section
variable {ls : List Arrow} {nodes : List Nat} {on : List Bool} {cs : List (List Nat)}
/-- A walk leads to components found earlier, or not later. -/
theorem wk_ord (hc : CompsOk ls nodes on cs) {x y : Nat} {w : List Nat} (h : Wk ls (fun k => on.getD k false = true ∧ toOf ls k ∈ nodes) x w y) : ∀ a (ha : a < cs.length), x ∈ cs[a] →
    ∃ b, ∃ hb : b < cs.length, b ≤ a ∧ y ∈ cs[b] ∧ ∀ k ∈ w, ∃ j, ∃ hj : j < cs.length, ∃ j', ∃ hj' : j' < cs.length, b ≤ j' ∧ j' ≤ j ∧ j ≤ a ∧ frOf ls k ∈ cs[j] ∧ toOf ls k ∈ cs[j'] := by
  induction h with
  | nil x => intro a ha hx; exact ⟨a, ha, Nat.le_refl _, hx, fun k hk => by cases hk⟩
  | @cons k y w hk hp _ ih =>
    intro a ha hx
    obtain ⟨c, hc1, hc2, hc3⟩ := hc.ord a ha _ hx (toOf ls k) (edge_iff.2 ⟨k, hk, rfl, rfl, hp.1, hp.2⟩)
    obtain ⟨b, hb, h1, h2, h3⟩ := ih c hc1 hc3
    refine ⟨b, hb, by omega, h2, fun q hq => ?_⟩
    rcases List.mem_cons.1 hq with e | hq
    · rw [e]; exact ⟨a, ha, c, hc1, h1, hc2, Nat.le_refl _, hx, hc3⟩
    · obtain ⟨j, hj, j', hj', h4, h5, h6, h7⟩ := h3 q hq
      exact ⟨j, hj, j', hj', h4, h5, by omega, h7⟩
/-- A walk between nodes of one component stays in it. -/
theorem wk_stays (hc : CompsOk ls nodes on cs) {x y : Nat} {w : List Nat} (h : Wk ls (fun k => on.getD k false = true ∧ toOf ls k ∈ nodes) x w y) {c : List Nat} (hcm : c ∈ cs) (hx : x ∈ c) (hy : y ∈ c) : ∀ k ∈ w, k ∈ withinF ls c on := by
  obtain ⟨i, hi, rfl⟩ := List.getElem_of_mem hcm
  obtain ⟨b, hb, h1, h2, h3⟩ := wk_ord hc h i hi hx
  have e := comp_uniq hc.nodup hb hi h2 hy
  subst e
  intro k hk
  obtain ⟨j, hj, j', hj', h4, h5, h6, h7, h8⟩ := h3 k hk
  have e1 : j = b := by omega
  have e2 : j' = b := by omega
  subst e1; subst e2
  have := h.all k hk
  exact mem_withinF.2 ⟨this.1, h7, this.2.1, h8⟩
/-- Within a component each node is reached from each. -/
theorem comp_conn (hc : CompsOk ls nodes on cs) {c : List Nat} (hcm : c ∈ cs) {x y : Nat} (hx : x ∈ c) (hy : y ∈ c) : ∃ w, Wk ls (· ∈ withinF ls c on) x w y := by
  obtain ⟨w, hw⟩ := rc_wk ((hc.scc c hcm).2.2 x hx y hy)
  exact ⟨w, hw.mono fun k hk _ => wk_stays hc hw hcm hx hy k hk⟩
end
/-- The good pieces of a piece, rightly found. -/
structure GoodOk (ls : List Arrow) (all : List Nat) (pairs : List (Nat × Nat)) (nodes : List Nat) (on : List Bool) (xs : GL) : Prop where
  sub : ∀ p ∈ xs, ∀ x ∈ p.1, x ∈ nodes
  ne : ∀ p ∈ xs, p.1 ≠ []
  sorted : ∀ p ∈ xs, p.1.Pairwise (· ≤ ·)
  conn : ∀ p ∈ xs, ∀ x ∈ p.1, ∀ y ∈ p.1, ∃ w, Wk ls (· ∈ p.2) x w y
  arrow : ∀ p ∈ xs, p.2 ≠ []
  len : ∀ p ∈ xs, p.2.length ≤ p.1.length * ls.length
  within : ∀ p ∈ xs, ∀ k ∈ p.2, k < ls.length ∧ on.getD k false = true ∧ frOf ls k ∈ p.1 ∧ toOf ls k ∈ p.1
  sats : ∀ p ∈ xs, Sats ls all pairs p.2
  nodup : (xs.flatMap (·.1)).Nodup
  full : ∀ x w, x ∈ nodes → w ≠ [] → Wk ls (fun k => on.getD k false = true ∧ toOf ls k ∈ nodes) x w x → Sats ls all pairs w → ∃ p ∈ xs, ∀ k ∈ w, k ∈ p.2
def onCnt (ls : List Arrow) (on : List Bool) : Nat := (List.range ls.length).countP fun k => on.getD k false
theorem withoutF_at {ls : List Arrow} {on : List Bool} {m k : Nat} (h : k < ls.length) : (withoutF ls on m).getD k false = (on.getD k false && !hasM ls k m) := by
  unfold withoutF
  rw [List.getD_eq_getElem?_getD, List.getElem?_map, List.getElem?_range h]
  rfl
theorem countP_lt {α : Type} {p q : α → Bool} : ∀ {l : List α}, (∀ x ∈ l, p x = true → q x = true) → (∃ x ∈ l, q x = true ∧ p x = false) → l.countP p < l.countP q
  | [], _, ⟨_, h, _⟩ => by cases h
  | a :: l, h, ⟨x, hx, h1, h2⟩ => by
    have hle : l.countP p ≤ l.countP q := List.countP_mono_left fun x hx => h x (by simp [hx])
    rw [List.countP_cons, List.countP_cons]
    rcases List.mem_cons.1 hx with e | hx
    · subst e
      rw [h1, h2]
      simp only [Bool.false_eq_true, if_false, if_true]
      omega
    · have ih := countP_lt (fun x hx => h x (by simp [hx])) ⟨x, hx, h1, h2⟩
      have := h a (by simp)
      by_cases hp : p a = true
      · rw [hp, this hp]; omega
      · rw [if_neg hp]; omega
theorem onCnt_without {ls : List Arrow} {on : List Bool} {m k : Nat} (hk : k < ls.length) (h1 : on.getD k false = true) (h2 : hasM ls k m = true) : onCnt ls (withoutF ls on m) < onCnt ls on := by
  refine countP_lt (fun j hj h => ?_) ⟨k, List.mem_range.2 hk, h1, by rw [withoutF_at hk, h2]; simp⟩
  rw [withoutF_at (List.mem_range.1 hj)] at h
  exact (Bool.and_eq_true _ _ ▸ h).1
theorem seqO_ok {α β : Type} {f : α → Option (List β)} : ∀ {cs : List α}, (∀ c ∈ cs, ∃ x, f c = some x) → seqO (cs.map f) = some (cs.flatMap fun c => (f c).getD [])
  | [], _ => rfl
  | c :: cs, h => by
    obtain ⟨x, hx⟩ := h c (by simp)
    have ih := seqO_ok (f := f) (cs := cs) fun d hd => h d (List.mem_cons_of_mem _ hd)
    simp only [List.map_cons, seqO, hx, ih, List.flatMap_cons, Option.getD_some]
end Go.Proofs.Ytnanffbjmfgafaa.S

namespace Go.Proofs.Ytnanffbjmfgafaa.S
open Go.RowKit
theorem asc_len : ∀ (l : List Nat) (n b : Nat), l.Pairwise (· < ·) → (∀ x ∈ l, b ≤ x ∧ x < n) → l.length ≤ n - b
  | [], _, _, _, _ => Nat.zero_le _
  | x :: r, n, b, h, hb => by
    obtain ⟨h1, h2⟩ := List.pairwise_cons.1 h
    have hx := hb x (by simp)
    have ih := asc_len r n (b + 1) h2 fun y hy => by
      have := h1 y hy
      have := (hb y (by simp [hy])).2
      omega
    simp only [List.length_cons]
    omega
theorem asc_of {l : List Nat} (h : l.Pairwise (· ≤ ·)) (hn : l.Nodup) : l.Pairwise (· < ·) := (List.pairwise_and_iff.2 ⟨h, hn⟩).imp fun ⟨h1, h2⟩ => Nat.lt_of_le_of_ne h1 h2
theorem ndLen {l : List Nat} {n : Nat} (hn : l.Nodup) (hb : ∀ x ∈ l, x < n) : l.length ≤ n := by
  have h := asc_len (sortN l) n 0 (asc_of (sortN_sorted l) ((sortN_perm l).nodup_iff.2 hn)) fun x hx => ⟨Nat.zero_le _, hb x ((sortN_perm l).mem_iff.1 hx)⟩
  rw [sortN_length] at h
  omega
section
variable {ls : List Arrow} {all : List Nat} {pairs : List (Nat × Nat)}
theorem wk_within {c : List Nat} {on : List Bool} {x y : Nat} {w : List Nat} (h : Wk ls (fun k => on.getD k false = true ∧ toOf ls k ∈ c) x w y) : x ∈ c → ∀ k ∈ w, k ∈ withinF ls c on := by
  induction h with
  | nil x => intro _ k hk; cases hk
  | cons hk hp _ ih =>
    intro hx k hk2
    rcases List.mem_cons.1 hk2 with e | h
    · rw [e]; exact mem_withinF.2 ⟨hk, hx, hp.1, hp.2⟩
    · exact ih hp.2 k h
theorem good_none {c : List Nat} {on : List Bool} (h : ∀ x w, x ∈ c → w ≠ [] → Wk ls (fun k => on.getD k false = true ∧ toOf ls k ∈ c) x w x → ¬ Sats ls all pairs w) : GoodOk ls all pairs c on [] :=
  ⟨fun p h => by (cases h), fun p h => by (cases h), fun p h => by (cases h), fun p h => by (cases h), fun p h => by (cases h), fun p h => by (cases h), fun p h => by (cases h), fun p h => by (cases h), by simp, fun x w h1 h2 h3 h4 => absurd h4 (h x w h1 h2 h3)⟩
theorem comp_nodup {cs : List (List Nat)} (h : cs.flatten.Nodup) {c : List Nat} (hc : c ∈ cs) : c.Nodup := (List.pairwise_flatten.1 h).1 c hc
theorem goodC_ok {n f : Nat} {nodes : List Nat} {on : List Bool} {cs : List (List Nat)} (hw : ValidW all pairs) (hn : n ≤ 20000) (hc : CompsOk ls nodes on cs) {c : List Nat} (hcm : c ∈ cs) (hcn : ∀ x ∈ c, x < n) (hf : onCnt ls on < f + 1)
    (ih : ∀ on', onCnt ls on' < f → ∃ xs, goodR n ls all pairs f c on' = some xs ∧ GoodOk ls all pairs c on' xs) : ∃ xs, goodC n ls all pairs (goodR n ls all pairs f) on c = some xs ∧ GoodOk ls all pairs c on xs := by
  have hlen := ndLen (comp_nodup hc.nodup hcm) hcn
  have h0 : (c.all (fun x => decide (x < n)) && decide (c.length ≤ 20000)) = true := by
    simp only [Bool.and_eq_true, List.all_eq_true, decide_eq_true_eq]
    exact ⟨hcn, by omega⟩
  unfold goodC
  rw [if_pos h0]
  by_cases hwi : (withinF ls c on).length = 0
  · rw [if_pos hwi]
    refine ⟨_, rfl, good_none fun x w hx hne hwk _ => ?_⟩
    obtain ⟨k, r, rfl⟩ := List.exists_cons_of_ne_nil hne
    have := wk_within hwk hx k (by simp)
    rw [List.length_eq_zero_iff.1 hwi] at this
    cases this
  · rw [if_neg hwi]
    rcases lack_cases (ls := ls) (l := withinF ls c on) hw with ⟨i, e, m, hm, h⟩ | ⟨i, hi, e, h1, h2⟩ | ⟨e, h⟩
    · rw [e]
      refine ⟨_, rfl, good_none fun x w hx hne hwk hs => ?_⟩
      obtain ⟨k, hk, h3⟩ := hs.1 m hm
      rw [h k (wk_within hwk hx k hk)] at h3
      cases h3
    · rw [e]
      simp only
      obtain ⟨k0, hk0, hm0⟩ := h1
      have hk1 := mem_withinF.1 hk0
      have hpd : pairs.getD i (0, 0) = pairs[i] := by rw [List.getD_eq_getElem?_getD, List.getElem?_eq_getElem hi]; rfl
      rw [hpd]
      have hlt := onCnt_without hk1.1 hk1.2.2.1 hm0
      obtain ⟨xs, hx1, hx2⟩ := ih (withoutF ls on pairs[i].1) (by omega)
      refine ⟨xs, hx1, hx2.sub, hx2.ne, hx2.sorted, hx2.conn, hx2.arrow, hx2.len, fun p hp k hk => ?_, hx2.sats, hx2.nodup, fun x w hx hne hwk hs => ?_⟩
      · obtain ⟨h3, h4, h5⟩ := hx2.within p hp k hk
        rw [withoutF_at h3] at h4
        exact ⟨h3, (Bool.and_eq_true _ _ ▸ h4).1, h5⟩
      · refine hx2.full x w hx hne (hwk.mono fun k hk hp => ⟨?_, hp.2⟩) hs
        have hkl := (hwk.all k hk).1
        rw [withoutF_at hkl, hp.1]
        by_cases hm : hasM ls k pairs[i].1 = true
        · exfalso
          obtain ⟨j, hj, h3⟩ := hs.2 _ (List.getElem_mem hi) ⟨k, hk, hm⟩
          rw [h2 j (wk_within hwk hx j hj)] at h3
          cases h3
        · simpa using hm
    · rw [e]
      simp only
      refine ⟨_, rfl, fun p hp => ?_, fun p hp => ?_, fun p hp => ?_, fun p hp => ?_, fun p hp => ?_, fun p hp => ?_, fun p hp => ?_, fun p hp => ?_, ?_, fun x w hx hne hwk hs => ?_⟩
      · rw [List.mem_singleton.1 hp]; exact fun x h => h
      · rw [List.mem_singleton.1 hp]; exact (hc.scc c hcm).1
      · rw [List.mem_singleton.1 hp]; exact (hc.scc c hcm).2.1
      · rw [List.mem_singleton.1 hp]; exact fun x hx y hy => comp_conn hc hcm hx hy
      · rw [List.mem_singleton.1 hp]; exact fun e => hwi (by rw [show withinF ls c on = [] from e]; rfl)
      · rw [List.mem_singleton.1 hp]; exact flat_len (fun x => (outAt ls ls.length x).filter (arrIn ls c on)) ls.length c (fun x _ => Nat.le_trans (List.length_filter_le _ _) (outAt_len _ _ _))
      · rw [List.mem_singleton.1 hp]
        intro k hk
        obtain ⟨h1, h2, h3, h4⟩ := mem_withinF.1 hk
        exact ⟨h1, h3, h2, h4⟩
      · rw [List.mem_singleton.1 hp]; exact h
      · simpa using comp_nodup hc.nodup hcm
      · exact ⟨(c, withinF ls c on), by simp, fun k hk => wk_within hwk hx k hk⟩
theorem nodup_flatMap_of {α : Type} {f : List Nat → List α} {fn : α → List Nat} {cs : List (List Nat)} (h : cs.flatten.Nodup) (h1 : ∀ c ∈ cs, ((f c).flatMap fn).Nodup) (h2 : ∀ c ∈ cs, ∀ p ∈ f c, ∀ x ∈ fn p, x ∈ c) : ((cs.flatMap f).flatMap fn).Nodup := by
  rw [List.flatMap_assoc, List.flatMap_def]
  refine List.pairwise_flatten.2 ⟨fun l hl => ?_, ?_⟩
  · obtain ⟨c, hc, rfl⟩ := List.mem_map.1 hl
    exact h1 c hc
  · rw [List.pairwise_map]
    refine (List.pairwise_flatten.1 h).2.imp_of_mem fun {a b} ha hb hab x hx y hy => ?_
    obtain ⟨p, hp, hxp⟩ := List.mem_flatMap.1 hx
    obtain ⟨q, hq, hyq⟩ := List.mem_flatMap.1 hy
    exact hab x (h2 a ha p hp x hxp) y (h2 b hb q hq y hyq)
theorem good_total {n : Nat} (hw : ValidW all pairs) (hn : n ≤ 20000) (hb : n * (ls.length + 3) ≤ 1000000) : ∀ (f : Nat) (nodes : List Nat) (on : List Bool), onCnt ls on < f → (∀ x ∈ nodes, x < n) → nodes.length ≤ n →
    ∃ xs, goodR n ls all pairs f nodes on = some xs ∧ GoodOk ls all pairs nodes on xs
  | 0, _, _, h, _, _ => by omega
  | f + 1, nodes, on, hf, hnn, hnl => by
    obtain ⟨cs, e, hc⟩ := comps_total ls nodes on (Nat.le_trans (Nat.mul_le_mul_right _ hnl) hb)
    have hcn : ∀ c ∈ cs, ∀ x ∈ c, x < n := fun c hcm x hx => hnn x ((hc.mem x).1 (List.mem_flatten.2 ⟨c, hcm, hx⟩))
    have hg : ∀ c ∈ cs, ∃ xs, goodC n ls all pairs (goodR n ls all pairs f) on c = some xs ∧ GoodOk ls all pairs c on xs := fun c hcm =>
      goodC_ok hw hn hc hcm (hcn c hcm) hf fun on' ho => good_total hw hn hb f c on' ho (hcn c hcm) (ndLen (comp_nodup hc.nodup hcm) (hcn c hcm))
    have hG : ∀ c ∈ cs, GoodOk ls all pairs c on ((goodC n ls all pairs (goodR n ls all pairs f) on c).getD []) := fun c hcm => by
      obtain ⟨xs, h1, h2⟩ := hg c hcm
      rw [h1]; exact h2
    have hm : ∀ p ∈ cs.flatMap fun c => (goodC n ls all pairs (goodR n ls all pairs f) on c).getD [], ∃ c ∈ cs, p ∈ (goodC n ls all pairs (goodR n ls all pairs f) on c).getD [] := fun p hp => List.mem_flatMap.1 hp
    refine ⟨_, by simp only [goodR, e]; exact seqO_ok fun c hcm => (hg c hcm).imp fun _ h => h.1, fun p hp => ?_, fun p hp => ?_, fun p hp => ?_, fun p hp => ?_, fun p hp => ?_, fun p hp => ?_, fun p hp => ?_, fun p hp => ?_, ?_, fun x w hx hne hwk hs => ?_⟩
    · obtain ⟨c, hcm, h⟩ := hm p hp
      exact fun x hx => (hc.mem x).1 (List.mem_flatten.2 ⟨c, hcm, (hG c hcm).sub p h x hx⟩)
    · obtain ⟨c, hcm, h⟩ := hm p hp; exact (hG c hcm).ne p h
    · obtain ⟨c, hcm, h⟩ := hm p hp; exact (hG c hcm).sorted p h
    · obtain ⟨c, hcm, h⟩ := hm p hp; exact (hG c hcm).conn p h
    · obtain ⟨c, hcm, h⟩ := hm p hp; exact (hG c hcm).arrow p h
    · obtain ⟨c, hcm, h⟩ := hm p hp; exact (hG c hcm).len p h
    · obtain ⟨c, hcm, h⟩ := hm p hp; exact (hG c hcm).within p h
    · obtain ⟨c, hcm, h⟩ := hm p hp; exact (hG c hcm).sats p h
    · exact nodup_flatMap_of hc.nodup (fun c hcm => (hG c hcm).nodup) fun c hcm p hp x hx => (hG c hcm).sub p hp x hx
    · obtain ⟨c, hcm, hxc⟩ := List.mem_flatten.1 ((hc.mem x).2 hx)
      have hst := wk_stays hc hwk hcm hxc hxc
      obtain ⟨p, hp, h⟩ := (hG c hcm).full x w hxc hne (hwk.mono fun k hk hp => ⟨hp.1, (mem_withinF.1 (hst k hk)).2.2.2⟩) hs
      exact ⟨p, List.mem_flatMap.2 ⟨c, hcm, hp⟩, h⟩
/-- There is a closed walk through x that satisfies the condition. -/
def CoreAt (ls : List Arrow) (all : List Nat) (pairs : List (Nat × Nat)) (P : Nat → Prop) (x : Nat) : Prop := ∃ w, w ≠ [] ∧ Wk ls P x w x ∧ Sats ls all pairs w
theorem sats_same {l l' : List Nat} (h : ∀ k, k ∈ l ↔ k ∈ l') (hs : Sats ls all pairs l) : Sats ls all pairs l' := by
  have e : ∀ m, (∃ k ∈ l, hasM ls k m = true) ↔ ∃ k ∈ l', hasM ls k m = true := fun m => ⟨fun ⟨k, hk, hm⟩ => ⟨k, (h k).1 hk, hm⟩, fun ⟨k, hk, hm⟩ => ⟨k, (h k).2 hk, hm⟩⟩
  exact ⟨fun m hm => (e m).1 (hs.1 m hm), fun p hp h1 => (e _).1 (hs.2 p hp ((e _).2 h1))⟩
/-- A closed walk along all the arrows of a connected piece. -/
theorem wk_tour {c l : List Nat} (hconn : ∀ x ∈ c, ∀ y ∈ c, ∃ w, Wk ls (· ∈ l) x w y) (hin : ∀ k ∈ l, k < ls.length ∧ frOf ls k ∈ c ∧ toOf ls k ∈ c) {x : Nat} (hx : x ∈ c) :
    ∀ l' : List Nat, (∀ k ∈ l', k ∈ l) → ∃ w, Wk ls (· ∈ l) x w x ∧ ∀ k ∈ l', k ∈ w
  | [], _ => ⟨[], .nil x, fun k h => by cases h⟩
  | k :: r, h => by
    obtain ⟨w, h1, h2⟩ := wk_tour hconn hin hx r fun j hj => h j (by simp [hj])
    have hk := h k (by simp)
    obtain ⟨h3, h4, h5⟩ := hin k hk
    obtain ⟨u, hu⟩ := hconn x hx _ h4
    obtain ⟨v, hv⟩ := hconn _ h5 x hx
    refine ⟨u ++ ([k] ++ (v ++ w)), hu.app ((Wk.one h3 hk).app (hv.app h1)), fun j hj => ?_⟩
    rcases List.mem_cons.1 hj with e | hj
    · rw [e]; simp
    · have := h2 j hj; simp [this]
theorem GoodOk.core {nodes : List Nat} {on : List Bool} {xs : GL} (h : GoodOk ls all pairs nodes on xs) {p : List Nat × List Nat} (hp : p ∈ xs) {x : Nat} (hx : x ∈ p.1) : CoreAt ls all pairs (fun k => on.getD k false = true ∧ toOf ls k ∈ nodes) x := by
  obtain ⟨w, h1, h2⟩ := wk_tour (h.conn p hp) (fun k hk => ⟨(h.within p hp k hk).1, (h.within p hp k hk).2.2⟩) hx p.2 fun k hk => hk
  refine ⟨w, fun e => ?_, h1.mono fun k _ hk => ⟨(h.within p hp k hk).2.1, h.sub p hp _ (h.within p hp k hk).2.2.2⟩, sats_same (fun k => ⟨h2 k, fun hk => (h1.all k hk).2⟩) (h.sats p hp)⟩
  obtain ⟨k, r, hk⟩ := List.exists_cons_of_ne_nil (h.arrow p hp)
  have := h2 k (by rw [hk]; simp)
  rw [e] at this
  cases this
theorem Wk.head {P : Nat → Prop} {x y k : Nat} {w : List Nat} (h : Wk ls P x (k :: w) y) : frOf ls k = x := by cases h; rfl
theorem GoodOk.core_iff {nodes : List Nat} {on : List Bool} {xs : GL} (h : GoodOk ls all pairs nodes on xs) (x : Nat) : x ∈ xs.flatMap (·.1) ↔ x ∈ nodes ∧ CoreAt ls all pairs (fun k => on.getD k false = true ∧ toOf ls k ∈ nodes) x := by
  constructor
  · intro hx
    obtain ⟨p, hp, hx⟩ := List.mem_flatMap.1 hx
    exact ⟨h.sub p hp x hx, h.core hp hx⟩
  · rintro ⟨hx, w, hne, hwk, hs⟩
    obtain ⟨p, hp, hk⟩ := h.full x w hx hne hwk hs
    obtain ⟨k, r, rfl⟩ := List.exists_cons_of_ne_nil hne
    refine List.mem_flatMap.2 ⟨p, hp, ?_⟩
    have := (h.within p hp k (hk k (by simp))).2.2.1
    rw [hwk.head] at this
    exact this
theorem strictly_of {c : List Nat} (h : c.Pairwise (· < ·)) : strictly c = true := by
  unfold strictly
  rw [List.all_eq_true]
  intro i hi
  have hi' := List.mem_range.1 hi
  have h1 : i < c.length := by omega
  have h2 : i + 1 < c.length := by omega
  have := List.pairwise_iff_getElem.1 h i (i + 1) h1 h2 (by omega)
  simpa [h1, h2] using this
/-- The whole graph's arrows. -/
theorem whole_on {k : Nat} (h : k < ls.length) : (List.replicate ls.length true).getD k false = true := by simp [List.getD_eq_getElem?_getD, h]
theorem onCnt_le (on : List Bool) : onCnt ls on ≤ ls.length := by
  have := List.countP_le_length (p := fun k => on.getD k false) (l := List.range ls.length)
  simpa [onCnt] using this
def AllA (_ : Nat) : Prop := True
theorem wk_whole {n : Nat} (hv : ValidG n ls) {x y : Nat} {w : List Nat} : Wk ls (fun k => (List.replicate ls.length true).getD k false = true ∧ toOf ls k ∈ List.range n) x w y ↔ Wk ls AllA x w y := by
  constructor
  · exact fun h => h.mono fun _ _ _ => trivial
  · intro h
    refine h.mono fun k hk _ => ?_
    have hkl := (h.all k hk).1
    refine ⟨whole_on hkl, List.mem_range.2 ?_⟩
    rw [toOf_at hkl]
    exact (hv.ok _ (List.getElem_mem hkl)).2.1
/-- The cores: those through which a closed walk leads that satisfies the condition. -/
theorem cores_total {n : Nat} (hv : ValidG n ls) (hw : ValidW all pairs) (hl : ls.length < 400) (hb : n * (ls.length + 3) ≤ 1000000) :
    ∃ out, coresR n ls all pairs = some out ∧ out.Pairwise (· < ·) ∧ ∀ x, x ∈ out ↔ x < n ∧ CoreAt ls all pairs AllA x := by
  obtain ⟨xs, h1, h2⟩ := good_total hw hv.size hb 400 (List.range n) (List.replicate ls.length true) (Nat.lt_of_le_of_lt (onCnt_le _) hl) (fun x hx => List.mem_range.1 hx) (by simp)
  have hs := asc_of (sortN_sorted (xs.flatMap (·.1))) ((sortN_perm _).nodup_iff.2 h2.nodup)
  have hlen := ndLen h2.nodup fun x hx => List.mem_range.1 ((h2.core_iff x).1 hx).1
  have hsz := hv.size
  refine ⟨sortN (xs.flatMap (·.1)), ?_, hs, fun x => ?_⟩
  · unfold coresR
    rw [h1]
    simp only
    rw [if_pos]
    rw [strictly_of hs, Bool.true_and, decide_eq_true_eq]
    omega
  · rw [(sortN_perm _).mem_iff, h2.core_iff]
    unfold CoreAt
    simp only [wk_whole hv]
    rw [List.mem_range]
end
end Go.Proofs.Ytnanffbjmfgafaa.S

namespace Go.Proofs.Ytnanffbjmfgafaa.S
open Go.RowKit
theorem mem_addS {x : Nat} : ∀ (l seen : List Nat), x ∈ addS seen l ↔ x ∈ seen ∨ x ∈ l
  | [], seen => by simp [addS]
  | y :: l, seen => by
    have e : addS seen (y :: l) = addS (if y ∈ seen then seen else seen ++ [y]) l := rfl
    rw [e, mem_addS l]
    split
    · rename_i h
      constructor
      · rintro (h1 | h1)
        · exact .inl h1
        · exact .inr (List.mem_cons_of_mem _ h1)
      · rintro (h1 | h1)
        · exact .inl h1
        · rcases List.mem_cons.1 h1 with e | h1
          · rw [e]; exact .inl h
          · exact .inr h1
    · rw [List.mem_append, List.mem_singleton, List.mem_cons]
      constructor
      · rintro ((h1 | h1) | h1)
        · exact .inl h1
        · exact .inr (.inl h1)
        · exact .inr (.inr h1)
      · rintro (h1 | h1 | h1)
        · exact .inl (.inl h1)
        · exact .inl (.inr h1)
        · exact .inr h1
section
variable {nx : Nat → List Nat} {n : Nat} {from_ : List Nat}
abbrev RcN (nx : Nat → List Nat) : Nat → Nat → Prop := Rc fun x y => y ∈ nx x
theorem closR_total (hnx : ∀ x, x < n → ∀ y ∈ nx x, y < n) : ∀ (f : Nat) (seen : List Nat) (i : Nat), seen.Nodup → (∀ x ∈ seen, x < n) → (∀ x ∈ from_, x ∈ seen) → (∀ x ∈ seen, ∃ s ∈ from_, RcN nx s x) →
    (∀ j (h : j < seen.length), j < i → ∀ y ∈ nx seen[j], y ∈ seen) → i ≤ seen.length → n + 1 - i ≤ f → ∃ r, closR nx f seen i = some r ∧ r.Nodup ∧ (∀ x ∈ r, x < n) ∧ ∀ x, x ∈ r ↔ ∃ s ∈ from_, RcN nx s x
  | 0, seen, i, h1, h2, _, _, _, h6, h7 => by
    have := nodup_len n seen h1 h2
    omega
  | f + 1, seen, i, h1, h2, h3, h4, h5, h6, h7 => by
    have hlen := nodup_len n seen h1 h2
    unfold closR
    by_cases hi : i < seen.length
    · rw [List.getElem?_eq_getElem hi]
      simp only
      obtain ⟨t, ht⟩ := addS_pre (nx seen[i]) seen
      have hx := h2 _ (List.getElem_mem hi)
      refine closR_total hnx f _ (i + 1) (addS_nodup _ _ h1) (fun x hx' => ?_) (fun x hx' => (mem_addS _ _).2 (.inl (h3 x hx'))) (fun x hx' => ?_) (fun j hj hji y hy => ?_) (by rw [ht, List.length_append]; omega) (by omega)
      · rcases (mem_addS _ _).1 hx' with h | h
        · exact h2 x h
        · exact hnx _ hx x h
      · rcases (mem_addS _ _).1 hx' with h | h
        · exact h4 x h
        · obtain ⟨s, hs, hr⟩ := h4 _ (List.getElem_mem hi)
          exact ⟨s, hs, .tail hr h⟩
      · have hj2 : j < seen.length := by omega
        have e : (addS seen (nx seen[i]))[j] = seen[j] := by
          simp only [ht]
          exact List.getElem_append_left hj2
        rw [e] at hy
        by_cases hje : j = i
        · subst hje; exact (mem_addS _ _).2 (.inr hy)
        · exact (mem_addS _ _).2 (.inl (h5 j hj2 (by omega) y hy))
    · have hie : i = seen.length := by omega
      rw [List.getElem?_eq_none (by omega)]
      refine ⟨seen, rfl, h1, h2, fun x => ⟨h4 x, ?_⟩⟩
      rintro ⟨s, hs, hr⟩
      induction hr with
      | refl => exact h3 s hs
      | tail _ e ih =>
        obtain ⟨j, hj, rfl⟩ := List.getElem_of_mem ih
        exact h5 j hj (by omega) _ e
theorem addS_sub (hn : ∀ x ∈ from_, x < n) : ∀ x ∈ addS [] from_, x < n := fun x hx => by
  rcases (mem_addS _ _).1 hx with h | h
  · cases h
  · exact hn x h
/-- The closure: all that is reached. -/
theorem closure_total (hnx : ∀ x, x < n → ∀ y ∈ nx x, y < n) (hn : n ≤ 20000) (hf : ∀ x ∈ from_, x < n) : ∃ r, closureR nx from_ = some r ∧ r.Pairwise (· < ·) ∧ (∀ x ∈ r, x < n) ∧ ∀ x, x ∈ r ↔ ∃ s ∈ from_, RcN nx s x := by
  obtain ⟨r, e, h1, h2, h3⟩ := closR_total (from_ := from_) hnx 30000 (addS [] from_) 0 (addS_nodup _ _ List.nodup_nil) (addS_sub hf) (fun x hx => (mem_addS _ _).2 (.inr hx)) (fun x hx => by
    rcases (mem_addS _ _).1 hx with h | h
    · cases h
    · exact ⟨x, h, .refl x⟩) (fun j _ h => by omega) (Nat.zero_le _) (by omega)
  refine ⟨sortN r, by unfold closureR; rw [e]; rfl, asc_of (sortN_sorted r) ((sortN_perm r).nodup_iff.2 h1), fun x hx => h2 x ((sortN_perm r).mem_iff.1 hx), fun x => by rw [(sortN_perm r).mem_iff, h3]⟩
end
section
variable {ls : List Arrow} {n : Nat}
theorem mem_nxF {x y : Nat} : y ∈ nxF ls x ↔ ∃ k, k < ls.length ∧ frOf ls k = x ∧ toOf ls k = y := by
  unfold nxF
  rw [List.mem_map]
  constructor
  · rintro ⟨k, hk, rfl⟩
    obtain ⟨h1, h2⟩ := mem_outAt.1 hk
    exact ⟨k, h1, h2, rfl⟩
  · rintro ⟨k, h1, h2, rfl⟩
    exact ⟨k, mem_outAt.2 ⟨h1, h2⟩, rfl⟩
theorem rcN_wk {x y : Nat} : RcN (nxF ls) x y ↔ ∃ w, Wk ls AllA x w y := by
  constructor
  · intro h
    induction h with
    | refl => exact ⟨[], .nil _⟩
    | tail _ e ih =>
      obtain ⟨w, hw⟩ := ih
      obtain ⟨k, h1, rfl, rfl⟩ := mem_nxF.1 e
      exact ⟨_, hw.app (.one h1 trivial)⟩
  · rintro ⟨w, hw⟩
    induction hw with
    | nil x => exact .refl x
    | @cons k y w hk _ _ ih => exact (Rc.one (mem_nxF.2 ⟨k, hk, rfl, rfl⟩)).trans ih
theorem nxF_lt' (hv : ValidG n ls) (x : Nat) : ∀ y ∈ nxF ls x, y < n := fun y hy => by
  obtain ⟨k, h1, _, rfl⟩ := mem_nxF.1 hy
  rw [toOf_at h1]
  exact (hv.ok _ (List.getElem_mem h1)).2.1
structure ReachOk (ls : List Arrow) (n : Nat) (init r : List Nat) : Prop where
  asc : r.Pairwise (· < ·)
  lt : ∀ x ∈ r, x < n
  mem : ∀ x, x ∈ r ↔ ∃ s ∈ init, ∃ w, Wk ls AllA s w x
theorem reach_closure (hv : ValidG n ls) {init : List Nat} (hi : ∀ x ∈ init, x < n) : ∃ r, closureR (nxF ls) init = some r ∧ ReachOk ls n init r := by
  obtain ⟨r, h1, h2, h3, h4⟩ := closure_total (nx := nxF ls) (fun x _ => nxF_lt' hv x) hv.size hi
  exact ⟨r, h1, h2, h3, fun x => by rw [h4]; exact exists_congr fun s => and_congr_right fun _ => rcN_wk⟩
theorem ReachOk.len {init r : List Nat} (h : ReachOk ls n init r) : r.length ≤ n := nodup_len n r (h.asc.imp fun h => Nat.ne_of_lt h) h.lt
theorem reachR_total (hv : ValidG n ls) {init : List Nat} (hi : ∀ x ∈ init, x < n) : ∃ r, reachR n ls init = some r ∧ ReachOk ls n init r := by
  obtain ⟨r, h1, h2⟩ := reach_closure hv hi
  refine ⟨r, ?_, h2⟩
  have hl := h2.len
  have hs := hv.size
  unfold reachR
  rw [h1]
  simp only
  rw [if_pos]
  simp only [Bool.and_eq_true, List.all_eq_true, decide_eq_true_eq]
  exact ⟨h2.lt, by omega⟩
/-- A walk from a node that is reached stays among those that are. -/
theorem ReachOk.walk {init r : List Nat} (h : ReachOk ls n init r) {x y : Nat} {w : List Nat} (hw : Wk ls AllA x w y) : x ∈ r → Wk ls (fun k => (List.replicate ls.length true).getD k false = true ∧ toOf ls k ∈ r) x w y := by
  induction hw with
  | nil x => intro _; exact .nil x
  | @cons k y w hk _ _ ih =>
    intro hx
    have : toOf ls k ∈ r := by
      obtain ⟨s, hs, u, hu⟩ := (h.mem _).1 hx
      exact (h.mem _).2 ⟨s, hs, _, hu.app (.one hk trivial)⟩
    exact .cons hk ⟨whole_on hk, this⟩ (ih this)
end
end Go.Proofs.Ytnanffbjmfgafaa.S

namespace Go.Proofs.Ytnanffbjmfgafaa.S
open Go.RowKit
section
variable {ls : List Arrow} {inn en : Nat → Bool} {fr n : Nat}
abbrev InW (ls : List Arrow) (inn : Nat → Bool) := Wk ls fun k => inn k = true
/-- What holds between two rounds of the search. -/
structure Bf (ls : List Arrow) (inn : Nat → Bool) (fr n : Nat) (s : PS) : Prop where
  nodup : s.1.Nodup
  lt : ∀ x ∈ s.1, x < n
  head : s.1[0]? = some fr
  seen : ∀ y, (lk s.2.2 y).getD false = true ↔ y ∈ s.1
  by_ : ∀ j (h : j < s.1.length), 0 < j → lowOf s.2.1 s.1[j] < ls.length ∧ inn (lowOf s.2.1 s.1[j]) = true ∧ toOf ls (lowOf s.2.1 s.1[j]) = s.1[j] ∧ ∃ j', ∃ h' : j' < s.1.length, j' < j ∧ s.1[j'] = frOf ls (lowOf s.2.1 s.1[j])
theorem Bf.init (h : fr < n) : Bf ls inn fr n ([fr], [], [(fr, true)]) := by
  refine ⟨by simp, fun x hx => by simp at hx; omega, rfl, fun y => ?_, fun j hj h0 => by simp at hj; omega⟩
  simp only [lk, List.mem_singleton]
  by_cases e : y = fr
  · simp [e]
  · simp [e]
theorem Bf.step (hto : ∀ k, k < ls.length → toOf ls k < n) {s : PS} (h : Bf ls inn fr n s) {k : Nat} (hk : k < ls.length) (hfr : frOf ls k ∈ s.1) : Bf ls inn fr n (pathStep ls inn s k) ∧ (inn k = true → toOf ls k ∈ (pathStep ls inn s k).1) := by
  unfold pathStep
  split
  · rename_i hc
    simp only [Bool.and_eq_true, Bool.not_eq_true'] at hc
    have hny : toOf ls k ∉ s.1 := fun hm => by
      have := (h.seen _).2 hm
      rw [hc.2] at this
      cases this
    refine ⟨⟨?_, fun x hx => ?_, ?_, fun y => ?_, fun j hj h0 => ?_⟩, fun _ => by simp⟩
    · exact List.nodup_append.2 ⟨h.nodup, by simp, fun a ha b hb => by rw [List.mem_singleton.1 hb]; exact fun e => hny (e ▸ ha)⟩
    · rcases List.mem_append.1 hx with hx | hx
      · exact h.lt x hx
      · rw [List.mem_singleton.1 hx]; exact hto k hk
    · have : 0 < s.1.length := by
        have := h.head
        exact (List.getElem?_eq_some_iff.1 this).1
      simp only
      rw [List.getElem?_append_left this]; exact h.head
    · simp only
      rw [lk_sk]
      by_cases e : y = toOf ls k
      · simp [e]
      · rw [if_neg e, h.seen, List.mem_append, List.mem_singleton]
        exact ⟨.inl, fun h => h.resolve_right e⟩
    · simp only at hj ⊢
      by_cases hjl : j < s.1.length
      · have hne : s.1[j] ≠ toOf ls k := fun e => hny (e ▸ List.getElem_mem hjl)
        have hlow : lowOf (sk s.2.1 (toOf ls k) k) s.1[j] = lowOf s.2.1 s.1[j] := by rw [lowOf_sk, if_neg hne]
        rw [List.getElem_append_left hjl, hlow]
        obtain ⟨h1, h2, h3, j', hj', h4, h5⟩ := h.by_ j hjl h0
        exact ⟨h1, h2, h3, j', by rw [List.length_append]; omega, h4, by rw [List.getElem_append_left hj']; exact h5⟩
      · have hje : j = s.1.length := by rw [List.length_append, List.length_singleton] at hj; omega
        subst hje
        have e : (s.1 ++ [toOf ls k])[s.1.length] = toOf ls k := by simp
        rw [e, lowOf_sk, if_pos rfl]
        obtain ⟨j', hj', e'⟩ := List.getElem_of_mem hfr
        exact ⟨hk, hc.1, rfl, j', by rw [List.length_append]; omega, hj', by rw [List.getElem_append_left hj']; exact e'⟩
  · rename_i hc
    refine ⟨h, fun hi => ?_⟩
    simp only [Bool.and_eq_true, Bool.not_eq_true', not_and, Bool.not_eq_false] at hc
    exact (h.seen _).1 (hc hi)
theorem Bf.fold (hto : ∀ k, k < ls.length → toOf ls k < n) : ∀ (ks : List Nat) {s : PS}, Bf ls inn fr n s → (∀ k ∈ ks, k < ls.length ∧ frOf ls k ∈ s.1) →
    Bf ls inn fr n (ks.foldl (pathStep ls inn) s) ∧ (∃ t, (ks.foldl (pathStep ls inn) s).1 = s.1 ++ t) ∧ ∀ k ∈ ks, inn k = true → toOf ls k ∈ (ks.foldl (pathStep ls inn) s).1
  | [], s, h, _ => ⟨h, ⟨[], by simp⟩, fun k hk => by cases hk⟩
  | k :: ks, s, h, hks => by
    obtain ⟨hk, hfr⟩ := hks k (by simp)
    obtain ⟨h1, h2⟩ := h.step hto hk hfr
    obtain ⟨t0, ht0⟩ : ∃ t, (pathStep ls inn s k).1 = s.1 ++ t := by
      unfold pathStep
      split
      · exact ⟨_, rfl⟩
      · exact ⟨[], by simp⟩
    obtain ⟨h3, ⟨t, ht⟩, h4⟩ := Bf.fold hto ks h1 fun j hj => ⟨(hks j (by simp [hj])).1, by rw [ht0]; exact List.mem_append_left _ (hks j (by simp [hj])).2⟩
    rw [List.foldl_cons]
    refine ⟨h3, ⟨t0 ++ t, by rw [ht, ht0, List.append_assoc]⟩, fun j hj hi => ?_⟩
    rcases List.mem_cons.1 hj with e | hj
    · rw [e] at hi ⊢
      rw [ht]
      exact List.mem_append_left _ (h2 hi)
    · exact h4 j hj hi
/-- The way back. -/
theorem back_total {s : PS} (h : Bf ls inn fr n s) : ∀ (j f : Nat) (hj : j < s.1.length), j < f → ∃ out, backR ls fr s.2.1 f s.1[j] = some out ∧ InW ls inn fr out.reverse s.1[j] ∧ out.length ≤ j
  | j, 0, _, hf => by omega
  | j, f + 1, hj, hf => by
    unfold backR
    by_cases e : s.1[j] = fr
    · rw [if_pos e]
      exact ⟨[], rfl, by rw [e]; exact .nil _, Nat.zero_le _⟩
    · rw [if_neg e]
      have h0 : 0 < j := by
        rcases Nat.eq_zero_or_pos j with e0 | h0
        · subst e0
          have := h.head
          rw [List.getElem?_eq_getElem hj, Option.some.injEq] at this
          exact absurd this e
        · exact h0
      obtain ⟨h1, h2, h3, j', hj', h4, h5⟩ := h.by_ j hj h0
      rw [if_pos h1, ← h5]
      obtain ⟨out, e1, e2, e3⟩ := back_total h j' f hj' (by omega)
      rw [e1]
      refine ⟨_, rfl, ?_, by simp only [List.length_cons]; omega⟩
      rw [List.reverse_cons]
      refine e2.app ?_
      rw [h5, ← h3]
      rw [h3]
      have := Wk.one (P := fun k => inn k = true) h1 h2
      rw [h3] at this
      exact this
/-- No end is reached. -/
theorem bf_closed {s : PS} (hcl : ∀ x ∈ s.1, ∀ k, k < ls.length → frOf ls k = x → inn k = true → toOf ls k ∈ s.1) {x y : Nat} {w : List Nat} (hw : InW ls inn x w y) : x ∈ s.1 → y ∈ s.1 := by
  induction hw with
  | nil x => exact fun h => h
  | cons hk hp _ ih => exact fun h => ih (hcl _ h _ hk rfl hp)
theorem pathR_total (hto : ∀ k, k < ls.length → toOf ls k < n) (hn : n ≤ 20000) : ∀ (f : Nat) (s : PS) (i : Nat), Bf ls inn fr n s → i ≤ s.1.length → (∀ j (h : j < s.1.length), j < i → en s.1[j] = false ∧ ∀ k, k < ls.length → frOf ls k = s.1[j] → inn k = true → toOf ls k ∈ s.1) → n + 1 - i ≤ f →
    ∃ way b, pathR ls inn en fr f s i = some (way, b) ∧ (b = true → ∃ y, en y = true ∧ InW ls inn fr way y ∧ way.length < n) ∧ (b = false → way = [] ∧ ∀ w y, InW ls inn fr w y → en y = false)
  | 0, s, i, h, hi, _, hf => by
    have := nodup_len n s.1 h.nodup h.lt
    omega
  | f + 1, s, i, h, hi, hcl, hf => by
    have hlen := nodup_len n s.1 h.nodup h.lt
    unfold pathR
    by_cases hil : i < s.1.length
    · rw [List.getElem?_eq_getElem hil]
      simp only
      split
      · rename_i he
        obtain ⟨out, e1, e2, e3⟩ := back_total h i 100000 hil (by omega)
        rw [e1]
        exact ⟨_, _, rfl, fun _ => ⟨_, he, e2, by rw [List.length_reverse]; omega⟩, fun h => by cases h⟩
      · rename_i he
        obtain ⟨h1, ⟨t, ht⟩, h3⟩ := h.fold hto (outAt ls ls.length s.1[i]) fun k hk => by
          obtain ⟨q1, q2⟩ := mem_outAt.1 hk
          exact ⟨q1, by rw [q2]; exact List.getElem_mem hil⟩
        refine pathR_total hto hn f _ (i + 1) h1 (by rw [ht, List.length_append]; omega) (fun j hj hji => ?_) (by omega)
        have hj2 : j < s.1.length := by omega
        have ej : (List.foldl (pathStep ls inn) s (outAt ls ls.length s.1[i])).1[j] = s.1[j] := by
          simp only [ht]; exact List.getElem_append_left hj2
        rw [ej]
        by_cases hje : j = i
        · subst hje
          exact ⟨by simpa using he, fun k hk hfr hin => h3 k (mem_outAt.2 ⟨hk, hfr⟩) hin⟩
        · obtain ⟨q1, q2⟩ := hcl j hj2 (by omega)
          exact ⟨q1, fun k hk hfr hin => by rw [ht]; exact List.mem_append_left _ (q2 k hk hfr hin)⟩
    · have hie : i = s.1.length := by omega
      rw [List.getElem?_eq_none (by omega)]
      refine ⟨[], false, rfl, (fun h => by cases h), fun _ => ⟨rfl, fun w y hw => ?_⟩⟩
      have h0 : fr ∈ s.1 := List.mem_of_getElem? h.head
      have hm := bf_closed (s := s) (fun x hx k hk hfr hin => by
        obtain ⟨j, hj, rfl⟩ := List.getElem_of_mem hx
        exact (hcl j hj (by omega)).2 k hk hfr hin) hw h0
      obtain ⟨j, hj, rfl⟩ := List.getElem_of_mem hm
      exact (hcl j hj (by omega)).1
theorem path_total (hto : ∀ k, k < ls.length → toOf ls k < n) (hn : n ≤ 20000) (hfr : fr < n) : ∃ way b, pathF ls inn en fr = some (way, b) ∧ (b = true → ∃ y, en y = true ∧ InW ls inn fr way y ∧ way.length < n) ∧ (b = false → way = [] ∧ ∀ w y, InW ls inn fr w y → en y = false) :=
  pathR_total hto hn 20002 _ 0 (Bf.init hfr) (Nat.zero_le _) (fun j _ h => by omega) (by omega)
end
end Go.Proofs.Ytnanffbjmfgafaa.S

namespace Go.Proofs.Ytnanffbjmfgafaa.S
open Go.RowKit
section
variable {ls : List Arrow} {n : Nat} {all : List Nat} {pairs : List (Nat × Nat)}
abbrev InL (ls : List Arrow) (l : List Nat) := Wk ls fun k => k ∈ l
theorem inL_iff {l : List Nat} {x y : Nat} {w : List Nat} : InW ls (fun k => decide (k ∈ l)) x w y ↔ InL ls l x w y :=
  ⟨fun h => h.mono fun _ _ h => of_decide_eq_true h, fun h => h.mono fun _ _ h => decide_eq_true h⟩
/-- A piece whose nodes reach each other along its arrows. -/
structure Pc (ls : List Arrow) (n : Nat) (c l : List Nat) : Prop where
  conn : ∀ x ∈ c, ∀ y ∈ c, ∃ w, InL ls l x w y
  arr : ∀ k ∈ l, k < ls.length ∧ frOf ls k ∈ c ∧ toOf ls k ∈ c
  lt : ∀ x ∈ c, x < n
  ne : l ≠ []
theorem to_lt (hv : ValidG n ls) (k : Nat) (hk : k < ls.length) : toOf ls k < n := by
  rw [toOf_at hk]
  exact (hv.ok _ (List.getElem_mem hk)).2.1
structure Ar (ls : List Arrow) (c l : List Nat) (x : Nat) (s : Nat × List Nat) : Prop where
  at_ : s.1 ∈ c
  walk : InL ls l x s.2 s.1
theorem visit_total (hv : ValidG n ls) {c l : List Nat} (hp : Pc ls n c l) {x : Nat} {s : Nat × List Nat} (hs : Ar ls c l x s) {i : Nat} (hi : i ∈ l) (hb : s.2.length ≤ 1000000) :
    ∃ s', visitR ls (fun k => decide (k ∈ l)) s i = some s' ∧ Ar ls c l x s' ∧ s'.2.length ≤ s.2.length + n ∧ (∃ t, s'.2 = s.2 ++ t) ∧ i ∈ s'.2 := by
  obtain ⟨h1, h2, h3⟩ := hp.arr i hi
  have hsz := hv.size
  obtain ⟨way, b, e, h4, h5⟩ := path_total (inn := fun k => decide (k ∈ l)) (en := fun y => decide (y = frOf ls i)) (to_lt hv) hv.size (hp.lt _ hs.at_)
  obtain ⟨u, hu⟩ := hp.conn _ hs.at_ _ h2
  have hb' : b = true := by
    cases b with
    | true => rfl
    | false => have := (h5 rfl).2 u _ (inL_iff.2 hu); simp at this
  obtain ⟨y, hy, hw, hl⟩ := h4 hb'
  have hye : y = frOf ls i := of_decide_eq_true hy
  unfold visitR
  rw [e]
  simp only
  rw [if_pos (by omega)]
  refine ⟨_, rfl, ⟨h3, ?_⟩, by simp only [List.length_append, List.length_singleton]; omega, ⟨way ++ [i], by simp⟩, by simp⟩
  rw [List.append_assoc]
  refine hs.walk.app ((inL_iff.1 hw).app ?_)
  rw [hye]
  exact .one h1 hi
theorem through_total (hv : ValidG n ls) {c l : List Nat} (hp : Pc ls n c l) {x : Nat} : ∀ (ms : List Nat) (s : Nat × List Nat), Ar ls c l x s → s.2.length + ms.length * n ≤ 1000000 →
    ∃ s', foldO (throughR ls (fun k => decide (k ∈ l)) l) ms s = some s' ∧ Ar ls c l x s' ∧ s'.2.length ≤ s.2.length + ms.length * n ∧ (∃ t, s'.2 = s.2 ++ t) ∧ ∀ m ∈ ms, (∃ k ∈ l, hasM ls k m = true) → ∃ k ∈ s'.2, hasM ls k m = true
  | [], s, hs, hb => ⟨s, rfl, hs, by simp, ⟨[], by simp⟩, fun m hm => by cases hm⟩
  | m :: ms, s, hs, hb => by
    rw [List.length_cons, Nat.add_mul, Nat.one_mul] at hb
    obtain ⟨s1, e1, hs1, hl1, ⟨t1, ht1⟩, hm1⟩ : ∃ s1, throughR ls (fun k => decide (k ∈ l)) l s m = some s1 ∧ Ar ls c l x s1 ∧ s1.2.length ≤ s.2.length + n ∧ (∃ t, s1.2 = s.2 ++ t) ∧ ((∃ k ∈ l, hasM ls k m = true) → ∃ k ∈ s1.2, hasM ls k m = true) := by
      unfold throughR
      rcases hf : l.find? (fun i => hasM ls i m) with _ | i
      · refine ⟨s, rfl, hs, by omega, ⟨[], by simp⟩, fun ⟨k, hk, hm⟩ => ?_⟩
        have := List.find?_eq_none.1 hf k hk
        exact absurd hm this
      · obtain ⟨s1, e1, h2, h3, h4, h5⟩ := visit_total hv hp hs (List.mem_of_find?_eq_some hf) (by omega)
        have hfm : hasM ls i m = true := List.find?_some (p := fun i => hasM ls i m) hf
        exact ⟨s1, e1, h2, h3, h4, fun _ => ⟨i, h5, hfm⟩⟩
    obtain ⟨s', e2, hs', hl2, ⟨t2, ht2⟩, hm2⟩ := through_total hv hp ms s1 hs1 (by omega)
    refine ⟨s', by simp only [foldO, e1]; exact e2, hs', by rw [List.length_cons, Nat.add_mul, Nat.one_mul]; omega, ⟨t1 ++ t2, by rw [ht2, ht1, List.append_assoc]⟩, fun q hq hex => ?_⟩
    rcases List.mem_cons.1 hq with e | hq
    · rw [e] at hex ⊢
      obtain ⟨k, hk, hm⟩ := hm1 hex
      exact ⟨k, by rw [ht2]; exact List.mem_append_left _ hk, hm⟩
    · exact hm2 q hq hex
theorem metF_none {l : List Nat} (h : metF ls l = List.replicate 16 false) {m : Nat} (hm : m < 16) : ∀ k ∈ l, hasM ls k m = false := by
  refine (met_no hm).1 ?_
  rw [h]
  have : ∀ m, m < 16 → (List.replicate 16 false).getD m false = false := by decide
  exact this m hm
theorem around_total (hv : ValidG n ls) (hw : ValidW all pairs) {c l : List Nat} (hp : Pc ls n c l) (hs : Sats ls all pairs l) {x : Nat} (hx : x ∈ c) :
    ∃ w, aroundR ls x l all pairs = some w ∧ w ≠ [] ∧ InL ls l x w x ∧ Sats ls all pairs w ∧ w.length ≤ (n + 1) * 33 := by
  have hsz := hv.size
  have hml : (marksOf all pairs).length ≤ 32 := by
    unfold marksOf
    rw [List.length_append, List.length_map]
    have := hw.all_len
    have := hw.pairs_len
    omega
  have hm32 : (marksOf all pairs).length * n ≤ 32 * n := Nat.mul_le_mul_right _ hml
  obtain ⟨s1, e1, h1, hl1, hm1⟩ : ∃ s1, (if metF ls l = List.replicate 16 false then some (x, []) else foldO (throughR ls (fun k => decide (k ∈ l)) l) (marksOf all pairs) (x, [])) = some s1 ∧ Ar ls c l x s1 ∧ s1.2.length ≤ 32 * n ∧ ∀ m ∈ marksOf all pairs, m < 16 → (∃ k ∈ l, hasM ls k m = true) → ∃ k ∈ s1.2, hasM ls k m = true := by
    split
    · rename_i h0
      exact ⟨_, rfl, ⟨hx, .nil x⟩, Nat.zero_le _, fun m _ hm16 ⟨k, hk, hm⟩ => by rw [metF_none h0 hm16 k hk] at hm; cases hm⟩
    · obtain ⟨s1, q1, q2, q3, _, q4⟩ := through_total hv hp (marksOf all pairs) (x, []) ⟨hx, .nil x⟩ (by simp; omega)
      exact ⟨s1, q1, q2, by simp at q3; omega, fun m hm _ hex => q4 m hm hex⟩
  have hl0 : l.getD 0 0 ∈ l := by
    obtain ⟨k, r, e⟩ := List.exists_cons_of_ne_nil hp.ne
    rw [e]; simp
  obtain ⟨s2, e2, h2, hl2, ⟨t2, ht2⟩, hne2⟩ : ∃ s2, (if s1.2.length = 0 then visitR ls (fun k => decide (k ∈ l)) s1 (l.getD 0 0) else some s1) = some s2 ∧ Ar ls c l x s2 ∧ s2.2.length ≤ 32 * n ∧ (∃ t, s2.2 = s1.2 ++ t) ∧ s2.2 ≠ [] := by
    split
    · obtain ⟨s2, q1, q2, q3, q4, q5⟩ := visit_total hv hp h1 hl0 (by omega)
      exact ⟨s2, q1, q2, by omega, q4, List.ne_nil_of_mem q5⟩
    · rename_i h0
      exact ⟨s1, rfl, h1, by omega, ⟨[], by simp⟩, fun e => h0 (by rw [e]; rfl)⟩
  obtain ⟨way, b, e3, h4, h5⟩ := path_total (inn := fun k => decide (k ∈ l)) (en := fun y => decide (y = x)) (to_lt hv) hv.size (hp.lt _ h2.at_)
  obtain ⟨u, hu⟩ := hp.conn _ h2.at_ _ hx
  have hb' : b = true := by
    cases b with
    | true => rfl
    | false => have := (h5 rfl).2 u _ (inL_iff.2 hu); simp at this
  obtain ⟨y, hy, hwy, hwl⟩ := h4 hb'
  have hye : y = x := of_decide_eq_true hy
  subst hye
  have hwalk := h2.walk.app (inL_iff.1 hwy)
  have hmark : ∀ m ∈ marksOf all pairs, m < 16 → (∃ k ∈ l, hasM ls k m = true) → ∃ k ∈ s2.2 ++ way, hasM ls k m = true := fun m hm hm16 hex => by
    obtain ⟨k, hk, hmm⟩ := hm1 m hm hm16 hex
    exact ⟨k, List.mem_append_left _ (by rw [ht2]; exact List.mem_append_left _ hk), hmm⟩
  refine ⟨s2.2 ++ way, ?_, fun e => hne2 (List.append_eq_nil_iff.1 e).1, hwalk, ⟨fun m hm => ?_, fun p hpm ⟨k, hk, hmm⟩ => ?_⟩, ?_⟩
  · unfold aroundR
    rw [e1]
    simp only
    rw [e2]
    simp only
    rw [e3]
    simp only
    rw [if_pos (by omega)]
  · exact hmark m (List.mem_append_left _ hm) (hw.all_ok m hm) (hs.1 m hm)
  · exact hmark p.2 (List.mem_append_right _ (List.mem_map.2 ⟨p, hpm, rfl⟩)) (hw.pairs_ok p hpm).2 (hs.2 p hpm ⟨k, (hwalk.all k hk).2, hmm⟩)
  · rw [List.length_append, Nat.add_mul, Nat.mul_comm n 33]
    omega
end
end Go.Proofs.Ytnanffbjmfgafaa.S

namespace Go.Proofs.Ytnanffbjmfgafaa.S
open Go.RowKit
section
variable {ls : List Arrow} {n : Nat} {all : List Nat} {pairs : List (Nat × Nat)}
theorem wk_last {P : Nat → Prop} {x y : Nat} {w : List Nat} (h : Wk ls P x w y) : endOf ls w x = y := by
  induction h with
  | nil x => simp [endOf]
  | @cons k y w hk hp hw ih =>
    unfold endOf at ih ⊢
    rw [if_pos (by simp)]
    rcases w with _ | ⟨j, w⟩
    · simpa using ih
    · rw [if_pos (by simp)] at ih
      rw [← ih]
      have e : (k :: j :: w).length - 1 = (j :: w).length - 1 + 1 := by simp
      rw [e]
      rfl
structure RdOk (ls : List Arrow) (n : Nat) (all : List Nat) (pairs : List (Nat × Nat)) (init : List Nat) (r : Rd) : Prop where
  start : r.1 ∈ init
  round : ∃ y, Wk ls AllA r.1 r.2.1 y ∧ Wk ls AllA y r.2.2 y
  ne : r.2.2 ≠ []
  sats : Sats ls all pairs r.2.2
  stem : r.2.1.length ≤ n
  loop : r.2.2.length ≤ (n + 1) * 33
theorem any_all {x y : Nat} {w : List Nat} : InW ls (fun _ => true) x w y ↔ Wk ls AllA x w y := ⟨fun h => h.mono fun _ _ _ => trivial, fun h => h.mono fun _ _ _ => rfl⟩
theorem GoodOk.pc {nodes : List Nat} {on : List Bool} {xs : GL} (h : GoodOk ls all pairs nodes on xs) (hn : ∀ x ∈ nodes, x < n) {p : List Nat × List Nat} (hp : p ∈ xs) : Pc ls n p.1 p.2 :=
  ⟨h.conn p hp, fun k hk => ⟨(h.within p hp k hk).1, (h.within p hp k hk).2.2⟩, fun x hx => hn x (h.sub p hp x hx), h.arrow p hp⟩
theorem findC_total (hv : ValidG n ls) (hw : ValidW all pairs) {p : List Nat × List Nat} (hp : Pc ls n p.1 p.2) (hs : Sats ls all pairs p.2) : ∀ (xs : List Nat), (∀ x ∈ xs, x < n) → (∃ x ∈ xs, ∃ w y, Wk ls AllA x w y ∧ y ∈ p.1) → ∃ r, findC ls all pairs p xs = some (some r) ∧ RdOk ls n all pairs xs r
  | [], _, ⟨x, hx, _⟩ => by cases hx
  | x :: xs, hx, hex => by
    have hsz := hv.size
    obtain ⟨way, b, e, h1, h2⟩ := path_total (inn := fun _ => true) (en := fun y => p.1.contains y) (to_lt hv) hv.size (hx x (by simp))
    unfold findC
    rw [e]
    cases b with
    | true =>
      obtain ⟨y, hy, hwy, hl⟩ := h1 rfl
      have hyc : y ∈ p.1 := by simpa using hy
      simp only
      rw [if_pos (by
        simp only [Bool.and_eq_true, List.all_eq_true, decide_eq_true_eq]
        exact ⟨fun k hk => (hwy.all k hk).1, by omega⟩), wk_last hwy]
      obtain ⟨lo, e2, h3, h4, h5, h6⟩ := around_total hv hw hp hs hyc
      rw [e2]
      exact ⟨_, rfl, by simp, ⟨y, any_all.1 hwy, h4.mono fun _ _ _ => trivial⟩, h3, h5, by show way.length ≤ n; omega, h6⟩
    | false =>
      simp only
      obtain ⟨r, e2, h3⟩ := findC_total hv hw hp hs xs (fun y hy => hx y (by simp [hy])) (by
        obtain ⟨z, hz, w, y, hwy, hy⟩ := hex
        rcases List.mem_cons.1 hz with e | hz
        · subst e
          have := (h2 rfl).2 w y (any_all.2 hwy)
          simp [hy] at this
        · exact ⟨z, hz, w, y, hwy, hy⟩)
      exact ⟨r, e2, by simp [h3.start], h3.round, h3.ne, h3.sats, h3.stem, h3.loop⟩
/-- No core is reached from init. -/
def NoCore (ls : List Arrow) (all : List Nat) (pairs : List (Nat × Nat)) (init : List Nat) : Prop := ∀ x ∈ init, ∀ w y, Wk ls AllA x w y → ¬ CoreAt ls all pairs AllA y
theorem find_total (hv : ValidG n ls) (hw : ValidW all pairs) (hl : ls.length < 400) (hb : n * (ls.length + 3) ≤ 1000000) {init : List Nat} (hi : ∀ x ∈ init, x < n) :
    (∃ r, findR n ls all pairs init = some (some r) ∧ RdOk ls n all pairs init r) ∨ (findR n ls all pairs init = some none ∧ NoCore ls all pairs init) := by
  obtain ⟨reached, e1, hR⟩ := reach_closure hv hi
  have hsz := hv.size
  have hRl := hR.len
  obtain ⟨xs, e2, hG⟩ := good_total hw hv.size hb 400 reached (List.replicate ls.length true) (Nat.lt_of_le_of_lt (onCnt_le _) hl) hR.lt hRl
  have hstart : findR n ls all pairs init = findG ls all pairs init xs := by
    unfold findR
    rw [e1]
    simp only
    rw [if_pos (by
      simp only [Bool.and_eq_true, List.all_eq_true, decide_eq_true_eq]
      exact ⟨hR.lt, by omega⟩), e2]
  rw [hstart]
  rcases xs with _ | ⟨p, ps⟩
  · refine .inr ⟨rfl, fun x hx w y hwy ⟨v, hne, hv', hs⟩ => ?_⟩
    have hyr : y ∈ reached := (hR.mem y).2 ⟨x, hx, w, hwy⟩
    obtain ⟨p, hp, _⟩ := hG.full y v hyr hne (hR.walk hv' hyr) hs
    cases hp
  · have hp : p ∈ p :: ps := by simp
    have hpc := hG.pc hR.lt hp
    have hasc := asc_of (hG.sorted p hp) (by
      have := hG.nodup
      rw [List.flatMap_cons] at this
      exact (List.nodup_append.1 this).1)
    have hlen := nodup_len n p.1 (hasc.imp fun h => Nat.ne_of_lt h) hpc.lt
    have hok : okG ls p = true := by
      unfold okG
      simp only [Bool.and_eq_true, List.all_eq_true, decide_eq_true_eq]
      refine ⟨⟨⟨⟨strictly_of hasc, by omega⟩, fun k hk => (hpc.arr k hk).1⟩, List.length_pos_iff.2 hpc.ne⟩, ?_⟩
      have h1 := hG.len p hp
      have h2 := Nat.mul_le_mul (Nat.le_trans hlen hv.size) (show ls.length ≤ 200000 from hv.len)
      omega
    obtain ⟨y, yr, hy⟩ := List.exists_cons_of_ne_nil (hG.ne p hp)
    have hyp : y ∈ p.1 := by rw [hy]; simp
    obtain ⟨s, hs, u, hu⟩ := (hR.mem y).1 (hG.sub p hp y hyp)
    obtain ⟨r, e3, h3⟩ := findC_total hv hw hpc (hG.sats p hp) init hi ⟨s, hs, u, y, hu, hyp⟩
    refine .inl ⟨r, ?_, h3⟩
    unfold findG
    rw [if_pos hok, e3]
end
end Go.Proofs.Ytnanffbjmfgafaa.S

namespace Go.Proofs.Ytnanffbjmfgafaa.S
open Go.RowKit
theorem check_init {n : Int} {init : List Int} {ls : List ArrowI} {all : List Int} {pairs : List (Int × Int)} (h : checkI n init ls all pairs = 0) {init' : List Int} (hi : rises n init' = true) : checkI n init' ls all pairs = 0 := by
  unfold checkI at h ⊢
  split at h
  · cases h
  · rename_i k1
    rw [if_neg]
    · exact h
    · simp only [Bool.or_eq_true, not_or] at k1 ⊢
      exact ⟨k1.1, by rw [hi]; simp⟩
theorem right_n {n : Int} {init : List Int} {ls : List ArrowI} {all : List Int} {pairs : List (Int × Int)} (h : rightB n init ls all pairs = true) : n ≤ 12 := by
  have hc := checked (rightB_iff h).2
  simp only [rightB, Bool.and_eq_true] at h
  have := (small_lens h.1).1
  have := hc.n1
  omega
theorem small_bound {n l : Nat} (hn : n ≤ 12) (hl : l ≤ 41) : n * (l + 3) ≤ 1000000 := by
  have := Nat.mul_le_mul hn (show l + 3 ≤ 44 by omega)
  omega
abbrev CoreI (ls : List ArrowI) (all : List Int) (pairs : List (Int × Int)) (x : Nat) : Prop := CoreAt (ls.map toA) (all.map Int.toNat) (pairs.map toP) AllA x
theorem coresI_small {n : Int} {init : List Int} {ls : List ArrowI} {all : List Int} {pairs : List (Int × Int)} (hC : checkI n init ls all pairs = 0) (hn : n ≤ 12) (hl : ls.length ≤ 41) :
    ∃ c, coresI n ls all pairs = some (c, 0) ∧ c.Pairwise (· < ·) ∧ c.length ≤ 12 ∧ ∀ x, x ∈ c ↔ x < n.toNat ∧ CoreI ls all pairs x := by
  have hk := checked hC
  obtain ⟨c, h1, h2, h3⟩ := cores_total hk.validG hk.validW (by simpa using Nat.lt_of_le_of_lt hl (by decide)) (by simpa using small_bound (n := n.toNat) (by omega) hl)
  refine ⟨c, ?_, h2, ?_, h3⟩
  · unfold coresI
    rw [if_pos (check_init hC (rises_nil _)), h1]
    rfl
  · have := ndLen (h2.imp fun h => Nat.ne_of_lt h) fun x hx => ((h3 x).1 hx).1
    omega
/-- Other arrows, at the same places. -/
structure Sim (ls ls' : List Arrow) (pairs : List (Nat × Nat)) : Prop where
  len : ls.length ≤ ls'.length
  same : ∀ k, k < ls.length → frOf ls' k = frOf ls k ∧ toOf ls' k = toOf ls k
  more : ∀ k m, k < ls.length → hasM ls k m = true → hasM ls' k m = true
  first : ∀ k, k < ls.length → ∀ p ∈ pairs, hasM ls' k p.1 = true → hasM ls k p.1 = true
theorem Sim.walk {ls ls' : List Arrow} {pairs : List (Nat × Nat)} (h : Sim ls ls' pairs) {x y : Nat} {w : List Nat} (hw : Wk ls AllA x w y) : Wk ls' AllA x w y := by
  induction hw with
  | nil x => exact .nil x
  | cons hk _ _ ih =>
    obtain ⟨e1, e2⟩ := h.same _ hk
    rw [← e1]
    rw [← e2] at ih
    exact .cons (Nat.lt_of_lt_of_le hk h.len) trivial ih
theorem Sim.core {ls ls' : List Arrow} {all : List Nat} {pairs : List (Nat × Nat)} (h : Sim ls ls' pairs) {x : Nat} (hc : CoreAt ls all pairs AllA x) : CoreAt ls' all pairs AllA x := by
  obtain ⟨w, h1, h2, h3⟩ := hc
  have hlt := fun k hk => (h2.all k hk).1
  refine ⟨w, h1, h.walk h2, fun m hm => ?_, fun p hp ⟨k, hk, hm⟩ => ?_⟩
  · obtain ⟨k, hk, hm⟩ := h3.1 m hm
    exact ⟨k, hk, h.more k m (hlt k hk) hm⟩
  · obtain ⟨j, hj, hm2⟩ := h3.2 p hp ⟨k, hk, h.first k (hlt k hk) p hp hm⟩
    exact ⟨j, hj, h.more j _ (hlt j hj) hm2⟩
theorem hasM_at {ls : List Arrow} {k m : Nat} (h : k < ls.length) : hasM ls k m = (ls[k]).ms.testBit m := by unfold hasM; rw [List.getElem?_eq_getElem h]
theorem sim_snoc (ls : List Arrow) (a : Arrow) (pairs : List (Nat × Nat)) : Sim ls (ls ++ [a]) pairs := by
  have e : ∀ k (h : k < ls.length), (ls ++ [a])[k]'(by simp; omega) = ls[k] := fun k h => List.getElem_append_left h
  refine ⟨by simp, fun k h => ?_, fun k m h hm => ?_, fun k h p _ hm => ?_⟩
  · rw [frOf_at h, toOf_at h, frOf_at (by simp; omega), toOf_at (by simp; omega), e k h]; exact ⟨rfl, rfl⟩
  · rw [hasM_at h] at hm; rw [hasM_at (by simp; omega), e k h]; exact hm
  · rw [hasM_at (by simp; omega), e k h] at hm; rw [hasM_at h]; exact hm
def orMark (a : ArrowI) (m : Nat) : ArrowI := ⟨a.fr, a.to, a.ms ||| (1 <<< m)⟩
theorem sim_mark (ls : List ArrowI) (i m : Nat) (hi : i < ls.length) (pairs : List (Nat × Nat)) (hf : ∀ p ∈ pairs, p.1 ≠ m) : Sim (ls.map toA) ((ls.set i (orMark ls[i] m)).map toA) pairs := by
  have e : ∀ k (h : k < ls.length), ((ls.set i (orMark ls[i] m)).map toA)[k]'(by simpa using h) = toA (if i = k then orMark ls[i] m else ls[k]) := fun k h => by rw [List.getElem_map, List.getElem_set]
  have em : ∀ k (h : k < ls.length), (ls.map toA)[k]'(by simpa using h) = toA ls[k] := fun k h => by rw [List.getElem_map]
  have hl : ∀ k, k < (ls.map toA).length → k < ls.length := fun k h => by simpa using h
  refine ⟨by simp, fun k h => ?_, fun k q h hm => ?_, fun k h p hp hm => ?_⟩
  · rw [frOf_at h, toOf_at h, frOf_at (by simpa using h), toOf_at (by simpa using h), e k (hl k h), em k (hl k h)]
    split
    · rename_i q; subst q; exact ⟨rfl, rfl⟩
    · exact ⟨rfl, rfl⟩
  · rw [hasM_at h, em k (hl k h)] at hm
    rw [hasM_at (by simpa using h), e k (hl k h)]
    split
    · rename_i q; subst q
      show (ls[i].ms ||| (1 <<< m)).testBit q = true
      rw [Nat.testBit_or, show ls[i].ms.testBit q = true from hm]; rfl
    · exact hm
  · rw [hasM_at (by simpa using h), e k (hl k h)] at hm
    rw [hasM_at h, em k (hl k h)]
    split at hm
    · rename_i q; subst q
      have hm' : (ls[i].ms ||| (1 <<< m)).testBit p.1 = true := hm
      rw [Nat.testBit_or, Nat.testBit_shiftLeft] at hm'
      have : (decide (m ≤ p.1) && Nat.testBit 1 (p.1 - m)) = false := by
        have := hf p hp
        by_cases hle : m ≤ p.1
        · have h0 : p.1 - m ≠ 0 := by omega
          obtain ⟨d, hd⟩ : ∃ d, p.1 - m = d + 1 := ⟨p.1 - m - 1, by omega⟩
          rw [hd, Nat.testBit_succ]
          simp
        · simp [hle]
      rw [this, Bool.or_false] at hm'
      exact hm'
    · exact hm
/-- Marks below 16 keep the graph valid. -/
theorem check_mark {n : Int} {init : List Int} {ls : List ArrowI} {all : List Int} {pairs : List (Int × Int)} (h : checkI n init ls all pairs = 0) {i m : Nat} (hi : i < ls.length) (hm : m < 16) : checkI n init (ls.set i (orMark ls[i] m)) all pairs = 0 := by
  have hck := checked h
  unfold checkI at h ⊢
  split at h
  · cases h
  · rename_i k1
    rw [if_neg k1]
    split at h
    · cases h
    · rename_i k2
      rw [if_neg (by simpa using k2)]
      split at h
      · cases h
      · rename_i k3
        have k3' : ls.all (arrOkI n) = true := by simpa using k3
        have : (ls.set i (orMark ls[i] m)).all (arrOkI n) = true := by
          rw [List.all_eq_true] at k3' ⊢
          intro a ha
          rcases List.mem_or_eq_of_mem_set ha with ha | ha
          · exact k3' a ha
          · have h2 := hck.arr _ (List.getElem_mem hi)
            have h3 : ls[i].ms ||| (1 <<< m) < 2 ^ 16 := Nat.or_lt_two_pow (by have := h2.2.2.2.2; omega) (by rw [Nat.one_shiftLeft]; exact Nat.pow_lt_pow_right (by decide) hm)
            rw [ha]
            unfold orMark
            generalize ls[i].ms ||| (1 <<< m) = z at h3
            simp only [arrOkI, Bool.not_eq_true', Bool.or_eq_false_iff, decide_eq_false_iff_not]
            omega
        rw [if_neg (by simpa using this)]
        exact h
end Go.Proofs.Ytnanffbjmfgafaa.S

namespace Go.Proofs.Ytnanffbjmfgafaa.S
open Go.RowKit
section
variable {ls : List Arrow}
theorem follow_of {P : Nat → Prop} {x y : Nat} {w : List Nat} (h : Wk ls P x w y) : followF ls (w.map Int.ofNat) (x : Int) = some (y : Int) := by
  induction h with
  | nil x => rfl
  | @cons k y w hk _ _ ih =>
    rw [List.map_cons]
    unfold followF
    have e1 : stepOk ls (Int.ofNat k) (frOf ls k : Int) = true := by
      unfold stepOk
      rw [show (Int.ofNat k).toNat = k from rfl, List.getElem?_eq_getElem hk, frOf_at hk]
      simp
    have e2 : stepTo ls (Int.ofNat k) = (toOf ls k : Int) := by
      unfold stepTo
      rw [show (Int.ofNat k).toNat = k from rfl, List.getElem?_eq_getElem hk, toOf_at hk]
    rw [if_pos e1, e2]
    exact ih
theorem of_follow : ∀ (p : List Int) (x : Nat) (e : Int), followF ls p (x : Int) = some e → ∃ y : Nat, e = (y : Int) ∧ Wk ls AllA x (p.map Int.toNat) y
  | [], x, e, h => by
    simp only [followF, Option.some.injEq] at h
    exact ⟨x, h.symm, .nil x⟩
  | k :: p, x, e, h => by
    simp only [followF] at h
    split at h
    · rename_i hs
      unfold stepOk at hs
      cases hk : ls[k.toNat]? with
      | none => rw [hk] at hs; cases hs
      | some a =>
        obtain ⟨hkl, rfl⟩ := List.getElem?_eq_some_iff.1 hk
        rw [hk] at hs
        simp only [Bool.and_eq_true, decide_eq_true_eq] at hs
        have e2 : stepTo ls k = (toOf ls k.toNat : Int) := by unfold stepTo; rw [hk, toOf_at hkl]
        rw [e2] at h
        obtain ⟨y, rfl, hw⟩ := of_follow p _ _ h
        refine ⟨y, rfl, ?_⟩
        have hx : x = frOf ls k.toNat := by rw [frOf_at hkl]; have := hs.2; omega
        rw [hx]
        exact .cons hkl trivial hw
    · cases h
end
section
variable {n : Int} {init : List Int} {ls : List ArrowI} {all : List Int} {pairs : List (Int × Int)}
theorem findI_small (hC : checkI n init ls all pairs = 0) (hn : n ≤ 12) (hl : ls.length ≤ 41) :
    (∃ r, findI n init ls all pairs = some (some r, 0) ∧ RdOk (ls.map toA) n.toNat (all.map Int.toNat) (pairs.map toP) (init.map Int.toNat) r) ∨
    (findI n init ls all pairs = some (none, 0) ∧ NoCore (ls.map toA) (all.map Int.toNat) (pairs.map toP) (init.map Int.toNat)) := by
  have hk := checked hC
  have hi : ∀ x ∈ init.map Int.toNat, x < n.toNat := fun x hx => by
    obtain ⟨y, hy, rfl⟩ := List.mem_map.1 hx
    have := hk.init.low y hy
    omega
  unfold findI
  rw [if_pos hC]
  rcases find_total hk.validG hk.validW (by simpa using Nat.lt_of_le_of_lt hl (by decide)) (by simpa using small_bound (n := n.toNat) (by omega) hl) hi with ⟨r, e, h⟩ | ⟨e, h⟩
  · exact .inl ⟨r, by rw [e]; rfl, h⟩
  · exact .inr ⟨by rw [e]; rfl, h⟩
/-- The round that Find returns is accepted. -/
theorem accepts_found (hC : checkI n init ls all pairs = 0) {r : Rd} (h : RdOk (ls.map toA) n.toNat (all.map Int.toNat) (pairs.map toP) (init.map Int.toNat) r) : acceptsI n init ls all pairs (r.1 : Int) (r.2.1.map Int.ofNat) (r.2.2.map Int.ofNat) = (true, 0) := by
  have hk := checked hC
  obtain ⟨y, h1, h2⟩ := h.round
  rw [accepts_of hC, if_pos]
  · have e : (r.2.2.map Int.ofNat).map Int.toNat = r.2.2 := by rw [List.map_map]; exact (List.map_congr_left (g := id) (fun x _ => rfl)).trans (List.map_id _)
    rw [e, (satF_iff hk.validW).2 h.sats]
  · unfold isRoundF
    rw [follow_of h1]
    simp only
    rw [follow_of h2]
    have hst : (init.any fun y => ((r.1 : Nat) : Int) == y) = true := by
      obtain ⟨z, hz, e⟩ := List.mem_map.1 h.start
      have := hk.init.low z hz
      refine List.any_eq_true.2 ⟨z, hz, ?_⟩
      rw [beq_iff_eq]
      omega
    rw [hst]
    have := h.ne
    simp [this]
/-- A round that is accepted leads to a core. -/
theorem accepted_core (hC : checkI n init ls all pairs = 0) {start : Int} {stem loop : List Int} (h : (acceptsI n init ls all pairs start stem loop).1 = true) : ¬ NoCore (ls.map toA) (all.map Int.toNat) (pairs.map toP) (init.map Int.toNat) := by
  have hk := checked hC
  rw [accepts_of hC] at h
  split at h
  · rename_i hr
    have hs := (satF_iff hk.validW).1 h
    unfold isRoundF at hr
    simp only [Bool.and_eq_true] at hr
    obtain ⟨⟨h1, h2⟩, h3⟩ := hr
    obtain ⟨z, hz, e⟩ := List.any_eq_true.1 h1
    have ez : start = z := by simpa using e
    subst ez
    have hz0 := (hk.init.low _ hz).1
    obtain ⟨s, rfl⟩ := Int.eq_ofNat_of_zero_le hz0
    cases hf : followF (ls.map toA) stem (s : Int) with
    | none => rw [hf] at h3; cases h3
    | some f =>
      rw [hf] at h3
      obtain ⟨y, rfl, hw1⟩ := of_follow _ _ _ hf
      simp only at h3
      cases hf2 : followF (ls.map toA) loop (y : Int) with
      | none => rw [hf2] at h3; cases h3
      | some e2 =>
        rw [hf2] at h3
        have he : e2 = (y : Int) := of_decide_eq_true h3
        subst he
        obtain ⟨y2, he2, hw2⟩ := of_follow _ _ _ hf2
        have : y2 = y := by omega
        subst this
        intro hno
        refine hno s (List.mem_map.2 ⟨_, hz, by simp⟩) _ y2 hw1 ⟨_, fun e => ?_, hw2, hs⟩
        have : loop = [] := by simpa using e
        rw [this] at h2
        simp at h2
  · cases h
end
end Go.Proofs.Ytnanffbjmfgafaa.S

namespace Go.Proofs.Ytnanffbjmfgafaa.S
open Go.RowKit
section
variable {ls : List Arrow} {n : Nat}
theorem turn_at {k : Nat} : frOf (ls.map turnA) k = toOf ls k ∧ toOf (ls.map turnA) k = frOf ls k := by
  unfold frOf toOf
  rw [List.getElem?_map]
  cases ls[k]? <;> exact ⟨rfl, rfl⟩
theorem mem_turn {x y : Nat} : y ∈ nxF (ls.map turnA) x ↔ ∃ k, k < ls.length ∧ toOf ls k = x ∧ frOf ls k = y := by
  rw [mem_nxF]
  simp only [List.length_map, turn_at.1, turn_at.2]
theorem rc_turn {x y : Nat} : RcN (nxF (ls.map turnA)) y x ↔ ∃ w, Wk ls AllA x w y := by
  constructor
  · intro h
    induction h with
    | refl => exact ⟨[], .nil _⟩
    | tail _ e ih =>
      obtain ⟨w, hw⟩ := ih
      obtain ⟨k, h1, rfl, rfl⟩ := mem_turn.1 e
      exact ⟨k :: w, .cons h1 trivial hw⟩
  · rintro ⟨w, hw⟩
    induction hw with
    | nil x => exact .refl x
    | @cons k y w hk _ _ ih => exact .tail ih (mem_turn.2 ⟨k, hk, rfl, rfl⟩)
theorem wk_split {P : Nat → Prop} {x y k : Nat} {B : List Nat} : ∀ {A : List Nat}, Wk ls P x (A ++ k :: B) y → Wk ls P x A (frOf ls k) ∧ Wk ls P (frOf ls k) (k :: B) y := by
  intro A
  induction A generalizing x with
  | nil =>
    intro h
    have := h.head
    rw [this]
    exact ⟨.nil x, h⟩
  | cons j A ih =>
    intro h
    rw [List.cons_append] at h
    cases h with
    | cons hk hp hw =>
      obtain ⟨h1, h2⟩ := ih hw
      exact ⟨.cons hk hp h1, h2⟩
/-- Each node on a closed walk that satisfies the condition is a core. -/
theorem loop_cores {all : List Nat} {pairs : List (Nat × Nat)} {y : Nat} {w : List Nat} (hw : Wk ls AllA y w y) (hs : Sats ls all pairs w) : ∀ k ∈ w, CoreAt ls all pairs AllA (frOf ls k) := by
  intro k hk
  obtain ⟨A, B, rfl⟩ := List.append_of_mem hk
  obtain ⟨h1, h2⟩ := wk_split hw
  refine ⟨k :: B ++ A, by simp, h2.app h1, sats_same (fun j => ?_) hs⟩
  simp only [List.mem_append, List.mem_cons]
  constructor
  · rintro (h | h | h)
    · exact .inr h
    · exact .inl (.inl h)
    · exact .inl (.inr h)
  · rintro ((h | h) | h)
    · exact .inr (.inl h)
    · exact .inr (.inr h)
    · exact .inl h
end
section
variable {n : Int} {init : List Int} {ls : List ArrowI} {all : List Int} {pairs : List (Int × Int)}
theorem fromI_small (hC : checkI n init ls all pairs = 0) (hn : n ≤ 12) (hl : ls.length ≤ 41) :
    ∃ f, fromI n ls all pairs = some (f, 0) ∧ f.Pairwise (· < ·) ∧ f.length ≤ 12 ∧ (∀ x ∈ f, x < n.toNat) ∧ ∀ x, x ∈ f ↔ ∃ c, c < n.toNat ∧ CoreI ls all pairs c ∧ ∃ w, Wk (ls.map toA) AllA x w c := by
  have hk := checked hC
  obtain ⟨c, h1, h2, h3, h4⟩ := coresI_small hC hn hl
  have hv := hk.validG
  obtain ⟨f, q1, q2, q3, q4⟩ := closure_total (nx := nxF ((ls.map toA).map turnA)) (n := n.toNat) (from_ := c) (fun x _ y hy => by
    obtain ⟨k, hkl, _, rfl⟩ := mem_turn.1 hy
    rw [frOf_at hkl]
    exact (hv.ok _ (List.getElem_mem hkl)).1) hv.size (fun x hx => ((h4 x).1 hx).1)
  refine ⟨f, ?_, q2, ?_, q3, fun x => ?_⟩
  · unfold fromI
    rw [h1]
    simp only [if_true]
    rw [q1]
    rfl
  · have := nodup_len n.toNat f (q2.imp fun h => Nat.ne_of_lt h) q3
    omega
  · rw [q4]
    constructor
    · rintro ⟨s, hs, hr⟩
      obtain ⟨a, b⟩ := (h4 s).1 hs
      exact ⟨s, a, b, rc_turn.1 hr⟩
    · rintro ⟨s, a, b, hr⟩
      exact ⟨s, (h4 s).2 ⟨a, b⟩, rc_turn.2 hr⟩
theorem rises_one {i : Int} (h0 : 0 ≤ i) (h1 : i < n) : rises n [i] = true := by
  simp [rises, risesTo, risesAt, h0, h1]
/-- With one node as initial node. -/
theorem find_one (hC : checkI n init ls all pairs = 0) (hn : n ≤ 12) (hl : ls.length ≤ 41) {f : List Nat} (hf : ∀ x, x ∈ f ↔ ∃ c, c < n.toNat ∧ CoreI ls all pairs c ∧ ∃ w, Wk (ls.map toA) AllA x w c) {i : Nat} (hi : (i : Int) < n) :
    (∃ r, findI n [(i : Int)] ls all pairs = some (some r, 0) ∧ i ∈ f ∧ r.2.2.length ≤ 429 ∧ ∀ k ∈ r.2.2, k < ls.length ∧ CoreI ls all pairs (frOf (ls.map toA) k)) ∨ (findI n [(i : Int)] ls all pairs = some (none, 0) ∧ i ∉ f) := by
  have hC1 := check_init hC (rises_one (n := n) (i := (i : Int)) (by omega) hi)
  have hv := (checked hC1).validG
  have core_lt : ∀ x w c, Wk (ls.map toA) AllA x w c → x < n.toNat → c < n.toNat := fun x w c h => by
    induction h with
    | nil x => exact fun h => h
    | @cons k y w hk _ _ ih => exact fun _ => ih (to_lt hv k hk)
  rcases findI_small hC1 hn hl with ⟨r, e, h⟩ | ⟨e, h⟩
  · refine .inl ⟨r, e, ?_, ?_, fun k hk => ?_⟩
    · obtain ⟨y, h1, h2⟩ := h.round
      have hst : r.1 = i := by simpa using h.start
      rw [hst] at h1
      exact (hf i).2 ⟨y, core_lt _ _ _ h1 (by omega), ⟨_, h.ne, h2, h.sats⟩, _, h1⟩
    · have := h.loop
      have h2 : (n.toNat + 1) * 33 ≤ 13 * 33 := Nat.mul_le_mul_right _ (by omega)
      omega
    · obtain ⟨y, h1, h2⟩ := h.round
      exact ⟨by simpa using (h2.all k hk).1, loop_cores h2 h.sats k hk⟩
  · refine .inr ⟨e, fun hm => ?_⟩
    obtain ⟨c, _, hcore, w, hw⟩ := (hf i).1 hm
    exact h i (by simp) w c hw hcore
end
end Go.Proofs.Ytnanffbjmfgafaa.S

namespace Go.Proofs.Ytnanffbjmfgafaa.S
open Go.RowKit
def outB (n : Int) (f : List Nat) (x : Int) : Bool := decide (x < 0) || decide (x ≥ n) || !((f.map Int.ofNat).any fun y => x == y)
theorem through1_spec (g : Ghost) (nb fb : Nat) (n : Int) (vi vl va vp vf : Value) (f : List Nat) (x : Int) (hnb : Lies g nb 0 [.int .i64 n, vi, vl, va, vp]) (hfb : Lies g fb 0 [vf]) (hf : RS kNat g vf f) (hl : f.length ≤ 4611686018427387904) :
    Cl PP 38 [.int .i64 x, .pointer (some ⟨nb, 0, none⟩), .pointer (some ⟨fb, 0, none⟩)] g [] (Det (.bool (outB n f x))) := by
  obtain ⟨a, cp, rfl⟩ := hf.form
  have hB : outB n f x = (decide (x < 0) || decide (x ≥ n) || !((f.map Int.ofNat).any fun y => x == y)) := rfl
  refine cl_intro Try.func38 rfl rfl Try.ntmps38 rfl ?_
  intro w F hs
  repeat (refine wc_seq ?_)
  refine wc_region ?_
  repeat (refine wl_p rfl rfl rfl ?_)
  refine wl_nil (wk_seq ?_)
  repeat (refine wc_seq ?_)
  refine wc_region ?_
  repeat (refine wl_p rfl rfl rfl ?_)
  refine wl_case 7 rfl (fun q1 => ?_) (fun q1 => ?_)
  · have q1' : decide (x < 0) = true := q1
    repeat (first | refine wl_p rfl rfl rfl ?_ | refine wl_skip rfl rfl rfl ?_)
    refine wl_nil (wk_seq ?_)
    exact wc_retV (res1 rfl rfl) ⟨g, [], Ghost.rfl', hs, rfl, by rw [hB, q1']; rfl⟩
  · have q1' : decide (x < 0) = false := q1
    repeat (first | refine wl_p rfl rfl rfl ?_ | refine wl_skip rfl rfl rfl ?_)
    refine wl_ldG hs (hnb 0 _ rfl) rfl rfl rfl rfl rfl ?_
    repeat (refine wl_p rfl rfl rfl ?_)
    refine wl_case 13 rfl (fun q2 => ?_) (fun q2 => ?_)
    · have q2' : decide (x ≥ n) = true := q2
      repeat (first | refine wl_p rfl rfl rfl ?_ | refine wl_skip rfl rfl rfl ?_)
      refine wl_nil (wk_seq ?_)
      exact wc_retV (res1 rfl rfl) ⟨g, [], Ghost.rfl', hs, rfl, by rw [hB, q1', q2']; rfl⟩
    · have q2' : decide (x ≥ n) = false := q2
      repeat (first | refine wl_p rfl rfl rfl ?_ | refine wl_skip rfl rfl rfl ?_)
      refine wl_ldG hs (hfb 0 _ rfl) rfl rfl rfl rfl rfl ?_
      repeat (first | refine wl_p rfl rfl rfl ?_ | refine wl_skip rfl rfl rfl ?_)
      refine wl_call rfl rfl rfl (L := []) hs (contains_spec g _ (f.map Int.ofNat) x hf.ofNat (by simpa using hl)) ?_
      rintro u g' L' w' hg hs ⟨rfl, rfl⟩
      repeat (first | refine wl_p rfl rfl rfl ?_ | refine wl_skip rfl rfl rfl ?_)
      refine wl_nil (wk_seq ?_)
      exact wc_retV (res1 rfl rfl) ⟨g', [], hg, hs, rfl, by rw [hB, q1', q2']; rfl⟩
theorem lawThrough_spec (g : Ghost) (n : Int) (vi vl va vp : Value) (init : List Int) (ls : List ArrowI) (all : List Int) (pairs : List (Int × Int))
    (hi : RS kInt g vi init) (hl : RS kArrI g vl ls) (ha : RS kInt g va all) (hp : RS kPairI g vp pairs) :
    Cl PP 9 [.agg #[.int .i64 n, vi, vl, va, vp]] g [] (Det (.bool true)) := by
  obtain ⟨al, cl, rfl⟩ := hl.form
  refine cl_intro Try.func9 rfl rfl Try.ntmps9 rfl ?_
  intro w F hs
  repeat (refine wc_seq ?_)
  refine wc_region ?_
  refine wl_box hs rfl rfl rfl rfl ?_; clear hs; intro nb w hs
  repeat (refine wl_p rfl rfl rfl ?_)
  refine wl_nil (wk_seq ?_)
  obtain ⟨g1, hg1, hs, hnb⟩ := freezeB hs
  replace hs := (show St g1 w F from hs)
  replace hnb := (show Lies g1 nb 0 [.int .i64 n, vi, .slice al ls.length cl, va, vp] from hnb)
  repeat (refine wc_seq ?_)
  refine wc_region ?_
  refine wl_call (L := []) rfl rfl rfl hs (sane_spec g1) ?_
  rintro u g2 L' w hg2 hs ⟨rfl, rfl⟩
  replace hnb := hnb.mono hg2
  have hg02 := Ghost.tr hg1 hg2
  repeat (refine wl_p rfl rfl rfl ?_)
  refine wl_nil (wk_seq ?_)
  refine wc_condF rfl rfl (wc_skip (wk_seq ?_))
  repeat (refine wc_seq ?_)
  refine wc_region ?_
  refine wl_ldGN (cs := [.int .i64 n, vi, .slice al ls.length cl, va, vp]) hs hnb.at' rfl rfl rfl rfl rfl rfl ?_
  refine wl_call (L := []) rfl rfl rfl hs (right_spec g2 n _ _ _ _ init ls all pairs (hi.mono hg02) (hl.mono hg02) (ha.mono hg02) (hp.mono hg02)) ?_
  rintro u g3 L' w hg3 hs ⟨rfl, rfl⟩
  have hg03 := Ghost.tr hg02 hg3
  repeat (refine wl_p rfl rfl rfl ?_)
  refine wl_nil (wk_seq ?_)
  refine wc_cond rfl (fun q1 => ?_) (fun q1 => ?_)
  · repeat (refine wc_seq ?_)
    refine wc_region ?_
    repeat (refine wl_p rfl rfl rfl ?_)
    refine wl_nil (wk_seq ?_)
    exact wc_retV (res1 rfl rfl) ⟨g3, [], hg03, hs, rfl, rfl⟩
  have hR : rightB n init ls all pairs = true := by
    have : (!rightB n init ls all pairs) = false := q1
    simpa using this
  obtain ⟨⟨l1, l2, l3, l4⟩, hC⟩ := rightB_iff hR
  have hn12 := right_n hR
  have hn0 := (checked hC).n0
  have hnn : ((n.toNat : Nat) : Int) = n := by omega
  obtain ⟨c, hc1, hc2, hc3, hc4⟩ := coresI_small hC hn12 (by omega)
  obtain ⟨f, hf1, hf2, hf3, hf4, hf5⟩ := fromI_small hC hn12 (by omega)
  have hsub : ∀ x, x ∈ c → x ∈ f := fun x hx => by
    obtain ⟨a, b⟩ := (hc4 x).1 hx
    exact (hf5 x).2 ⟨x, a, b, [], .nil x⟩
  replace hnb := hnb.mono hg3
  replace hs := (show St g3 w F from hs)
  refine wc_skip (wk_seq ?_)
  repeat (refine wc_seq ?_)
  refine wc_region ?_
  repeat (refine wl_p rfl rfl rfl ?_)
  refine wl_ldG hs (hnb 0 _ rfl) rfl rfl rfl rfl rfl ?_
  repeat (refine wl_p rfl rfl rfl ?_)
  refine wl_ldG hs (hnb 2 _ rfl) rfl rfl rfl rfl rfl ?_
  repeat (refine wl_p rfl rfl rfl ?_)
  refine wl_ldGN (cs := [va, vp]) hs hnb.at3 rfl rfl rfl rfl rfl rfl ?_
  refine wl_call (L := []) rfl rfl rfl hs (Cores_spec g3 n _ _ _ ls all pairs (hl.mono hg03) (ha.mono hg03) (hp.mono hg03) (by omega) (by omega) (by omega) _ hc1) ?_
  rintro u g4 L' w hg4 hs ⟨rfl, vc, rfl, rc⟩
  obtain ⟨cA, cC, rfl⟩ := rc.form
  have hg04 := Ghost.tr hg03 hg4
  replace hnb := hnb.mono hg4
  replace hs := (show St g4 w F from hs)
  repeat (refine wl_p rfl rfl rfl ?_)
  refine wl_nil (wk_seq ?_)
  repeat (refine wc_seq ?_)
  refine wc_region ?_
  repeat (refine wl_p rfl rfl rfl ?_)
  refine wl_ldG hs (hnb 0 _ rfl) rfl rfl rfl rfl rfl ?_
  repeat (refine wl_p rfl rfl rfl ?_)
  refine wl_ldG hs (hnb 2 _ rfl) rfl rfl rfl rfl rfl ?_
  repeat (refine wl_p rfl rfl rfl ?_)
  refine wl_ldGN (cs := [va, vp]) hs hnb.at3 rfl rfl rfl rfl rfl rfl ?_
  refine wl_call (L := []) rfl rfl rfl hs (From_spec g4 n _ _ _ ls all pairs (hl.mono hg04) (ha.mono hg04) (hp.mono hg04) (by omega) (by omega) (by omega) _ hf1) ?_
  rintro u g5 L' w hg5 hs ⟨rfl, vf, rfl, rf⟩
  obtain ⟨fA, fC, rfl⟩ := rf.form
  repeat (refine wl_p rfl rfl rfl ?_)
  refine wl_new hs rfl rfl rfl ?_; clear hs; intro fb w hs
  refine wl_st hs 0 rfl rfl rfl rfl rfl rfl rfl rfl ?_; clear hs; intro w hs
  repeat (refine wl_p rfl rfl rfl ?_)
  refine wl_nil (wk_seq ?_)
  obtain ⟨g6, hg56, hs, hfb⟩ := freezeB hs
  replace hs := (show St g6 w F from hs)
  replace hfb := (show Lies g6 fb 0 [.slice fA f.length fC] from hfb)
  have hg46 := Ghost.tr hg5 hg56
  have hg06 := Ghost.tr hg04 hg46
  replace hnb := hnb.mono hg46
  replace rc := rc.mono hg46
  replace rf := rf.mono hg56
  repeat (refine wc_seq ?_)
  refine wc_region ?_
  repeat (first | refine wl_p rfl rfl rfl ?_ | refine wl_skip rfl rfl rfl ?_)
  refine wl_nil (wk_seq ?_)
  refine wc_condF rfl rfl (wc_skip (wk_seq ?_))
  have hnbm : Lies g6 nb 0 [.int .i64 ((n.toNat : Nat) : Int), vi, .slice al ls.length cl, va, vp] := by rw [hnn]; exact hnb
  repeat (refine wc_seq ?_)
  refine wc_region ?_
  repeat (refine wl_p rfl rfl rfl ?_)
  refine wl_ldG hs (hnbm 0 _ rfl) rfl rfl rfl rfl rfl ?_
  repeat (refine wl_p rfl rfl rfl ?_)
  refine wl_nil (wk_seq ?_)
  have hcn : ∀ i : Nat, ((c.map Int.ofNat).any fun y => (i : Int) == y) = c.contains i := fun i => contains_nat c i
  have hfn : ∀ i : Nat, ((f.map Int.ofNat).any fun y => (i : Int) == y) = f.contains i := fun i => contains_nat f i
  refine wc_for n.toNat (fun _ (_ : Unit) => [(45, .int .i64 n.toNat), (1, .pointer (some ⟨nb, 0, none⟩)), (3, .slice cA c.length cC), (5, .pointer (some ⟨fb, 0, none⟩))])
    (fun i (_ : Unit) w => ∃ g', g6 ≤ g' ∧ St g' w F) () (by omega) (by repeat (first | exact trivial | refine ⟨rfl, ?_⟩)) ⟨g6, Ghost.rfl', hs⟩ (fun _ _ => rfl) rfl rfl rfl ?_ ?_ (fun _ _ => rfl) rfl
  · clear hs
    rintro i _ w hii ⟨g7, hg7, hs⟩
    have hg07 := Ghost.tr hg06 hg7
    have hin : (i : Int) < n := by omega
    repeat (refine wc_seq ?_)
    refine wc_region ?_
    repeat (refine wl_p rfl rfl rfl ?_)
    refine wl_nil (wk_seq ?_)
    repeat (refine wc_seq ?_)
    refine wc_region ?_
    repeat (refine wl_p rfl rfl rfl ?_)
    refine wl_ldG hs (hnb.mono hg7 0 _ rfl) rfl rfl rfl rfl rfl ?_
    repeat (refine wl_p rfl rfl rfl ?_)
    refine wl_lit (ps := [(0, .tmp 52)]) hs rfl rfl rfl rfl rfl rfl rfl rfl rfl rfl ?_
    clear hs; intro mb w hs
    repeat (refine wl_p rfl rfl rfl ?_)
    refine wl_ldG hs (hnb.mono hg7 2 _ rfl) rfl rfl rfl rfl rfl ?_
    repeat (refine wl_p rfl rfl rfl ?_)
    refine wl_ldGN (cs := [va, vp]) hs (hnb.mono hg7).at3 rfl rfl rfl rfl rfl rfl ?_
    obtain ⟨g8, hg8, hs, hmb⟩ := freezeB hs
    have hg08 := Ghost.tr hg07 hg8
    have hg68 := Ghost.tr hg7 hg8
    have rm : RS kInt g8 (.slice (some ⟨mb, 0, none⟩) 1 1) [(i : Int)] := RS.ofFlat [(i : Int)] rfl hmb
    replace hs := (show St g8 w F from hs)
    rcases find_one hC hn12 (by omega) hf5 hin with ⟨r, hr1, hr2, hr3, hr4⟩ | ⟨hr1, hr2⟩
    · have hfc : f.contains i = true := by simpa using hr2
      refine wl_call (L := []) rfl rfl rfl hs (Find_spec g8 n _ _ va vp [(i : Int)] ls all pairs rm (hl.mono hg08) (ha.mono hg08) (hp.mono hg08) (by simp) (by omega) (by omega) (by omega) (some r, 0) hr1) ?_
      rintro u g9 L' w hg9 hs ⟨rfl, ws, wlo, rfl, rs1, rs2⟩
      obtain ⟨as1, cs1, rfl⟩ := rs1.form
      obtain ⟨as2, cs2, rfl⟩ := rs2.form
      repeat (refine wl_p rfl rfl rfl ?_)
      refine wl_new hs rfl rfl rfl ?_; clear hs; intro ob w hs
      refine wl_stN hs 0 rfl rfl rfl rfl rfl (Nat.le_of_ble_eq_true rfl) rfl rfl ?_
      clear hs; intro w hs
      repeat (refine wl_p rfl rfl rfl ?_)
      refine wl_nil (wk_seq ?_)
      obtain ⟨g10, hg910, hs, hob⟩ := freezeB hs
      replace hs := (show St g10 w F from hs)
      have hg610 := Ghost.tr hg68 (Ghost.tr hg9 hg910)
      repeat (refine wc_seq ?_)
      refine wc_region ?_
      repeat (first | refine wl_p rfl rfl rfl ?_ | refine wl_skip rfl rfl rfl ?_)
      refine wl_ldG hs (hfb.mono hg610 0 _ rfl) rfl rfl rfl rfl rfl ?_
      repeat (first | refine wl_p rfl rfl rfl ?_ | refine wl_skip rfl rfl rfl ?_)
      refine wl_call rfl rfl rfl (L := []) hs (contains_spec g10 _ (f.map Int.ofNat) (i : Int) (rf.mono hg610).ofNat (by simp; omega)) ?_
      rintro u g11 L' w hg11 hs ⟨rfl, rfl⟩
      rw [hfn, hfc]
      refine wl_neqB false rfl rfl rfl rfl rfl rfl rfl ?_
      repeat (first | refine wl_p rfl rfl rfl ?_ | refine wl_skip rfl rfl rfl ?_)
      refine wl_call rfl rfl rfl (L := []) hs (contains_spec g11 _ (c.map Int.ofNat) (i : Int) (rc.mono (Ghost.tr hg610 hg11)).ofNat (by simp; omega)) ?_
      rintro u g12 L' w hg12 hs ⟨rfl, rfl⟩
      generalize ((c.map Int.ofNat).any fun y => (i : Int) == y) = cb
      have hg612 := Ghost.tr hg610 (Ghost.tr hg11 hg12)
      replace hob := hob.mono (Ghost.tr hg11 hg12)
      replace rs2 := rs2.mono (Ghost.tr hg910 (Ghost.tr hg11 hg12))
      have hg012 := Ghost.tr hg06 hg612
      have hl12 := hl.mono hg012
      have rc12 := rc.mono hg612
      have hnb12 := hnb.mono hg612
      cases cb
      all_goals
        repeat (first | refine wl_p rfl rfl rfl ?_ | refine wl_skip rfl rfl rfl ?_)
        refine wl_nil (wk_seq ?_)
        refine wc_condF rfl rfl (wc_skip (wk_seq ?_))
        repeat (refine wc_seq ?_)
        refine wc_region ?_
        repeat (refine wl_p rfl rfl rfl ?_)
        refine wl_nil (wk_seq ?_)
        refine wc_condF rfl rfl (wc_skip (wk_seq ?_))
        repeat (refine wc_seq ?_)
        refine wc_region ?_
        repeat (refine wl_p rfl rfl rfl ?_)
        refine wl_ldG hs (hob 2 _ rfl) rfl rfl rfl rfl rfl ?_
        repeat (refine wl_p rfl rfl rfl ?_)
        refine wl_nil (wk_seq ?_)
        refine wc_for r.2.2.length (fun _ (_ : Unit) => [(84, .int .i64 r.2.2.length), (83, .slice as2 r.2.2.length cs2), (46, .int .i64 (i : Int)), (45, .int .i64 n.toNat), (1, .pointer (some ⟨nb, 0, none⟩)), (3, .slice cA c.length cC), (5, .pointer (some ⟨fb, 0, none⟩))])
          (fun j (_ : Unit) w => ∃ g', g12 ≤ g' ∧ St g' w F) () (by omega) (by repeat (first | exact trivial | refine ⟨rfl, ?_⟩)) ⟨g12, Ghost.rfl', hs⟩ (fun _ _ => rfl) rfl rfl rfl ?_ ?_ (fun _ _ => rfl) rfl
        · clear hs
          rintro j _ w hj ⟨g13, hg13, hs⟩
          have hb := rs2.base hj
          have hcn2 := (rs2.mono hg13).nat hj
          obtain ⟨k1, k2⟩ := hr4 _ (List.getElem_mem hj)
          have hk0 : ∀ k, k = r.2.2[j] → k < ls.length := fun k e => by rw [e]; exact k1
          repeat (refine wc_seq ?_)
          refine wc_region ?_
          refine wl_ix rfl rfl rfl rfl rfl (by omega) hb rfl rfl ?_
          refine wl_ldG hs (hcn2) rfl rfl rfl rfl rfl ?_
          repeat (refine wl_p rfl rfl rfl ?_)
          refine wl_nil (wk_seq ?_)
          repeat (refine wc_seq ?_)
          refine wc_region ?_
          repeat (refine wl_p rfl rfl rfl ?_)
          refine wl_case 91 rfl (fun c1 => ?_) (fun c1 => ?_)
          · exfalso
            have := of_decide_eq_true c1
            omega
          repeat (first | refine wl_p rfl rfl rfl ?_ | refine wl_skip rfl rfl rfl ?_)
          refine wl_ldG hs (hnb12.mono hg13 2 _ rfl) rfl rfl rfl rfl rfl ?_
          repeat (first | refine wl_p rfl rfl rfl ?_ | refine wl_skip rfl rfl rfl ?_)
          refine wl_case 98 rfl (fun c2 => ?_) (fun c2 => ?_)
          · exfalso
            have h9 : ((r.2.2[j] : Nat) : Int) ≥ (ls.length : Int) := of_decide_eq_true c2
            omega
          repeat (first | refine wl_p rfl rfl rfl ?_ | refine wl_skip rfl rfl rfl ?_)
          refine wl_ldG hs (hnb12.mono hg13 2 _ rfl) rfl rfl rfl rfl rfl ?_
          repeat (first | refine wl_p rfl rfl rfl ?_ | refine wl_skip rfl rfl rfl ?_)
          refine wl_ix rfl rfl rfl rfl rfl ⟨Int.natCast_nonneg _, Int.ofNat_lt.2 k1⟩ (hl12.base k1) rfl rfl ?_
          repeat (first | refine wl_p rfl rfl rfl ?_ | refine wl_skip rfl rfl rfl ?_)
          refine wl_ldG hs (Lies.of_eaddr ((hl12.mono hg13).enc k1) 0 _ rfl) rfl rfl rfl rfl rfl ?_
          have harr := (checked hC).arr _ (List.getElem_mem k1)
          have hfr : frOf (ls.map toA) r.2.2[j] = (ls[r.2.2[j]]).fr.toNat := by rw [frOf_at (by simpa using k1), List.getElem_map]; rfl
          have hcont : ((c.map Int.ofNat).any fun y => (ls[r.2.2[j]]).fr == y) = true := by
            rw [List.any_eq_true]
            refine ⟨_, List.mem_map.2 ⟨_, (hc4 _).2 ⟨?_, k2⟩, rfl⟩, ?_⟩
            · rw [hfr]; omega
            · rw [hfr, beq_iff_eq]; show _ = ((_ : Nat) : Int); omega
          refine wl_call rfl rfl rfl (L := []) hs (contains_spec g13 _ (c.map Int.ofNat) (ls[r.2.2[j]]).fr (rc12.mono hg13).ofNat (by simp; omega)) ?_
          rintro u g14 L' w hg14 hs ⟨rfl, rfl⟩
          rw [hcont]
          repeat (first | refine wl_p rfl rfl rfl ?_ | refine wl_skip rfl rfl rfl ?_)
          refine wl_nil (wk_seq ?_)
          exact wc_condF rfl rfl (wc_skip (wk_blk (wk_next () hj (by omega) ⟨g14, Ghost.tr hg13 hg14, hs⟩ rfl rfl rfl (by repeat (first | exact trivial | refine ⟨rfl, ?_⟩)))))
        · clear hs
          rintro _ w ⟨g13, hg13, hs⟩
          exact wk_blk (wk_next () hii (by omega) ⟨g13, Ghost.tr hg612 hg13, hs⟩ rfl rfl rfl (by repeat (first | exact trivial | refine ⟨rfl, ?_⟩)))
    · have hfc : f.contains i = false := by simpa using hr2
      have hcc : c.contains i = false := by
        have : i ∉ c := fun h => hr2 (hsub i h)
        simpa using this
      refine wl_call (L := []) rfl rfl rfl hs (Find_spec g8 n _ _ va vp [(i : Int)] ls all pairs rm (hl.mono hg08) (ha.mono hg08) (hp.mono hg08) (by simp) (by omega) (by omega) (by omega) (none, 0) hr1) ?_
      rintro u g9 L' w hg9 hs ⟨rfl, ws, wlo, rfl, rs1, rs2⟩
      obtain ⟨as1, cs1, rfl⟩ := rs1.form
      obtain ⟨as2, cs2, rfl⟩ := rs2.form
      repeat (refine wl_p rfl rfl rfl ?_)
      refine wl_new hs rfl rfl rfl ?_; clear hs; intro ob w hs
      refine wl_stN hs 0 rfl rfl rfl rfl rfl (Nat.le_of_ble_eq_true rfl) rfl rfl ?_
      clear hs; intro w hs
      repeat (refine wl_p rfl rfl rfl ?_)
      refine wl_nil (wk_seq ?_)
      obtain ⟨g10, hg910, hs, hob⟩ := freezeB hs
      replace hs := (show St g10 w F from hs)
      have hg610 := Ghost.tr hg68 (Ghost.tr hg9 hg910)
      repeat (refine wc_seq ?_)
      refine wc_region ?_
      repeat (first | refine wl_p rfl rfl rfl ?_ | refine wl_skip rfl rfl rfl ?_)
      refine wl_ldG hs (hfb.mono hg610 0 _ rfl) rfl rfl rfl rfl rfl ?_
      repeat (first | refine wl_p rfl rfl rfl ?_ | refine wl_skip rfl rfl rfl ?_)
      refine wl_call rfl rfl rfl (L := []) hs (contains_spec g10 _ (f.map Int.ofNat) (i : Int) (rf.mono hg610).ofNat (by simp; omega)) ?_
      rintro u g11 L' w hg11 hs ⟨rfl, rfl⟩
      rw [hfn, hfc]
      refine wl_neqB false rfl rfl rfl rfl rfl rfl rfl ?_
      repeat (first | refine wl_p rfl rfl rfl ?_ | refine wl_skip rfl rfl rfl ?_)
      refine wl_call rfl rfl rfl (L := []) hs (contains_spec g11 _ (c.map Int.ofNat) (i : Int) (rc.mono (Ghost.tr hg610 hg11)).ofNat (by simp; omega)) ?_
      rintro u g12 L' w hg12 hs ⟨rfl, rfl⟩
      rw [hcn, hcc]
      have hg612 := Ghost.tr hg610 (Ghost.tr hg11 hg12)
      repeat (first | refine wl_p rfl rfl rfl ?_ | refine wl_skip rfl rfl rfl ?_)
      refine wl_nil (wk_seq ?_)
      refine wc_condF rfl rfl (wc_skip (wk_seq ?_))
      repeat (refine wc_seq ?_)
      refine wc_region ?_
      repeat (refine wl_p rfl rfl rfl ?_)
      refine wl_nil (wk_seq ?_)
      refine wc_condT rfl rfl ?_
      exact wc_exit rfl (wk_next () hii (by omega) ⟨g12, hg612, hs⟩ rfl rfl rfl (by repeat (first | exact trivial | refine ⟨rfl, ?_⟩)))
  · clear hs
    rintro _ w ⟨g7, hg7, hs⟩
    have hg07 := Ghost.tr hg06 hg7
    refine wk_seq ?_
    repeat (refine wc_seq ?_)
    refine wc_region ?_
    repeat (refine wl_p rfl rfl rfl ?_)
    refine wl_call rfl rfl rfl (L := []) hs (containsFuncI_spec g7 _ (c.map Int.ofNat) 38 #[] #[.pointer (some ⟨nb, 0, none⟩), .pointer (some ⟨fb, 0, none⟩)] (outB n f) (rc.mono hg7).ofNat (by simp; omega) (fun g' q hg' => through1_spec g' nb fb n vi _ va vp _ f q (hnb.mono (Ghost.tr hg7 hg')) (hfb.mono (Ghost.tr hg7 hg')) (rf.mono (Ghost.tr hg7 hg')) (by omega))) ?_
    rintro u g' L' w hg hs ⟨rfl, rfl⟩
    have hout : (c.map Int.ofNat).any (outB n f) = false := by
      rw [List.any_eq_false]
      intro x hx
      obtain ⟨y, hy, rfl⟩ := List.mem_map.1 hx
      have h1 := ((hc4 y).1 hy).1
      have h2 : f.contains y = true := by simpa using hsub y hy
      have h3 : ((f.map Int.ofNat).any fun z => Int.ofNat y == z) = f.contains y := hfn y
      unfold outB
      rw [h3, h2]
      simp
      omega
    rw [hout]
    repeat (refine wl_p rfl rfl rfl ?_)
    refine wl_nil (wk_seq ?_)
    exact wc_retV (res1 rfl rfl) ⟨g', [], Ghost.tr hg07 hg, hs, rfl, rfl⟩
end Go.Proofs.Ytnanffbjmfgafaa.S
