/- What the statement FairProofs is proved with, part 4: walks of the code, each against a pure version of it. -/
import Derived.Carry
import Derived.Deep.Slices
import Derived.OpenShut
import Derived.Test.YtnanffbjmfgafaaGreatWFairProofs3
set_option linter.all false
namespace Go.Proofs.YtnanffbjmfgafaaGreat.S
open Go.RowKit
theorem shows_all (n : Nat) (ls : List Arrow) (all : List Nat) (pairs : List (Nat × Nat)) (hv : ValidG n ls) (hw : ValidW all pairs) : ∀ k, ShowsAt n ls all pairs k := by
  intro k
  induction k with
  | zero => intro g gp va vp v1 v2 v3 cs d nodes on deep _ _ _ hd; exact hd.elim
  | succ k ih =>
    intro g gp va vp v1 v2 v3 cs d nodes on deep hG ha hp hd hok h1 h2 h3 hlen hnl hn hdeep
    have hd0 := hd
    have hok0 := hok
    obtain ⟨hk1, hk2, hk3, hk4⟩ := hok
    obtain ⟨vn, vr, vL, rfl, r1, r2, r3⟩ := hd.open'
    obtain ⟨gb, hgp⟩ : ∃ gb, gp = .pointer (some ⟨gb, 0, none⟩) := by obtain ⟨gb, _, _, _, _, rfl, _⟩ := hG; exact ⟨gb, rfl⟩
    subst hgp
    obtain ⟨an, cn, rfl⟩ := r1.form
    obtain ⟨ar, cr, rfl⟩ := r2.form
    obtain ⟨aL, cL, rfl⟩ := r3.form
    obtain ⟨a1, c1, rfl⟩ := h1.form
    obtain ⟨a2, c2, rfl⟩ := h2.form
    obtain ⟨a3, c3, rfl⟩ := h3.form
    obtain ⟨aa, ca, rfl⟩ := ha.form
    obtain ⟨ap, cp, rfl⟩ := hp.form
    refine cl_intro Tryz.func21 rfl rfl Tryz.ntmps21 rfl ?_
    intro w F hs
    repeat (refine wc_seq ?_)
    refine wc_region ?_
    refine wl_box hs rfl rfl rfl rfl ?_; clear hs; intro vb w hs
    refine wl_box hs rfl rfl rfl rfl ?_; clear hs; intro db w hs
    refine wl_box hs rfl rfl rfl rfl ?_; clear hs; intro pb w hs
    repeat (refine wl_p rfl rfl rfl ?_)
    refine wl_nil (wk_seq ?_)
    replace hs := (show St g w ((db, cellsO [.int .i64 d.kind, .int .i64 d.n, .slice an d.nodes.length cn, .slice ar d.rank.length cr, .slice aL d.l.length cL] 31) :: (vb, cellsO [.pointer (some ⟨gb, 0, none⟩), .slice aa all.length ca, .slice ap pairs.length cp] 61) :: (pb, cellsO [.slice a1 nodes.length c1, .slice a2 (inF n nodes).length c2, .slice a3 on.length c3] 65) :: F) from St.perm (show St g w ((pb, cellsO [.slice a1 nodes.length c1, .slice a2 (inF n nodes).length c2, .slice a3 on.length c3] 65) :: (db, cellsO [.int .i64 d.kind, .int .i64 d.n, .slice an d.nodes.length cn, .slice ar d.rank.length cr, .slice aL d.l.length cL] 31) :: (vb, cellsO [.pointer (some ⟨gb, 0, none⟩), .slice aa all.length ca, .slice ap pairs.length cp] 61) :: F) from hs) (by classical exact List.perm_iff_count.2 fun x => by simp only [List.append_eq, List.set_cons_succ, List.set_cons_zero, List.eraseIdx_cons_zero, List.eraseIdx_cons_succ, List.count_cons, List.count_append, List.cons_append, List.nil_append, List.append_nil, List.append_assoc] <;> ac_rfl))
    obtain ⟨g1, hg1, hs, hdb⟩ := freezeB hs
    obtain ⟨g2, hg2, hs, hvb⟩ := freezeB hs
    replace hdb := hdb.mono hg2
    have hg02 := Ghost.tr hg1 hg2
    clear hg1 hg2
    repeat (refine wc_seq ?_)
    refine wc_region ?_
    repeat (refine wl_p rfl rfl rfl ?_)
    refine wl_case 13 rfl (fun q1 => ?_) (fun q1 => ?_)
    · repeat (first | refine wl_p rfl rfl rfl ?_ | refine wl_skip rfl rfl rfl ?_)
      refine wl_nil (wk_seq ?_)
      refine wc_condT rfl rfl ?_
      repeat (refine wc_seq ?_)
      refine wc_region ?_
      repeat (refine wl_p rfl rfl rfl ?_)
      refine wl_nil (wk_seq ?_)
      refine wc_retV (res1 rfl rfl) ⟨g2, [], hg02, hs.drop, rfl, ?_⟩
      have : deep > 100 := by have := of_decide_eq_true q1; omega
      simp only [showsF, if_pos (Or.inl this : deep > 100 ∨ d.nodes ≠ nodes.map Int.ofNat)]
    · have hdp : deep ≤ 100 := by have := of_decide_eq_false q1; omega
      repeat (first | refine wl_p rfl rfl rfl ?_ | refine wl_skip rfl rfl rfl ?_)
      refine wl_ldG hs (hdb 2 _ rfl) rfl rfl rfl rfl rfl ?_
      repeat (first | refine wl_p rfl rfl rfl ?_ | refine wl_skip rfl rfl rfl ?_)
      refine wl_ldO hs 0 rfl rfl rfl rfl rfl rfl rfl ?_
      refine wl_call (L := []) rfl rfl rfl hs (equal_spec g2 _ _ d.nodes (nodes.map Int.ofNat) (r1.mono hg02) (h1.ofNat.mono hg02) (by omega)) ?_
      rintro u g3 L' w hg3 hs ⟨rfl, rfl⟩
      have hg03 := Ghost.tr hg02 hg3
      repeat (first | refine wl_p rfl rfl rfl ?_ | refine wl_skip rfl rfl rfl ?_)
      refine wl_nil (wk_seq ?_)
      refine wc_cond rfl (fun q2 => ?_) (fun q2 => ?_)
      · repeat (refine wc_seq ?_)
        refine wc_region ?_
        repeat (refine wl_p rfl rfl rfl ?_)
        refine wl_nil (wk_seq ?_)
        refine wc_retV (res1 rfl rfl) ⟨g3, [], hg03, hs.drop, rfl, ?_⟩
        have : d.nodes ≠ nodes.map Int.ofNat := by simpa using q2
        simp only [showsF, if_pos (Or.inr this : deep > 100 ∨ d.nodes ≠ nodes.map Int.ofNat)]
      · have hnodes : d.nodes = nodes.map Int.ofNat := by simpa using q2
        have k1 : ¬ (deep > 100 ∨ d.nodes ≠ nodes.map Int.ofNat) := by
          rintro (h | h)
          · omega
          · exact h hnodes
        refine wc_skip (wk_seq ?_)
        repeat (refine wc_seq ?_)
        refine wc_region ?_
        repeat (refine wl_p rfl rfl rfl ?_)
        refine wl_ldG hs (hvb.mono hg3 0 _ rfl) rfl rfl rfl rfl rfl ?_
        refine wl_ldW hs 0 rfl rfl rfl rfl rfl rfl rfl ?_
        refine wl_call (L := []) rfl rfl rfl hs (within_spec g3 _ _ n ls nodes on (hG.mono hg03) hv ⟨_, _, _, rfl, h1.mono hg03, h2.mono hg03, h3.mono hg03⟩ hlen hnl hn) ?_
        rintro vl g4 L' w hg4 hs ⟨rfl, hrl⟩
        have hg04 := Ghost.tr hg03 hg4
        have hg24 := Ghost.tr hg3 hg4
        obtain ⟨al, cl, rfl⟩ := hrl.form
        repeat (refine wl_p rfl rfl rfl ?_)
        refine wl_nil (wk_seq ?_)
        repeat (refine wc_seq ?_)
        refine wc_region ?_
        repeat (refine wl_p rfl rfl rfl ?_)
        refine wl_ldG hs (hvb.mono hg24 0 _ rfl) rfl rfl rfl rfl rfl ?_
        repeat (refine wl_p rfl rfl rfl ?_)
        refine wl_call (L := []) rfl rfl rfl hs (met_spec g4 _ _ n ls (withinF ls nodes on) (hG.mono hg04) hv hrl (withinF_len hv.len hnl) (fun i hi => withinF_lt hi)) ?_
        rintro u g5 L' w hg5 hs ⟨rfl, rfl⟩
        have hg05 := Ghost.tr hg04 hg5
        have hg25 := Ghost.tr hg24 hg5
        have hml : (metF ls (withinF ls nodes on)).length = 16 := metF_len _ _
        refine wl_new hs rfl rfl rfl ?_; clear hs; intro mb w hs
        refine wl_stN (cs := (metF ls (withinF ls nodes on)).map .bool) hs 0 rfl rfl rfl rfl (by rw [List.length_map, hml]; rfl) (by rw [List.length_map, hml]; exact Nat.le_of_ble_eq_true rfl) (by simp [Value.oneCell']) rfl ?_
        clear hs; intro w hs
        rw [setL_full (by rw [List.length_map, hml]; rfl)] at hs
        obtain ⟨g6, hg6, hs, hmb⟩ := freezeB hs
        have hg06 := Ghost.tr hg05 hg6
        have hg26 := Ghost.tr hg25 hg6
        have hcell : ∀ j, j < 16 → g6.cell ⟨mb, j, none⟩ = some (.bool ((metF ls (withinF ls nodes on)).getD j false)) := fun j hj => by
          have := hmb j (.bool ((metF ls (withinF ls nodes on)).getD j false)) (by
            rw [List.getElem?_map, List.getElem?_eq_getElem (by omega : j < (metF ls (withinF ls nodes on)).length)]
            simp [hml, hj])
          rwa [Nat.zero_add] at this
        refine wl_nil (wk_seq ?_)
        repeat (refine wc_seq ?_)
        refine wc_region ?_
        repeat (refine wl_p rfl rfl rfl ?_)
        refine wl_ldG hs (hdb.mono hg26 0 _ rfl) rfl rfl rfl rfl rfl ?_
        refine wl_nil (wk_seq ?_)
        refine wc_block ?_
        have hd6 := hd0.mono hg06
        repeat (refine wc_seq ?_)
        refine wc_region ?_
        repeat (refine wl_p rfl rfl rfl ?_)
        refine wl_nil (wk_seq ?_)
        refine wc_cond rfl (fun c2 => ?_) (fun c2 => ?_)
        · have e2 : d.kind = 2 := by simpa using c2
          repeat (refine wc_seq ?_)
          refine wc_region ?_
          refine wl_ldGN hs ((hdb.mono hg26).at') rfl rfl rfl rfl rfl rfl ?_
          refine wl_call (L := []) rfl rfl rfl hs (plain_spec g6 _ _ d false false 0 hd6) ?_
          rintro u g7 L' w hg7 hs ⟨rfl, rfl⟩
          repeat (refine wl_p rfl rfl rfl ?_)
          refine wl_case 35 rfl (fun c3 => ?_) (fun c3 => ?_)
          · repeat (first | refine wl_p rfl rfl rfl ?_ | refine wl_skip rfl rfl rfl ?_)
            refine wl_nil (wk_seq ?_)
            refine wc_retV (res1 rfl rfl) ⟨g7, [], Ghost.tr hg06 hg7, hs.drop, rfl, ?_⟩
            simp only [showsF, if_neg k1, if_pos e2, show plainF d false false 0 = true from c3, Bool.true_and]
            by_cases e : (withinF ls nodes on).length = 0
            · rw [e]; rfl
            · rw [decide_eq_false e]
              exact congrArg Value.bool (by simpa using e)
          · repeat (first | refine wl_p rfl rfl rfl ?_ | refine wl_skip rfl rfl rfl ?_)
            refine wl_nil (wk_seq ?_)
            refine wc_retV (res1 rfl rfl) ⟨g7, [], Ghost.tr hg06 hg7, hs.drop, rfl, ?_⟩
            simp only [showsF, if_neg k1, if_pos e2, show plainF d false false 0 = false from c3, Bool.false_and]
        · have e2 : ¬ d.kind = 2 := by simpa using c2
          repeat (refine wc_seq ?_)
          refine wc_region ?_
          repeat (refine wl_p rfl rfl rfl ?_)
          refine wl_nil (wk_seq ?_)
          refine wc_cond rfl (fun c3 => ?_) (fun c3 => ?_)
          · have e3 : d.kind = 3 := by simpa using c3
            repeat (refine wc_seq ?_)
            refine wc_region ?_
            refine wl_ldGN hs ((hdb.mono hg26).at') rfl rfl rfl rfl rfl rfl ?_
            refine wl_call (L := []) rfl rfl rfl hs (plain_spec g6 _ _ d true false 0 hd6) ?_
            rintro u g7 L' w hg7 hs ⟨rfl, rfl⟩
            have hg27 := Ghost.tr hg26 hg7
            have hg07 := Ghost.tr hg06 hg7
            repeat (refine wl_p rfl rfl rfl ?_)
            refine wl_case 44 rfl (fun c4 => ?_) (fun c4 => ?_)
            · repeat (first | refine wl_p rfl rfl rfl ?_ | refine wl_skip rfl rfl rfl ?_)
              refine wl_ldG hs (hdb.mono hg27 1 _ rfl) rfl rfl rfl rfl rfl ?_
              repeat (first | refine wl_p rfl rfl rfl ?_ | refine wl_skip rfl rfl rfl ?_)
              refine wl_case 49 rfl (fun c5 => ?_) (fun c5 => ?_)
              · have c5' : 0 ≤ d.n := of_decide_eq_true c5
                repeat (first | refine wl_p rfl rfl rfl ?_ | refine wl_skip rfl rfl rfl ?_)
                refine wl_ldG hs (hdb.mono hg27 1 _ rfl) rfl rfl rfl rfl rfl ?_
                repeat (first | refine wl_p rfl rfl rfl ?_ | refine wl_skip rfl rfl rfl ?_)
                refine wl_ldG hs (hvb.mono hg27 1 _ rfl) rfl rfl rfl rfl rfl ?_
                repeat (first | refine wl_p rfl rfl rfl ?_ | refine wl_skip rfl rfl rfl ?_)
                refine wl_case 58 rfl (fun c6 => ?_) (fun c6 => ?_)
                · have c6' : d.n < all.length := of_decide_eq_true c6
                  have hdn : d.n.toNat < all.length := by omega
                  have hba := (ha.mono hg07).base hdn
                  have hca := (ha.mono hg07).nat hdn
                  have hlt := hw.all_ok _ (List.getElem_mem hdn)
                  repeat (first | refine wl_p rfl rfl rfl ?_ | refine wl_skip rfl rfl rfl ?_)
                  refine wl_ldG hs (hvb.mono hg27 1 _ rfl) rfl rfl rfl rfl rfl ?_
                  repeat (first | refine wl_p rfl rfl rfl ?_ | refine wl_skip rfl rfl rfl ?_)
                  refine wl_ldG hs (hdb.mono hg27 1 _ rfl) rfl rfl rfl rfl rfl ?_
                  refine wl_ix rfl rfl rfl rfl rfl (by omega) (hba) rfl rfl ?_
                  refine wl_ldG hs (hca) rfl rfl rfl rfl rfl ?_
                  refine wl_ixAJ _ rfl rfl rfl rfl rfl (hlt) rfl rfl rfl ?_
                  have hcm := hcell _ hlt
                  refine wl_ldG hs (hg7.cell hcm) rfl rfl rfl rfl rfl ?_
                  repeat (first | refine wl_p rfl rfl rfl ?_ | refine wl_skip rfl rfl rfl ?_)
                  refine wl_nil (wk_seq ?_)
                  refine wc_retV (res1 rfl rfl) ⟨g7, [], hg07, hs.drop, rfl, ?_⟩
                  have hg9 : all.getD d.n.toNat 0 = all[d.n.toNat] := by simp [hdn]
                  simp only [showsF, if_neg k1, if_neg e2, if_pos e3, show plainF d true false 0 = true from c4, decide_eq_true c5', decide_eq_true c6', Bool.true_and, hg9]
                  try rfl
                · repeat (first | refine wl_p rfl rfl rfl ?_ | refine wl_skip rfl rfl rfl ?_)
                  refine wl_nil (wk_seq ?_)
                  refine wc_retV (res1 rfl rfl) ⟨g7, [], hg07, hs.drop, rfl, ?_⟩
                  simp only [showsF, if_neg k1, if_neg e2, if_pos e3, decide_eq_false (of_decide_eq_false c6 : ¬ d.n < all.length), Bool.and_false, Bool.false_and]
              · repeat (first | refine wl_p rfl rfl rfl ?_ | refine wl_skip rfl rfl rfl ?_)
                refine wl_nil (wk_seq ?_)
                refine wc_retV (res1 rfl rfl) ⟨g7, [], hg07, hs.drop, rfl, ?_⟩
                simp only [showsF, if_neg k1, if_neg e2, if_pos e3, decide_eq_false (of_decide_eq_false c5 : ¬ 0 ≤ d.n), Bool.and_false, Bool.false_and]
            · repeat (first | refine wl_p rfl rfl rfl ?_ | refine wl_skip rfl rfl rfl ?_)
              refine wl_nil (wk_seq ?_)
              refine wc_retV (res1 rfl rfl) ⟨g7, [], hg07, hs.drop, rfl, ?_⟩
              simp only [showsF, if_neg k1, if_neg e2, if_pos e3, show plainF d true false 0 = false from c4, Bool.false_and]
          · have e3 : ¬ d.kind = 3 := by simpa using c3
            repeat (refine wc_seq ?_)
            refine wc_region ?_
            repeat (refine wl_p rfl rfl rfl ?_)
            refine wl_nil (wk_seq ?_)
            refine wc_cond rfl (fun c4 => ?_) (fun c4 => ?_)
            · have e4 : d.kind = 4 := by simpa using c4
              repeat (refine wc_seq ?_)
              refine wc_region ?_
              refine wl_ldGN hs ((hdb.mono hg26).at') rfl rfl rfl rfl rfl rfl ?_
              refine wl_call (L := []) rfl rfl rfl hs (plain_spec g6 _ _ d true false 1 hd6) ?_
              rintro u g7 L' w hg7 hs ⟨rfl, rfl⟩
              have hg27 := Ghost.tr hg26 hg7
              have hg07 := Ghost.tr hg06 hg7
              have bad : (!plainF d true false 1 || decide (d.n < 0) || decide (d.n ≥ pairs.length) || (metF ls (withinF ls nodes on)).getD (pairs.getD d.n.toNat (0, 0)).2 false) = true → showsF ls all pairs (k + 1) d nodes on deep = false := fun h => by
                simp only [showsF, if_neg k1, if_neg e2, if_neg e3, if_pos e4, if_pos h]
              repeat (refine wl_p rfl rfl rfl ?_)
              refine wl_case 75 rfl (fun c6 => ?_) (fun c6 => ?_)
              · repeat (first | refine wl_p rfl rfl rfl ?_ | refine wl_skip rfl rfl rfl ?_)
                refine wl_nil (wk_seq ?_)
                refine wc_condT rfl rfl ?_
                repeat (refine wc_seq ?_)
                refine wc_region ?_
                repeat (refine wl_p rfl rfl rfl ?_)
                refine wl_nil (wk_seq ?_)
                refine wc_retV (res1 rfl rfl) ⟨g7, [], hg07, hs.drop, rfl, ?_⟩
                rw [bad (by rw [show (!plainF d true false 1) = true from c6]; rfl)]
              · repeat (first | refine wl_p rfl rfl rfl ?_ | refine wl_skip rfl rfl rfl ?_)
                refine wl_ldG hs (hdb.mono hg27 1 _ rfl) rfl rfl rfl rfl rfl ?_
                repeat (first | refine wl_p rfl rfl rfl ?_ | refine wl_skip rfl rfl rfl ?_)
                refine wl_case 80 rfl (fun c7 => ?_) (fun c7 => ?_)
                · repeat (first | refine wl_p rfl rfl rfl ?_ | refine wl_skip rfl rfl rfl ?_)
                  refine wl_nil (wk_seq ?_)
                  refine wc_condT rfl rfl ?_
                  repeat (refine wc_seq ?_)
                  refine wc_region ?_
                  repeat (refine wl_p rfl rfl rfl ?_)
                  refine wl_nil (wk_seq ?_)
                  refine wc_retV (res1 rfl rfl) ⟨g7, [], hg07, hs.drop, rfl, ?_⟩
                  rw [bad (by rw [show decide (d.n < 0) = true from c7]; simp)]
                · have c7' : ¬ d.n < 0 := of_decide_eq_false c7
                  repeat (first | refine wl_p rfl rfl rfl ?_ | refine wl_skip rfl rfl rfl ?_)
                  refine wl_ldG hs (hdb.mono hg27 1 _ rfl) rfl rfl rfl rfl rfl ?_
                  repeat (first | refine wl_p rfl rfl rfl ?_ | refine wl_skip rfl rfl rfl ?_)
                  refine wl_ldG hs (hvb.mono hg27 2 _ rfl) rfl rfl rfl rfl rfl ?_
                  repeat (first | refine wl_p rfl rfl rfl ?_ | refine wl_skip rfl rfl rfl ?_)
                  refine wl_case 89 rfl (fun c8 => ?_) (fun c8 => ?_)
                  · repeat (first | refine wl_p rfl rfl rfl ?_ | refine wl_skip rfl rfl rfl ?_)
                    refine wl_nil (wk_seq ?_)
                    refine wc_condT rfl rfl ?_
                    repeat (refine wc_seq ?_)
                    refine wc_region ?_
                    repeat (refine wl_p rfl rfl rfl ?_)
                    refine wl_nil (wk_seq ?_)
                    refine wc_retV (res1 rfl rfl) ⟨g7, [], hg07, hs.drop, rfl, ?_⟩
                    rw [bad (by rw [show decide (d.n ≥ pairs.length) = true from c8]; simp)]
                  · have c8' : ¬ d.n ≥ pairs.length := of_decide_eq_false c8
                    have hdn : d.n.toNat < pairs.length := by omega
                    have hp7 := hp.mono hg07
                    have hcp := RS.enc hp7 hdn
                    obtain ⟨lb, lo, hlb⟩ := RS.base hp7 hdn
                    have hs9 := hs
                    subst hlb
                    have hs := hs9
                    have hlt := (hw.pairs_ok _ (List.getElem_mem hdn)).2
                    have hpg : pairs.getD d.n.toNat (0, 0) = pairs[d.n.toNat] := by simp [hdn]
                    repeat (first | refine wl_p rfl rfl rfl ?_ | refine wl_skip rfl rfl rfl ?_)
                    refine wl_ldG hs (hvb.mono hg27 2 _ rfl) rfl rfl rfl rfl rfl ?_
                    repeat (first | refine wl_p rfl rfl rfl ?_ | refine wl_skip rfl rfl rfl ?_)
                    refine wl_ldG hs (hdb.mono hg27 1 _ rfl) rfl rfl rfl rfl rfl ?_
                    refine wl_ix rfl rfl rfl rfl rfl (by omega) (⟨lb, lo, rfl⟩) rfl rfl ?_
                    refine wl_ixA rfl rfl rfl rfl rfl (by decide) rfl rfl ?_
                    refine wl_ldG hs (hcp 1 _ rfl) rfl rfl rfl rfl rfl ?_
                    refine wl_ixAJ _ rfl rfl rfl rfl rfl (hlt) rfl rfl rfl ?_
                    have hcm := hcell _ hlt
                    refine wl_ldG hs (hg7.cell hcm) rfl rfl rfl rfl rfl ?_
                    repeat (first | refine wl_p rfl rfl rfl ?_ | refine wl_skip rfl rfl rfl ?_)
                    refine wl_nil (wk_seq ?_)
                    refine wc_cond rfl (fun c9 => ?_) (fun c9 => ?_)
                    · repeat (refine wc_seq ?_)
                      refine wc_region ?_
                      repeat (refine wl_p rfl rfl rfl ?_)
                      refine wl_nil (wk_seq ?_)
                      refine wc_retV (res1 rfl rfl) ⟨g7, [], hg07, hs.drop, rfl, ?_⟩
                      rw [bad (by rw [hpg, c9]; simp)]
                    · refine wc_skip (wk_seq ?_)
                      repeat (refine wc_seq ?_)
                      refine wc_draw 14 [] pp_mix (by kernel_rfl) rfl hs ?_
                      repeat (first | refine sg_p rfl rfl ?_ | refine sg_skip rfl rfl ?_)
                      refine sg_ldG (hvb.mono hg27 0 _ rfl) rfl rfl rfl rfl ?_
                      repeat (first | refine sg_p rfl rfl ?_ | refine sg_skip rfl rfl ?_)
                      refine sg_ldO 0 rfl rfl rfl rfl rfl rfl ?_
                      repeat (first | refine sg_p rfl rfl ?_ | refine sg_skip rfl rfl ?_)
                      refine sg_ldG (hvb.mono hg27 2 _ rfl) rfl rfl rfl rfl ?_
                      repeat (first | refine sg_p rfl rfl ?_ | refine sg_skip rfl rfl ?_)
                      refine sg_ldG (hdb.mono hg27 1 _ rfl) rfl rfl rfl rfl ?_
                      refine sg_ix rfl rfl rfl rfl rfl (by omega) (⟨lb, lo, rfl⟩) rfl ?_
                      refine sg_ixA rfl rfl rfl rfl rfl (by decide) rfl ?_
                      refine sg_ldG (hcp 0 _ rfl) rfl rfl rfl rfl ?_
                      refine sg_call (post := fun g' L' r => L' = [] ∧ RS kBool g' r (withoutF ls on pairs[d.n.toNat].1)) [] [] rfl rfl rfl (fun g' hg' => without_spec g' _ _ n pairs[d.n.toNat].1 ls on (hG.mono (Ghost.tr hg07 hg')) hv (h3.mono (Ghost.tr hg07 hg')) hlen) ?_
                      repeat (first | refine sg_p rfl rfl ?_ | refine sg_skip rfl rfl ?_)
                      refine sg_end ?_
                      intro g8 w hg8
                      rintro vw _ ⟨g9, hg9, rfl, hrw⟩ hs
                      have hg78 := hg8
                      have hg08 := Ghost.tr hg07 hg8
                      have hg28 := Ghost.tr hg27 hg8
                      obtain ⟨aw, cw, rfl⟩ := hrw.form
                      replace hs := (show St g8 w ((pb, cellsO [.slice a1 nodes.length c1, .slice a2 (inF n nodes).length _, .slice a3 on.length _] 65) :: F) from hs)
                      refine wl_st hs 0 rfl rfl rfl rfl rfl rfl rfl rfl ?_; clear hs; intro w hs
                      refine wl_nil (wk_seq ?_)
                      replace hs := (show St g8 w ((pb, cellsO [.slice a1 nodes.length c1, .slice a2 (inF n nodes).length _, .slice aw (withoutF ls on pairs[d.n.toNat].1).length cw] 65) :: F) from hs)
                      obtain ⟨g10, hg10, hs, hpb⟩ := freezeB hs
                      have hg010 := Ghost.tr hg08 hg10
                      have hg210 := Ghost.tr hg28 hg10
                      have hl0 : 0 < d.l.length := by
                        have h9 : plainF d true false 1 = true := by simpa using c6
                        unfold plainF at h9
                        simp at h9
                        omega
                      have r30 := r3.mono hg010
                      obtain ⟨dc, hdc, hdl⟩ := r30.get hl0
                      obtain ⟨dlb, dlo, hdb2⟩ := r30.base hl0
                      repeat (refine wc_seq ?_)
                      refine wc_draw 10 [] pp_mix (by kernel_rfl) rfl hs ?_
                      refine sg_ldGN ((hvb.mono hg210).at') rfl rfl rfl rfl rfl ?_
                      repeat (first | refine sg_p rfl rfl ?_ | refine sg_skip rfl rfl ?_)
                      refine sg_ldG (hdb.mono hg210 4 _ rfl) rfl rfl rfl rfl ?_
                      refine sg_ix rfl rfl rfl rfl rfl (by omega) ⟨dlb, dlo, hdb2⟩ rfl ?_
                      refine sg_ldGN (cs := dc) (fun j v hv => by rw [eaddr_spot, addr_add]; exact hdl j v hv) rfl rfl rfl (by exact (DropRn.len hdc)) rfl ?_
                      refine sg_ldGN (hpb.at') rfl rfl rfl rfl rfl ?_
                      repeat (first | refine sg_p rfl rfl ?_ | refine sg_skip rfl rfl ?_)
                      refine sg_arK ((deep + 1 : Nat) : Int) rfl rfl rfl (by omega) rfl ?_
                      refine sg_callK (v := .bool (showsF ls all pairs k d.l[0] nodes (withoutF ls on pairs[d.n.toNat].1) (deep + 1))) (post := Det (.bool (showsF ls all pairs k d.l[0] nodes (withoutF ls on pairs[d.n.toNat].1) (deep + 1)))) [] [] rfl rfl rfl (fun g' hg' => ih g' _ _ _ _ _ _ dc d.l[0] nodes (withoutF ls on pairs[d.n.toNat].1) (deep + 1) (hG.mono (Ghost.tr hg010 hg')) (ha.mono (Ghost.tr hg010 hg')) (hp.mono (Ghost.tr hg010 hg')) (hdc.mono hg') (hk4 0 hl0) (h1.mono (Ghost.tr hg010 hg')) (h2.mono (Ghost.tr hg010 hg')) (hrw.mono (Ghost.tr hg9 (Ghost.tr hg10 hg'))) (by simp [withoutF]) hnl hn (by omega)) (fun _ _ _ h => h) ?_
                      repeat (first | refine sg_p rfl rfl ?_ | refine sg_skip rfl rfl ?_)
                      refine sg_end ?_
                      intro g11 w hg11
                      intro hs
                      refine wl_nil (wk_seq ?_)
                      refine wc_retV (res1 rfl rfl) ⟨g11, [], Ghost.tr hg010 hg11, hs, rfl, ?_⟩
                      have hgood : (!plainF d true false 1 || decide (d.n < 0) || decide (d.n ≥ pairs.length) || (metF ls (withinF ls nodes on)).getD (pairs.getD d.n.toNat (0, 0)).2 false) = false := by
                        rw [hpg, c9, show (!plainF d true false 1) = false from c6, decide_eq_false c7', decide_eq_false c8']; rfl
                      have hsh : showsF ls all pairs (k + 1) d nodes on deep = showsF ls all pairs k d.l[0] nodes (withoutF ls on pairs[d.n.toNat].1) (deep + 1) := by
                        rw [hpg] at hgood
                        simp only [showsF, if_neg k1, if_neg e2, if_neg e3, if_pos e4, hpg, hgood, Bool.false_eq_true, if_false]
                        obtain ⟨kd, dn, dno, drk, dl⟩ := d
                        cases dl with
                        | nil => exact absurd hl0 (Nat.lt_irrefl 0)
                        | cons a b => rfl
                      rw [hsh]
            · have e4 : ¬ d.kind = 4 := by simpa using c4
              repeat (refine wc_seq ?_)
              refine wc_region ?_
              repeat (refine wl_p rfl rfl rfl ?_)
              refine wl_nil (wk_seq ?_)
              refine wc_cond rfl (fun c5 => ?_) (fun c5 => ?_)
              · have e5 : d.kind = 1 := by simpa using c5
                repeat (refine wc_seq ?_)
                refine wc_region ?_
                refine wl_ldGN hs ((hdb.mono hg26).at') rfl rfl rfl rfl rfl rfl ?_
                refine wl_call (L := []) rfl rfl rfl hs (plain_spec g6 _ _ d false true (-1) hd6) ?_
                rintro u g7 L' w hg7 hs ⟨rfl, rfl⟩
                have hg27 := Ghost.tr hg26 hg7
                have hg07 := Ghost.tr hg06 hg7
                repeat (refine wl_p rfl rfl rfl ?_)
                refine wl_case 128 rfl (fun c6 => ?_) (fun c6 => ?_)
                · repeat (first | refine wl_p rfl rfl rfl ?_ | refine wl_skip rfl rfl rfl ?_)
                  refine wl_ldGN hs ((hvb.mono hg27).at') rfl rfl rfl rfl rfl rfl ?_
                  repeat (first | refine wl_p rfl rfl rfl ?_ | refine wl_skip rfl rfl rfl ?_)
                  refine wl_ldGN hs ((hdb.mono hg27).at') rfl rfl rfl rfl rfl rfl ?_
                  repeat (first | refine wl_p rfl rfl rfl ?_ | refine wl_skip rfl rfl rfl ?_)
                  refine wl_ldW hs 0 rfl rfl rfl rfl rfl rfl rfl ?_
                  repeat (first | refine wl_p rfl rfl rfl ?_ | refine wl_skip rfl rfl rfl ?_)
                  refine wl_call (L := []) rfl rfl rfl hs (ranks_spec n ls all pairs k ih g7 _ _ _ _ _ _ _ _ d nodes on (withinF ls nodes on) deep (hG.mono hg07) hv (ha.mono hg07) (hp.mono hg07) (hd0.mono hg07) hok0 (h1.mono hg07) (h2.mono hg07) (h3.mono hg07) (hrl.mono (Ghost.tr hg5 (Ghost.tr hg6 hg7))) (withinF_len hv.len hnl) (fun i hi => withinF_lt hi) hlen hnl hn hdp hnodes) ?_
                  rintro u g8 L' w hg8 hs ⟨rfl, rfl⟩
                  repeat (first | refine wl_p rfl rfl rfl ?_ | refine wl_skip rfl rfl rfl ?_)
                  refine wl_nil (wk_seq ?_)
                  refine wc_retV (res1 rfl rfl) ⟨g8, [], Ghost.tr hg07 hg8, hs.drop, rfl, ?_⟩
                  simp only [showsF, if_neg k1, if_neg e2, if_neg e3, if_neg e4, if_pos e5, show plainF d false true (-1) = true from c6, Bool.true_and]
                · repeat (first | refine wl_p rfl rfl rfl ?_ | refine wl_skip rfl rfl rfl ?_)
                  refine wl_nil (wk_seq ?_)
                  refine wc_retV (res1 rfl rfl) ⟨g7, [], hg07, hs.drop, rfl, ?_⟩
                  simp only [showsF, if_neg k1, if_neg e2, if_neg e3, if_neg e4, if_pos e5, show plainF d false true (-1) = false from c6, Bool.false_and]
              · have e5 : ¬ d.kind = 1 := by simpa using c5
                refine wc_skip (wk_blk (wk_seq ?_))
                repeat (refine wc_seq ?_)
                refine wc_region ?_
                repeat (refine wl_p rfl rfl rfl ?_)
                refine wl_nil (wk_seq ?_)
                refine wc_retV (res1 rfl rfl) ⟨g6, [], hg06, hs.drop, rfl, ?_⟩
                simp only [showsF, if_neg k1, if_neg e2, if_neg e3, if_neg e4, if_neg e5]
end Go.Proofs.YtnanffbjmfgafaaGreat.S
namespace Go.Proofs.YtnanffbjmfgafaaGreat.S
open Go.RowKit
def reachR (n : Nat) (ls : List Arrow) (init : List Nat) : Option (List Nat) := match closureR (nxF ls) init with
  | some reached => if (reached.all (fun x => decide (x < n)) && decide (reached.length ≤ 20000)) = true then some reached else none
  | none => none
theorem reachR_some {n : Nat} {ls : List Arrow} {init reached : List Nat} (h : reachR n ls init = some reached) : closureR (nxF ls) init = some reached ∧ reached.length ≤ 20000 ∧ ∀ x ∈ reached, x < n := by
  unfold reachR at h
  split at h
  · rename_i r q
    split at h
    · rename_i hok
      cases h
      simp only [Bool.and_eq_true] at hok
      exact ⟨q, of_decide_eq_true hok.2, fun x hx => of_decide_eq_true (List.all_eq_true.1 hok.1 x hx)⟩
    · cases h
  · cases h
def verifyI (k : Nat) (n : Int) (init : List Int) (ls : List ArrowI) (all : List Int) (pairs : List (Int × Int)) (d : Drop) : Option Int :=
  if checkI n init ls all pairs = 0 then (reachR n.toNat (ls.map toA) (init.map Int.toNat)).map fun r => if showsF (ls.map toA) (all.map Int.toNat) (pairs.map toP) k d r (List.replicate (ls.map toA).length true) 1 = true then 0 else 312
  else some (checkI n init ls all pairs)
theorem Verify_spec (k : Nat) (g : Ghost) (n : Int) (vi vl va vp : Value) (cs : List Value) (init : List Int) (ls : List ArrowI) (all : List Int) (pairs : List (Int × Int)) (d : Drop) (hi : RS kInt g vi init) (hl : RS kArrI g vl ls) (ha : RS kInt g va all) (hp : RS kPairI g vp pairs) (hd : DropRn k g cs d) (hok : DropOk k d)
    (hi0 : init.length ≤ 4611686018427387904) (hl0 : ls.length ≤ 4611686018427387904) (ha0 : all.length ≤ 4611686018427387904) (hp0 : pairs.length ≤ 4611686018427387904) (o : Int) (ho : verifyI k n init ls all pairs d = some o) :
    Cl PP 7 [.int .i64 n, vi, vl, .agg #[va, vp], .agg cs.toArray] g [] (Det (.int .i64 o)) := by
  obtain ⟨a1, c1, rfl⟩ := hi.form
  obtain ⟨a2, c2, rfl⟩ := hl.form
  have hlen5 := hd.len
  refine cl_intro Tryz.func7 rfl rfl Tryz.ntmps7 rfl ?_
  intro w F hs
  repeat (refine wc_seq ?_)
  refine wc_region ?_
  refine wl_box hs rfl rfl rfl rfl ?_; clear hs; intro wx w hs
  refine wl_box hs rfl rfl rfl rfl ?_; clear hs; intro dx w hs
  repeat (refine wl_p rfl rfl rfl ?_)
  refine wl_nil (wk_seq ?_)
  obtain ⟨g1, hg1, hs, hdx⟩ := freezeB hs
  obtain ⟨g2, hg2, hs, hwx⟩ := freezeB hs
  replace hdx := hdx.mono hg2
  have hg02 := Ghost.tr hg1 hg2
  replace hs := (show St g2 w F from hs)
  clear hg1 hg2
  repeat (refine wc_seq ?_)
  refine wc_region ?_
  repeat (refine wl_p rfl rfl rfl ?_)
  refine wl_ldGN hs (hwx.at') rfl rfl rfl rfl rfl rfl ?_
  refine wl_call (L := []) rfl rfl rfl hs (check_spec g2 n _ _ va vp init ls all pairs (hi.mono hg02) (hl.mono hg02) (ha.mono hg02) (hp.mono hg02) hi0 hl0 ha0 hp0) ?_
  rintro u g4 L' w hg4 hs ⟨rfl, rfl⟩
  have hg04 := Ghost.tr hg02 hg4
  repeat (refine wl_p rfl rfl rfl ?_)
  refine wl_nil (wk_seq ?_)
  repeat (refine wc_seq ?_)
  refine wc_region ?_
  repeat (refine wl_p rfl rfl rfl ?_)
  refine wl_nil (wk_seq ?_)
  refine wc_cond rfl (fun h1 => ?_) (fun h1 => ?_)
  · have h9 : ¬ checkI n init ls all pairs = 0 := by simpa using h1
    unfold verifyI at ho
    rw [if_neg h9] at ho
    cases ho
    repeat (refine wc_seq ?_)
    refine wc_region ?_
    repeat (refine wl_p rfl rfl rfl ?_)
    refine wl_nil (wk_seq ?_)
    exact wc_retV (res1 rfl rfl) ⟨g4, [], hg04, hs, rfl, rfl⟩
  · have hc : checkI n init ls all pairs = 0 := by simpa using h1
    have hC := checked hc
    have hnn : n = (n.toNat : Int) := (Int.toNat_of_nonneg hC.n0).symm
    unfold verifyI at ho
    rw [if_pos hc] at ho
    obtain ⟨reached, hres, hoc⟩ := Option.map_eq_some_iff.1 ho
    obtain ⟨hreach, hrl, hrn⟩ := reachR_some hres
    have hV := hC.validG
    have hW := hC.validW
    have hA := hC.rsA hl
    have hP := hC.rsP hp
    have hI := hC.init.rs hi
    have hAl := hC.all.rs ha
    have hin : ∀ x ∈ (init.map Int.toNat), x < n.toNat := fun x hx => by
      obtain ⟨y, hy, rfl⟩ := List.mem_map.1 hx
      have := hC.init.low y hy
      omega
    have hilen : (init.map Int.toNat).length = init.length := by simp
    have hilen2 : (init.map Int.toNat).length ≤ 20000 := by have := hC.init.len hC.n0; have := hC.n1; omega
    refine wc_skip (wk_seq ?_)
    repeat (refine wc_seq ?_)
    refine wc_region ?_
    repeat (refine wl_p rfl rfl rfl ?_)
    refine wl_call (vs := [.int .i64 (n.toNat : Int), .slice a2 ls.length c2]) (L := []) (by rw [← hnn]; rfl) rfl rfl hs (newGraph_spec g4 n.toNat _ (ls.map toA) (hA.mono hg04) hV.size hV.len (fun a ha => (hV.ok a ha).1)) ?_
    rintro gv g6 L' w hg6 hs ⟨rfl, hG⟩
    obtain ⟨gb, hgv⟩ : ∃ gb, gv = .pointer (some ⟨gb, 0, none⟩) := by obtain ⟨gb, _, _, _, _, rfl, _⟩ := hG; exact ⟨gb, rfl⟩
    subst hgv
    repeat (refine wl_p rfl rfl rfl ?_)
    refine wl_nil (wk_seq ?_)
    have hg06 := Ghost.tr hg04 hg6
    have hg26 := Ghost.tr hg4 hg6
    have hs0 : St g6 w ([] ++ F) := hs
    repeat (refine wc_seq ?_)
    refine wc_draw 13 [] pp_mix (by kernel_rfl) rfl hs ?_
    repeat (first | refine sg_p rfl rfl ?_ | refine sg_skip rfl rfl ?_)
    refine sg_ldGN ((hwx.mono hg26).at') rfl rfl rfl rfl rfl ?_
    refine sg_build (ps := [(0, .tmp 24), (1, .tmp 25)]) rfl rfl rfl rfl rfl rfl ?_
    refine sg_ldGN (cs := cs) ((hdx.mono hg26).at') rfl rfl rfl hlen5 rfl ?_
    repeat (first | refine sg_p rfl rfl ?_ | refine sg_skip rfl rfl ?_)
    refine sg_call (post := fun g' L' r => L' = [] ∧ RS kNat g' r reached) (vs := [.int .i64 (n.toNat : Int), .slice a1 init.length c1, .func (.func 24) #[.pointer (some ⟨gb, 0, none⟩)] #[]]) [] [] rfl (by rw [← hnn]; rfl) rfl (fun g' hg' => closure_spec g' n.toNat _ (init.map Int.toNat) 24 #[.pointer (some ⟨gb, 0, none⟩)] #[] (nxF (ls.map toA)) reached hV.size (hI.mono (Ghost.tr hg06 hg')) hin (by omega)
      (fun g2 x hg2 hx => next_spec g2 _ n.toNat x (ls.map toA) (hG.mono (Ghost.tr hg' hg2)) hV hx) (fun x hx => ⟨fun y hy => nxF_lt hV hy, by have h1 := nxF_len (ls.map toA) x; have h2 := hV.len; omega⟩) hreach) ?_
    refine sg_callW (post := fun g' L' r => L' = [] ∧ PieceR g' r n.toNat reached (List.replicate (ls.map toA).length true)) 33 [] [] rfl rfl rfl (fun _ => rfl) (fun _ => rfl) (fun g' g1 v L' hg1 ⟨g2, hg2, hL, hr⟩ hg' =>
      whole_spec g' _ v n.toNat (ls.map toA) reached (hG.mono (Ghost.tr hg1 hg')) hV (hr.mono (Ghost.tr hg2 hg')) (by omega) hrn) ?_
    refine sg_callWK (post := Det (.bool (showsF (ls.map toA) (all.map Int.toNat) (pairs.map toP) k d reached (List.replicate (ls.map toA).length true) 1))) 34 [] [] rfl rfl rfl (fun _ => rfl) (fun _ => rfl) (fun g' g1 v L' hg1 ⟨g2, hg2, hL, hr⟩ hg' => by
      obtain ⟨v1, v2, v3, rfl, q1, q2, q3⟩ := hr
      have hgg := Ghost.tr hg06 (Ghost.tr hg1 hg')
      exact shows_all n.toNat (ls.map toA) (all.map Int.toNat) (pairs.map toP) hV hW k g' _ va vp v1 v2 v3 cs d reached _ 1 (hG.mono (Ghost.tr hg1 hg')) (hAl.mono hgg) (hP.mono hgg) (hd.mono hgg) hok (q1.mono (Ghost.tr hg2 hg')) (q2.mono (Ghost.tr hg2 hg')) (q3.mono (Ghost.tr hg2 hg')) (by simp) hrl hrn (by omega)) (fun g' L' v' h => h) ?_
    repeat (first | refine sg_p rfl rfl ?_ | refine sg_skip rfl rfl ?_)
    refine sg_end ?_
    intro g8 w hg8
    have hg08 := Ghost.tr hg06 hg8
    rintro _ _ ⟨_, _, rfl, _⟩ _ _ ⟨_, _, rfl, _⟩ hs
    replace hs := (show St g8 w F from hs)
    refine wl_nil (wk_seq ?_)
    subst hoc
    refine wc_cond rfl (fun q => ?_) (fun q => ?_)
    · have q' : showsF (ls.map toA) (all.map Int.toNat) (pairs.map toP) k d reached (List.replicate (ls.map toA).length true) 1 = false := by simpa using q
      repeat (refine wc_seq ?_)
      refine wc_region ?_
      repeat (refine wl_p rfl rfl rfl ?_)
      refine wl_nil (wk_seq ?_)
      refine wc_retV (res1 rfl rfl) ⟨g8, [], hg08, hs, rfl, by rw [q', if_neg (by simp)]⟩
    · have q' : showsF (ls.map toA) (all.map Int.toNat) (pairs.map toP) k d reached (List.replicate (ls.map toA).length true) 1 = true := by simpa using q
      refine wc_skip (wk_seq ?_)
      repeat (refine wc_seq ?_)
      refine wc_region ?_
      repeat (refine wl_p rfl rfl rfl ?_)
      refine wl_nil (wk_seq ?_)
      refine wc_retV (res1 rfl rfl) ⟨g8, [], hg08, hs, rfl, by rw [q', if_pos rfl]⟩
end Go.Proofs.YtnanffbjmfgafaaGreat.S
namespace Go.Proofs.YtnanffbjmfgafaaGreat.S
open Go.RowKit
theorem contains_nat (c : List Nat) (y : Nat) : ((c.map Int.ofNat).any fun z => ((y : Nat) : Int) == z) = c.contains y := by
  induction c with
  | nil => rfl
  | cons x c ih =>
    rw [List.map_cons, List.any_cons, ih, List.contains_cons]
    congr 1
    rw [Bool.eq_iff_iff]
    simp [Int.ofNat_inj]
section
variable (ls : List Arrow) (nodes : List Nat) (on : List Bool)
def lvStep (lv : List (Nat × Nat)) (c : List Nat) (m k : Nat) : Nat := if (arrIn ls nodes on k && !c.contains (toOf ls k)) = true then max m (lowOf lv (toOf ls k) + 1) else m
def lvN (lv : List (Nat × Nat)) (c : List Nat) : Nat := (c.flatMap fun x => outAt ls ls.length x).foldl (lvStep ls nodes on lv c) 0
structure RkS where
  lv : List (Nat × Nat)
  al : List (Nat × List Nat)
  ot : List (List Nat)
  gr : Nat
def setAll (m : List (Nat × Nat)) (c : List Nat) (v : Nat) : List (Nat × Nat) := c.foldl (fun m x => sk m x v) m
def alAt (al : List (Nat × List Nat)) (n : Nat) : List Nat := (lk al n).getD []
def rkStep (s : RkS) (c : List Nat) : RkS :=
  { lv := setAll s.lv c (lvN ls nodes on s.lv c), gr := max s.gr (lvN ls nodes on s.lv c + 1),
    al := if (withinF ls c on).length = 0 then sk s.al (lvN ls nodes on s.lv c) (alAt s.al (lvN ls nodes on s.lv c) ++ c) else s.al,
    ot := if (withinF ls c on).length = 0 then s.ot else s.ot ++ [c] }
def rkAll (parts : List (List Nat)) : RkS := parts.foldl (rkStep ls nodes on) ⟨[], [], [], 0⟩
def rkOutAt (s : RkS) (n : Nat) : List (List Nat) := (if (alAt s.al n).length = 0 then [] else [sortN (alAt s.al n)]) ++ s.ot.filter fun c => decide (lowOf s.lv (c.getD 0 0) = n)
def rankedF (parts : List (List Nat)) : List (List Nat) := (List.range (rkAll ls nodes on parts).gr).flatMap (rkOutAt (rkAll ls nodes on parts))
end
theorem rkAll_snoc (ls : List Arrow) (nodes : List Nat) (on : List Bool) (parts : List (List Nat)) (c : List Nat) : rkAll ls nodes on (parts ++ [c]) = rkStep ls nodes on (rkAll ls nodes on parts) c := by
  unfold rkAll
  rw [List.foldl_append]
  rfl
theorem lvFold_le {ls : List Arrow} {nodes : List Nat} {on : List Bool} {lv : List (Nat × Nat)} {c : List Nat} {B : Nat} (h : ∀ x, lowOf lv x ≤ B) : ∀ (l : List Nat) (m : Nat), m ≤ B + 1 → l.foldl (lvStep ls nodes on lv c) m ≤ B + 1
  | [], m, hm => hm
  | k :: l, m, hm => by
    rw [List.foldl_cons]
    refine lvFold_le h l _ ?_
    unfold lvStep
    split
    · have := h (toOf ls k); omega
    · exact hm
theorem lowOf_setAll : ∀ (c : List Nat) (m : List (Nat × Nat)) (v x : Nat), lowOf (setAll m c v) x = if x ∈ c then v else lowOf m x
  | [], m, v, x => by simp [setAll]
  | y :: c, m, v, x => by
    show lowOf (setAll (sk m y v) c v) x = _
    rw [lowOf_setAll c]
    unfold lowOf
    rw [lk_sk]
    by_cases h1 : x ∈ c
    · rw [if_pos h1, if_pos (List.mem_cons_of_mem _ h1)]
    · rw [if_neg h1]
      by_cases h2 : x = y
      · rw [if_pos h2, if_pos (h2 ▸ List.mem_cons_self)]; rfl
      · rw [if_neg h2, if_neg (by simp [h1, h2])]
structure RkOk (s : RkS) (i m : Nat) : Prop where
  lv : ∀ x, lowOf s.lv x ≤ i
  al : ∀ n, (alAt s.al n).length ≤ m
  ot : s.ot.length ≤ i
  gr : s.gr ≤ i + 1
theorem alAt_sk (al : List (Nat × List Nat)) (k n : Nat) (v : List Nat) : alAt (sk al k v) n = if n = k then v else alAt al n := by
  unfold alAt
  rw [lk_sk]
  split <;> rfl
theorem rkOk_all (ls : List Arrow) (nodes : List Nat) (on : List Bool) (parts : List (List Nat)) : ∀ i, i ≤ parts.length → RkOk (rkAll ls nodes on (parts.take i)) i (parts.take i).flatten.length := by
  intro i
  induction i with
  | zero =>
    intro _
    exact ⟨fun x => by simp [rkAll, lowOf, lk], fun n => by simp [rkAll, alAt, lk], by simp [rkAll], by simp [rkAll]⟩
  | succ i ih =>
    intro hi
    obtain ⟨h1, h2, h3, h4⟩ := ih (by omega)
    rw [take_snoc (by omega : i < parts.length), rkAll_snoc]
    generalize parts[i] = c
    generalize hs : rkAll ls nodes on (parts.take i) = s at *
    have hn : lvN ls nodes on s.lv c ≤ i + 1 := lvFold_le h1 _ _ (by omega)
    have e : (parts.take i ++ [c]).flatten.length = (parts.take i).flatten.length + c.length := by simp
    refine ⟨fun x => ?_, fun n => ?_, ?_, ?_⟩
    · simp only [rkStep]
      rw [lowOf_setAll]
      split
      · exact hn
      · have := h1 x; omega
    · simp only [rkStep]
      rw [e]
      split
      · rw [alAt_sk]
        split
        · rename_i q; subst q; rw [List.length_append]; have := h2 (lvN ls nodes on s.lv c); omega
        · have := h2 n; omega
      · have := h2 n; omega
    · simp only [rkStep]
      split
      · omega
      · rw [List.length_append]; simp; omega
    · simp only [rkStep]
      omega
def zipV (al : List (Nat × List Nat)) (vs : List Value) : AMap := List.zipWith (fun p v => ((p.1 : Int), v)) al vs
theorem zipV_at (k : Nat) : ∀ (al : List (Nat × List Nat)) (vs : List Value), vs.length = al.length →
    (∃ j xs v, al[j]? = some (k, xs) ∧ vs[j]? = some v ∧ lk al k = some xs ∧ alook (zipV al vs) (k : Int) = some v ∧ (∀ ys, sk al k ys = al.set j (k, ys)) ∧ ∀ u ys, aset (zipV al vs) (k : Int) u = zipV (al.set j (k, ys)) (vs.set j u)) ∨
    (lk al k = none ∧ alook (zipV al vs) (k : Int) = none ∧ (∀ ys, sk al k ys = al ++ [(k, ys)]) ∧ ∀ u ys, aset (zipV al vs) (k : Int) u = zipV (al ++ [(k, ys)]) (vs ++ [u]))
  | [], [], _ => .inr ⟨rfl, rfl, fun _ => rfl, fun _ _ => rfl⟩
  | (k0, xs) :: al, [], h => by simp at h
  | [], v :: vs, h => by simp at h
  | (k0, xs) :: al, v :: vs, h => by
    by_cases e : k = k0
    · subst e
      exact .inl ⟨0, xs, v, rfl, rfl, by simp [lk], by simp [zipV, alook], fun ys => by simp [sk], fun u ys => by simp [zipV, aset]⟩
    · have e2 : ¬ (k : Int) = (k0 : Int) := by omega
      rcases zipV_at k al vs (by simpa using h) with ⟨j, xs', v', h1, h2, h3, h4, h5, h6⟩ | ⟨h1, h2, h3, h4⟩
      · refine .inl ⟨j + 1, xs', v', by simpa using h1, by simpa using h2, by simp [lk, e, h3], ?_, fun ys => by simp [sk, e, h5], fun u ys => ?_⟩
        · show alook (((k0 : Int), v) :: zipV al vs) (k : Int) = _
          simp only [alook, if_neg e2]; exact h4
        · show aset (((k0 : Int), v) :: zipV al vs) (k : Int) u = _
          simp only [aset, if_neg e2, h6 u ys]
          rfl
      · refine .inr ⟨by simp [lk, e, h1], ?_, fun ys => by simp [sk, e, h3], fun u ys => ?_⟩
        · show alook (((k0 : Int), v) :: zipV al vs) (k : Int) = _
          simp only [alook, if_neg e2]; exact h2
        · show aset (((k0 : Int), v) :: zipV al vs) (k : Int) u = _
          simp only [aset, if_neg e2, h4 u ys]
          rfl
def AloneR (n : Nat) (al : List (Nat × List Nat)) (vs : List Value) (Hs : List Own) : Prop :=
  vs.length = al.length ∧ Hs.length = al.length ∧ ∀ (j : Nat) (p : Nat × List Nat) (v : Value) (H : Own), al[j]? = some p → vs[j]? = some v → Hs[j]? = some H → n ≤ p.1 → OwnS 3 1 v p.2.length (p.2.flatMap eNat) H
theorem AloneR.set {n : Nat} {al : List (Nat × List Nat)} {vs : List Value} {Hs : List Own} (h : AloneR n al vs Hs) (j : Nat) {p : Nat × List Nat} {v : Value} {H : Own} (ho : OwnS 3 1 v p.2.length (p.2.flatMap eNat) H) : AloneR n (al.set j p) (vs.set j v) (Hs.set j H) := by
  obtain ⟨h1, h2, h3⟩ := h
  refine ⟨by simp [h1], by simp [h2], fun j' p' v' H' e1 e2 e3 hn => ?_⟩
  by_cases hj : j = j'
  · subst hj
    by_cases hlt : j < al.length
    · simp [hlt, h1, h2] at e1 e2 e3
      subst e1 e2 e3
      exact ho
    · simp [hlt] at e1
  · rw [List.getElem?_set_ne hj] at e1 e2 e3
    exact h3 j' p' v' H' e1 e2 e3 hn
theorem AloneR.snoc {n : Nat} {al : List (Nat × List Nat)} {vs : List Value} {Hs : List Own} (h : AloneR n al vs Hs) {p : Nat × List Nat} {v : Value} {H : Own} (ho : OwnS 3 1 v p.2.length (p.2.flatMap eNat) H) : AloneR n (al ++ [p]) (vs ++ [v]) (Hs ++ [H]) := by
  obtain ⟨h1, h2, h3⟩ := h
  refine ⟨by simp [h1], by simp [h2], fun j' p' v' H' e1 e2 e3 hn => ?_⟩
  by_cases hj : j' < al.length
  · rw [List.getElem?_append_left (by omega)] at e1 e2 e3
    exact h3 j' p' v' H' e1 e2 e3 hn
  · have : j' = al.length := by
      have := (List.getElem?_eq_some_iff.1 e1).1
      simp at this
      omega
    subst this
    rw [List.getElem?_append_right (by omega)] at e1 e2 e3
    simp [h1, h2] at e1 e2 e3
    subst e1 e2 e3
    exact ho
theorem AloneR.take {m : Nat} {al : List (Nat × List Nat)} {vs : List Value} {Hs : List Own} (h : AloneR m al vs Hs) :
    ∃ u Hx Hs', (alook (zipV al vs) (m : Int)).getD (.slice none 0 0) = u ∧ OwnS 3 1 u (alAt al m).length ((alAt al m).flatMap eNat) Hx ∧ AloneR (m + 1) al vs Hs' ∧ (Hx ++ Hs'.flatten).Perm Hs.flatten := by
  obtain ⟨h1, h2, h3⟩ := h
  rcases zipV_at m al vs h1 with ⟨j, xs, v, e1, e2, e3, e4, e5, e6⟩ | ⟨e1, e2, e3, e4⟩
  · have hjl : j < Hs.length := by have := (List.getElem?_eq_some_iff.1 e1).1; omega
    refine ⟨v, Hs[j], Hs.set j [], by rw [e4]; rfl, ?_, ⟨h1, by simp [h2], fun j' p' v' H' q1 q2 q3 hn => ?_⟩, ?_⟩
    · have := h3 j (m, xs) v Hs[j] e1 e2 (List.getElem?_eq_getElem hjl) (Nat.le_refl _)
      have e : alAt al m = xs := by unfold alAt; rw [e3]; rfl
      rw [e]
      exact this
    · by_cases hj : j = j'
      · subst hj
        rw [e1] at q1
        cases q1
        simp only at hn
        omega
      · rw [List.getElem?_set_ne hj] at q3
        exact h3 j' p' v' H' q1 q2 q3 (by omega)
    · refine List.Perm.trans (List.Perm.append_left _ (flat_set Hs j hjl [])) ?_
      rw [List.nil_append]
      exact (flat_front Hs j hjl).symm
  · have e : alAt al m = [] := by unfold alAt; rw [e1]; rfl
    refine ⟨.slice none 0 0, [], Hs, by rw [e2]; rfl, by rw [e]; exact OwnS.nil _ _, ⟨h1, h2, fun j' p' v' H' q1 q2 q3 hn => h3 j' p' v' H' q1 q2 q3 (by omega)⟩, List.Perm.refl _⟩
theorem rk_ot_mem (ls : List Arrow) (nodes : List Nat) (on : List Bool) (parts : List (List Nat)) : ∀ i, i ≤ parts.length → ∀ c ∈ (rkAll ls nodes on (parts.take i)).ot, c ∈ parts := by
  intro i
  induction i with
  | zero => intro _ c hc; simp [rkAll] at hc
  | succ i ih =>
    intro hi c hc
    rw [take_snoc (by omega : i < parts.length), rkAll_snoc] at hc
    simp only [rkStep] at hc
    split at hc
    · exact ih (by omega) c hc
    · rcases List.mem_append.1 hc with h | h
      · exact ih (by omega) c h
      · rw [List.mem_singleton.1 h]; exact List.getElem_mem _
theorem setAll_snoc (m : List (Nat × Nat)) (c : List Nat) (x v : Nat) : setAll m (c ++ [x]) v = sk (setAll m c v) x v := by
  unfold setAll
  rw [List.foldl_append]
  rfl
end Go.Proofs.YtnanffbjmfgafaaGreat.S
namespace Go.Proofs.YtnanffbjmfgafaaGreat.S
open Go.RowKit
section
variable {P : Program} {ro : Option Nat} {Qb : Exit → Act → World → Prop} {N : Nat} {ds : List Deferred} {ops : Array Oper} {rest : List Oper} {s : List Fr} {ρ : Env} {w : World}
variable {d : Nat} {ty : TypeId} {pos : String} {after : Array Edge} {guard : Option (Nat × Bool)}
theorem wl_maxK {x y : Operand} {a b : Int} {argTypes : Array TypeId} (c : Int) (hc : (if a < b then b else a) = c) (hx : ev ρ x = some (.int .i64 a)) (hy : ev ρ y = some (.int .i64 b)) (hn : Nat.blt d N = true) (hw : wantE ops ρ guard = some true)
    (h : WL P ro Qb N ds ops rest s ((d, .int .i64 c) :: ρ) w) :
    WL P ro Qb N ds ops (⟨some d, .call ⟨.builtin .max, #[x, y], argTypes⟩, ty, pos, after, guard⟩ :: rest) s ρ w := by
  subst hc; exact wl_max hx hy hn hw h
end
theorem ranked_spec (g : Ghost) (gp v1 v2 v3 vp : Value) (n : Nat) (ls : List Arrow) (nodes : List Nat) (on : List Bool) (parts : List (List Nat)) (hG : GraphR g gp n ls) (hv : ValidG n ls) (h1 : RS kNat g v1 nodes) (h2 : RS kBool g v2 (inF n nodes)) (h3 : RS kBool g v3 on) (hP : RS (kSl kNat) g vp parts)
    (hlen : on.length = ls.length) (hpn : ∀ c ∈ parts, c ≠ [] ∧ ∀ x ∈ c, x < n) (hpl : parts.length ≤ 20000) (hpf : parts.flatten.length ≤ 20000) :
    Cl PP 61 [gp, .agg #[v1, v2, v3], vp] g [] fun g' L' r => L' = [] ∧ RS (kSl kNat) g' r (rankedF ls nodes on parts) := by
  have hG0 := hG
  obtain ⟨gb, al, cl, ao, co, rfl, hG, hA, hO⟩ := hG
  obtain ⟨a1, c1, rfl⟩ := h1.form
  obtain ⟨a2, c2, rfl⟩ := h2.form
  obtain ⟨a3, c3, rfl⟩ := h3.form
  obtain ⟨ap, cp, rfl⟩ := hP.form
  have hl0 := hv.len
  have hpl2 : parts.length ≤ 4611686018427387904 := by omega
  refine cl_intro Tryz.func61 rfl rfl Tryz.ntmps61 rfl ?_
  intro w F hs
  repeat (refine wc_seq ?_)
  refine wc_region ?_
  refine wl_box hs rfl rfl rfl rfl ?_; clear hs; intro pb w hs
  repeat (refine wl_p rfl rfl rfl ?_)
  refine wl_nil (wk_seq ?_)
  obtain ⟨g1, hg1, hs, hpb⟩ := freezeB hs
  replace hs := (show St g1 w F from hs)
  replace hpb := (show Lies g1 pb 0 [.slice a1 nodes.length c1, .slice a2 (inF n nodes).length c2, .slice a3 on.length c3] from hpb)
  repeat (refine wc_seq ?_)
  refine wc_region ?_
  repeat (refine wl_p rfl rfl rfl ?_)
  refine wl_nil (wk_seq ?_)
  repeat (refine wc_seq ?_)
  refine wc_region ?_
  refine wl_makeMap hs rfl rfl ?_
  clear hs; intro lb lo w olo hs
  repeat (refine wl_p rfl rfl rfl ?_)
  refine wl_nil (wk_seq ?_)
  repeat (refine wc_seq ?_)
  refine wc_region ?_
  refine wl_makeMap hs rfl rfl ?_
  clear hs; intro ab ao2 w oao hs
  repeat (refine wl_p rfl rfl rfl ?_)
  refine wl_nil (wk_seq ?_)
  repeat (refine wc_seq ?_)
  refine wc_region ?_
  repeat (refine wl_p rfl rfl rfl ?_)
  refine wl_nil (wk_seq ?_)
  repeat (refine wc_seq ?_)
  refine wc_region ?_
  repeat (refine wl_p rfl rfl rfl ?_)
  refine wl_nil (wk_seq ?_)
  repeat (refine wc_seq ?_)
  refine wc_region ?_
  repeat (refine wl_p rfl rfl rfl ?_)
  refine wl_nil (wk_seq ?_)
  refine wc_for parts.length (fun i (v10 : Value) => [(29, .int .i64 parts.length), (28, (.slice ap parts.length cp)), (0, (.pointer (some ⟨gb, 0, none⟩))), (4, .pointer (some ⟨pb, 0, none⟩)), (7, .slice none 0 0), (8, .map (some lb)), (9, .map (some ab)), (10, v10), (11, .int .i64 (((rkAll ls nodes on (parts.take i)).gr : Int) - 1))])
    (fun i (v10 : Value) w => ∃ g' lo ao vs Hs cs10 H10, g1 ≤ g' ∧ OwnM (encM vNat (rkAll ls nodes on (parts.take i)).lv) lo ∧ AloneR 0 (rkAll ls nodes on (parts.take i)).al vs Hs ∧ OwnM (zipV (rkAll ls nodes on (parts.take i)).al vs) ao ∧ OwnS 22 1 v10 (rkAll ls nodes on (parts.take i)).ot.length cs10 H10 ∧
      (∀ (k : Nat) (v : Value) (c : List Nat), cs10[k]? = some v → (rkAll ls nodes on (parts.take i)).ot[k]? = some c → RS kNat g' v c) ∧ St g' w ((lb, lo) :: (ab, ao) :: (Hs.flatten ++ (H10 ++ F)))) (.slice none 0 0) hpl2
    (by repeat (first | exact trivial | refine ⟨rfl, ?_⟩)) ⟨g1, lo, ao2, [], [], [], [], Ghost.rfl', olo, ⟨rfl, rfl, fun j p v H h => by simp [rkAll] at h⟩, oao, OwnS.nil _ _, fun k v c h => by simp at h, hs.perm (by classical exact List.perm_iff_count.2 fun x => by simp only [List.append_eq, List.set_cons_succ, List.set_cons_zero, List.eraseIdx_cons_zero, List.eraseIdx_cons_succ, List.count_cons, List.count_append, List.cons_append, List.nil_append, List.append_nil, List.append_assoc] <;> ac_rfl)⟩ (fun _ _ => rfl) rfl rfl rfl ?_ ?_ (fun _ _ => rfl) rfl
  · rintro i v10 w hi ⟨g2, lo, ao2, vs, Hs, cs10, H10, hg2, olo, hal, oao, ho10, hr10, hs⟩
    obtain ⟨k1, k2, k3, k4⟩ := rkOk_all ls nodes on parts i (by omega)
    have hgr : rkAll ls nodes on (parts.take i) = rkAll ls nodes on (parts.take i) := rfl
    have hsucc : rkAll ls nodes on (parts.take (i + 1)) = rkStep ls nodes on (rkAll ls nodes on (parts.take i)) parts[i] := by rw [take_snoc hi, rkAll_snoc]
    have hlenm : (parts.take (i + 1)).flatten.length = (parts.take i).flatten.length + parts[i].length := by rw [take_snoc hi, List.flatten_append, List.length_append, List.flatten_cons, List.flatten_nil, List.append_nil]
    have hle2 : (parts.take (i + 1)).flatten.length ≤ 20000 := by
      have e : parts.flatten.length = (parts.take (i + 1)).flatten.length + (parts.drop (i + 1)).flatten.length := by
        rw [← List.length_append, ← List.flatten_append, List.take_append_drop]
      omega
    have hg02 := Ghost.tr hg1 hg2
    have hbP := hP.base hi
    obtain ⟨ca, cc, hcP, hRC⟩ := (hP.mono hg02).sl hi
    obtain ⟨hcne, hcn⟩ := hpn _ (List.getElem_mem hi)
    generalize parts[i] = c at hcP hRC hcne hcn hsucc hlenm
    generalize rkAll ls nodes on (parts.take i) = S at k1 k2 k3 k4 hsucc olo hal oao ho10 hr10
    have hcl : c.length ≤ 20000 := by omega
    have hcl2 : c.length ≤ 4611686018427387904 := by omega
    generalize hf : lvStep ls nodes on S.lv c = f
    have hNN : lvN ls nodes on S.lv c = (c.flatMap fun x => outAt ls ls.length x).foldl f 0 := by rw [← hf]; rfl
    have hlvb : ∀ l : List Nat, l.foldl f 0 ≤ i + 1 := fun l => by rw [← hf]; exact lvFold_le k1 l 0 (by omega)
    repeat (refine wc_seq ?_)
    refine wc_region ?_
    refine wl_ix rfl rfl rfl rfl rfl (by omega) (hbP) rfl rfl ?_
    refine wl_ldG hs (hcP) rfl rfl rfl rfl rfl ?_
    repeat (refine wl_p rfl rfl rfl ?_)
    refine wl_nil (wk_seq ?_)
    repeat (refine wc_seq ?_)
    refine wc_region ?_
    repeat (refine wl_p rfl rfl rfl ?_)
    refine wl_nil (wk_seq ?_)
    repeat (refine wc_seq ?_)
    refine wc_region ?_
    repeat (refine wl_p rfl rfl rfl ?_)
    refine wl_nil (wk_seq ?_)
    refine wc_for c.length (fun j (_ : Unit) => [(14, .int .i64 ((((c.take j).flatMap fun x => outAt ls ls.length x).foldl f 0 : Nat) : Int)), (35, .int .i64 c.length), (34, .slice ca c.length cc), (13, .slice ca c.length cc), (30, .int .i64 (i : Int)), (29, .int .i64 parts.length), (28, (.slice ap parts.length cp)), (0, (.pointer (some ⟨gb, 0, none⟩))), (4, .pointer (some ⟨pb, 0, none⟩)), (7, .slice none 0 0), (8, .map (some lb)), (9, .map (some ab)), (10, v10), (11, .int .i64 ((S.gr : Int) - 1))])
      (fun j (_ : Unit) w => ∃ g', g2 ≤ g' ∧ St g' w ((lb, lo) :: (ab, ao2) :: (Hs.flatten ++ (H10 ++ F)))) () hcl2 (by repeat (first | exact trivial | refine ⟨rfl, ?_⟩)) ⟨g2, Ghost.rfl', hs⟩ (fun _ _ => rfl) rfl rfl rfl ?_ ?_ (fun _ _ => rfl) rfl
    · rintro j _ w hj ⟨g3, hg3, hs⟩
      have hg03 := Ghost.tr hg02 hg3
      have hbC := hRC.base hj
      have hcC := (hRC.mono hg3).nat hj
      have hx : c[j] < n := hcn _ (List.getElem_mem hj)
      have hfl : (c.take (j + 1)).flatMap (fun x => outAt ls ls.length x) = (c.take j).flatMap (fun x => outAt ls ls.length x) ++ outAt ls ls.length c[j] := by rw [take_snoc hj, List.flatMap_append]; simp
      generalize c[j] = x at hcC hx hfl
      generalize hmj : ((c.take j).flatMap fun x => outAt ls ls.length x) = mj at hfl
      have hxl : x < (outsF n ls).length := by simpa [outsF] using hx
      have hol : n = (outsF n ls).length := by simp [outsF]
      have hO' : RS (kSl kNat) g (.slice ao (outsF n ls).length co) (outsF n ls) := by rw [← hol]; exact hO
      have hbO := hO'.base hxl
      obtain ⟨sa, sc, hcO, hS⟩ := (hO'.mono hg03).sl hxl
      rw [outsF_at hx] at hcO hS
      have hol2 := outAt_len ls ls.length x
      have hl2 : (outAt ls ls.length x).length ≤ 4611686018427387904 := by omega
      repeat (refine wc_seq ?_)
      refine wc_region ?_
      refine wl_ix rfl rfl rfl rfl rfl (by omega) (hbC) rfl rfl ?_
      refine wl_ldG hs (hcC) rfl rfl rfl rfl rfl ?_
      repeat (refine wl_p rfl rfl rfl ?_)
      refine wl_nil (wk_seq ?_)
      repeat (refine wc_seq ?_)
      refine wc_region ?_
      repeat (refine wl_p rfl rfl rfl ?_)
      refine wl_ldG hs (hG.mono hg03 2 _ rfl) rfl rfl rfl rfl rfl ?_
      repeat (refine wl_p rfl rfl rfl ?_)
      refine wl_ix rfl rfl rfl rfl rfl (by omega) hbO rfl rfl ?_
      refine wl_ldG hs (hcO) rfl rfl rfl rfl rfl ?_
      repeat (refine wl_p rfl rfl rfl ?_)
      refine wl_nil (wk_seq ?_)
      refine wc_for (outAt ls ls.length x).length (fun q (_ : Unit) => [(14, .int .i64 (((mj ++ (outAt ls ls.length x).take q).foldl f 0 : Nat) : Int)), (47, .int .i64 (outAt ls ls.length x).length), (46, .slice sa (outAt ls ls.length x).length sc), (36, .int .i64 (j : Int)), (35, .int .i64 c.length), (34, .slice ca c.length cc), (13, .slice ca c.length cc), (30, .int .i64 (i : Int)), (29, .int .i64 parts.length), (28, (.slice ap parts.length cp)), (0, (.pointer (some ⟨gb, 0, none⟩))), (4, .pointer (some ⟨pb, 0, none⟩)), (7, .slice none 0 0), (8, .map (some lb)), (9, .map (some ab)), (10, v10), (11, .int .i64 ((S.gr : Int) - 1))])
        (fun q (_ : Unit) w => ∃ g', g3 ≤ g' ∧ St g' w ((lb, lo) :: (ab, ao2) :: (Hs.flatten ++ (H10 ++ F)))) () hl2 ⟨rfl, (by rw [← hmj, List.take_zero, List.append_nil]; rfl), (by repeat (first | exact trivial | refine ⟨rfl, ?_⟩))⟩ ⟨g3, Ghost.rfl', hs⟩ (fun _ _ => rfl) rfl rfl rfl ?_ ?_ (fun _ _ => rfl) rfl
      · rintro q _ w hq ⟨g4, hg4, hs⟩
        have hg04 := Ghost.tr hg03 hg4
        have hg34 := Ghost.tr hg3 hg4
        have hbq := hS.base hq
        have hcq := (hS.mono hg4).nat hq
        have hstep : (mj ++ (outAt ls ls.length x).take (q + 1)).foldl f 0 = f ((mj ++ (outAt ls ls.length x).take q).foldl f 0) (outAt ls ls.length x)[q] := by
          rw [take_snoc hq, ← List.append_assoc, List.foldl_append]; rfl
        have hkl : (outAt ls ls.length x)[q] < ls.length := outAt_lt (List.getElem_mem hq)
        generalize (outAt ls ls.length x)[q] = k at hcq hstep hkl
        have hmb := hlvb (mj ++ (outAt ls ls.length x).take q)
        generalize (mj ++ (outAt ls ls.length x).take q).foldl f 0 = m at hstep hmb
        have hko : k < on.length := by omega
        have hb3 := h3.base hko
        have hc3 := (h3.mono hg04).bool hko
        have hgetD : on.getD k false = on[k] := by simp [hko]
        obtain ⟨zb, zo, rfl⟩ := hA.base hkl
        have hcA := (hA.mono hg04).enc hkl
        have hto : ls[k].to < n := (hv.ok _ (List.getElem_mem hkl)).2.1
        have htl : ls[k].to < (inF n nodes).length := by rw [inF_len]; exact hto
        have hb2 := h2.base htl
        have hc2 := (h2.mono hg04).bool htl
        rw [inF_at hto] at hc2
        have hi2 := inF_len n nodes
        have htoOf : toOf ls k = ls[k].to := by simp [toOf, hkl]
        have harr : arrIn ls nodes on k = (on[k] && decide (ls[k].to ∈ nodes)) := by
          unfold arrIn
          rw [hgetD, List.getElem?_eq_getElem hkl]
        have hfk : f m k = if (arrIn ls nodes on k && !c.contains ls[k].to) = true then max m (lowOf S.lv ls[k].to + 1) else m := by rw [← hf, ← htoOf]; rfl
        rw [hfk, harr] at hstep
        repeat (refine wc_seq ?_)
        refine wc_region ?_
        refine wl_ix rfl rfl rfl rfl rfl (by omega) hbq rfl rfl ?_
        refine wl_ldG hs (hcq) rfl rfl rfl rfl rfl ?_
        repeat (refine wl_p rfl rfl rfl ?_)
        refine wl_nil (wk_seq ?_)
        repeat (refine wc_seq ?_)
        refine wc_region ?_
        repeat (refine wl_p rfl rfl rfl ?_)
        refine wl_ldG hs (hG.mono hg04 1 _ rfl) rfl rfl rfl rfl rfl ?_
        repeat (refine wl_p rfl rfl rfl ?_)
        refine wl_ix rfl rfl rfl rfl rfl (by omega) ⟨zb, zo, rfl⟩ rfl rfl ?_
        repeat (refine wl_p rfl rfl rfl ?_)
        refine wl_ldG hs (hcA 1 _ rfl) rfl rfl rfl rfl rfl ?_
        repeat (refine wl_p rfl rfl rfl ?_)
        refine wl_nil (wk_seq ?_)
        repeat (refine wc_seq ?_)
        refine wc_region ?_
        repeat (refine wl_p rfl rfl rfl ?_)
        refine wl_ldG hs (hpb.mono (Ghost.tr hg2 hg34) 2 _ rfl) rfl rfl rfl rfl rfl ?_
        repeat (refine wl_p rfl rfl rfl ?_)
        refine wl_ix rfl rfl rfl rfl rfl (by omega) hb3 rfl rfl ?_
        refine wl_ldG hs (hc3) rfl rfl rfl rfl rfl ?_
        repeat (refine wl_p rfl rfl rfl ?_)
        refine wl_case 65 rfl (fun q1 => ?_) (fun q1 => ?_)
        · repeat (first | refine wl_p rfl rfl rfl ?_ | refine wl_skip rfl rfl rfl ?_)
          refine wl_ldG hs (hpb.mono (Ghost.tr hg2 hg34) 1 _ rfl) rfl rfl rfl rfl rfl ?_
          repeat (first | refine wl_p rfl rfl rfl ?_ | refine wl_skip rfl rfl rfl ?_)
          refine wl_ix rfl rfl rfl rfl rfl (by omega) hb2 rfl rfl ?_
          refine wl_ldG hs (hc2) rfl rfl rfl rfl rfl ?_
          repeat (first | refine wl_p rfl rfl rfl ?_ | refine wl_skip rfl rfl rfl ?_)
          refine wl_case 72 rfl (fun q2 => ?_) (fun q2 => ?_)
          · repeat (first | refine wl_p rfl rfl rfl ?_ | refine wl_skip rfl rfl rfl ?_)
            refine wl_call (L := []) rfl rfl rfl hs (contains_spec g4 _ (c.map Int.ofNat) (ls[k].to : Int) ((hRC.ofNat).mono hg34) (by rw [List.length_map]; exact hcl2)) ?_
            rintro u g5 L' w hg5 hs ⟨rfl, rfl⟩
            rw [contains_nat]
            repeat (first | refine wl_p rfl rfl rfl ?_ | refine wl_skip rfl rfl rfl ?_)
            refine wl_nil (wk_seq ?_)
            rw [q1, q2] at hstep
            refine wc_cond rfl (fun q3 => ?_) (fun q3 => ?_)
            · have q3' : (!c.contains ls[k].to) = true := q3
              rw [q3', if_pos (by rfl)] at hstep
              repeat (refine wc_seq ?_)
              refine wc_region ?_
              repeat (refine wl_p rfl rfl rfl ?_)
              refine wl_look hs 0 olo rfl rfl rfl rfl rfl rfl rfl rfl (lookV _ _) rfl rfl ?_
              refine wl_arK ((lowOf S.lv ls[k].to + 1 : Nat) : Int) rfl rfl (by simp [arith]) (by have := k1 ls[k].to; omega) rfl rfl ?_
              refine wl_maxK ((max m (lowOf S.lv ls[k].to + 1) : Nat) : Int) (by split <;> omega) rfl rfl rfl rfl ?_
              repeat (refine wl_p rfl rfl rfl ?_)
              exact wl_nil (wk_blk (wk_next () hq hl2 ⟨g5, Ghost.tr hg4 hg5, hs⟩ rfl rfl rfl ⟨(by rw [hstep]; rfl), (by repeat (first | exact trivial | refine ⟨rfl, ?_⟩))⟩))
            · have q3' : (!c.contains ls[k].to) = false := q3
              rw [q3', if_neg (by simp)] at hstep
              exact wc_skip (wk_blk (wk_next () hq hl2 ⟨g5, Ghost.tr hg4 hg5, hs⟩ rfl rfl rfl ⟨(by rw [hstep]; rfl), (by repeat (first | exact trivial | refine ⟨rfl, ?_⟩))⟩))
          · repeat (first | refine wl_p rfl rfl rfl ?_ | refine wl_skip rfl rfl rfl ?_)
            refine wl_nil (wk_seq ?_)
            rw [q1, q2, if_neg (by simp)] at hstep
            refine wc_condF rfl rfl (wc_skip (wk_blk (wk_next () hq hl2 ⟨g4, hg4, hs⟩ rfl rfl rfl ⟨(by rw [hstep]; rfl), (by repeat (first | exact trivial | refine ⟨rfl, ?_⟩))⟩)))
        · repeat (first | refine wl_p rfl rfl rfl ?_ | refine wl_skip rfl rfl rfl ?_)
          refine wl_nil (wk_seq ?_)
          rw [q1, if_neg (by simp)] at hstep
          refine wc_condF rfl rfl (wc_skip (wk_blk (wk_next () hq hl2 ⟨g4, hg4, hs⟩ rfl rfl rfl ⟨(by rw [hstep]; rfl), (by repeat (first | exact trivial | refine ⟨rfl, ?_⟩))⟩)))
      · rintro _ w ⟨g4, hg4, hs⟩
        refine wk_blk (wk_next () hj hcl2 ⟨g4, Ghost.tr hg3 hg4, hs⟩ rfl rfl rfl ⟨(by rw [hfl, List.take_length]; rfl), (by repeat (first | exact trivial | refine ⟨rfl, ?_⟩))⟩)
    · rintro _ w ⟨g3, hg3, hs⟩
      rw [List.take_length, ← hNN]
      have hnb : lvN ls nodes on S.lv c ≤ i + 1 := by rw [hNN]; exact hlvb _
      clear hNN hlvb hf
      have hlv' : (rkAll ls nodes on (parts.take (i + 1))).lv = setAll S.lv c (lvN ls nodes on S.lv c) := by rw [hsucc]; rfl
      have hgr' : (rkAll ls nodes on (parts.take (i + 1))).gr = max S.gr (lvN ls nodes on S.lv c + 1) := by rw [hsucc]; rfl
      have hal' : (rkAll ls nodes on (parts.take (i + 1))).al = if (withinF ls c on).length = 0 then sk S.al (lvN ls nodes on S.lv c) (alAt S.al (lvN ls nodes on S.lv c) ++ c) else S.al := by rw [hsucc]; rfl
      have hot' : (rkAll ls nodes on (parts.take (i + 1))).ot = if (withinF ls c on).length = 0 then S.ot else S.ot ++ [c] := by rw [hsucc]; rfl
      clear hsucc
      generalize lvN ls nodes on S.lv c = nn at *
      refine wk_seq ?_
      repeat (refine wc_seq ?_)
      refine wc_region ?_
      repeat (refine wl_p rfl rfl rfl ?_)
      refine wl_nil (wk_seq ?_)
      refine wc_for c.length (fun j (_ : Unit) => [(14, .int .i64 (nn : Int)), (87, .int .i64 c.length), (86, .slice ca c.length cc), (13, .slice ca c.length cc), (30, .int .i64 (i : Int)), (29, .int .i64 parts.length), (28, (.slice ap parts.length cp)), (0, (.pointer (some ⟨gb, 0, none⟩))), (4, .pointer (some ⟨pb, 0, none⟩)), (7, .slice none 0 0), (8, .map (some lb)), (9, .map (some ab)), (10, v10), (11, .int .i64 ((S.gr : Int) - 1))])
        (fun j (_ : Unit) w => ∃ lo', OwnM (encM vNat (setAll S.lv (c.take j) nn)) lo' ∧ St g3 w ((lb, lo') :: (ab, ao2) :: (Hs.flatten ++ (H10 ++ F)))) () hcl2 (by repeat (first | exact trivial | refine ⟨rfl, ?_⟩)) ⟨lo, olo, hs⟩ (fun _ _ => rfl) rfl rfl rfl ?_ ?_ (fun _ _ => rfl) rfl
      · rintro j _ w hj ⟨lo', olo', hs⟩
        have hbC := hRC.base hj
        have hcC := (hRC.mono hg3).nat hj
        have hsn : setAll S.lv (c.take (j + 1)) nn = sk (setAll S.lv (c.take j) nn) c[j] nn := by rw [take_snoc hj, setAll_snoc]
        generalize c[j] = x at hcC hsn
        repeat (refine wc_seq ?_)
        refine wc_region ?_
        refine wl_ix rfl rfl rfl rfl rfl (by omega) (hbC) rfl rfl ?_
        refine wl_ldG hs (hcC) rfl rfl rfl rfl rfl ?_
        repeat (refine wl_p rfl rfl rfl ?_)
        refine wl_nil (wk_seq ?_)
        repeat (refine wc_seq ?_)
        refine wc_region ?_
        repeat (refine wl_p rfl rfl rfl ?_)
        refine wl_put hs 0 olo' rfl rfl rfl rfl rfl rfl rfl rfl rfl ?_
        clear hs; intro lo2 w olo2 hs
        rw [show Value.int .i64 (nn : Int) = vNat nn from rfl, aset_enc, ← hsn] at olo2
        exact wl_nil (wk_blk (wk_next () hj hcl2 ⟨lo2, olo2, hs⟩ rfl rfl rfl (by repeat (first | exact trivial | refine ⟨rfl, ?_⟩))))
      · rintro _ w ⟨lo', olo', hs⟩
        rw [List.take_length, ← hlv'] at olo'
        refine wk_seq ?_
        repeat (refine wc_seq ?_)
        refine wc_region ?_
        repeat (refine wl_p rfl rfl rfl ?_)
        refine wl_maxK ((max S.gr (nn + 1) : Nat) - 1 : Int) (by split <;> omega) rfl rfl rfl rfl ?_
        repeat (refine wl_p rfl rfl rfl ?_)
        refine wl_nil (wk_seq ?_)
        rw [← hgr']
        have hg03 := Ghost.tr hg02 hg3
        repeat (refine wc_seq ?_)
        refine wc_region ?_
        repeat (refine wl_p rfl rfl rfl ?_)
        refine wl_ldG hs (hpb.mono (Ghost.tr hg2 hg3) 2 _ rfl) rfl rfl rfl rfl rfl ?_
        refine wl_call (L := []) rfl rfl rfl hs (newPiece_spec g3 _ _ _ n ls c (hG0.mono hg03) hv (hRC.mono hg3) hcl2 ⟨_, _, _, rfl⟩ hcn) ?_
        rintro pv g4 L' w hg4 hs ⟨rfl, v2', rfl, hr2⟩
        refine wl_call (L := []) rfl rfl rfl hs (within_spec g4 _ _ n ls c on (hG0.mono (Ghost.tr hg03 hg4)) hv ⟨_, _, _, rfl, hRC.mono (Ghost.tr hg3 hg4), hr2, h3.mono (Ghost.tr hg03 hg4)⟩ hlen hcl hcn) ?_
        rintro vw g5 L' w hg5 hs ⟨rfl, hrw⟩
        obtain ⟨wa, wc, rfl⟩ := hrw.form
        have hg25 := Ghost.tr hg3 (Ghost.tr hg4 hg5)
        have hg05 := Ghost.tr hg02 hg25
        replace hs := (show St g5 w ((lb, lo') :: (ab, ao2) :: (Hs.flatten ++ (H10 ++ F))) from hs)
        repeat (refine wl_p rfl rfl rfl ?_)
        refine wl_nil (wk_seq ?_)
        refine wc_cond rfl (fun qw => ?_) (fun qw => ?_)
        · have hw0 : (withinF ls c on).length = 0 := by
            have h9 : (((withinF ls c on).length : Int) == 0) = true := qw
            simpa using h9
          rw [if_pos hw0] at hal' hot'
          obtain ⟨f1, f2, f3⟩ := RS.flat (hRC.mono hg25)
          have hbd := k2 nn
          repeat (refine wc_seq ?_)
          refine wc_region ?_
          repeat (refine wl_p rfl rfl rfl ?_)
          rcases zipV_at nn S.al vs hal.1 with ⟨j, xs, v, e1, e2, e3, e4, e5, e6⟩ | ⟨e1, e2, e3, e4⟩
          · refine wl_look (u := v) hs 1 oao rfl rfl rfl rfl rfl rfl rfl rfl (congrArg (fun o => Option.getD o _) e4) rfl rfl ?_
            have hjl : j < Hs.length := by have := (List.getElem?_eq_some_iff.1 e1).1; have := hal.2.1; omega
            have own := hal.2.2 j (nn, xs) v Hs[j] e1 e2 (List.getElem?_eq_getElem hjl) (Nat.zero_le _)
            have hxs : alAt S.al nn = xs := congrArg (fun o => Option.getD o []) e3
            rw [hxs] at hbd hal'
            rw [e5] at hal'
            have hs2 : St g5 w ((lb, lo') :: (ab, ao2) :: (Hs[j] ++ ((Hs.eraseIdx j).flatten ++ (H10 ++ F)))) := hs.perm (List.Perm.cons _ (List.Perm.cons _ (by rw [← List.append_assoc]; exact ((flat_front Hs _ hjl).symm.append_right _))))
            replace hs2 := (show St g5 w (Hs[j] ++ ((lb, lo') :: (ab, ao2) :: ((Hs.eraseIdx j).flatten ++ (H10 ++ F)))) from hs2.perm (by classical exact List.perm_iff_count.2 fun x => by simp only [List.append_eq, List.set_cons_succ, List.set_cons_zero, List.eraseIdx_cons_zero, List.eraseIdx_cons_succ, List.count_cons, List.count_append, List.cons_append, List.nil_append, List.append_nil, List.append_assoc] <;> ac_rfl))
            repeat (refine wl_p rfl rfl rfl ?_)
            refine wl_append (ys := c.flatMap eNat) (m := c.length) hs2 own (RS.cellsAt hs2 f3) (by exact f2) rfl rfl rfl rfl rfl rfl rfl rfl rfl (all_one (fun _ => rfl) c) (by simp only; omega) rfl rfl ?_
            intro v' w H' ho' hs3
            replace hs3 := (show St g5 w ((lb, lo') :: (ab, ao2) :: (H' ++ ((Hs.eraseIdx j).flatten ++ (H10 ++ F)))) from hs3.perm (by classical exact List.perm_iff_count.2 fun x => by simp only [List.append_eq, List.set_cons_succ, List.set_cons_zero, List.eraseIdx_cons_zero, List.eraseIdx_cons_succ, List.count_cons, List.count_append, List.cons_append, List.nil_append, List.append_nil, List.append_assoc] <;> ac_rfl))
            refine wl_put hs3 1 oao rfl rfl rfl rfl rfl rfl rfl rfl rfl ?_
            intro ao3 w oao3 hs4
            rw [e6 _ (nn, xs ++ c).2] at oao3
            refine wl_nil (wk_blk (wk_next v10 hi hpl2 ⟨g5, lo', ao3, vs.set j v', Hs.set j H', cs10, H10, Ghost.tr hg2 hg25, olo', ?_, ?_, ?_, ?_, ?_⟩ rfl rfl rfl (by repeat (first | exact trivial | refine ⟨rfl, ?_⟩))))
            · rw [hal']
              refine hal.set j ?_
              simp only [List.length_append, List.flatMap_append]
              exact ho'
            · rw [hal']; exact oao3
            · rw [hot']; exact ho10
            · rw [hot']; exact fun k v c h1 h2 => (hr10 k v c h1 h2).mono hg25
            · refine St.perm (show St g5 w ((lb, lo') :: (ab, ao3) :: (H' ++ ((Hs.eraseIdx j).flatten ++ (H10 ++ F)))) from hs4) (List.Perm.cons _ (List.Perm.cons _ ?_))
              rw [← List.append_assoc (H')]
              exact (flat_set Hs _ hjl H').append_right _
          · refine wl_look (u := .slice none 0 0) hs 1 oao rfl rfl rfl rfl rfl rfl rfl rfl (congrArg (fun o => Option.getD o _) e2) rfl rfl ?_
            have hxs : alAt S.al nn = [] := congrArg (fun o => Option.getD o []) e1
            rw [hxs, e3, List.nil_append] at hal'
            repeat (refine wl_p rfl rfl rfl ?_)
            refine wl_append (H := []) (ys := c.flatMap eNat) (m := c.length) hs (OwnS.nil 3 1) (RS.cellsAt hs f3) (by exact f2) rfl rfl rfl rfl rfl rfl rfl rfl rfl (all_one (fun _ => rfl) c) (by omega) rfl rfl ?_
            intro v' w H' ho' hs3
            replace hs3 := (show St g5 w ((lb, lo') :: (ab, ao2) :: (H' ++ (Hs.flatten ++ (H10 ++ F)))) from hs3.perm (by classical exact List.perm_iff_count.2 fun x => by simp only [List.append_eq, List.set_cons_succ, List.set_cons_zero, List.eraseIdx_cons_zero, List.eraseIdx_cons_succ, List.count_cons, List.count_append, List.cons_append, List.nil_append, List.append_nil, List.append_assoc] <;> ac_rfl))
            refine wl_put hs3 1 oao rfl rfl rfl rfl rfl rfl rfl rfl rfl ?_
            intro ao3 w oao3 hs4
            rw [e4 _ c] at oao3
            rw [Nat.zero_add, List.nil_append] at ho'
            refine wl_nil (wk_blk (wk_next v10 hi hpl2 ⟨g5, lo', ao3, vs ++ [v'], Hs ++ [H'], cs10, H10, Ghost.tr hg2 hg25, olo', ?_, ?_, ?_, ?_, ?_⟩ rfl rfl rfl (by repeat (first | exact trivial | refine ⟨rfl, ?_⟩))))
            · rw [hal']
              exact hal.snoc ho'
            · rw [hal']; exact oao3
            · rw [hot']; exact ho10
            · rw [hot']; exact fun k v c h1 h2 => (hr10 k v c h1 h2).mono hg25
            · refine St.perm (show St g5 w ((lb, lo') :: (ab, ao3) :: (H' ++ (Hs.flatten ++ (H10 ++ F)))) from hs4) ?_
              rw [List.flatten_append, List.flatten_cons, List.flatten_nil, List.append_nil]
              exact (by classical exact List.perm_iff_count.2 fun x => by simp only [List.append_eq, List.set_cons_succ, List.set_cons_zero, List.eraseIdx_cons_zero, List.eraseIdx_cons_succ, List.count_cons, List.count_append, List.cons_append, List.nil_append, List.append_nil, List.append_assoc] <;> ac_rfl)
        · have hw0 : ¬ (withinF ls c on).length = 0 := by
            intro e
            have h9 : (((withinF ls c on).length : Int) == 0) = false := qw
            rw [e] at h9
            simp at h9
          rw [if_neg hw0] at hal' hot'
          repeat (refine wc_seq ?_)
          refine wc_region ?_
          repeat (refine wl_p rfl rfl rfl ?_)
          replace hs := (show St g5 w (H10 ++ ((lb, lo') :: (ab, ao2) :: (Hs.flatten ++ F))) from hs.perm (by classical exact List.perm_iff_count.2 fun x => by simp only [List.append_eq, List.set_cons_succ, List.set_cons_zero, List.eraseIdx_cons_zero, List.eraseIdx_cons_succ, List.count_cons, List.count_append, List.cons_append, List.nil_append, List.append_nil, List.append_assoc] <;> ac_rfl))
          refine wl_push hs ho10 (by omega) rfl rfl rfl rfl rfl rfl rfl rfl rfl rfl rfl rfl rfl rfl ?_
          intro v10' w H10' ho10' hs
          repeat (refine wl_p rfl rfl rfl ?_)
          refine wl_nil (wk_blk (wk_next v10' hi hpl2 ⟨g5, lo', ao2, vs, Hs, cs10 ++ [.slice ca c.length cc], H10', Ghost.tr hg2 hg25, olo', by rw [hal']; exact hal, by rw [hal']; exact oao, ?_, ?_, hs.perm (by classical exact List.perm_iff_count.2 fun x => by simp only [List.append_eq, List.set_cons_succ, List.set_cons_zero, List.eraseIdx_cons_zero, List.eraseIdx_cons_succ, List.count_cons, List.count_append, List.cons_append, List.nil_append, List.append_nil, List.append_assoc] <;> ac_rfl)⟩ rfl rfl rfl (by repeat (first | exact trivial | refine ⟨rfl, ?_⟩))))
          · rw [hot', List.length_append]; exact ho10'
          · rw [hot']
            intro k v c' h1 h2
            have hcl10 : cs10.length = S.ot.length := by have := ho10.len; simpa using this
            by_cases hk : k < S.ot.length
            · rw [List.getElem?_append_left (by omega)] at h1 h2
              exact (hr10 k v c' h1 h2).mono hg25
            · have hk2 : k = S.ot.length := by
                have := (List.getElem?_eq_some_iff.1 h2).1
                simp at this
                omega
              subst hk2
              rw [List.getElem?_append_right (by omega)] at h1 h2
              simp [hcl10] at h1 h2
              subst h1 h2
              exact hRC.mono hg25
  · rintro v10 w ⟨g2, lo, ao2, vs, Hs, cs10, H10, hg2, olo, hal, oao, ho10, hr10, hs⟩
    obtain ⟨k1, k2, k3, k4⟩ := rkOk_all ls nodes on parts parts.length (Nat.le_refl _)
    have hmem := rk_ot_mem ls nodes on parts parts.length (Nat.le_refl _)
    rw [List.take_length] at *
    have hRR : rankedF ls nodes on parts = (List.range (rkAll ls nodes on parts).gr).flatMap (rkOutAt (rkAll ls nodes on parts)) := rfl
    generalize rkAll ls nodes on parts = S at *
    have hg02 := Ghost.tr hg1 hg2
    have hcl10 : cs10.length = S.ot.length := by have := ho10.len; simpa using this
    obtain ⟨g3, hg3, hs, hlb⟩ := freezeO hs
    obtain ⟨g4, hg4, hs, hab⟩ := freezeO hs
    replace hs := (show St g4 w (H10 ++ (Hs.flatten ++ F)) from hs.perm (by classical exact List.perm_iff_count.2 fun x => by simp only [List.append_eq, List.set_cons_succ, List.set_cons_zero, List.eraseIdx_cons_zero, List.eraseIdx_cons_succ, List.count_cons, List.count_append, List.cons_append, List.nil_append, List.append_nil, List.append_assoc] <;> ac_rfl))
    obtain ⟨g5, hg5, hs, hot⟩ := OwnS.freeze (K := kSl kNat) (xs := S.ot) ho10 hs rfl (fun g' hg' k hk => by
      have hk2 : k < cs10.length := by omega
      refine ⟨cs10[k], ?_, ((hr10 k _ _ (List.getElem?_eq_getElem hk2) (List.getElem?_eq_getElem hk)).mono (Ghost.tr hg3 (Ghost.tr hg4 hg')))⟩
      rw [show (kSl kNat).sz = 1 from rfl, Nat.mul_one, List.drop_eq_getElem_cons hk2]
      rfl)
    have hg05 := Ghost.tr hg02 (Ghost.tr hg3 (Ghost.tr hg4 hg5))
    replace hlb := hg5.heap _ _ (hg4.heap _ _ hlb)
    replace hab := hg5.heap _ _ hab
    clear ho10 hr10
    obtain ⟨a10, c10, rfl⟩ := hot.form
    refine wk_seq ?_
    repeat (refine wc_seq ?_)
    refine wc_region ?_
    repeat (refine wl_p rfl rfl rfl ?_)
    refine wl_arK ((S.gr : Nat) : Int) rfl rfl (by simp [arith]) (by omega) rfl rfl ?_
    repeat (refine wl_p rfl rfl rfl ?_)
    refine wl_nil (wk_seq ?_)
    have hgr2 : S.gr ≤ 4611686018427387904 := by omega
    have hRlen : ∀ m, m ≤ S.gr → ((List.range m).flatMap (rkOutAt S)).length ≤ 20001 * 20001 := fun m hm => by
      have e1 := flat_len (rkOutAt S) 20001 (List.range m) (fun x _ => by
        unfold rkOutAt
        rw [List.length_append]
        have := List.length_filter_le (fun c => decide (lowOf S.lv (c.getD 0 0) = x)) S.ot
        split <;> simp only [List.length_nil, List.length_cons] <;> omega)
      rw [List.length_range] at e1
      exact Nat.le_trans e1 (Nat.mul_le_mul_right _ (by omega))
    refine wc_for S.gr (fun _ (v7 : Value) => [(121, .int .i64 (S.gr : Int)), (7, v7), (8, .map (some lb)), (9, .map (some ab)), (10, .slice a10 S.ot.length c10)])
      (fun m (v7 : Value) w => ∃ g' Hs cs7 H7, g5 ≤ g' ∧ AloneR m S.al vs Hs ∧ OwnS 22 1 v7 ((List.range m).flatMap (rkOutAt S)).length cs7 H7 ∧
        (∀ (k : Nat) (v : Value) (c : List Nat), cs7[k]? = some v → ((List.range m).flatMap (rkOutAt S))[k]? = some c → RS kNat g' v c) ∧ St g' w (Hs.flatten ++ (H7 ++ F))) (.slice none 0 0) hgr2
      (by repeat (first | exact trivial | refine ⟨rfl, ?_⟩)) ⟨g5, Hs, [], [], Ghost.rfl', hal, OwnS.nil _ _, fun k v c h => by simp at h, hs⟩ (fun _ _ => rfl) rfl rfl rfl ?_ ?_ (fun _ _ => rfl) rfl
    · rintro m v7 w hm ⟨g6, Hs, cs7, H7, hg6, hal, ho7, hr7, hs⟩
      have hl1 := hRlen (m + 1) hm
      rw [List.range_succ, List.flatMap_append] at hl1
      obtain ⟨u, Hx, Hs', hu, hox, hal', hpm⟩ := hal.take
      have hRs : (List.range (m + 1)).flatMap (rkOutAt S) = (List.range m).flatMap (rkOutAt S) ++ rkOutAt S m := by rw [List.range_succ, List.flatMap_append]; simp
      generalize (List.range m).flatMap (rkOutAt S) = R at *
      have hAl : (alAt S.al m).length ≤ 4294967296 := by have := k2 m; omega
      obtain ⟨A, hA⟩ : ∃ A : List (List Nat), A = if (alAt S.al m).length = 0 then [] else [sortN (alAt S.al m)] := ⟨_, rfl⟩
      have hRA : rkOutAt S m = A ++ S.ot.filter fun c => decide (lowOf S.lv (c.getD 0 0) = m) := by rw [hA]; rfl
      replace hs := (show St g6 w (Hx ++ (Hs'.flatten ++ (H7 ++ F))) from hs.perm (by rw [← List.append_assoc]; exact hpm.append_right _))
      obtain ⟨ua, uc, rfl⟩ := hox.form
      have hcl7 : cs7.length = R.length := by have := ho7.len; simpa using this
      repeat (refine wc_seq ?_)
      refine wc_region ?_
      repeat (refine wl_p rfl rfl rfl ?_)
      refine wl_nil (wk_seq ?_)
      repeat (refine wc_seq ?_)
      refine wc_region ?_
      repeat (refine wl_p rfl rfl rfl ?_)
      refine wl_lookG hs ((hg6.heap _ _ hab)) oao rfl rfl rfl rfl rfl rfl rfl hu rfl rfl ?_
      repeat (refine wl_p rfl rfl rfl ?_)
      refine wl_nil (wk_seq ?_)
      repeat (refine wc_seq ?_)
      refine wc_region ?_
      repeat (refine wl_p rfl rfl rfl ?_)
      refine wl_nil (wk_seq ?_)
      refine wc_meetK (fun (v7 : Value) => [(122, .int .i64 (m : Int)), (22, .int .i64 (m : Int)), (121, .int .i64 (S.gr : Int)), (7, v7), (8, .map (some lb)), (9, .map (some ab)), (10, .slice a10 S.ot.length c10)])
        (fun (v7 : Value) w => ∃ g' cs7 H7, g6 ≤ g' ∧ OwnS 22 1 v7 (R ++ A).length cs7 H7 ∧ (∀ (k : Nat) (v : Value) (c : List Nat), cs7[k]? = some v → (R ++ A)[k]? = some c → RS kNat g' v c) ∧ St g' w (Hs'.flatten ++ (H7 ++ F))) ?_ ?_
      · refine wc_cond rfl (fun q => ?_) (fun q => ?_)
        · have hq : ¬ (alAt S.al m).length = 0 := by have := of_decide_eq_true q; omega
          rw [if_neg hq] at hA
          repeat (refine wc_seq ?_)
          refine wc_region ?_
          repeat (refine wl_p rfl rfl rfl ?_)
          refine wl_call rfl rfl rfl hs (sort_spec g6 _ _ Hx hox hAl) ?_
          rintro us g7 L' w hg7 hs hox'
          refine wl_nil (wk_seq ?_)
          rw [← sortN_length] at hox'
          obtain ⟨g8, hg8, hs, hrs⟩ := OwnS.freezeE (e := eNat) (h0 := fun _ => rfl) hox' hs
          replace hs := (show St g8 w (H7 ++ (Hs'.flatten ++ F)) from hs.perm (by classical exact List.perm_iff_count.2 fun x => by simp only [List.append_eq, List.set_cons_succ, List.set_cons_zero, List.eraseIdx_cons_zero, List.eraseIdx_cons_succ, List.count_cons, List.count_append, List.cons_append, List.nil_append, List.append_nil, List.append_assoc] <;> ac_rfl))
          repeat (refine wc_seq ?_)
          refine wc_region ?_
          repeat (refine wl_p rfl rfl rfl ?_)
          refine wl_push hs ho7 (by rw [List.length_append] at hl1; omega) rfl rfl rfl rfl rfl rfl rfl rfl rfl rfl rfl rfl rfl rfl ?_
          intro v7' w H7' ho7' hs
          repeat (refine wl_p rfl rfl rfl ?_)
          refine wl_nil (wk_meet v7' (by repeat (first | exact trivial | refine ⟨rfl, ?_⟩)) ⟨g8, cs7 ++ [.slice ua (alAt S.al m).length uc], H7', Ghost.tr hg7 hg8, ?_, ?_, hs.perm (by classical exact List.perm_iff_count.2 fun x => by simp only [List.append_eq, List.set_cons_succ, List.set_cons_zero, List.eraseIdx_cons_zero, List.eraseIdx_cons_succ, List.count_cons, List.count_append, List.cons_append, List.nil_append, List.append_nil, List.append_assoc] <;> ac_rfl)⟩)
          · rw [hA, List.length_append]; exact ho7'
          · rw [hA]
            intro k v c' h1 h2
            by_cases hk : k < R.length
            · rw [List.getElem?_append_left (by omega)] at h1 h2
              exact (hr7 k v c' h1 h2).mono (Ghost.tr hg7 hg8)
            · have hk2 : k = R.length := by
                have := (List.getElem?_eq_some_iff.1 h2).1
                simp at this
                omega
              subst hk2
              rw [List.getElem?_append_right (by omega)] at h1 h2
              simp [hcl7] at h1 h2
              subst h1 h2
              rw [sortN_length] at hrs
              exact hrs
        · have hq : (alAt S.al m).length = 0 := by have := of_decide_eq_false q; omega
          rw [if_pos hq] at hA
          refine wc_skip (wk_meet v7 (by repeat (first | exact trivial | refine ⟨rfl, ?_⟩)) ⟨g6, cs7, H7, Ghost.rfl', by rw [hA, List.append_nil]; exact ho7, by rw [hA, List.append_nil]; exact hr7, hs.dropL⟩)
      · clear hs ho7 hr7 hcl7
        rintro v7 w ⟨g7, cs7, H7, hg7, ho7, hr7, hs⟩
        have hcot : S.ot.length ≤ 4611686018427387904 := by omega
        have hg57 := Ghost.tr hg6 hg7
        repeat (refine wc_seq ?_)
        refine wc_region ?_
        repeat (refine wl_p rfl rfl rfl ?_)
        refine wl_nil (wk_seq ?_)
        refine wc_for S.ot.length (fun _ (v7 : Value) => [(138, .int .i64 S.ot.length), (137, .slice a10 S.ot.length c10), (122, .int .i64 (m : Int)), (22, .int .i64 (m : Int)), (121, .int .i64 (S.gr : Int)), (7, v7), (8, .map (some lb)), (9, .map (some ab)), (10, .slice a10 S.ot.length c10)])
          (fun j (v7 : Value) w => ∃ cs7 H7, OwnS 22 1 v7 (R ++ A ++ (S.ot.take j).filter fun c => decide (lowOf S.lv (c.getD 0 0) = m)).length cs7 H7 ∧
            (∀ (k : Nat) (v : Value) (c : List Nat), cs7[k]? = some v → (R ++ A ++ (S.ot.take j).filter fun c => decide (lowOf S.lv (c.getD 0 0) = m))[k]? = some c → RS kNat g7 v c) ∧ St g7 w (Hs'.flatten ++ (H7 ++ F))) v7 hcot
          (by repeat (first | exact trivial | refine ⟨rfl, ?_⟩)) ⟨cs7, H7, by simpa using ho7, by simpa using hr7, hs⟩ (fun _ _ => rfl) rfl rfl rfl ?_ ?_ (fun _ _ => rfl) rfl
        · clear hs ho7 hr7
          rintro j v7 w hj ⟨cs7, H7, ho7, hr7, hs⟩
          have hflt : (S.ot.take (j + 1)).filter (fun c => decide (lowOf S.lv (c.getD 0 0) = m)) = (S.ot.take j).filter (fun c => decide (lowOf S.lv (c.getD 0 0) = m)) ++ if lowOf S.lv (S.ot[j].getD 0 0) = m then [S.ot[j]] else [] := by
            rw [take_snoc hj, List.filter_append, List.filter_cons]
            congr 1
            by_cases e : lowOf S.lv (S.ot[j].getD 0 0) = m <;> simp [e]
          have hbd : ((S.ot.take j).filter (fun c => decide (lowOf S.lv (c.getD 0 0) = m))).length ≤ 20000 := by
            have := List.length_filter_le (fun c => decide (lowOf S.lv (c.getD 0 0) = m)) (S.ot.take j)
            rw [List.length_take] at this
            omega
          have hbA : R.length + A.length ≤ 20001 * 20001 := by
            rw [hRA] at hRs
            have := hRlen (m + 1) hm
            rw [List.range_succ, List.flatMap_append] at this
            rw [List.length_append] at hl1
            have h2 : A.length ≤ (List.flatMap (rkOutAt S) [m]).length := by simp [hRA]
            omega
          generalize (S.ot.take j).filter (fun c => decide (lowOf S.lv (c.getD 0 0) = m)) = B at *
          have hcl7 : cs7.length = (R ++ A ++ B).length := by have := ho7.len; simpa using this
          have hbO := hot.base hj
          obtain ⟨oa, oc, hcO, hRO⟩ := (hot.mono hg57).sl hj
          obtain ⟨hone, hon⟩ := hpn _ (hmem _ (List.getElem_mem hj))
          generalize S.ot[j] = c at hcO hRO hone hon hflt
          have hc0 : 0 < c.length := List.length_pos_iff.2 hone
          have hbc0 := hRO.base hc0
          have hcc0 := hRO.nat hc0
          have hgd : c.getD 0 0 = c[0] := by simp [hc0]
          repeat (refine wc_seq ?_)
          refine wc_region ?_
          refine wl_ix rfl rfl rfl rfl rfl (by omega) hbO rfl rfl ?_
          refine wl_ldG hs (hcO) rfl rfl rfl rfl rfl ?_
          repeat (refine wl_p rfl rfl rfl ?_)
          refine wl_nil (wk_seq ?_)
          repeat (refine wc_seq ?_)
          refine wc_region ?_
          repeat (refine wl_p rfl rfl rfl ?_)
          refine wl_ix rfl rfl rfl rfl rfl (by omega) hbc0 rfl rfl ?_
          refine wl_ldG hs (hcc0) rfl rfl rfl rfl rfl ?_
          refine wl_lookG hs (hg57.heap _ _ hlb) olo rfl rfl rfl rfl rfl rfl rfl (lookV _ _) rfl rfl ?_
          repeat (refine wl_p rfl rfl rfl ?_)
          refine wl_nil (wk_seq ?_)
          refine wc_cond rfl (fun q => ?_) (fun q => ?_)
          · have hq : lowOf S.lv (c.getD 0 0) = m := by
              have h9 : (((lowOf S.lv c[0] : Nat) : Int) == (m : Int)) = true := q
              rw [hgd]
              have := eq_of_beq h9
              omega
            rw [if_pos hq] at hflt
            replace hs := (show St g7 w (H7 ++ (Hs'.flatten ++ F)) from hs.perm (by classical exact List.perm_iff_count.2 fun x => by simp only [List.append_eq, List.set_cons_succ, List.set_cons_zero, List.eraseIdx_cons_zero, List.eraseIdx_cons_succ, List.count_cons, List.count_append, List.cons_append, List.nil_append, List.append_nil, List.append_assoc] <;> ac_rfl))
            repeat (refine wc_seq ?_)
            refine wc_region ?_
            repeat (refine wl_p rfl rfl rfl ?_)
            refine wl_push hs ho7 (by simp only [List.length_append]; omega) rfl rfl rfl rfl rfl rfl rfl rfl rfl rfl rfl rfl rfl rfl ?_
            intro v7' w H7' ho7' hs
            repeat (refine wl_p rfl rfl rfl ?_)
            refine wl_nil (wk_blk (wk_next v7' hj hcot ⟨cs7 ++ [.slice oa c.length oc], H7', ?_, ?_, hs.perm (by classical exact List.perm_iff_count.2 fun x => by simp only [List.append_eq, List.set_cons_succ, List.set_cons_zero, List.eraseIdx_cons_zero, List.eraseIdx_cons_succ, List.count_cons, List.count_append, List.cons_append, List.nil_append, List.append_nil, List.append_assoc] <;> ac_rfl)⟩ rfl rfl rfl (by repeat (first | exact trivial | refine ⟨rfl, ?_⟩))))
            · rw [hflt, ← List.append_assoc (R ++ A), List.length_append (bs := [c])]; exact ho7'
            · rw [hflt, ← List.append_assoc (R ++ A)]
              intro k v c' h1 h2
              by_cases hk : k < (R ++ A ++ B).length
              · rw [List.getElem?_append_left (by omega)] at h1 h2
                exact hr7 k v c' h1 h2
              · have hk2 : k = (R ++ A ++ B).length := by
                  have := (List.getElem?_eq_some_iff.1 h2).1
                  rw [List.length_append (bs := [c])] at this
                  simp only [List.length_cons, List.length_nil] at this
                  omega
                subst hk2
                rw [List.getElem?_append_right (by omega)] at h1 h2
                rw [hcl7, Nat.sub_self] at h1
                rw [Nat.sub_self] at h2
                simp at h1 h2
                subst h1 h2
                exact hRO
          · have hq : ¬ lowOf S.lv (c.getD 0 0) = m := by
              intro e
              have h9 : (((lowOf S.lv c[0] : Nat) : Int) == (m : Int)) = false := q
              rw [← hgd, e] at h9
              simp at h9
            rw [if_neg hq, List.append_nil] at hflt
            exact wc_skip (wk_blk (wk_next v7 hj hcot ⟨cs7, H7, by rw [hflt]; exact ho7, by rw [hflt]; exact hr7, hs⟩ rfl rfl rfl (by repeat (first | exact trivial | refine ⟨rfl, ?_⟩))))
        · clear hs ho7 hr7
          rintro v7 w ⟨cs7, H7, ho7, hr7, hs⟩
          rw [List.take_length, List.append_assoc, ← hRA, ← hRs] at ho7 hr7
          exact wk_blk (wk_next v7 hm hgr2 ⟨g7, Hs', cs7, H7, hg57, hal', ho7, hr7, hs⟩ rfl rfl rfl (by repeat (first | exact trivial | refine ⟨rfl, ?_⟩)))
    · rintro v7 w ⟨g6, Hs, cs7, H7, hg6, hal, ho7, hr7, hs⟩
      rw [← hRR] at ho7 hr7
      replace hs := (show St g6 w (H7 ++ (Hs.flatten ++ F)) from hs.perm (by classical exact List.perm_iff_count.2 fun x => by simp only [List.append_eq, List.set_cons_succ, List.set_cons_zero, List.eraseIdx_cons_zero, List.eraseIdx_cons_succ, List.count_cons, List.count_append, List.cons_append, List.nil_append, List.append_nil, List.append_assoc] <;> ac_rfl))
      have hcl7 : cs7.length = (rankedF ls nodes on parts).length := by have := ho7.len; simpa using this
      obtain ⟨g7, hg7, hs, hrr⟩ := OwnS.freeze (K := kSl kNat) (xs := rankedF ls nodes on parts) ho7 hs rfl (fun g' hg' k hk => by
        have hk2 : k < cs7.length := by omega
        refine ⟨cs7[k], ?_, (hr7 k _ _ (List.getElem?_eq_getElem hk2) (List.getElem?_eq_getElem hk)).mono hg'⟩
        rw [show (kSl kNat).sz = 1 from rfl, Nat.mul_one, List.drop_eq_getElem_cons hk2]
        rfl)
      refine wk_seq ?_
      repeat (refine wc_seq ?_)
      refine wc_region ?_
      repeat (refine wl_p rfl rfl rfl ?_)
      refine wl_nil (wk_seq ?_)
      exact wc_retV (res1 rfl rfl) ⟨g7, [], Ghost.tr hg05 (Ghost.tr hg6 hg7), hs.dropL, rfl, hrr⟩
end Go.Proofs.YtnanffbjmfgafaaGreat.S
namespace Go.Proofs.YtnanffbjmfgafaaGreat.S
open Go.RowKit
def allO {α : Type} : List (Option α) → Option (List α)
  | [] => some []
  | a :: r => match a, allO r with
    | some x, some y => some (x :: y)
    | _, _ => none
theorem allO_some {α : Type} : ∀ {l : List (Option α)} {xs : List α}, allO l = some xs → xs.length = l.length ∧ ∀ i (h : i < l.length) (h' : i < xs.length), l[i] = some xs[i]
  | [], xs, h => by cases h; exact ⟨rfl, fun i h => by simp at h⟩
  | a :: r, xs, h => by
    simp only [allO] at h
    split at h
    · rename_i x y q
      cases h
      obtain ⟨h1, h2⟩ := allO_some q
      refine ⟨by simp [h1], fun i h h' => ?_⟩
      cases i with
      | zero => rfl
      | succ i => simpa using h2 i (by simpa using h) (by simpa using h')
    · cases h
def ixIn (nodes : List Nat) (x : Nat) : Nat := nodes.countP fun y => decide (y < x)
def rankRow (nodes : List Nat) (rk : List Nat) (r : List Nat) (k : Nat) : List Nat := r.foldl (fun rk x => rk.set (ixIn nodes x) k) rk
def rkTo (nodes : List Nat) (rs : List (List Nat)) (i : Nat) : List Nat := (List.range i).foldl (fun rk k => rankRow nodes rk (rs.getD k []) k) (List.replicate nodes.length 0)
def provOk (n : Nat) (nodes : List Nat) (parts rs : List (List Nat)) : Bool :=
  strictly nodes && parts.all (fun c => decide (0 < c.length) && c.all (fun x => decide (x < n))) && decide (parts.length ≤ 20000) && decide (parts.flatten.length ≤ 20000) &&
  rs.all (fun r => r.all (fun x => decide (x < n) && decide (ixIn nodes x < nodes.length)) && decide (r.length ≤ 20000)) && decide (rs.length ≤ 1000000)
section
variable (n : Nat) (ls : List Arrow) (all : List Nat) (pairs : List (Nat × Nat))
def provedR : Nat → List Nat → List Bool → Option Drop
  | 0, _, _ => none
  | f + 1, nodes, on =>
    if (withinF ls nodes on).length = 0 then some (.mk 2 0 (nodes.map Int.ofNat) [] [])
    else if (lackingF (metF ls (withinF ls nodes on)) all pairs).1 = 3 then some (.mk 3 (lackingF (metF ls (withinF ls nodes on)) all pairs).2 (nodes.map Int.ofNat) [] [])
    else match compsR ls nodes on with
      | none => none
      | some parts => if parts.length = 1 then
            (if (lackingF (metF ls (withinF ls nodes on)) all pairs).2 < pairs.length then (provedR f nodes (withoutF ls on (pairs.getD (lackingF (metF ls (withinF ls nodes on)) all pairs).2 (0, 0)).1)).map fun e => .mk (lackingF (metF ls (withinF ls nodes on)) all pairs).1 (lackingF (metF ls (withinF ls nodes on)) all pairs).2 (nodes.map Int.ofNat) [] [e] else none)
          else if provOk n nodes parts (rankedF ls nodes on parts) = true then
            (allO ((rankedF ls nodes on parts).map fun r => provedR f r on)).map fun ds => .mk 1 0 (nodes.map Int.ofNat) ((rkTo nodes (rankedF ls nodes on parts) (rankedF ls nodes on parts).length).map Int.ofNat) ds
          else none
end
theorem rkTo_succ (nodes : List Nat) (rs : List (List Nat)) (i : Nat) (h : i < rs.length) : rkTo nodes rs (i + 1) = rankRow nodes (rkTo nodes rs i) rs[i] i := by
  unfold rkTo
  rw [List.range_succ, List.foldl_append]
  simp [h]
theorem rankRow_length (nodes r : List Nat) (k : Nat) : ∀ (rk : List Nat), (rankRow nodes rk r k).length = rk.length := by
  induction r with
  | nil => intro rk; rfl
  | cons x r ih =>
    intro rk
    show (rankRow nodes (rk.set (ixIn nodes x) k) r k).length = _
    rw [ih]; simp
theorem rankRow_snoc (nodes rk r : List Nat) (x k : Nat) : rankRow nodes rk (r ++ [x]) k = (rankRow nodes rk r k).set (ixIn nodes x) k := by
  unfold rankRow
  rw [List.foldl_append]; rfl
theorem rkTo_length (nodes : List Nat) (rs : List (List Nat)) : ∀ i, i ≤ rs.length → (rkTo nodes rs i).length = nodes.length := by
  intro i
  induction i with
  | zero => intro _; simp [rkTo]
  | succ i ih => intro h; rw [rkTo_succ _ _ _ (by omega), rankRow_length, ih (by omega)]
structure ProvOk (n : Nat) (nodes : List Nat) (parts rs : List (List Nat)) : Prop where
  sorted : nodes.Pairwise (· ≤ ·)
  parts_ : ∀ c ∈ parts, c ≠ [] ∧ ∀ x ∈ c, x < n
  plen : parts.length ≤ 20000
  pflat : parts.flatten.length ≤ 20000
  rs_ : ∀ r ∈ rs, (∀ x ∈ r, x < n ∧ ixIn nodes x < nodes.length) ∧ r.length ≤ 20000
  rlen : rs.length ≤ 1000000
theorem provOk_iff {n : Nat} {nodes : List Nat} {parts rs : List (List Nat)} (h : provOk n nodes parts rs = true) : ProvOk n nodes parts rs := by
  simp only [provOk, Bool.and_eq_true, List.all_eq_true, decide_eq_true_eq] at h
  obtain ⟨⟨⟨⟨⟨h1, h2⟩, h3⟩, h4⟩, h5⟩, h6⟩ := h
  exact ⟨strictly_sorted h1, fun c hc => ⟨List.length_pos_iff.1 (h2 c hc).1, (h2 c hc).2⟩, h3, h4, fun r hr => ⟨(h5 r hr).1, (h5 r hr).2⟩, h6⟩
theorem DropRn.cells5 {k : Nat} {g : Ghost} {cs : List Value} {d : Drop} (h : DropRn k g cs d) : ∃ a b c e f, cs = [a, b, c, e, f] ∧ cs.all Value.oneCell' = true := by
  cases k with
  | zero => exact h.elim
  | succ k =>
    obtain ⟨vn, vr, vl, rfl, h1, h2, h3⟩ := h.open'
    refine ⟨_, _, _, _, _, rfl, ?_⟩
    simp only [List.all_cons, List.all_nil, h1.one, h2.one, h3.one]; rfl
end Go.Proofs.YtnanffbjmfgafaaGreat.S
namespace Go.Proofs.YtnanffbjmfgafaaGreat.S
open Go.RowKit
def ProvedAt (n : Nat) (ls : List Arrow) (all : List Nat) (pairs : List (Nat × Nat)) (f : Nat) : Prop :=
  ∀ (g : Ghost) (gp va vp v1 v2 v3 : Value) (nodes : List Nat) (on : List Bool) (d : Drop), provedR n ls all pairs f nodes on = some d → GraphR g gp n ls → RS kNat g va all → RS kPair g vp pairs → RS kNat g v1 nodes → RS kBool g v2 (inF n nodes) → RS kBool g v3 on →
    on.length = ls.length → nodes.length ≤ 20000 → (∀ x ∈ nodes, x < n) → Cl PP 28 [gp, .agg #[v1, v2, v3], .agg #[va, vp]] g [] fun g' L' r => L' = [] ∧ ∃ cs : List Value, r = .agg cs.toArray ∧ DropRn f g' cs d
theorem proved_all (n : Nat) (ls : List Arrow) (all : List Nat) (pairs : List (Nat × Nat)) (hv : ValidG n ls) (hw : ValidW all pairs) : ∀ f, ProvedAt n ls all pairs f := by
  intro f
  induction f with
  | zero => intro g gp va vp v1 v2 v3 nodes on d h; cases h
  | succ f ih =>
    intro g gp va vp v1 v2 v3 nodes on d hd hG ha hp h1 h2 h3 hlen hnl hn
    obtain ⟨gb, hgp⟩ : ∃ gb, gp = .pointer (some ⟨gb, 0, none⟩) := by obtain ⟨gb, _, _, _, _, rfl, _⟩ := hG; exact ⟨gb, rfl⟩
    subst hgp
    obtain ⟨a1, c1, rfl⟩ := h1.form
    obtain ⟨a2, c2, rfl⟩ := h2.form
    obtain ⟨a3, c3, rfl⟩ := h3.form
    obtain ⟨aa, ca, rfl⟩ := ha.form
    obtain ⟨ap, cp, rfl⟩ := hp.form
    refine cl_introM Tryz.func28 rfl rfl Tryz.ntmps28 rfl ?_
    intro w F hs
    repeat (refine wc_seq ?_)
    refine wc_region ?_
    refine wl_box hs rfl rfl rfl rfl ?_; clear hs; intro pb w hs
    refine wl_box hs rfl rfl rfl rfl ?_; clear hs; intro wx w hs
    refine wl_new hs rfl rfl rfl ?_; clear hs; intro rb w hs
    refine wl_nil (wk_seq ?_)
    replace hs := (show St g w ((pb, cellsO [(.slice a1 nodes.length c1), (.slice a2 (inF n nodes).length c2), (.slice a3 on.length c3)] 65) :: (wx, cellsO [(.slice aa all.length ca), (.slice ap pairs.length cp)] 26) :: (rb, cellsO [.int .i64 0, .int .i64 0, .slice none 0 0, .slice none 0 0, .slice none 0 0] 31) :: F) from St.perm (show St g w ((rb, cellsO [.int .i64 0, .int .i64 0, .slice none 0 0, .slice none 0 0, .slice none 0 0] 31) :: (wx, cellsO [(.slice aa all.length ca), (.slice ap pairs.length cp)] 26) :: (pb, cellsO [(.slice a1 nodes.length c1), (.slice a2 (inF n nodes).length c2), (.slice a3 on.length c3)] 65) :: F) from hs) (by classical exact List.perm_iff_count.2 fun x => by simp only [List.append_eq, List.set_cons_succ, List.set_cons_zero, List.eraseIdx_cons_zero, List.eraseIdx_cons_succ, List.count_cons, List.count_append, List.cons_append, List.nil_append, List.append_nil, List.append_assoc] <;> ac_rfl))
    obtain ⟨g1, hg1, hs, hpb⟩ := freezeB hs
    obtain ⟨g2, hg2, hs, hwx⟩ := freezeB hs
    replace hpb := hpb.mono hg2
    have hg02 := Ghost.tr hg1 hg2
    clear hg1 hg2
    repeat (refine wc_seq ?_)
    refine wc_region ?_
    repeat (refine wl_p rfl rfl rfl ?_)
    refine wl_ldG hs (hpb 0 _ rfl) rfl rfl rfl rfl rfl ?_
    refine wl_build (ps := [(2, .tmp 25)]) rfl rfl rfl rfl rfl rfl rfl ?_
    refine wl_new hs rfl rfl rfl ?_; clear hs; intro db w hs
    refine wl_stN hs 0 rfl rfl rfl rfl rfl (Nat.le_of_ble_eq_true rfl) rfl rfl ?_; clear hs; intro w hs
    refine wl_nil (wk_seq ?_)
    replace hs := (show St g2 w ((db, cellsO [.int .i64 0, .int .i64 0, (.slice a1 nodes.length c1), .slice none 0 0, .slice none 0 0] 31) :: (rb, cellsO [.int .i64 0, .int .i64 0, .slice none 0 0, .slice none 0 0, .slice none 0 0] 31) :: F) from hs)
    repeat (refine wc_seq ?_)
    refine wc_region ?_
    repeat (refine wl_p rfl rfl rfl ?_)
    refine wl_ldGN hs (hpb.at') rfl rfl rfl rfl rfl rfl ?_
    refine wl_call (L := []) rfl rfl rfl hs (within_spec g2 _ _ n ls nodes on (hG.mono hg02) hv ⟨_, _, _, rfl, h1.mono hg02, h2.mono hg02, h3.mono hg02⟩ hlen hnl hn) ?_
    rintro vl g3 L' w hg3 hs ⟨rfl, hrl⟩
    have hg03 := Ghost.tr hg02 hg3
    obtain ⟨al, cl, rfl⟩ := hrl.form
    replace hs := (show St g3 w ((db, cellsO [.int .i64 0, .int .i64 0, (.slice a1 nodes.length c1), .slice none 0 0, .slice none 0 0] 31) :: (rb, cellsO [.int .i64 0, .int .i64 0, .slice none 0 0, .slice none 0 0, .slice none 0 0] 31) :: F) from hs)
    repeat (refine wl_p rfl rfl rfl ?_)
    refine wl_nil (wk_seq ?_)
    repeat (refine wc_seq ?_)
    refine wc_region ?_
    repeat (refine wl_p rfl rfl rfl ?_)
    refine wl_nil (wk_seq ?_)
    unfold provedR at hd
    refine wc_cond rfl (fun q1 => ?_) (fun q1 => ?_)
    · have e1 : (withinF ls nodes on).length = 0 := by
        have h9 : (((withinF ls nodes on).length : Int) == 0) = true := q1
        simpa using h9
      rw [if_pos e1] at hd
      cases hd
      repeat (refine wc_seq ?_)
      refine wc_region ?_
      repeat (refine wl_p rfl rfl rfl ?_)
      refine wl_st hs 0 rfl rfl rfl rfl rfl rfl rfl rfl ?_; clear hs; intro w hs
      refine wl_nil (wk_seq ?_)
      repeat (refine wc_seq ?_)
      refine wc_region ?_
      refine wl_ldW hs 0 rfl rfl rfl rfl rfl rfl rfl ?_
      refine wl_stN hs 1 rfl rfl rfl rfl rfl (Nat.le_of_ble_eq_true rfl) rfl rfl ?_; clear hs; intro w hs
      refine wl_nil (wk_seq ?_)
      refine wc_retV0 (resCN (k := 1) hs rfl rfl rfl rfl rfl rfl) ⟨g3, [], hg03, hs.drop.drop, rfl, _, rfl, DropRn.close (d := .mk 2 0 (nodes.map Int.ofNat) [] []) (h1.ofNat.mono hg03) (RS.nil _ _ _ _) (RS.nil _ _ _ _)⟩
    · have e1 : ¬ (withinF ls nodes on).length = 0 := by
        intro e
        have h9 : (((withinF ls nodes on).length : Int) == 0) = false := q1
        rw [e] at h9
        simp at h9
      rw [if_neg e1] at hd
      have hml : (metF ls (withinF ls nodes on)).length = 16 := metF_len _ _
      refine wc_skip (wk_seq ?_)
      repeat (refine wc_seq ?_)
      refine wc_draw 10 [] pp_mix (by kernel_rfl) rfl hs ?_
      repeat (first | refine sg_p rfl rfl ?_ | refine sg_skip rfl rfl ?_)
      refine sg_callK [] [] rfl rfl rfl (fun g' hg' => met_spec g' _ _ n ls (withinF ls nodes on) (hG.mono (Ghost.tr hg03 hg')) hv (hrl.mono hg') (withinF_len hv.len hnl) (fun i hi => withinF_lt hi)) (fun _ _ _ h => h) ?_
      refine sg_ldGN ((hwx.mono hg3).at') rfl rfl rfl rfl rfl ?_
      refine sg_callK [] [] rfl rfl rfl (fun g' hg' => lacking_spec g' _ _ _ all pairs hml (ha.mono (Ghost.tr hg03 hg')) (hp.mono (Ghost.tr hg03 hg')) hw) (fun _ _ _ h => h) ?_
      repeat (first | refine sg_p rfl rfl ?_ | refine sg_skip rfl rfl ?_)
      refine sg_end ?_
      intro g4 w hg4
      intro hs
      refine wl_nil (wk_seq ?_)
      have hg04 := Ghost.tr hg03 hg4
      repeat (refine wc_seq ?_)
      refine wc_region ?_
      repeat (refine wl_p rfl rfl rfl ?_)
      refine wl_nil (wk_seq ?_)
      refine wc_cond rfl (fun q2 => ?_) (fun q2 => ?_)
      · have e2 : (lackingF (metF ls (withinF ls nodes on)) all pairs).1 = 3 := by
          have h9 : ((((lackingF (metF ls (withinF ls nodes on)) all pairs).1 : Nat) : Int) == 3) = true := q2
          have := eq_of_beq h9
          omega
        rw [if_pos e2] at hd
        cases hd
        repeat (refine wc_seq ?_)
        refine wc_region ?_
        repeat (refine wl_p rfl rfl rfl ?_)
        refine wl_st hs 0 rfl rfl rfl rfl rfl rfl rfl rfl ?_; clear hs; intro w hs
        repeat (refine wl_p rfl rfl rfl ?_)
        refine wl_st hs 0 rfl rfl rfl rfl rfl rfl rfl rfl ?_; clear hs; intro w hs
        refine wl_nil (wk_seq ?_)
        repeat (refine wc_seq ?_)
        refine wc_region ?_
        refine wl_ldW hs 0 rfl rfl rfl rfl rfl rfl rfl ?_
        refine wl_stN hs 1 rfl rfl rfl rfl rfl (Nat.le_of_ble_eq_true rfl) rfl rfl ?_; clear hs; intro w hs
        refine wl_nil (wk_seq ?_)
        refine wc_retV0 (resCN (k := 1) hs rfl rfl rfl rfl rfl rfl) ⟨g4, [], hg04, hs.drop.drop, rfl, _, rfl, ?_⟩
        show DropRn (f + 1) g4 [.int .i64 (((lackingF (metF ls (withinF ls nodes on)) all pairs).1 : Nat) : Int), .int .i64 (((lackingF (metF ls (withinF ls nodes on)) all pairs).2 : Nat) : Int), (.slice a1 nodes.length c1), .slice none 0 0, .slice none 0 0] _
        rw [e2]
        exact DropRn.close (d := .mk 3 (((lackingF (metF ls (withinF ls nodes on)) all pairs).2 : Nat) : Int) (nodes.map Int.ofNat) [] []) (h1.ofNat.mono hg04) (RS.nil _ _ _ _) (RS.nil _ _ _ _)
      · have e2 : ¬ (lackingF (metF ls (withinF ls nodes on)) all pairs).1 = 3 := by
          intro e
          have h9 : ((((lackingF (metF ls (withinF ls nodes on)) all pairs).1 : Nat) : Int) == 3) = false := q2
          rw [e] at h9
          simp at h9
        rw [if_neg e2] at hd
        obtain ⟨parts, hparts, hd⟩ : ∃ parts, compsR ls nodes on = some parts ∧ (if parts.length = 1 then
            (if (lackingF (metF ls (withinF ls nodes on)) all pairs).2 < pairs.length then (provedR n ls all pairs f nodes (withoutF ls on (pairs.getD (lackingF (metF ls (withinF ls nodes on)) all pairs).2 (0, 0)).1)).map fun e => .mk (lackingF (metF ls (withinF ls nodes on)) all pairs).1 (lackingF (metF ls (withinF ls nodes on)) all pairs).2 (nodes.map Int.ofNat) [] [e] else none)
          else if provOk n nodes parts (rankedF ls nodes on parts) = true then
            (allO ((rankedF ls nodes on parts).map fun r => provedR n ls all pairs f r on)).map fun ds => .mk 1 0 (nodes.map Int.ofNat) ((rkTo nodes (rankedF ls nodes on parts) (rankedF ls nodes on parts).length).map Int.ofNat) ds
          else none) = some d := by
          split at hd
          · cases hd
          · rename_i parts q; exact ⟨parts, q, hd⟩
        refine wc_skip (wk_seq ?_)
        repeat (refine wc_seq ?_)
        refine wc_region ?_
        refine wl_new hs rfl rfl rfl ?_; clear hs; intro tb w hs
        refine wl_nil (wk_seq ?_)
        repeat (refine wc_seq ?_)
        refine wc_region ?_
        repeat (refine wl_p rfl rfl rfl ?_)
        refine wl_ldGN hs ((hpb.mono (Ghost.tr hg3 hg4)).at') rfl rfl rfl rfl rfl rfl ?_
        refine wl_call (L := []) rfl rfl rfl hs (components_spec g4 _ _ _ _ n ls nodes on (hG.mono hg04) hv (h1.mono hg04) (h2.mono hg04) (h3.mono hg04) hlen hnl hn parts hparts) ?_
        rintro u g5 L' w hg5 hs ⟨rfl, caps, rfl, hit⟩
        have hg05 := Ghost.tr hg04 hg5
        have hg25 := Ghost.tr hg3 (Ghost.tr hg4 hg5)
        refine wl_nil (wk_seq ?_)
        replace hs := (show St g5 w ([(tb, cellsO [.slice none 0 0] 95)] ++ ((db, cellsO [.int .i64 0, .int .i64 0, (.slice a1 nodes.length c1), .slice none 0 0, .slice none 0 0] 31) :: (rb, cellsO [.int .i64 0, .int .i64 0, .slice none 0 0, .slice none 0 0, .slice none 0 0] 31) :: F)) from hs)
        have hpn2 : parts.length ≤ 4294967296 := by
          split at hd
          · omega
          · split at hd
            · rename_i q; have := (provOk_iff q).plen; omega
            · cases hd
        refine wc_block (wc_range (fun pre g' L => ∃ v cs H, L = (tb, cellsO [v] 95) :: H ∧ OwnS 22 1 v pre.length cs H ∧ ∀ (k : Nat) (v : Value) (c : List Nat), cs[k]? = some v → pre[k]? = some c → RS kNat g' v c) (fun c g' L => False) rfl hit hs rfl (fun g x vs ⟨v1, e, _⟩ => by rw [e]; rfl)
          (fun pre g g' L hle ⟨v, cs, H, e1, e2, e3⟩ => ⟨v, cs, H, e1, e2, fun k v c q1 q2 => (e3 k v c q1 q2).mono hle⟩) (fun c g g' L hle h => h) ⟨_, [], [], rfl, OwnS.nil _ _, fun k v c h => by simp at h⟩ ?_ ?_ ?_)
        · rintro l2 rc pre x post g6 w L1 F1 vs hready hpre ⟨v, cs, H, rfl, hown, hrd⟩ ⟨w1, rfl, hw1⟩ hg6 hs
          obtain ⟨aw, cw, rfl⟩ := hw1.form
          have hpl : pre.length + 1 ≤ parts.length := by rw [hpre]; simp
          have hcl : cs.length = pre.length := by have := hown.len; simpa using this
          refine wc_region ?_
          repeat (refine wl_p rfl rfl rfl ?_)
          refine wl_nil (wk_begin 0 hs rfl hready ?_)
          clear hs; intro w hs
          replace hs := (show St g6 w ((l2, .loop { rc with state := .busy }) :: (tb, cellsO [v] 95) :: (H ++ F1)) from hs)
          refine wc_block ?_
          repeat (refine wc_seq ?_)
          refine wc_region ?_
          refine wl_ldO hs 1 rfl rfl rfl rfl rfl rfl rfl ?_
          repeat (refine wl_p rfl rfl rfl ?_)
          replace hs := (show St g6 w (H ++ ((l2, .loop { rc with state := .busy }) :: (tb, cellsO [v] 95) :: F1)) from hs.perm (by classical exact List.perm_iff_count.2 fun x => by simp only [List.append_eq, List.set_cons_succ, List.set_cons_zero, List.eraseIdx_cons_zero, List.eraseIdx_cons_succ, List.count_cons, List.count_append, List.cons_append, List.nil_append, List.append_nil, List.append_assoc] <;> ac_rfl))
          refine wl_push hs hown (by omega) rfl rfl rfl rfl rfl rfl rfl rfl rfl rfl rfl rfl rfl rfl ?_
          intro v' w H' hown' hs
          replace hs := (show St g6 w ((l2, .loop { rc with state := .busy }) :: (tb, cellsO [v] 95) :: (H' ++ F1)) from hs.perm (by classical exact List.perm_iff_count.2 fun x => by simp only [List.append_eq, List.set_cons_succ, List.set_cons_zero, List.eraseIdx_cons_zero, List.eraseIdx_cons_succ, List.count_cons, List.count_append, List.cons_append, List.nil_append, List.append_nil, List.append_assoc] <;> ac_rfl))
          refine wl_st hs 1 rfl rfl rfl rfl rfl rfl hown'.one rfl ?_
          clear hs; intro w hs
          refine wl_nil (wk_blk (wk_nil fun _ _ => ⟨g6, (tb, cellsO [v'] 95) :: H', Ghost.rfl', hs, v', cs ++ [.slice aw x.length cw], H', rfl, by rw [List.length_append]; exact hown', ?_⟩))
          intro k u c q1 q2
          by_cases hk : k < pre.length
          · rw [List.getElem?_append_left (by omega)] at q1 q2
            exact hrd k u c q1 q2
          · have hk2 : k = pre.length := by
              have := (List.getElem?_eq_some_iff.1 q2).1
              simp at this
              omega
            subst hk2
            rw [List.getElem?_append_right (by omega)] at q1 q2
            simp [hcl] at q1 q2
            subst q1 q2
            exact hw1
        · rintro dk g6 w L' hg6 ⟨v, cs, H, rfl, hown, hrd⟩ hs
          have hcl : cs.length = parts.length := by have := hown.len; simpa using this
          have hg06 := Ghost.tr hg05 hg6
          have hg26 := Ghost.tr hg25 hg6
          replace hs := (show St g6 w (H ++ ((db, cellsO [.int .i64 0, .int .i64 0, (.slice a1 nodes.length c1), .slice none 0 0, .slice none 0 0] 31) :: (rb, cellsO [.int .i64 0, .int .i64 0, .slice none 0 0, .slice none 0 0, .slice none 0 0] 31) :: (tb, cellsO [v] 95) :: (dk, .deferred (some [])) :: F)) from hs.perm (by classical exact List.perm_iff_count.2 fun x => by simp only [List.append_eq, List.set_cons_succ, List.set_cons_zero, List.eraseIdx_cons_zero, List.eraseIdx_cons_succ, List.count_cons, List.count_append, List.cons_append, List.nil_append, List.append_nil, List.append_assoc] <;> ac_rfl))
          obtain ⟨g7, hg7, hs, hrp⟩ := OwnS.freeze (K := kSl kNat) (xs := parts) hown hs rfl (fun g' hg' k hk => by
            have hk2 : k < cs.length := by omega
            refine ⟨cs[k], ?_, (hrd k _ _ (List.getElem?_eq_getElem hk2) (List.getElem?_eq_getElem hk)).mono hg'⟩
            rw [show (kSl kNat).sz = 1 from rfl, Nat.mul_one, List.drop_eq_getElem_cons hk2]
            rfl)
          have hg07 := Ghost.tr hg06 hg7
          have hg27 := Ghost.tr hg26 hg7
          obtain ⟨av, cv, rfl⟩ := hrp.form
          refine wk_blk (wk_seq ?_)
          repeat (refine wc_seq ?_)
          refine wc_region ?_
          refine wl_ldO hs 2 rfl rfl rfl rfl rfl rfl rfl ?_
          repeat (refine wl_p rfl rfl rfl ?_)
          refine wl_nil (wk_seq ?_)
          refine wc_cond rfl (fun q3 => ?_) (fun q3 => ?_)
          · have e3 : parts.length = 1 := by
              have h9 : ((parts.length : Int) == 1) = true := q3
              have := eq_of_beq h9
              omega
            rw [if_pos e3] at hd
            obtain ⟨hk2, e, he, rfl⟩ : (lackingF (metF ls (withinF ls nodes on)) all pairs).2 < pairs.length ∧ ∃ e, provedR n ls all pairs f nodes (withoutF ls on (pairs.getD (lackingF (metF ls (withinF ls nodes on)) all pairs).2 (0, 0)).1) = some e ∧ d = .mk (lackingF (metF ls (withinF ls nodes on)) all pairs).1 (lackingF (metF ls (withinF ls nodes on)) all pairs).2 (nodes.map Int.ofNat) [] [e] := by
              split at hd
              · rename_i q
                obtain ⟨e, q1, q2⟩ := Option.map_eq_some_iff.1 hd
                exact ⟨q, e, q1, q2.symm⟩
              · cases hd
            have hgd : pairs.getD (lackingF (metF ls (withinF ls nodes on)) all pairs).2 (0, 0) = pairs[(lackingF (metF ls (withinF ls nodes on)) all pairs).2] := by simp [hk2]
            rw [hgd] at he
            obtain ⟨pb2, po2, rfl⟩ := hp.base hk2
            have hcp := (hp.mono hg07).enc hk2
            replace hs := (show St g7 w ((db, cellsO [.int .i64 0, .int .i64 0, (.slice a1 nodes.length c1), .slice none 0 0, .slice none 0 0] 31) :: (rb, cellsO [.int .i64 0, .int .i64 0, .slice none 0 0, .slice none 0 0, .slice none 0 0] 31) :: (tb, cellsO [.slice av parts.length cv] 95) :: (dk, .deferred (some [])) :: F) by assumption)
            repeat (refine wc_seq ?_)
            refine wc_draw 10 [] pp_mix (by kernel_rfl) rfl hs ?_
            repeat (first | refine sg_p rfl rfl ?_ | refine sg_skip rfl rfl ?_)
            refine sg_callK [] [] rfl rfl rfl (fun g' hg' => met_spec g' _ _ n ls (withinF ls nodes on) (hG.mono (Ghost.tr hg07 hg')) hv (hrl.mono (Ghost.tr (Ghost.tr hg4 (Ghost.tr hg5 (Ghost.tr hg6 hg7))) hg')) (withinF_len hv.len hnl) (fun i hi => withinF_lt hi)) (fun _ _ _ h => h) ?_
            refine sg_ldGN ((hwx.mono hg27).at') rfl rfl rfl rfl rfl ?_
            refine sg_callK [] [] rfl rfl rfl (fun g' hg' => lacking_spec g' _ _ _ all pairs hml (ha.mono (Ghost.tr hg07 hg')) (hp.mono (Ghost.tr hg07 hg')) hw) (fun _ _ _ h => h) ?_
            repeat (first | refine sg_p rfl rfl ?_ | refine sg_skip rfl rfl ?_)
            refine sg_end ?_
            intro g8 w hg8
            intro hs
            refine wl_nil (wk_seq ?_)
            have hg08 := Ghost.tr hg07 hg8
            have hg28 := Ghost.tr hg27 hg8
            repeat (refine wc_seq ?_)
            refine wc_region ?_
            repeat (refine wl_p rfl rfl rfl ?_)
            refine wl_st hs 0 rfl rfl rfl rfl rfl rfl rfl rfl ?_; clear hs; intro w hs
            repeat (refine wl_p rfl rfl rfl ?_)
            refine wl_st hs 0 rfl rfl rfl rfl rfl rfl rfl rfl ?_; clear hs; intro w hs
            refine wl_nil (wk_seq ?_)
            repeat (refine wc_seq ?_)
            refine wc_region ?_
            refine wl_ldGN hs ((hpb.mono hg28).at') rfl rfl rfl rfl rfl rfl ?_
            refine wl_new hs rfl rfl rfl ?_; clear hs; intro qb w hs
            refine wl_stN hs 0 rfl rfl rfl rfl rfl (Nat.le_of_ble_eq_true rfl) rfl rfl ?_; clear hs; intro w hs
            refine wl_nil (wk_seq ?_)
            repeat (refine wc_seq ?_)
            refine wc_draw 11 [] pp_mix (by kernel_rfl) rfl hs ?_
            repeat (first | refine sg_p rfl rfl ?_ | refine sg_skip rfl rfl ?_)
            refine sg_ldG (hpb.mono hg28 2 _ rfl) rfl rfl rfl rfl ?_
            repeat (first | refine sg_p rfl rfl ?_ | refine sg_skip rfl rfl ?_)
            refine sg_ldG (hwx.mono hg28 1 _ rfl) rfl rfl rfl rfl ?_
            repeat (first | refine sg_p rfl rfl ?_ | refine sg_skip rfl rfl ?_)
            refine sg_ix rfl rfl rfl rfl rfl (by omega) (⟨pb2, po2, rfl⟩) rfl ?_
            refine sg_ixA rfl rfl rfl rfl rfl (by omega) rfl ?_
            refine sg_ldG (hcp.mono hg8 0 _ rfl) rfl rfl rfl rfl ?_
            refine sg_call (post := fun g' L' r => L' = [] ∧ RS kBool g' r (withoutF ls on pairs[(lackingF (metF ls (withinF ls nodes on)) all pairs).2].1)) [] [] rfl rfl rfl (fun g' hg' => without_spec g' _ _ n pairs[(lackingF (metF ls (withinF ls nodes on)) all pairs).2].1 ls on (hG.mono (Ghost.tr hg08 hg')) hv (h3.mono (Ghost.tr hg08 hg')) hlen) ?_
            repeat (first | refine sg_p rfl rfl ?_ | refine sg_skip rfl rfl ?_)
            refine sg_end ?_
            intro g9 w hg9
            rintro vo L1 ⟨g9', hg9', rfl, hro⟩ hs
            replace hro := hro.mono hg9'
            have hg09 := Ghost.tr hg08 hg9
            have hg29 := Ghost.tr hg28 hg9
            obtain ⟨avo, cvo, rfl⟩ := hro.form
            refine wl_st hs 0 rfl rfl rfl rfl rfl rfl rfl rfl ?_; clear hs; intro w hs
            refine wl_nil (wk_seq ?_)
            repeat (refine wc_seq ?_)
            refine wc_region ?_
            repeat (refine wl_p rfl rfl rfl ?_)
            refine wl_ldW hs 0 rfl rfl rfl rfl rfl rfl rfl ?_
            refine wl_ldGN hs ((hwx.mono hg29).at') rfl rfl rfl rfl rfl rfl ?_
            refine wl_call (L := []) rfl rfl rfl hs (ih g9 _ _ _ _ _ _ nodes (withoutF ls on pairs[(lackingF (metF ls (withinF ls nodes on)) all pairs).2].1) e he (hG.mono hg09) (ha.mono hg09) (hp.mono hg09) (h1.mono hg09) (h2.mono hg09) hro (by simp [withoutF]) hnl hn) ?_
            rintro u g10 L' w hg10 hs ⟨rfl, cs5, rfl, hdr⟩
            have hg010 := Ghost.tr hg09 hg10
            obtain ⟨b1, b2, b3, b4, b5, rfl, hone⟩ := hdr.cells5
            refine wl_lit (ps := [(0, .tmp 88)]) hs rfl rfl rfl rfl rfl rfl rfl rfl rfl rfl ?_
            clear hs; intro xb w hs
            repeat (refine wl_p rfl rfl rfl ?_)
            refine wl_st hs 2 rfl rfl rfl rfl rfl rfl rfl rfl ?_; clear hs; intro w hs
            obtain ⟨g11, hg11, hs, hxb⟩ := freezeB hs
            have hg011 := Ghost.tr hg010 hg11
            refine wl_nil (wk_seq ?_)
            repeat (refine wc_seq ?_)
            refine wc_region ?_
            refine wl_ldW hs 1 rfl rfl rfl rfl rfl rfl rfl ?_
            refine wl_stN hs 2 rfl rfl rfl rfl rfl (Nat.le_of_ble_eq_true rfl) rfl rfl ?_; clear hs; intro w hs
            refine wl_nil (wk_seq ?_)
            refine wc_retM 4 hs rfl fun w' hs => ⟨_, resCN (k := 2) hs rfl rfl rfl rfl rfl rfl, g11, [], hg011, hs.drop.drop.drop.drop, rfl, _, rfl, ?_⟩
            refine DropRn.close (d := .mk (((lackingF (metF ls (withinF ls nodes on)) all pairs).1 : Nat) : Int) (((lackingF (metF ls (withinF ls nodes on)) all pairs).2 : Nat) : Int) (nodes.map Int.ofNat) [] [e]) (h1.ofNat.mono hg011) (RS.nil _ _ _ _) (RS.mk' rfl hxb fun i hi => ?_)
            have : i = 0 := by simp [Drop.l] at hi; omega
            subst this
            exact DropRn.mono hg11 hdr
          · have e3 : ¬ parts.length = 1 := by
              intro e
              have h9 : ((parts.length : Int) == 1) = false := q3
              rw [e] at h9
              simp at h9
            rw [if_neg e3] at hd
            obtain ⟨hpo, ds, hds, rfl⟩ : provOk n nodes parts (rankedF ls nodes on parts) = true ∧ ∃ ds, allO ((rankedF ls nodes on parts).map fun r => provedR n ls all pairs f r on) = some ds ∧ d = .mk 1 0 (nodes.map Int.ofNat) ((rkTo nodes (rankedF ls nodes on parts) (rankedF ls nodes on parts).length).map Int.ofNat) ds := by
              split at hd
              · rename_i q
                obtain ⟨ds, q1, q2⟩ := Option.map_eq_some_iff.1 hd
                exact ⟨q, ds, q1, q2.symm⟩
              · cases hd
            have hPO := provOk_iff hpo
            obtain ⟨hdl, hdat⟩ := allO_some hds
            rw [List.length_map] at hdl
            replace hs := (show St g7 w ((db, cellsO [.int .i64 0, .int .i64 0, (.slice a1 nodes.length c1), .slice none 0 0, .slice none 0 0] 31) :: (rb, cellsO [.int .i64 0, .int .i64 0, .slice none 0 0, .slice none 0 0, .slice none 0 0] 31) :: (tb, cellsO [.slice av parts.length cv] 95) :: (dk, .deferred (some [])) :: F) from hs)
            refine wc_skip (wk_seq ?_)
            repeat (refine wc_seq ?_)
            refine wc_region ?_
            repeat (refine wl_p rfl rfl rfl ?_)
            refine wl_st hs 0 rfl rfl rfl rfl rfl rfl rfl rfl ?_; clear hs; intro w hs
            refine wl_nil (wk_seq ?_)
            repeat (refine wc_seq ?_)
            refine wc_region ?_
            repeat (refine wl_p rfl rfl rfl ?_)
            refine wl_ldGN hs ((hpb.mono hg27).at') rfl rfl rfl rfl rfl rfl ?_
            refine wl_ldO hs 2 rfl rfl rfl rfl rfl rfl rfl ?_
            refine wl_call (L := []) rfl rfl rfl hs (ranked_spec g7 _ _ _ _ _ n ls nodes on parts (hG.mono hg07) hv (h1.mono hg07) (h2.mono hg07) (h3.mono hg07) hrp hlen hPO.parts_ hPO.plen hPO.pflat) ?_
            rintro vr g8 L' w hg8 hs ⟨rfl, hrr⟩
            have hg08 := Ghost.tr hg07 hg8
            have hg28 := Ghost.tr hg27 hg8
            have hrs_ := hPO.rs_
            have hrlen := hPO.rlen
            have hdat2 : ∀ i (h : i < (rankedF ls nodes on parts).length) (h' : i < ds.length), provedR n ls all pairs f (rankedF ls nodes on parts)[i] on = some ds[i] := fun i h h' => by
              have := hdat i (by simpa using h) h'
              simpa using this
            clear hdat hds hd
            generalize rankedF ls nodes on parts = rs at *
            obtain ⟨ar, cr, rfl⟩ := hrr.form
            repeat (refine wl_p rfl rfl rfl ?_)
            refine wl_nil (wk_seq ?_)
            repeat (refine wc_seq ?_)
            refine wc_region ?_
            repeat (refine wl_p rfl rfl rfl ?_)
            refine wl_ldG hs (hpb.mono hg28 0 _ rfl) rfl rfl rfl rfl rfl ?_
            repeat (refine wl_p rfl rfl rfl ?_)
            refine wl_make hs rfl (by omega) rfl rfl rfl rfl rfl rfl rfl ?_
            clear hs; intro kb w hs
            have hz : (List.replicate ((nodes.length : Nat) : Int).toNat (TE.zcells ⟨.int .i64, [.int .i64], 8⟩)).flatten = (rkTo nodes rs 0).map fun (x : Nat) => Value.int .i64 (x : Int) := by
              rw [zero_ints]
              simp [rkTo, List.map_const']
            replace hs := (show St g8 w ((kb, cellsO ((rkTo nodes rs 0).map fun (x : Nat) => Value.int .i64 (x : Int)) 3) :: (db, cellsO [.int .i64 1, .int .i64 0, (.slice a1 nodes.length c1), .slice none 0 0, .slice none 0 0] 31) :: (rb, cellsO [.int .i64 0, .int .i64 0, .slice none 0 0, .slice none 0 0, .slice none 0 0] 31) :: (tb, cellsO [.slice av parts.length cv] 95) :: (dk, .deferred (some [])) :: F) by rw [← hz]; exact hs)
            repeat (refine wl_p rfl rfl rfl ?_)
            refine wl_st hs 1 rfl rfl rfl rfl rfl rfl rfl rfl ?_; clear hs; intro w hs
            refine wl_nil (wk_seq ?_)
            rw [Int.toNat_natCast] at hs
            repeat (refine wc_seq ?_)
            refine wc_region ?_
            repeat (refine wl_p rfl rfl rfl ?_)
            refine wl_nil (wk_seq ?_)
            have hrl2 : rs.length ≤ 4611686018427387904 := by omega
            refine wc_for rs.length (fun _ (_ : Unit) => [(103, .int .i64 rs.length), (102, .slice ar rs.length cr), (0, (.pointer (some ⟨gb, 0, none⟩))), (4, .pointer (some ⟨pb, 0, none⟩)), (5, .pointer (some ⟨wx, 0, none⟩)), (6, .pointer (some ⟨rb, 0, none⟩)), (7, .pointer (some ⟨db, 0, none⟩))])
              (fun i (_ : Unit) w => ∃ g' vL cL HL, g8 ≤ g' ∧ OwnS 31 5 vL i cL HL ∧ (∀ k (hk : k < i) (hk' : k < ds.length), DropRn f g' ((cL.drop (k * 5)).take 5) ds[k]) ∧ St g' w ((kb, cellsO ((rkTo nodes rs i).map fun (x : Nat) => Value.int .i64 (x : Int)) 3) :: (db, cellsO [.int .i64 1, .int .i64 0, (.slice a1 nodes.length c1), .slice (some ⟨kb, 0, none⟩) nodes.length nodes.length, vL] 31) :: (rb, cellsO [.int .i64 0, .int .i64 0, .slice none 0 0, .slice none 0 0, .slice none 0 0] 31) :: (tb, cellsO [.slice av parts.length cv] 95) :: (dk, .deferred (some [])) :: (HL ++ F))) () hrl2 (by repeat (first | exact trivial | refine ⟨rfl, ?_⟩))
              ⟨g8, _, [], [], Ghost.rfl', OwnS.nil _ _, fun k hk => by omega, hs⟩ (fun _ _ => rfl) rfl rfl rfl ?_ ?_ (fun _ _ => rfl) rfl
            · rintro i _ w hi ⟨g9, vL, cL, HL, hg9, hoL, hdL, hs⟩
              have hg09 := Ghost.tr hg08 hg9
              have hg29 := Ghost.tr hg28 hg9
              have hbR := hrr.base hi
              obtain ⟨pa, pc, hcR, hRR⟩ := (hrr.mono hg9).sl hi
              obtain ⟨hrn, hrl5⟩ := hrs_ _ (List.getElem_mem hi)
              have hid : i < ds.length := by omega
              have hpr := hdat2 i hi hid
              have hrk := rkTo_succ nodes rs i hi
              have hrkl := rkTo_length nodes rs i (by omega)
              generalize rs[i] = r at hcR hRR hrn hrl5 hpr hrk
              generalize rkTo nodes rs i = rk at hs hrk hrkl
              have hrl6 : r.length ≤ 4611686018427387904 := by omega
              repeat (refine wc_seq ?_)
              refine wc_region ?_
              repeat (refine wl_p rfl rfl rfl ?_)
              refine wl_ix rfl rfl rfl rfl rfl (by omega) (hbR) rfl rfl ?_
              refine wl_ldG hs (hcR) rfl rfl rfl rfl rfl ?_
              repeat (refine wl_p rfl rfl rfl ?_)
              refine wl_nil (wk_seq ?_)
              repeat (refine wc_seq ?_)
              refine wc_region ?_
              repeat (refine wl_p rfl rfl rfl ?_)
              refine wl_nil (wk_seq ?_)
              refine wc_for r.length (fun _ (_ : Unit) => [(110, .int .i64 r.length), (109, .slice pa r.length pc), (18, .slice pa r.length pc), (17, .int .i64 (i : Int)), (104, .int .i64 (i : Int)), (103, .int .i64 rs.length), (102, .slice ar rs.length cr), (0, (.pointer (some ⟨gb, 0, none⟩))), (4, .pointer (some ⟨pb, 0, none⟩)), (5, .pointer (some ⟨wx, 0, none⟩)), (6, .pointer (some ⟨rb, 0, none⟩)), (7, .pointer (some ⟨db, 0, none⟩))])
                (fun j (_ : Unit) w => ∃ g', g9 ≤ g' ∧ St g' w ((kb, cellsO ((rankRow nodes rk (r.take j) i).map fun (x : Nat) => Value.int .i64 (x : Int)) 3) :: (db, cellsO [.int .i64 1, .int .i64 0, (.slice a1 nodes.length c1), .slice (some ⟨kb, 0, none⟩) nodes.length nodes.length, vL] 31) :: (rb, cellsO [.int .i64 0, .int .i64 0, .slice none 0 0, .slice none 0 0, .slice none 0 0] 31) :: (tb, cellsO [.slice av parts.length cv] 95) :: (dk, .deferred (some [])) :: (HL ++ F))) () hrl6 (by repeat (first | exact trivial | refine ⟨rfl, ?_⟩))
                ⟨g9, Ghost.rfl', hs⟩ (fun _ _ => rfl) rfl rfl rfl ?_ ?_ (fun _ _ => rfl) rfl
              · rintro j _ w hj ⟨g10, hg10, hs⟩
                have hg010 := Ghost.tr hg09 hg10
                have hbj := hRR.base hj
                have hcj := (hRR.mono hg10).nat hj
                obtain ⟨hx1, hx2⟩ := hrn _ (List.getElem_mem hj)
                have hsn : rankRow nodes rk (r.take (j + 1)) i = (rankRow nodes rk (r.take j) i).set (ixIn nodes r[j]) i := by rw [take_snoc hj, rankRow_snoc]
                have hrrl := rankRow_length nodes (r.take j) i rk
                generalize r[j] = x at hcj hx1 hx2 hsn
                generalize rankRow nodes rk (r.take j) i = rk2 at hs hsn hrrl
                repeat (refine wc_seq ?_)
                refine wc_region ?_
                refine wl_ix rfl rfl rfl rfl rfl (by omega) (hbj) rfl rfl ?_
                refine wl_ldG hs (hcj) rfl rfl rfl rfl rfl ?_
                repeat (refine wl_p rfl rfl rfl ?_)
                refine wl_nil (wk_seq ?_)
                repeat (refine wc_seq ?_)
                refine wc_region ?_
                repeat (refine wl_p rfl rfl rfl ?_)
                refine wl_ldG hs (hpb.mono (Ghost.tr hg29 hg10) 0 _ rfl) rfl rfl rfl rfl rfl ?_
                repeat (refine wl_p rfl rfl rfl ?_)
                refine wl_call (L := []) rfl rfl rfl hs (search_spec g10 _ nodes x (h1.mono hg010) (by omega) hPO.sorted) ?_
                rintro u g11 L' w hg11 hs ⟨rfl, rfl⟩
                repeat (refine wl_p rfl rfl rfl ?_)
                refine wl_nil (wk_seq ?_)
                repeat (refine wc_seq ?_)
                refine wc_region ?_
                repeat (refine wl_p rfl rfl rfl ?_)
                refine wl_ldO hs 1 rfl rfl rfl rfl rfl rfl rfl ?_
                repeat (refine wl_p rfl rfl rfl ?_)
                refine wl_ixJ (ixIn nodes x) rfl rfl rfl rfl rfl hx2 rfl rfl rfl ?_
                refine wl_st (u := .int .i64 ((rk2[ixIn nodes x]'(by omega) : Nat) : Int)) hs 0 rfl rfl rfl (by simp [show ixIn nodes x < rk2.length by omega]) rfl rfl rfl rfl ?_
                clear hs; intro w hs
                refine wl_nil (wk_blk (wk_next () hj hrl6 ⟨g11, Ghost.tr hg10 hg11, ?_⟩ rfl rfl rfl (by repeat (first | exact trivial | refine ⟨rfl, ?_⟩))))
                rw [hsn, List.map_set]
                exact hs
              · rintro _ w ⟨g10, hg10, hs⟩
                rw [List.take_length, ← hrk] at hs
                have hg010 := Ghost.tr hg09 hg10
                refine wk_seq ?_
                repeat (refine wc_seq ?_)
                refine wc_region ?_
                repeat (refine wl_p rfl rfl rfl ?_)
                refine wl_ldG hs (hpb.mono (Ghost.tr hg29 hg10) 2 _ rfl) rfl rfl rfl rfl rfl ?_
                refine wl_call (L := []) rfl rfl rfl hs (newPiece_spec g10 _ _ _ n ls r (hG.mono hg010) hv (hRR.mono hg10) hrl6 ⟨_, _, _, rfl⟩ (fun x hx => (hrn x hx).1)) ?_
                rintro u g11 L' w hg11 hs ⟨rfl, v2', rfl, hr2⟩
                have hg011 := Ghost.tr hg010 hg11
                have hg911 := Ghost.tr hg10 hg11
                have hg211 := Ghost.tr hg29 hg911
                obtain ⟨a22, c22, rfl⟩ := hr2.form
                refine wl_new hs rfl rfl rfl ?_; clear hs; intro qb w hs
                refine wl_stN hs 0 rfl rfl rfl rfl rfl (Nat.le_of_ble_eq_true rfl) rfl rfl ?_; clear hs; intro w hs
                refine wl_nil (wk_seq ?_)
                replace hs := (show St g11 w (HL ++ ((qb, cellsO [.slice pa r.length pc, .slice a22 (inF n r).length c22, (.slice a3 on.length c3)] 65) :: (kb, cellsO ((rkTo nodes rs (i + 1)).map fun (x : Nat) => Value.int .i64 (x : Int)) 3) :: (db, cellsO [.int .i64 1, .int .i64 0, (.slice a1 nodes.length c1), .slice (some ⟨kb, 0, none⟩) nodes.length nodes.length, vL] 31) :: (rb, cellsO [.int .i64 0, .int .i64 0, .slice none 0 0, .slice none 0 0, .slice none 0 0] 31) :: (tb, cellsO [.slice av parts.length cv] 95) :: (dk, .deferred (some [])) :: F)) from St.perm (show St g11 w ((qb, cellsO [.slice pa r.length pc, .slice a22 (inF n r).length c22, (.slice a3 on.length c3)] 65) :: (kb, cellsO ((rkTo nodes rs (i + 1)).map fun (x : Nat) => Value.int .i64 (x : Int)) 3) :: (db, cellsO [.int .i64 1, .int .i64 0, (.slice a1 nodes.length c1), .slice (some ⟨kb, 0, none⟩) nodes.length nodes.length, vL] 31) :: (rb, cellsO [.int .i64 0, .int .i64 0, .slice none 0 0, .slice none 0 0, .slice none 0 0] 31) :: (tb, cellsO [.slice av parts.length cv] 95) :: (dk, .deferred (some [])) :: (HL ++ F)) from hs) (by classical exact List.perm_iff_count.2 fun x => by simp only [List.append_eq, List.set_cons_succ, List.set_cons_zero, List.eraseIdx_cons_zero, List.eraseIdx_cons_succ, List.count_cons, List.count_append, List.cons_append, List.nil_append, List.append_nil, List.append_assoc] <;> ac_rfl))
                repeat (refine wc_seq ?_)
                refine wc_draw 9 HL pp_mix (by kernel_rfl) rfl hs ?_
                repeat (first | refine sg_p rfl rfl ?_ | refine sg_skip rfl rfl ?_)
                refine sg_ldO 2 rfl rfl rfl rfl rfl rfl ?_
                repeat (first | refine sg_p rfl rfl ?_ | refine sg_skip rfl rfl ?_)
                refine sg_ldW 0 rfl rfl rfl rfl rfl rfl ?_
                refine sg_ldGN ((hwx.mono hg211).at') rfl rfl rfl rfl rfl ?_
                refine sg_call (post := fun g' L' r => L' = [] ∧ ∃ cs : List Value, r = .agg cs.toArray ∧ DropRn f g' cs ds[i]) [] HL rfl rfl rfl (fun g' hg' => ih g' _ _ _ _ _ _ r on ds[i] hpr (hG.mono (Ghost.tr hg011 hg')) (ha.mono (Ghost.tr hg011 hg')) (hp.mono (Ghost.tr hg011 hg')) (hRR.mono (Ghost.tr hg911 hg')) (hr2.mono hg') (h3.mono (Ghost.tr hg011 hg')) hlen hrl5 (fun x hx => (hrn x hx).1)) ?_
                refine sg_oneW (ψ := fun g cs => DropRn f g cs ds[i]) (fun g g' ys hle h => DropRn.mono hle h) rfl rfl (fun g v L' ⟨g1, hle, hL, ys, hv, hdr⟩ => by
                  obtain ⟨b1, b2, b3, b4, b5, rfl, hone⟩ := hdr.cells5
                  exact ⟨_, hv, hL, DropRn.mono hle hdr, rfl, hone⟩) rfl rfl rfl rfl (fun _ => rfl) ?_
                refine sg_pushW (ψ := fun g cs => DropRn f g cs ds[i]) (fun g g' ys hle h => DropRn.mono hle h) HL [] (List.append_nil _).symm hoL (by omega) rfl rfl rfl rfl rfl rfl rfl rfl rfl rfl (fun _ => rfl) ?_
                repeat (first | refine sg_p rfl rfl ?_ | refine sg_skip rfl rfl ?_)
                refine sg_end ?_
                intro g12 w hg12
                rintro _ _ ⟨_, _, rfl, _⟩ _ _ ⟨_, _, _, _, rfl, rfl, _⟩ vL' HL' ⟨g13, hg13, ys, hoL', hψ, hl5⟩ hs
                replace hs := (show St g12 w ((qb, cellsO [.slice pa r.length pc, .slice a22 (inF n r).length c22, (.slice a3 on.length c3)] 65) :: (kb, cellsO ((rkTo nodes rs (i + 1)).map fun (x : Nat) => Value.int .i64 (x : Int)) 3) :: (db, cellsO [.int .i64 1, .int .i64 0, (.slice a1 nodes.length c1), .slice (some ⟨kb, 0, none⟩) nodes.length nodes.length, vL] 31) :: (rb, cellsO [.int .i64 0, .int .i64 0, .slice none 0 0, .slice none 0 0, .slice none 0 0] 31) :: (tb, cellsO [.slice av parts.length cv] 95) :: (dk, .deferred (some [])) :: (HL' ++ F)) from St.perm (show St g12 w (HL' ++ [] ++ ((qb, cellsO [.slice pa r.length pc, .slice a22 (inF n r).length c22, (.slice a3 on.length c3)] 65) :: (kb, cellsO ((rkTo nodes rs (i + 1)).map fun (x : Nat) => Value.int .i64 (x : Int)) 3) :: (db, cellsO [.int .i64 1, .int .i64 0, (.slice a1 nodes.length c1), .slice (some ⟨kb, 0, none⟩) nodes.length nodes.length, vL] 31) :: (rb, cellsO [.int .i64 0, .int .i64 0, .slice none 0 0, .slice none 0 0, .slice none 0 0] 31) :: (tb, cellsO [.slice av parts.length cv] 95) :: (dk, .deferred (some [])) :: F)) from hs) (by classical exact List.perm_iff_count.2 fun x => by simp only [List.append_eq, List.set_cons_succ, List.set_cons_zero, List.eraseIdx_cons_zero, List.eraseIdx_cons_succ, List.count_cons, List.count_append, List.cons_append, List.nil_append, List.append_nil, List.append_assoc] <;> ac_rfl))
                refine wl_st hs 2 rfl rfl rfl rfl rfl rfl hoL'.one rfl ?_
                clear hs; intro w hs
                have hcl : cL.length = i * 5 := hoL.len
                refine wl_nil (wk_blk (wk_next () hi hrl2 ⟨g12, vL', cL ++ ys, HL', Ghost.tr hg9 (Ghost.tr hg911 hg12), hoL', fun k hk hk' => ?_, hs.drop⟩ rfl rfl rfl (by repeat (first | exact trivial | refine ⟨rfl, ?_⟩))))
                by_cases hki : k < i
                · rw [List.drop_append_of_le_length (by omega), List.take_append_of_le_length (by rw [List.length_drop]; omega)]
                  exact DropRn.mono (Ghost.tr hg911 hg12) (hdL k hki hk')
                · have : k = i := by omega
                  subst this
                  rw [← hcl, List.drop_left, List.take_of_length_le (by rw [hl5]; exact Nat.le_refl _)]
                  exact DropRn.mono hg13 hψ
            · rintro _ w ⟨g9, vL, cL, HL, hg9, hoL, hdL, hs⟩
              have hg09 := Ghost.tr hg08 hg9
              have hrkl := rkTo_length nodes rs rs.length (Nat.le_refl _)
              obtain ⟨g10, hg10, hs, hkb⟩ := freezeB hs
              replace hs := (show St g10 w (HL ++ ((db, cellsO [.int .i64 1, .int .i64 0, (.slice a1 nodes.length c1), .slice (some ⟨kb, 0, none⟩) nodes.length nodes.length, vL] 31) :: (rb, cellsO [.int .i64 0, .int .i64 0, .slice none 0 0, .slice none 0 0, .slice none 0 0] 31) :: (tb, cellsO [.slice av parts.length cv] 95) :: (dk, .deferred (some [])) :: F)) from hs.perm (by classical exact List.perm_iff_count.2 fun x => by simp only [List.append_eq, List.set_cons_succ, List.set_cons_zero, List.eraseIdx_cons_zero, List.eraseIdx_cons_succ, List.count_cons, List.count_append, List.cons_append, List.nil_append, List.append_nil, List.append_assoc] <;> ac_rfl))
              obtain ⟨g11, hg11, hs, hrL⟩ := OwnS.freeze (K := kDrop f) (xs := ds) hoL hs hdl.symm (fun g' hg' k hk => DropRn.mono (Ghost.tr hg10 hg') (hdL k (by omega) hk))
              have hg011 := Ghost.tr hg09 (Ghost.tr hg10 hg11)
              obtain ⟨aL, cLL, rfl⟩ := hrL.form
              refine wk_seq ?_
              repeat (refine wc_seq ?_)
              refine wc_region ?_
              refine wl_ldW hs 0 rfl rfl rfl rfl rfl rfl rfl ?_
              refine wl_stN hs 1 rfl rfl rfl rfl rfl (Nat.le_of_ble_eq_true rfl) rfl rfl ?_; clear hs; intro w hs
              refine wl_nil (wk_seq ?_)
              refine wc_retM 3 hs rfl fun w' hs => ⟨_, resCN (k := 1) hs rfl rfl rfl rfl rfl rfl, g11, [], hg011, hs.drop.drop.drop, rfl, _, rfl, ?_⟩
              refine DropRn.close (d := .mk 1 0 (nodes.map Int.ofNat) ((rkTo nodes rs rs.length).map Int.ofNat) ds) (h1.ofNat.mono hg011) ?_ hrL
              have := RS.mk' (K := kNat) (cap := nodes.length) (xs := rkTo nodes rs rs.length) (n := nodes.length) (g := g11) hrkl.symm (hkb.mono hg11) (fun k hk => by
                show _ = [Value.int .i64 _]
                rw [show kNat.sz = 1 from rfl, Nat.mul_one, List.drop_eq_getElem_cons (by simpa using hk)]
                simp)
              exact this.ofNat
        · rintro dk cd g6 w L' hg6 h hs
          exact h.elim
end Go.Proofs.YtnanffbjmfgafaaGreat.S
namespace Go.Proofs.YtnanffbjmfgafaaGreat.S
open Go.RowKit
section
variable {P : Program} [Tabbed P] {ρ : Env} {w : World} {g : Ghost} {L : Own}
theorem resCTT {fn : Func} {t1 t2 t3 : Tmp} {ty1 E1 b1 k1 : Nat} {l1 : List Value} {v2 v3 : Value} {te1 : TE} (hs : St g w L) (h : fn.results = #[.cell t1 ty1, .tmp t2, .tmp t3])
    (h1 : look ρ t1 = some (.pointer (some ⟨b1, 0, none⟩))) (h2 : look ρ t2 = some v2) (h3 : look ρ t3 = some v3)
    (hk1 : L[k1]? = some (b1, cellsO l1 E1)) (ht1 : tabAt (tb P) ty1 = some te1) (hA1 : te1.td.isAgg = true) (hl : l1.length = te1.zs.length) : ResV P fn ρ w (.tuple #[.agg l1.toArray, v2, v3]) := fun _ _ a ha => by
  have c1 := run_loadVarN (P := P) w ht1 hA1 (a := ⟨b1, 0, none⟩) hl (fun j v hv => by rw [addr_add]; exact hs.cellL (mem_of_at hk1) (by simpa using hv))
  simp only [results, h]; simp [getD_of ha h1, getD_of ha h2, getD_of ha h3, asAddr, c1]
end
def noDrop : Drop := .mk 0 0 [] [] []
def proveI (f : Nat) (n : Int) (init : List Int) (ls : List ArrowI) (all : List Int) (pairs : List (Int × Int)) : Option (Option Drop × Int) :=
  match findI n init ls all pairs with
  | none => none
  | some (r, e) => if (r.isSome || e != 0) = true then some (none, e)
    else match reachR n.toNat (ls.map toA) (init.map Int.toNat) with
      | none => none
      | some reached => (provedR n.toNat (ls.map toA) (all.map Int.toNat) (pairs.map toP) f reached (List.replicate (ls.map toA).length true)).map fun d => (some d, 0)
theorem Prove_spec (f : Nat) (g : Ghost) (n : Int) (vi vl va vp : Value) (init : List Int) (ls : List ArrowI) (all : List Int) (pairs : List (Int × Int)) (hi : RS kInt g vi init) (hl : RS kArrI g vl ls) (ha : RS kInt g va all) (hp : RS kPairI g vp pairs)
    (hi0 : init.length ≤ 4611686018427387904) (hl0 : ls.length ≤ 4611686018427387904) (ha0 : all.length ≤ 4611686018427387904) (hp0 : pairs.length ≤ 4611686018427387904) (o : Option Drop × Int) (ho : proveI (f + 1) n init ls all pairs = some o) :
    Cl PP 9 [.int .i64 n, vi, vl, .agg #[va, vp]] g [] fun g' L' r => L' = [] ∧ ∃ cs : List Value, r = .tuple #[.agg cs.toArray, .bool o.1.isSome, .int .i64 o.2] ∧ DropRn (f + 1) g' cs (o.1.getD noDrop) := by
  obtain ⟨a1, c1, rfl⟩ := hi.form
  obtain ⟨a2, c2, rfl⟩ := hl.form
  obtain ⟨rr, ee, hfind, ho⟩ : ∃ r e, findI n init ls all pairs = some (r, e) ∧ (if (r.isSome || e != 0) = true then some (none, e)
    else match reachR n.toNat (ls.map toA) (init.map Int.toNat) with
      | none => none
      | some reached => (provedR n.toNat (ls.map toA) (all.map Int.toNat) (pairs.map toP) (f + 1) reached (List.replicate (ls.map toA).length true)).map fun d => (some d, 0)) = some o := by
    unfold proveI at ho
    split at ho
    · cases ho
    · rename_i r e q; exact ⟨r, e, q, ho⟩
  refine cl_intro Tryz.func9 rfl rfl Tryz.ntmps9 rfl ?_
  intro w F hs
  repeat (refine wc_seq ?_)
  refine wc_region ?_
  refine wl_box hs rfl rfl rfl rfl ?_; clear hs; intro wx w hs
  refine wl_new hs rfl rfl rfl ?_; clear hs; intro rb w hs
  repeat (refine wl_p rfl rfl rfl ?_)
  refine wl_nil (wk_seq ?_)
  replace hs := (show St g w ((wx, cellsO [va, vp] 26) :: (rb, cellsO [.int .i64 0, .int .i64 0, .slice none 0 0, .slice none 0 0, .slice none 0 0] 31) :: F) from St.perm (show St g w ((rb, cellsO [.int .i64 0, .int .i64 0, .slice none 0 0, .slice none 0 0, .slice none 0 0] 31) :: (wx, cellsO [va, vp] 26) :: F) from hs) (by classical exact List.perm_iff_count.2 fun x => by simp only [List.append_eq, List.set_cons_succ, List.set_cons_zero, List.eraseIdx_cons_zero, List.eraseIdx_cons_succ, List.count_cons, List.count_append, List.cons_append, List.nil_append, List.append_nil, List.append_assoc] <;> ac_rfl))
  obtain ⟨g1, hg1, hs, hwx⟩ := freezeB hs
  repeat (refine wc_seq ?_)
  refine wc_region ?_
  repeat (refine wl_p rfl rfl rfl ?_)
  refine wl_ldGN hs (hwx.at') rfl rfl rfl rfl rfl rfl ?_
  refine wl_call (L := []) rfl rfl rfl hs (Find_spec g1 n _ _ va vp init ls all pairs (hi.mono hg1) (hl.mono hg1) (ha.mono hg1) (hp.mono hg1) hi0 hl0 ha0 hp0 (rr, ee) hfind) ?_
  rintro u g2 L' w hg2 hs ⟨rfl, vs, vlo, rfl, hr1, hr2⟩
  have hg02 := Ghost.tr hg1 hg2
  obtain ⟨as1, cs1, rfl⟩ := hr1.form
  obtain ⟨as2, cs2, rfl⟩ := hr2.form
  repeat (refine wl_p rfl rfl rfl ?_)
  refine wl_new hs rfl rfl rfl ?_; clear hs; intro fb w hs
  refine wl_stN hs 0 rfl rfl rfl rfl rfl (Nat.le_of_ble_eq_true rfl) rfl rfl ?_; clear hs; intro w hs
  repeat (refine wl_p rfl rfl rfl ?_)
  refine wl_nil (wk_seq ?_)
  repeat (refine wc_seq ?_)
  refine wc_region ?_
  repeat (refine wl_p rfl rfl rfl ?_)
  have hre : (rr.isSome || ee != 0) = true → o = (none, ee) := fun h => by rw [if_pos h] at ho; cases ho; rfl
  refine wl_case 25 (c := rr.isSome) rfl (fun q1 => ?_) (fun q1 => ?_)
  · repeat (first | refine wl_p rfl rfl rfl ?_ | refine wl_skip rfl rfl rfl ?_)
    refine wl_nil (wk_seq ?_)
    obtain rfl := hre (by rw [q1]; rfl)
    refine wc_condT rfl rfl ?_
    repeat (refine wc_seq ?_)
    refine wc_region ?_
    refine wl_build (ps := []) rfl rfl rfl rfl rfl rfl rfl ?_
    repeat (refine wl_p rfl rfl rfl ?_)
    refine wl_stN hs 1 rfl rfl rfl rfl rfl (Nat.le_of_ble_eq_true rfl) rfl rfl ?_; clear hs; intro w hs
    repeat (refine wl_p rfl rfl rfl ?_)
    refine wl_nil (wk_seq ?_)
    refine wc_retV (resCTT (k1 := 1) hs rfl rfl rfl rfl rfl rfl rfl rfl) ⟨g2, [], hg02, hs.drop.drop, rfl, _, rfl, DropRn.close (d := noDrop) (RS.nil _ _ _ _) (RS.nil _ _ _ _) (RS.nil _ _ _ _)⟩
  · repeat (first | refine wl_p rfl rfl rfl ?_ | refine wl_skip rfl rfl rfl ?_)
    refine wl_nil (wk_seq ?_)
    refine wc_cond rfl (fun q2 => ?_) (fun q2 => ?_)
    · have q2' : (ee != 0) = true := q2
      obtain rfl := hre (by rw [q1, q2']; rfl)
      repeat (refine wc_seq ?_)
      refine wc_region ?_
      refine wl_build (ps := []) rfl rfl rfl rfl rfl rfl rfl ?_
      repeat (refine wl_p rfl rfl rfl ?_)
      refine wl_stN hs 1 rfl rfl rfl rfl rfl (Nat.le_of_ble_eq_true rfl) rfl rfl ?_; clear hs; intro w hs
      repeat (refine wl_p rfl rfl rfl ?_)
      refine wl_nil (wk_seq ?_)
      refine wc_retV (resCTT (k1 := 1) hs rfl rfl rfl rfl rfl rfl rfl rfl) ⟨g2, [], hg02, hs.drop.drop, rfl, _, rfl, DropRn.close (d := noDrop) (RS.nil _ _ _ _) (RS.nil _ _ _ _) (RS.nil _ _ _ _)⟩
    · have q2' : (ee != 0) = false := q2
      rw [if_neg (by rw [q1, q2']; simp)] at ho
      have he0 : ee = 0 := by simpa using q2'
      subst he0
      have hc : checkI n init ls all pairs = 0 := by
        unfold findI at hfind
        split at hfind
        · assumption
        · simp only [Option.some.injEq, Prod.mk.injEq] at hfind
          exact hfind.2
      have hC := checked hc
      have hnn : n = (n.toNat : Int) := (Int.toNat_of_nonneg hC.n0).symm
      obtain ⟨reached, hres, d, hd, rfl⟩ : ∃ reached, reachR n.toNat (ls.map toA) (init.map Int.toNat) = some reached ∧ ∃ d, provedR n.toNat (ls.map toA) (all.map Int.toNat) (pairs.map toP) (f + 1) reached (List.replicate (ls.map toA).length true) = some d ∧ o = (some d, 0) := by
        split at ho
        · cases ho
        · rename_i reached q
          obtain ⟨d, h1, h2⟩ := Option.map_eq_some_iff.1 ho
          exact ⟨reached, q, d, h1, h2.symm⟩
      obtain ⟨hreach, hrl, hrn⟩ := reachR_some hres
      have hV := hC.validG
      have hW := hC.validW
      have hA := hC.rsA hl
      have hP := hC.rsP hp
      have hI := hC.init.rs hi
      have hAl := hC.all.rs ha
      have hin : ∀ x ∈ (init.map Int.toNat), x < n.toNat := fun x hx => by
        obtain ⟨y, hy, rfl⟩ := List.mem_map.1 hx
        have := hC.init.low y hy
        omega
      have hilen : (init.map Int.toNat).length = init.length := by simp
      refine wc_skip (wk_seq ?_)
      repeat (refine wc_seq ?_)
      refine wc_region ?_
      repeat (refine wl_p rfl rfl rfl ?_)
      refine wl_call (vs := [.int .i64 (n.toNat : Int), .slice a2 ls.length c2]) (L := []) (by rw [← hnn]; rfl) rfl rfl hs (newGraph_spec g2 n.toNat _ (ls.map toA) (hA.mono hg02) hV.size hV.len (fun a ha => (hV.ok a ha).1)) ?_
      rintro gv g6 L' w hg6 hs ⟨rfl, hG⟩
      obtain ⟨gb, hgv⟩ : ∃ gb, gv = .pointer (some ⟨gb, 0, none⟩) := by obtain ⟨gb, _, _, _, _, rfl, _⟩ := hG; exact ⟨gb, rfl⟩
      subst hgv
      repeat (refine wl_p rfl rfl rfl ?_)
      refine wl_nil (wk_seq ?_)
      have hg06 := Ghost.tr hg02 hg6
      have hg16 := Ghost.tr hg2 hg6
      repeat (refine wc_seq ?_)
      refine wc_draw 10 [] pp_mix (by kernel_rfl) rfl hs ?_
      repeat (first | refine sg_p rfl rfl ?_ | refine sg_skip rfl rfl ?_)
      refine sg_call (post := fun g' L' r => L' = [] ∧ RS kNat g' r reached) (vs := [.int .i64 (n.toNat : Int), .slice a1 init.length c1, .func (.func 24) #[.pointer (some ⟨gb, 0, none⟩)] #[]]) [] [] rfl (by rw [← hnn]; rfl) rfl (fun g' hg' => closure_spec g' n.toNat _ (init.map Int.toNat) 24 #[.pointer (some ⟨gb, 0, none⟩)] #[] (nxF (ls.map toA)) reached hV.size (hI.mono (Ghost.tr hg06 hg')) hin (by omega)
        (fun g2 x hg2 hx => next_spec g2 _ n.toNat x (ls.map toA) (hG.mono (Ghost.tr hg' hg2)) hV hx) (fun x hx => ⟨fun y hy => nxF_lt hV hy, by have h1 := nxF_len (ls.map toA) x; have h2 := hV.len; omega⟩) hreach) ?_
      refine sg_callW (post := fun g' L' r => L' = [] ∧ PieceR g' r n.toNat reached (List.replicate (ls.map toA).length true)) 40 [] [] rfl rfl rfl (fun _ => rfl) (fun _ => rfl) (fun g' g1 v L' hg1 ⟨g2, hg2, hL, hr⟩ hg' =>
        whole_spec g' _ v n.toNat (ls.map toA) reached (hG.mono (Ghost.tr hg1 hg')) hV (hr.mono (Ghost.tr hg2 hg')) (by omega) hrn) ?_
      refine sg_ldGN ((hwx.mono hg16).at') rfl rfl rfl rfl rfl ?_
      refine sg_callW (post := fun g' L' r => L' = [] ∧ ∃ cs : List Value, r = .agg cs.toArray ∧ DropRn (f + 1) g' cs d) 41 [] [] rfl rfl rfl (fun _ => rfl) (fun _ => rfl) (fun g' g1 v L' hg1 ⟨g2, hg2, hL, hr⟩ hg' => by
        obtain ⟨v1, v2, v3, rfl, q1, q2, q3⟩ := hr
        have hgg := Ghost.tr hg06 (Ghost.tr hg1 hg')
        exact proved_all n.toNat (ls.map toA) (all.map Int.toNat) (pairs.map toP) hV hW (f + 1) g' _ va vp v1 v2 v3 reached _ d hd (hG.mono (Ghost.tr hg1 hg')) (hAl.mono hgg) (hP.mono hgg) (q1.mono (Ghost.tr hg2 hg')) (q2.mono (Ghost.tr hg2 hg')) (q3.mono (Ghost.tr hg2 hg')) (by simp) hrl hrn) ?_
      refine sg_end ?_
      intro g8 w hg8
      have hg08 := Ghost.tr hg06 hg8
      rintro _ _ ⟨_, _, rfl, _⟩ _ _ ⟨_, _, rfl, _⟩ u _ ⟨g9, hg9, rfl, cs5, rfl, hdr⟩ hs
      obtain ⟨b1, b2, b3, b4, b5, rfl, hone⟩ := hdr.cells5
      refine wl_stN (cs := [b1, b2, b3, b4, b5]) hs 1 rfl rfl rfl rfl rfl (Nat.le_of_ble_eq_true rfl) hone rfl ?_
      clear hs; intro w hs
      repeat (refine wl_p rfl rfl rfl ?_)
      refine wl_nil (wk_seq ?_)
      exact wc_retV (resCTT (k1 := 1) hs rfl rfl rfl rfl rfl rfl rfl rfl) ⟨g8, [], hg08, hs.drop.drop, rfl, _, rfl, DropRn.mono hg9 hdr⟩
end Go.Proofs.YtnanffbjmfgafaaGreat.S
namespace Go.Proofs.YtnanffbjmfgafaaGreat.S
open Go.RowKit
theorem isMark_spec (g : Ghost) (m : Int) : Cl PP 29 [.int .i64 m] g [] (Det (.bool (decide (0 ≤ m) && decide (m < 16)))) := by
  refine cl_intro Tryz.func29 rfl rfl Tryz.ntmps29 rfl ?_
  intro w F hs
  repeat (refine wc_seq ?_)
  refine wc_region ?_
  repeat (refine wl_p rfl rfl rfl ?_)
  refine wl_nil (wk_seq ?_)
  repeat (refine wc_seq ?_)
  refine wc_region ?_
  repeat (refine wl_p rfl rfl rfl ?_)
  refine wl_case 5 rfl (fun q1 => ?_) (fun q1 => ?_)
  · repeat (first | refine wl_p rfl rfl rfl ?_ | refine wl_skip rfl rfl rfl ?_)
    refine wl_nil (wk_seq ?_)
    refine wc_retV (res1 rfl rfl) ⟨g, [], Ghost.rfl', hs, rfl, ?_⟩
    have := of_decide_eq_true q1
    rw [decide_eq_true (show 0 ≤ m by omega)]
    rfl
  · repeat (first | refine wl_p rfl rfl rfl ?_ | refine wl_skip rfl rfl rfl ?_)
    refine wl_nil (wk_seq ?_)
    refine wc_retV (res1 rfl rfl) ⟨g, [], Ghost.rfl', hs, rfl, ?_⟩
    have := of_decide_eq_false q1
    rw [decide_eq_false (show ¬ 0 ≤ m by omega)]
    rfl
theorem risesTo_bad {below : Int} {xs : List Int} {i : Nat} (hi : i < xs.length) (h : risesAt below xs i = false) : rises below xs = false := by
  rw [rises, risesTo, List.all_eq_false]
  exact ⟨i, by simp [hi], by simp [h]⟩
theorem risesAt_eq {below : Int} {xs : List Int} {i : Nat} (hi : i < xs.length) : risesAt below xs i = (decide (0 ≤ xs[i]) && decide (xs[i] < below) && (decide (i = 0) || decide (xs.getD (i - 1) 0 < xs[i]))) := by
  simp [risesAt, hi]
theorem refCheck_spec (g : Ghost) (n : Int) (vi vl va vp : Value) (init : List Int) (ls : List ArrowI) (all : List Int) (pairs : List (Int × Int)) (hi : RS kInt g vi init) (hl : RS kArrI g vl ls) (ha : RS kInt g va all) (hp : RS kPairI g vp pairs)
    (hi0 : init.length ≤ 4611686018427387904) (hl0 : ls.length ≤ 4611686018427387904) (ha0 : all.length ≤ 4611686018427387904) (hp0 : pairs.length ≤ 4611686018427387904) :
    Cl PP 10 [.int .i64 n, vi, vl, .agg #[va, vp]] g [] (Det (.int .i64 (checkI n init ls all pairs))) := by
  obtain ⟨ai, ci, rfl⟩ := hi.form
  obtain ⟨al, cl, rfl⟩ := hl.form
  obtain ⟨aa, ca, rfl⟩ := ha.form
  obtain ⟨ap, cp, rfl⟩ := hp.form
  refine cl_intro Tryz.func10 rfl rfl Tryz.ntmps10 rfl ?_
  intro w F hs
  repeat (refine wc_seq ?_)
  refine wc_region ?_
  refine wl_box hs rfl rfl rfl rfl ?_; clear hs; intro b w hs
  repeat (refine wl_p rfl rfl rfl ?_)
  refine wl_nil (wk_seq ?_)
  obtain ⟨g1, hg1, hs, hb⟩ := freezeB hs
  replace hs := (show St g1 w F from hs)
  replace hb := (show Lies g1 b 0 [.slice aa all.length ca, .slice ap pairs.length cp] from hb)
  repeat (refine wc_seq ?_)
  refine wc_region ?_
  repeat (refine wl_p rfl rfl rfl ?_)
  refine wl_case 15 rfl (fun c1 => ?_) (fun c1 => ?_)
  · repeat (first | refine wl_p rfl rfl rfl ?_ | refine wl_skip rfl rfl rfl ?_)
    refine wl_nil (wk_seq ?_)
    refine wc_condT rfl rfl ?_
    repeat (refine wc_seq ?_)
    refine wc_region ?_
    repeat (refine wl_p rfl rfl rfl ?_)
    refine wl_nil (wk_seq ?_)
    exact wc_retV (res1 rfl rfl) ⟨g1, [], hg1, hs, rfl, by simp only [checkI, c1, Bool.true_or, if_true]⟩
  · repeat (first | refine wl_p rfl rfl rfl ?_ | refine wl_skip rfl rfl rfl ?_)
    refine wl_nil (wk_seq ?_)
    refine wc_cond rfl (fun c2 => ?_) (fun c2 => ?_)
    · repeat (refine wc_seq ?_)
      refine wc_region ?_
      repeat (refine wl_p rfl rfl rfl ?_)
      refine wl_nil (wk_seq ?_)
      have c2' : decide (n > 20000) = true := c2
      exact wc_retV (res1 rfl rfl) ⟨g1, [], hg1, hs, rfl, by simp only [checkI, c2', Bool.true_or, Bool.or_true, if_true]⟩
    · have c2' : decide (n > 20000) = false := c2
      have n0 := of_decide_eq_false c1
      refine wc_skip (wk_seq ?_)
      repeat (refine wc_seq ?_)
      refine wc_region ?_
      repeat (refine wl_p rfl rfl rfl ?_)
      refine wl_nil (wk_seq ?_)
      refine wc_fori init.length (fun _ (_ : Unit) => [(0, .int .i64 n), (2, .slice al ls.length cl), (7, .pointer (some ⟨b, 0, none⟩)), (1, .slice ai init.length ci)]) (fun i (_ : Unit) w => ∃ g', g1 ≤ g' ∧ St g' w F ∧ risesTo n init i = true) () (by repeat (first | exact trivial | refine ⟨rfl, ?_⟩)) ⟨g1, Ghost.rfl', hs, rfl⟩ ?_ ?_ ?_
      · intro i _ w s' hi ⟨g2, hg2, hs, hr⟩ hk
        repeat (refine wl_p rfl rfl rfl ?_)
        exact wl_nil (wk_weak (by repeat (first | exact trivial | refine ⟨rfl, ?_⟩)) hk)
      · rintro i _ w hii ⟨g2, hg2, hs, hr⟩
        have hg02 := Ghost.tr hg1 hg2
        have hlen : init.length ≤ 4611686018427387904 := hi0
        have bad : risesAt n init i = false → checkI n init ls all pairs = 1 := fun h => by
          simp only [checkI, risesTo_bad hii h, Bool.not_false, Bool.or_true, if_true]
        rw [risesAt_eq hii] at bad
        have hrs := risesAt_eq (below := n) hii
        have hi_ := hi
        have hbi := hi.base hii
        have hci := (hi.mono hg02).int hii
        repeat (refine wc_seq ?_)
        refine wc_draw 29 [] pp_mix (by kernel_rfl) rfl hs ?_
        repeat (first | refine sg_p rfl rfl ?_ | refine sg_skip rfl rfl ?_)
        refine sg_ix rfl rfl rfl rfl rfl (by omega) (hbi) rfl ?_
        refine sg_ldG (hci) rfl rfl rfl rfl ?_
        repeat (first | refine sg_p rfl rfl ?_ | refine sg_skip rfl rfl ?_)
        have hi := hii
        refine sg_case (fun q1 => ?_) (fun q1 => ?_)
        · have := of_decide_eq_true q1
          repeat (first | refine sg_p rfl rfl ?_ | refine sg_skip rfl rfl ?_)
          refine sg_end ?_
          intro g3 w hg3
          intro hs
          refine wl_nil (wk_seq ?_)
          refine wc_condT rfl rfl ?_
          repeat (refine wc_seq ?_)
          refine wc_region ?_
          repeat (refine wl_p rfl rfl rfl ?_)
          refine wl_nil (wk_seq ?_)
          exact wc_retV (res1 rfl rfl) ⟨g3, [], Ghost.tr hg02 hg3, hs, rfl, by rw [bad (by rw [decide_eq_false (show ¬ 0 ≤ init[i] by omega)]; rfl)]⟩
        · have k1 := of_decide_eq_false q1
          repeat (first | refine sg_p rfl rfl ?_ | refine sg_skip rfl rfl ?_)
          refine sg_ix rfl rfl rfl rfl rfl (by omega) hbi rfl ?_
          refine sg_ldG (hci) rfl rfl rfl rfl ?_
          repeat (first | refine sg_p rfl rfl ?_ | refine sg_skip rfl rfl ?_)
          refine sg_case (fun q2 => ?_) (fun q2 => ?_)
          · have := of_decide_eq_true q2
            repeat (first | refine sg_p rfl rfl ?_ | refine sg_skip rfl rfl ?_)
            refine sg_end ?_
            intro g3 w hg3
            intro hs
            refine wl_nil (wk_seq ?_)
            refine wc_condT rfl rfl ?_
            repeat (refine wc_seq ?_)
            refine wc_region ?_
            repeat (refine wl_p rfl rfl rfl ?_)
            refine wl_nil (wk_seq ?_)
            exact wc_retV (res1 rfl rfl) ⟨g3, [], Ghost.tr hg02 hg3, hs, rfl, by rw [bad (by rw [decide_eq_false (show ¬ init[i] < n by omega)]; simp)]⟩
          · have k2 := of_decide_eq_false q2
            repeat (first | refine sg_p rfl rfl ?_ | refine sg_skip rfl rfl ?_)
            refine sg_case (fun q3 => ?_) (fun q3 => ?_)
            · have k3 := of_decide_eq_true q3
              have hi1 : i - 1 < init.length := by omega
              have hbp := hi_.base hi1
              have hcp := (hi_.mono hg02).int hi1
              have hgd : init.getD (i - 1) 0 = init[i - 1] := by simp [hi1]
              rw [hgd] at bad hrs
              repeat (first | refine sg_p rfl rfl ?_ | refine sg_skip rfl rfl ?_)
              refine sg_ix rfl rfl rfl rfl rfl (by omega) hbi rfl ?_
              refine sg_ldG (hci) rfl rfl rfl rfl ?_
              repeat (first | refine sg_p rfl rfl ?_ | refine sg_skip rfl rfl ?_)
              refine sg_arK ((i - 1 : Nat) : Int) rfl rfl (pred_ar (by omega)) (by omega) rfl ?_
              refine sg_ix rfl rfl rfl rfl rfl (by omega) hbp rfl ?_
              refine sg_ldG (hcp) rfl rfl rfl rfl ?_
              repeat (first | refine sg_p rfl rfl ?_ | refine sg_skip rfl rfl ?_)
              refine sg_end ?_
              intro g3 w hg3
              intro hs
              refine wl_nil (wk_seq ?_)
              refine wc_cond rfl (fun q4 => ?_) (fun q4 => ?_)
              · have := of_decide_eq_true q4
                repeat (refine wc_seq ?_)
                refine wc_region ?_
                repeat (refine wl_p rfl rfl rfl ?_)
                refine wl_nil (wk_seq ?_)
                exact wc_retV (res1 rfl rfl) ⟨g3, [], Ghost.tr hg02 hg3, hs, rfl, by rw [bad (by rw [decide_eq_false (show ¬ i = 0 by omega), decide_eq_false (show ¬ init[i - 1] < init[i] by omega)]; simp)]⟩
              · have := of_decide_eq_false q4
                refine wc_skip (wk_blk (wk_nexti () hi hlen (⟨g3, Ghost.tr hg2 hg3, hs, ?_⟩) rfl rfl rfl rfl (by repeat (first | exact trivial | refine ⟨rfl, ?_⟩))))
                rw [risesTo_succ, hr, hrs, decide_eq_true (show 0 ≤ init[i] by omega), decide_eq_true (show init[i] < n by omega), decide_eq_true (show init[i - 1] < init[i] by omega)]; simp
            · have k3 := of_decide_eq_false q3
              repeat (first | refine sg_p rfl rfl ?_ | refine sg_skip rfl rfl ?_)
              refine sg_end ?_
              intro g3 w hg3
              intro hs
              refine wl_nil (wk_seq ?_)
              refine wc_condF rfl rfl (wc_skip (wk_blk (wk_nexti () hi hlen (⟨g3, Ghost.tr hg2 hg3, hs, ?_⟩) rfl rfl rfl rfl (by repeat (first | exact trivial | refine ⟨rfl, ?_⟩)))))
              rw [risesTo_succ, hr, hrs, decide_eq_true (show 0 ≤ init[i] by omega), decide_eq_true (show init[i] < n by omega), decide_eq_true (show i = 0 by omega)]; rfl
      · rintro _ w ⟨g2, hg2, hs, hr⟩
        have k1 : (decide (n < 0) || decide (n > 20000) || !rises n init) = false := by simp only [c1, c2', rises, hr, Bool.or_false, Bool.not_true]
        have hg02 := Ghost.tr hg1 hg2
        refine wk_seq ?_
        repeat (refine wc_seq ?_)
        refine wc_region ?_
        repeat (refine wl_p rfl rfl rfl ?_)
        refine wl_nil (wk_seq ?_)
        refine wc_cond rfl (fun c3 => ?_) (fun c3 => ?_)
        · have : ls.length > 200000 := by have := of_decide_eq_true c3; omega
          repeat (refine wc_seq ?_)
          refine wc_region ?_
          repeat (refine wl_p rfl rfl rfl ?_)
          refine wl_nil (wk_seq ?_)
          exact wc_retV (res1 rfl rfl) ⟨g2, [], hg02, hs, rfl, by simp only [checkI, k1, this, if_true, Bool.false_eq_true, if_false]⟩
        · have k2 : ¬ ls.length > 200000 := by have := of_decide_eq_false c3; omega
          refine wc_skip (wk_seq ?_)
          repeat (refine wc_seq ?_)
          refine wc_region ?_
          repeat (refine wl_p rfl rfl rfl ?_)
          refine wl_nil (wk_seq ?_)
          refine wc_fori ls.length (fun _ (_ : Unit) => [(0, .int .i64 n), (2, .slice al ls.length cl), (7, .pointer (some ⟨b, 0, none⟩))]) (fun i (_ : Unit) w => ∃ g', g2 ≤ g' ∧ St g' w F ∧ (ls.take i).all (arrOkI n) = true) () (by repeat (first | exact trivial | refine ⟨rfl, ?_⟩)) ⟨g2, Ghost.rfl', hs, rfl⟩ ?_ ?_ ?_
          · intro i _ w s' hi ⟨g3, hg3, hs, hr⟩ hk
            repeat (refine wl_p rfl rfl rfl ?_)
            exact wl_nil (wk_weak (by repeat (first | exact trivial | refine ⟨rfl, ?_⟩)) hk)
          · rintro i _ w hii ⟨g3, hg3, hs, hr⟩
            have hg03 := Ghost.tr hg02 hg3
            have bad : arrOkI n ls[i] = false → checkI n init ls all pairs = 310 := fun h => by
              have : ls.all (arrOkI n) = false := by
                rw [List.all_eq_false]
                exact ⟨ls[i], List.getElem_mem hii, by simp [h]⟩
              simp only [checkI, k1, k2, this, if_true, Bool.false_eq_true, if_false]
            have hbA := hl.base hii
            have hcE := Lies.of_eaddr ((hl.mono hg03).enc hii)
            have hsn : (ls.take (i + 1)).all (arrOkI n) = ((ls.take i).all (arrOkI n) && arrOkI n ls[i]) := by rw [take_snoc hii, List.all_append]; simp
            generalize ls[i] = a at hcE bad hsn
            have hok : arrOkI n a = !(decide (a.fr < 0) || decide (a.fr ≥ n) || decide (a.to < 0) || decide (a.to ≥ n) || decide ((a.ms : Int) ≥ 65536)) := rfl
            rw [hok] at bad hsn
            repeat (refine wc_seq ?_)
            refine wc_region ?_
            repeat (refine wl_p rfl rfl rfl ?_)
            refine wl_ix rfl rfl rfl rfl rfl (by omega) hbA rfl rfl ?_
            repeat (refine wl_p rfl rfl rfl ?_)
            refine wl_ldG hs (hcE 0 _ rfl) rfl rfl rfl rfl rfl ?_
            repeat (refine wl_p rfl rfl rfl ?_)
            refine wl_case 69 rfl (fun q1 => ?_) (fun q1 => ?_)
            · repeat (first | refine wl_p rfl rfl rfl ?_ | refine wl_skip rfl rfl rfl ?_)
              refine wl_nil (wk_seq ?_)
              refine wc_condT rfl rfl ?_
              repeat (refine wc_seq ?_)
              refine wc_region ?_
              repeat (refine wl_p rfl rfl rfl ?_)
              refine wl_nil (wk_seq ?_)
              exact wc_retV (res1 rfl rfl) ⟨g3, [], hg03, hs, rfl, by rw [bad (by rw [q1]; rfl)]⟩
            · repeat (first | refine wl_p rfl rfl rfl ?_ | refine wl_skip rfl rfl rfl ?_)
              refine wl_ix rfl rfl rfl rfl rfl (by omega) hbA rfl rfl ?_
              repeat (first | refine wl_p rfl rfl rfl ?_ | refine wl_skip rfl rfl rfl ?_)
              refine wl_ldG hs (hcE 0 _ rfl) rfl rfl rfl rfl rfl ?_
              repeat (first | refine wl_p rfl rfl rfl ?_ | refine wl_skip rfl rfl rfl ?_)
              refine wl_case 78 rfl (fun q2 => ?_) (fun q2 => ?_)
              · repeat (first | refine wl_p rfl rfl rfl ?_ | refine wl_skip rfl rfl rfl ?_)
                refine wl_nil (wk_seq ?_)
                refine wc_condT rfl rfl ?_
                repeat (refine wc_seq ?_)
                refine wc_region ?_
                repeat (refine wl_p rfl rfl rfl ?_)
                refine wl_nil (wk_seq ?_)
                exact wc_retV (res1 rfl rfl) ⟨g3, [], hg03, hs, rfl, by rw [bad (by rw [q1, q2]; rfl)]⟩
              · repeat (first | refine wl_p rfl rfl rfl ?_ | refine wl_skip rfl rfl rfl ?_)
                refine wl_ix rfl rfl rfl rfl rfl (by omega) hbA rfl rfl ?_
                repeat (first | refine wl_p rfl rfl rfl ?_ | refine wl_skip rfl rfl rfl ?_)
                refine wl_ldG hs (hcE 1 _ rfl) rfl rfl rfl rfl rfl ?_
                repeat (first | refine wl_p rfl rfl rfl ?_ | refine wl_skip rfl rfl rfl ?_)
                refine wl_case 86 rfl (fun q3 => ?_) (fun q3 => ?_)
                · repeat (first | refine wl_p rfl rfl rfl ?_ | refine wl_skip rfl rfl rfl ?_)
                  refine wl_nil (wk_seq ?_)
                  refine wc_condT rfl rfl ?_
                  repeat (refine wc_seq ?_)
                  refine wc_region ?_
                  repeat (refine wl_p rfl rfl rfl ?_)
                  refine wl_nil (wk_seq ?_)
                  exact wc_retV (res1 rfl rfl) ⟨g3, [], hg03, hs, rfl, by rw [bad (by rw [q1, q2, q3]; rfl)]⟩
                · repeat (first | refine wl_p rfl rfl rfl ?_ | refine wl_skip rfl rfl rfl ?_)
                  refine wl_ix rfl rfl rfl rfl rfl (by omega) hbA rfl rfl ?_
                  repeat (first | refine wl_p rfl rfl rfl ?_ | refine wl_skip rfl rfl rfl ?_)
                  refine wl_ldG hs (hcE 1 _ rfl) rfl rfl rfl rfl rfl ?_
                  repeat (first | refine wl_p rfl rfl rfl ?_ | refine wl_skip rfl rfl rfl ?_)
                  refine wl_case 95 rfl (fun q4 => ?_) (fun q4 => ?_)
                  · repeat (first | refine wl_p rfl rfl rfl ?_ | refine wl_skip rfl rfl rfl ?_)
                    refine wl_nil (wk_seq ?_)
                    refine wc_condT rfl rfl ?_
                    repeat (refine wc_seq ?_)
                    refine wc_region ?_
                    repeat (refine wl_p rfl rfl rfl ?_)
                    refine wl_nil (wk_seq ?_)
                    exact wc_retV (res1 rfl rfl) ⟨g3, [], hg03, hs, rfl, by rw [bad (by rw [q1, q2, q3, q4]; rfl)]⟩
                  · repeat (first | refine wl_p rfl rfl rfl ?_ | refine wl_skip rfl rfl rfl ?_)
                    refine wl_ix rfl rfl rfl rfl rfl (by omega) hbA rfl rfl ?_
                    repeat (first | refine wl_p rfl rfl rfl ?_ | refine wl_skip rfl rfl rfl ?_)
                    refine wl_ldG hs (hcE 2 _ rfl) rfl rfl rfl rfl rfl ?_
                    repeat (first | refine wl_p rfl rfl rfl ?_ | refine wl_skip rfl rfl rfl ?_)
                    refine wl_nil (wk_seq ?_)
                    refine wc_cond rfl (fun q5 => ?_) (fun q5 => ?_)
                    · have q5' : decide ((a.ms : Int) ≥ 65536) = true := q5
                      repeat (refine wc_seq ?_)
                      refine wc_region ?_
                      repeat (refine wl_p rfl rfl rfl ?_)
                      refine wl_nil (wk_seq ?_)
                      exact wc_retV (res1 rfl rfl) ⟨g3, [], hg03, hs, rfl, by rw [bad (by rw [q1, q2, q3, q4, q5']; rfl)]⟩
                    · have q5' : decide ((a.ms : Int) ≥ 65536) = false := q5
                      refine wc_skip (wk_blk (wk_nexti () hii hl0 (⟨g3, hg3, hs, ?_⟩) rfl rfl rfl rfl (by repeat (first | exact trivial | refine ⟨rfl, ?_⟩))))
                      rw [hsn, hr, q1, q2, q3, q4, q5']; rfl
          · rintro _ w ⟨g3, hg3, hs, hr⟩
            rw [List.take_length] at hr
            have k3 : (ls.all (arrOkI n) = false) = False := by rw [hr]; simp
            have hg03 := Ghost.tr hg02 hg3
            have hb3 := hb.mono (Ghost.tr hg2 hg3)
            refine wk_seq ?_
            repeat (refine wc_seq ?_)
            refine wc_region ?_
            repeat (refine wl_p rfl rfl rfl ?_)
            refine wl_ldG hs (hb3 1 _ rfl) rfl rfl rfl rfl rfl ?_
            repeat (refine wl_p rfl rfl rfl ?_)
            refine wl_nil (wk_seq ?_)
            refine wc_cond rfl (fun c4 => ?_) (fun c4 => ?_)
            · have : decide (pairs.length > 16) = true := by have := of_decide_eq_true c4; exact decide_eq_true (by omega)
              repeat (refine wc_seq ?_)
              refine wc_region ?_
              repeat (refine wl_p rfl rfl rfl ?_)
              refine wl_nil (wk_seq ?_)
              exact wc_retV (res1 rfl rfl) ⟨g3, [], hg03, hs, rfl, by simp only [checkI, k1, k2, k3, this, if_true, Bool.false_eq_true, if_false, Bool.or_true, Bool.true_or]⟩
            · have k4 : decide (pairs.length > 16) = false := by have := of_decide_eq_false c4; exact decide_eq_false (by omega)
              refine wc_skip (wk_seq ?_)
              repeat (refine wc_seq ?_)
              refine wc_region ?_
              repeat (refine wl_p rfl rfl rfl ?_)
              refine wl_nil (wk_seq ?_)
              refine wc_fori all.length (fun _ (_ : Unit) => [(7, .pointer (some ⟨b, 0, none⟩))]) (fun i (_ : Unit) w => ∃ g', g3 ≤ g' ∧ St g' w F ∧ risesTo 16 all i = true) () (by repeat (first | exact trivial | refine ⟨rfl, ?_⟩)) ⟨g3, Ghost.rfl', hs, rfl⟩ ?_ ?_ ?_
              · intro i _ w s' hi ⟨g4, hg4, hs, hr⟩ hk
                repeat (refine wl_p rfl rfl rfl ?_)
                refine wl_ldG hs (hb3.mono hg4 0 _ rfl) rfl rfl rfl rfl rfl ?_
                repeat (refine wl_p rfl rfl rfl ?_)
                exact wl_nil (wk_weak (by repeat (first | exact trivial | refine ⟨rfl, ?_⟩)) hk)
              · rintro i _ w hii ⟨g4, hg4, hs, hr⟩
                have hg04 := Ghost.tr hg03 hg4
                have hb4 := hb3.mono hg4
                have bad : risesAt 16 all i = false → checkI n init ls all pairs = 311 := fun h => by
                  simp only [checkI, k1, k2, k3, risesTo_bad hii h, Bool.not_false, Bool.true_or, if_true, Bool.false_eq_true, if_false]
                rw [risesAt_eq hii] at bad
                have hrs := risesAt_eq (below := 16) hii
                have hbi := ha.base hii
                have hci := (ha.mono hg04).int hii
                repeat (refine wc_seq ?_)
                refine wc_draw 25 [] pp_mix (by kernel_rfl) rfl hs ?_
                repeat (first | refine sg_p rfl rfl ?_ | refine sg_skip rfl rfl ?_)
                refine sg_ldG (hb4 0 _ rfl) rfl rfl rfl rfl ?_
                repeat (first | refine sg_p rfl rfl ?_ | refine sg_skip rfl rfl ?_)
                refine sg_ix rfl rfl rfl rfl rfl (by omega) (hbi) rfl ?_
                refine sg_ldG (hci) rfl rfl rfl rfl ?_
                refine sg_callK (post := Det (.bool (decide (0 ≤ all[i]) && decide (all[i] < 16)))) [] [] rfl rfl rfl (fun g' hg' => isMark_spec g' _) (fun _ _ _ h => h) ?_
                repeat (first | refine sg_p rfl rfl ?_ | refine sg_skip rfl rfl ?_)
                refine sg_case (fun q1 => ?_) (fun q1 => ?_)
                · have q1' : (decide (0 ≤ all[i]) && decide (all[i] < 16)) = false := by simpa only [Bool.not_eq_true'] using q1
                  repeat (first | refine sg_p rfl rfl ?_ | refine sg_skip rfl rfl ?_)
                  refine sg_end ?_
                  intro g5 w hg5
                  intro hs
                  refine wl_nil (wk_seq ?_)
                  refine wc_condT rfl rfl ?_
                  repeat (refine wc_seq ?_)
                  refine wc_region ?_
                  repeat (refine wl_p rfl rfl rfl ?_)
                  refine wl_nil (wk_seq ?_)
                  exact wc_retV (res1 rfl rfl) ⟨g5, [], Ghost.tr hg04 hg5, hs, rfl, by rw [bad (by rw [q1']; rfl)]⟩
                · have q1' : (decide (0 ≤ all[i]) && decide (all[i] < 16)) = true := by simpa only [Bool.not_eq_false'] using q1
                  repeat (first | refine sg_p rfl rfl ?_ | refine sg_skip rfl rfl ?_)
                  refine sg_case (fun q3 => ?_) (fun q3 => ?_)
                  · have k6 := of_decide_eq_true q3
                    have hi1 : i - 1 < all.length := by omega
                    have hbp := ha.base hi1
                    have hcp := (ha.mono hg04).int hi1
                    have hgd : all.getD (i - 1) 0 = all[i - 1] := by simp [hi1]
                    rw [hgd] at bad hrs
                    repeat (first | refine sg_p rfl rfl ?_ | refine sg_skip rfl rfl ?_)
                    refine sg_ldG (hb4 0 _ rfl) rfl rfl rfl rfl ?_
                    repeat (first | refine sg_p rfl rfl ?_ | refine sg_skip rfl rfl ?_)
                    refine sg_ix rfl rfl rfl rfl rfl (by omega) (hbi) rfl ?_
                    refine sg_ldG (hci) rfl rfl rfl rfl ?_
                    repeat (first | refine sg_p rfl rfl ?_ | refine sg_skip rfl rfl ?_)
                    refine sg_ldG (hb4 0 _ rfl) rfl rfl rfl rfl ?_
                    repeat (first | refine sg_p rfl rfl ?_ | refine sg_skip rfl rfl ?_)
                    refine sg_arK ((i - 1 : Nat) : Int) rfl rfl (pred_ar (by omega)) (by omega) rfl ?_
                    refine sg_ix rfl rfl rfl rfl rfl (by omega) hbp rfl ?_
                    refine sg_ldG (hcp) rfl rfl rfl rfl ?_
                    repeat (first | refine sg_p rfl rfl ?_ | refine sg_skip rfl rfl ?_)
                    refine sg_end ?_
                    intro g5 w hg5
                    intro hs
                    refine wl_nil (wk_seq ?_)
                    refine wc_cond rfl (fun q4 => ?_) (fun q4 => ?_)
                    · have := of_decide_eq_true q4
                      repeat (refine wc_seq ?_)
                      refine wc_region ?_
                      repeat (refine wl_p rfl rfl rfl ?_)
                      refine wl_nil (wk_seq ?_)
                      exact wc_retV (res1 rfl rfl) ⟨g5, [], Ghost.tr hg04 hg5, hs, rfl, by rw [bad (by rw [decide_eq_false (show ¬ i = 0 by omega), decide_eq_false (show ¬ all[i - 1] < all[i] by omega)]; simp)]⟩
                    · have := of_decide_eq_false q4
                      refine wc_skip (wk_blk (wk_nexti () hii ha0 (⟨g5, Ghost.tr hg4 hg5, hs, ?_⟩) rfl rfl rfl rfl (by repeat (first | exact trivial | refine ⟨rfl, ?_⟩))))
                      rw [risesTo_succ, hr, hrs, q1', decide_eq_true (show all[i - 1] < all[i] by omega)]; simp
                  · have k6 := of_decide_eq_false q3
                    repeat (first | refine sg_p rfl rfl ?_ | refine sg_skip rfl rfl ?_)
                    refine sg_end ?_
                    intro g5 w hg5
                    intro hs
                    refine wl_nil (wk_seq ?_)
                    refine wc_condF rfl rfl (wc_skip (wk_blk (wk_nexti () hii ha0 (⟨g5, Ghost.tr hg4 hg5, hs, ?_⟩) rfl rfl rfl rfl (by repeat (first | exact trivial | refine ⟨rfl, ?_⟩)))))
                    rw [risesTo_succ, hr, hrs, q1', decide_eq_true (show i = 0 by omega)]; rfl
              · rintro _ w ⟨g4, hg4, hs, hr⟩
                have k5 : rises 16 all = true := hr
                have hg04 := Ghost.tr hg03 hg4
                have hb4 := hb3.mono hg4
                refine wk_seq ?_
                repeat (refine wc_seq ?_)
                refine wc_region ?_
                repeat (refine wl_p rfl rfl rfl ?_)
                refine wl_nil (wk_seq ?_)
                refine wc_fori pairs.length (fun _ (_ : Unit) => [(7, .pointer (some ⟨b, 0, none⟩))]) (fun i (_ : Unit) w => ∃ g', g4 ≤ g' ∧ St g' w F ∧ (pairs.take i).any pairBad = false) () (by repeat (first | exact trivial | refine ⟨rfl, ?_⟩)) ⟨g4, Ghost.rfl', hs, rfl⟩ ?_ ?_ ?_
                · intro i _ w s' hi ⟨g5, hg5, hs, hr⟩ hk
                  repeat (refine wl_p rfl rfl rfl ?_)
                  refine wl_ldG hs (hb4.mono hg5 1 _ rfl) rfl rfl rfl rfl rfl ?_
                  repeat (refine wl_p rfl rfl rfl ?_)
                  exact wl_nil (wk_weak (by repeat (first | exact trivial | refine ⟨rfl, ?_⟩)) hk)
                · rintro i _ w hii ⟨g5, hg5, hs, hr⟩
                  have hg05 := Ghost.tr hg04 hg5
                  have hb5 := hb4.mono hg5
                  have bad : pairBad pairs[i] = true → checkI n init ls all pairs = 311 := fun h => by
                    have : pairs.any pairBad = true := List.any_eq_true.2 ⟨pairs[i], List.getElem_mem hii, h⟩
                    simp only [checkI, k1, k2, k3, this, Bool.or_true, if_true, Bool.false_eq_true, if_false]
                  have hsn : (pairs.take (i + 1)).any pairBad = ((pairs.take i).any pairBad || pairBad pairs[i]) := by rw [take_snoc hii, List.any_append]; simp
                  obtain ⟨pb, po, rfl⟩ := hp.base hii
                  have hcp := (hp.mono hg05).enc hii
                  generalize pairs[i] = p at hcp bad hsn
                  have hpb : pairBad p = (!(decide (0 ≤ p.1) && decide (p.1 < 16)) || !(decide (0 ≤ p.2) && decide (p.2 < 16))) := by
                    unfold pairBad
                    rw [Bool.eq_iff_iff]
                    simp
                    omega
                  rw [hpb] at bad hsn
                  have hs5 : St g5 w F := by assumption
                  repeat (refine wc_seq ?_)
                  refine wc_region ?_
                  repeat (refine wl_p rfl rfl rfl ?_)
                  refine wl_ldG hs5 (hb5 1 _ rfl) rfl rfl rfl rfl rfl ?_
                  repeat (refine wl_p rfl rfl rfl ?_)
                  refine wl_ix rfl rfl rfl rfl rfl (by omega) ⟨pb, po, rfl⟩ rfl rfl ?_
                  refine wl_ixA rfl rfl rfl rfl rfl (by omega) rfl rfl ?_
                  refine wl_ldG hs5 (hcp 0 _ rfl) rfl rfl rfl rfl rfl ?_
                  refine wl_call (L := []) rfl rfl rfl hs5 (isMark_spec g5 p.1) ?_
                  rintro u g6 L' w hg6 hs ⟨rfl, rfl⟩
                  have hg06 := Ghost.tr hg05 hg6
                  repeat (refine wl_p rfl rfl rfl ?_)
                  refine wl_case 154 rfl (fun q1 => ?_) (fun q1 => ?_)
                  · repeat (first | refine wl_p rfl rfl rfl ?_ | refine wl_skip rfl rfl rfl ?_)
                    refine wl_nil (wk_seq ?_)
                    refine wc_condT rfl rfl ?_
                    repeat (refine wc_seq ?_)
                    refine wc_region ?_
                    repeat (refine wl_p rfl rfl rfl ?_)
                    refine wl_nil (wk_seq ?_)
                    exact wc_retV (res1 rfl rfl) ⟨g6, [], hg06, hs, rfl, by rw [bad (by rw [q1]; rfl)]⟩
                  · repeat (first | refine wl_p rfl rfl rfl ?_ | refine wl_skip rfl rfl rfl ?_)
                    refine wl_ldG hs (hb5.mono hg6 1 _ rfl) rfl rfl rfl rfl rfl ?_
                    repeat (first | refine wl_p rfl rfl rfl ?_ | refine wl_skip rfl rfl rfl ?_)
                    refine wl_ix rfl rfl rfl rfl rfl (by omega) ⟨pb, po, rfl⟩ rfl rfl ?_
                    refine wl_ixA rfl rfl rfl rfl rfl (by omega) rfl rfl ?_
                    refine wl_ldG hs (hcp.mono hg6 1 _ rfl) rfl rfl rfl rfl rfl ?_
                    refine wl_call (L := []) rfl rfl rfl hs (isMark_spec g6 p.2) ?_
                    rintro u g7 L' w hg7 hs ⟨rfl, rfl⟩
                    have hg07 := Ghost.tr hg06 hg7
                    repeat (first | refine wl_p rfl rfl rfl ?_ | refine wl_skip rfl rfl rfl ?_)
                    refine wl_nil (wk_seq ?_)
                    refine wc_cond rfl (fun q2 => ?_) (fun q2 => ?_)
                    · have q2' : (!(decide (0 ≤ p.2) && decide (p.2 < 16))) = true := q2
                      repeat (refine wc_seq ?_)
                      refine wc_region ?_
                      repeat (refine wl_p rfl rfl rfl ?_)
                      refine wl_nil (wk_seq ?_)
                      exact wc_retV (res1 rfl rfl) ⟨g7, [], hg07, hs, rfl, by rw [bad (by rw [q1, q2']; rfl)]⟩
                    · have q2' : (!(decide (0 ≤ p.2) && decide (p.2 < 16))) = false := q2
                      refine wc_skip (wk_blk (wk_nexti () hii hp0 (⟨g7, Ghost.tr hg5 (Ghost.tr hg6 hg7), hs, ?_⟩) rfl rfl rfl rfl (by repeat (first | exact trivial | refine ⟨rfl, ?_⟩))))
                      rw [hsn, hr, q1, q2']; rfl
                · rintro _ w ⟨g5, hg5, hs, hr⟩
                  rw [List.take_length] at hr
                  refine wk_seq ?_
                  repeat (refine wc_seq ?_)
                  refine wc_region ?_
                  repeat (refine wl_p rfl rfl rfl ?_)
                  refine wl_nil (wk_seq ?_)
                  exact wc_retV (res1 rfl rfl) ⟨g5, [], Ghost.tr hg04 hg5, hs, rfl, by simp only [checkI, k1, k2, k3, k4, k5, hr, Bool.not_true, Bool.or_false, Bool.false_eq_true, if_false]⟩
end Go.Proofs.YtnanffbjmfgafaaGreat.S
namespace Go.Proofs.YtnanffbjmfgafaaGreat.S
open Go.RowKit
theorem lenB {n k : Nat} {b : Bool} (h : decide ((n : Int) ≤ (k : Int)) = b) : decide (n ≤ k) = b := by
  rw [← h, decide_eq_decide]; omega
theorem lenB2 (n k : Nat) : decide ((n : Int) ≤ (k : Int)) = decide (n ≤ k) := by rw [decide_eq_decide]; omega
def smallB (n : Int) (init : List Int) (ls : List ArrowI) (all : List Int) (pairs : List (Int × Int)) : Bool :=
  (decide (n ≤ 12) || decide (n > 20000)) && decide (init.length ≤ 40) && decide (ls.length ≤ 40) && decide (all.length ≤ 40) && decide (pairs.length ≤ 40)
theorem small_spec (g : Ghost) (n : Int) (vi vl va vp : Value) (init : List Int) (ls : List ArrowI) (all : List Int) (pairs : List (Int × Int)) (hi : RS kInt g vi init) (hl : RS kArrI g vl ls) (ha : RS kInt g va all) (hp : RS kPairI g vp pairs) :
    Cl PP 5 [.agg #[.int .i64 n, vi, vl, va, vp]] g [] (Det (.bool (smallB n init ls all pairs))) := by
  obtain ⟨ai, ci, rfl⟩ := hi.form
  obtain ⟨al, cl, rfl⟩ := hl.form
  obtain ⟨aa, ca, rfl⟩ := ha.form
  obtain ⟨ap, cp, rfl⟩ := hp.form
  have hB : smallB n init ls all pairs = ((decide (n ≤ 12) || decide (n > 20000)) && decide (init.length ≤ 40) && decide (ls.length ≤ 40) && decide (all.length ≤ 40) && decide (pairs.length ≤ 40)) := rfl
  refine cl_intro Tryz.func5 rfl rfl Tryz.ntmps5 rfl ?_
  intro w F hs
  repeat (refine wc_seq ?_)
  refine wc_region ?_
  refine wl_box hs rfl rfl rfl rfl ?_; clear hs; intro nb w hs
  repeat (refine wl_p rfl rfl rfl ?_)
  refine wl_nil (wk_seq ?_)
  repeat (refine wc_seq ?_)
  refine wc_region ?_
  repeat (refine wl_p rfl rfl rfl ?_)
  refine wl_ldO hs 0 rfl rfl rfl rfl rfl rfl rfl ?_
  repeat (refine wl_p rfl rfl rfl ?_)
  refine wl_case 6 rfl (fun q1 => ?_) (fun q1 => ?_)
  · have q1' : decide (n ≤ 12) = true := q1
    have hq : (decide (n ≤ 12) || decide (n > 20000)) = true := by rw [q1']; rfl
    repeat (first | refine wl_p rfl rfl rfl ?_ | refine wl_skip rfl rfl rfl ?_)
    refine wl_ldO hs 0 rfl rfl rfl rfl rfl rfl rfl ?_
    repeat (first | refine wl_p rfl rfl rfl ?_ | refine wl_skip rfl rfl rfl ?_)
    refine wl_case 17 rfl (fun e2 => ?_) (fun e2 => ?_)
    · have e2' := lenB e2
      repeat (first | refine wl_p rfl rfl rfl ?_ | refine wl_skip rfl rfl rfl ?_)
      refine wl_ldO hs 0 rfl rfl rfl rfl rfl rfl rfl ?_
      repeat (first | refine wl_p rfl rfl rfl ?_ | refine wl_skip rfl rfl rfl ?_)
      refine wl_case 23 rfl (fun e3 => ?_) (fun e3 => ?_)
      · have e3' := lenB e3
        repeat (first | refine wl_p rfl rfl rfl ?_ | refine wl_skip rfl rfl rfl ?_)
        refine wl_ldO hs 0 rfl rfl rfl rfl rfl rfl rfl ?_
        repeat (first | refine wl_p rfl rfl rfl ?_ | refine wl_skip rfl rfl rfl ?_)
        refine wl_case 30 rfl (fun e4 => ?_) (fun e4 => ?_)
        · have e4' := lenB e4
          repeat (first | refine wl_p rfl rfl rfl ?_ | refine wl_skip rfl rfl rfl ?_)
          refine wl_ldO hs 0 rfl rfl rfl rfl rfl rfl rfl ?_
          repeat (first | refine wl_p rfl rfl rfl ?_ | refine wl_skip rfl rfl rfl ?_)
          refine wl_nil (wk_seq ?_)
          refine wc_retV (res1 rfl rfl) ⟨g, [], Ghost.rfl', hs.drop, rfl, ?_⟩
          rw [hB, hq, e2', e3', e4']
          exact congrArg Value.bool (lenB2 pairs.length 40)
        · have e4' := lenB e4
          repeat (first | refine wl_p rfl rfl rfl ?_ | refine wl_skip rfl rfl rfl ?_)
          refine wl_nil (wk_seq ?_)
          exact wc_retV (res1 rfl rfl) ⟨g, [], Ghost.rfl', hs.drop, rfl, by rw [hB, hq, e2', e3', e4']; rfl⟩
      · have e3' := lenB e3
        repeat (first | refine wl_p rfl rfl rfl ?_ | refine wl_skip rfl rfl rfl ?_)
        refine wl_nil (wk_seq ?_)
        exact wc_retV (res1 rfl rfl) ⟨g, [], Ghost.rfl', hs.drop, rfl, by rw [hB, hq, e2', e3']; rfl⟩
    · have e2' := lenB e2
      repeat (first | refine wl_p rfl rfl rfl ?_ | refine wl_skip rfl rfl rfl ?_)
      refine wl_nil (wk_seq ?_)
      exact wc_retV (res1 rfl rfl) ⟨g, [], Ghost.rfl', hs.drop, rfl, by rw [hB, hq, e2']; rfl⟩
  · have q1' : decide (n ≤ 12) = false := q1
    repeat (first | refine wl_p rfl rfl rfl ?_ | refine wl_skip rfl rfl rfl ?_)
    refine wl_ldO hs 0 rfl rfl rfl rfl rfl rfl rfl ?_
    repeat (first | refine wl_p rfl rfl rfl ?_ | refine wl_skip rfl rfl rfl ?_)
    refine wl_case 11 rfl (fun q2 => ?_) (fun q2 => ?_)
    · have q2' : decide (n > 20000) = true := q2
      have hq : (decide (n ≤ 12) || decide (n > 20000)) = true := by rw [q1', q2']; rfl
      repeat (first | refine wl_p rfl rfl rfl ?_ | refine wl_skip rfl rfl rfl ?_)
      refine wl_ldO hs 0 rfl rfl rfl rfl rfl rfl rfl ?_
      repeat (first | refine wl_p rfl rfl rfl ?_ | refine wl_skip rfl rfl rfl ?_)
      refine wl_case 17 rfl (fun e2 => ?_) (fun e2 => ?_)
      · have e2' := lenB e2
        repeat (first | refine wl_p rfl rfl rfl ?_ | refine wl_skip rfl rfl rfl ?_)
        refine wl_ldO hs 0 rfl rfl rfl rfl rfl rfl rfl ?_
        repeat (first | refine wl_p rfl rfl rfl ?_ | refine wl_skip rfl rfl rfl ?_)
        refine wl_case 23 rfl (fun e3 => ?_) (fun e3 => ?_)
        · have e3' := lenB e3
          repeat (first | refine wl_p rfl rfl rfl ?_ | refine wl_skip rfl rfl rfl ?_)
          refine wl_ldO hs 0 rfl rfl rfl rfl rfl rfl rfl ?_
          repeat (first | refine wl_p rfl rfl rfl ?_ | refine wl_skip rfl rfl rfl ?_)
          refine wl_case 30 rfl (fun e4 => ?_) (fun e4 => ?_)
          · have e4' := lenB e4
            repeat (first | refine wl_p rfl rfl rfl ?_ | refine wl_skip rfl rfl rfl ?_)
            refine wl_ldO hs 0 rfl rfl rfl rfl rfl rfl rfl ?_
            repeat (first | refine wl_p rfl rfl rfl ?_ | refine wl_skip rfl rfl rfl ?_)
            refine wl_nil (wk_seq ?_)
            refine wc_retV (res1 rfl rfl) ⟨g, [], Ghost.rfl', hs.drop, rfl, ?_⟩
            rw [hB, hq, e2', e3', e4']
            exact congrArg Value.bool (lenB2 pairs.length 40)
          · have e4' := lenB e4
            repeat (first | refine wl_p rfl rfl rfl ?_ | refine wl_skip rfl rfl rfl ?_)
            refine wl_nil (wk_seq ?_)
            exact wc_retV (res1 rfl rfl) ⟨g, [], Ghost.rfl', hs.drop, rfl, by rw [hB, hq, e2', e3', e4']; rfl⟩
        · have e3' := lenB e3
          repeat (first | refine wl_p rfl rfl rfl ?_ | refine wl_skip rfl rfl rfl ?_)
          refine wl_nil (wk_seq ?_)
          exact wc_retV (res1 rfl rfl) ⟨g, [], Ghost.rfl', hs.drop, rfl, by rw [hB, hq, e2', e3']; rfl⟩
      · have e2' := lenB e2
        repeat (first | refine wl_p rfl rfl rfl ?_ | refine wl_skip rfl rfl rfl ?_)
        refine wl_nil (wk_seq ?_)
        exact wc_retV (res1 rfl rfl) ⟨g, [], Ghost.rfl', hs.drop, rfl, by rw [hB, hq, e2']; rfl⟩
    · have q2' : decide (n > 20000) = false := q2
      have hq : (decide (n ≤ 12) || decide (n > 20000)) = false := by rw [q1', q2']; rfl
      repeat (first | refine wl_p rfl rfl rfl ?_ | refine wl_skip rfl rfl rfl ?_)
      refine wl_nil (wk_seq ?_)
      exact wc_retV (res1 rfl rfl) ⟨g, [], Ghost.rfl', hs.drop, rfl, by rw [hB, hq]; rfl⟩
theorem small_lens {n : Int} {init : List Int} {ls : List ArrowI} {all : List Int} {pairs : List (Int × Int)} (h : smallB n init ls all pairs = true) : (n ≤ 12 ∨ n > 20000) ∧ init.length ≤ 40 ∧ ls.length ≤ 40 ∧ all.length ≤ 40 ∧ pairs.length ≤ 40 := by
  simpa [smallB, and_assoc] using h
def sampleL : List ArrowI := [⟨0, 1, 0⟩, ⟨1, 0, 1⟩, ⟨1, 2, 2⟩, ⟨2, 2, 0⟩]
theorem sample_spec (g : Ghost) (va vp : Value) (h1 : va.oneCell' = true) (h2 : vp.oneCell' = true) : Cl PP 13 [.agg #[va, vp]] g [] fun g' L' r => L' = [] ∧ ∃ vi vl, r = .agg #[.int .i64 3, vi, vl, va, vp] ∧ RS kInt g' vi [0] ∧ RS kArrI g' vl sampleL := by
  refine cl_intro Tryz.func13 rfl rfl Tryz.ntmps13 rfl ?_
  intro w F hs
  repeat (refine wc_seq ?_)
  refine wc_region ?_
  refine wl_box hs rfl rfl rfl rfl ?_; clear hs; intro wb w hs
  refine wl_new hs rfl rfl rfl ?_; clear hs; intro rb w hs
  refine wl_nil (wk_seq ?_)
  repeat (refine wc_seq ?_)
  refine wc_region ?_
  refine wl_lit (ps := [(0, .const (.int .i64 0))]) hs rfl rfl rfl rfl rfl rfl rfl rfl rfl rfl ?_
  clear hs; intro ib w hs
  refine wl_build (ps := [(0, .const (.int .i64 0)), (1, .const (.int .i64 1))]) rfl rfl rfl rfl rfl rfl rfl ?_
  refine wl_build (ps := [(0, .const (.int .i64 1)), (1, .const (.int .i64 0)), (2, .const (.int .u32 1))]) rfl rfl rfl rfl rfl rfl rfl ?_
  refine wl_build (ps := [(0, .const (.int .i64 1)), (1, .const (.int .i64 2)), (2, .const (.int .u32 2))]) rfl rfl rfl rfl rfl rfl rfl ?_
  refine wl_build (ps := [(0, .const (.int .i64 2)), (1, .const (.int .i64 2))]) rfl rfl rfl rfl rfl rfl rfl ?_
  refine wl_lit (ps := [(0, .tmp 4), (1, .tmp 5), (2, .tmp 6), (3, .tmp 7)]) hs rfl rfl rfl rfl rfl rfl rfl rfl rfl rfl ?_
  clear hs; intro lb w hs
  refine wl_ldW hs 3 rfl rfl rfl rfl rfl rfl rfl ?_
  refine wl_build (ps := [(0, .const (.int .i64 3)), (1, .tmp 3), (2, .tmp 8), (3, .tmp 9)]) rfl rfl rfl rfl rfl rfl rfl ?_
  refine wl_stN (cs := [.int .i64 3, .slice (some ⟨ib, 0, none⟩) 1 1, .slice (some ⟨lb, 0, none⟩) 4 4, va, vp]) hs 2 rfl rfl rfl rfl rfl (Nat.le_of_ble_eq_true rfl) (by simp only [List.all_cons, List.all_nil, h1, h2]; rfl) rfl ?_
  clear hs; intro w hs
  refine wl_nil (wk_seq ?_)
  obtain ⟨g1, hg1, hs, hlb⟩ := freezeB hs
  obtain ⟨g2, hg2, hs, hib⟩ := freezeB hs
  refine wc_retV (resCN (k := 0) hs rfl rfl rfl rfl rfl rfl) ⟨g2, [], Ghost.tr hg1 hg2, hs.drop.drop, rfl, _, _, rfl, RS.mk' rfl hib fun i hi => ?_, RS.mk' rfl (hlb.mono hg2) fun i hi => ?_⟩
  · rcases i with _ | i
    · rfl
    · simp at hi
  · simp only [sampleL, List.length_cons, List.length_nil] at hi
    rcases i with _ | _ | _ | _ | i
    · rfl
    · rfl
    · rfl
    · rfl
    · omega
end Go.Proofs.YtnanffbjmfgafaaGreat.S
namespace Go.Proofs.YtnanffbjmfgafaaGreat.S
open Go.RowKit
structure Row where
  all : List Int
  pairs : List (Int × Int)
  want : List Int
def saneRows : List Row := [⟨[], [], [0, 1, 2]⟩, ⟨[0], [], [0, 1]⟩, ⟨[0, 1], [], []⟩, ⟨[], [(0, 1)], [2]⟩, ⟨[0], [(0, 1)], []⟩]
def DF : Nat := 200
def rowOk (r : Row) : Bool :=
  (coresI 3 sampleL r.all r.pairs == some (r.want.map Int.toNat, 0)) && r.want.all (fun x => decide (0 ≤ x)) &&
  (match findI 3 [0] sampleL r.all r.pairs with | some (o, e) => (o.isSome == decide (0 < r.want.length)) && e == 0 | none => false) &&
  (match proveI (DF + 1) 3 [0] sampleL r.all r.pairs with | some (o, e) => (o.isSome == !decide (0 < r.want.length)) && e == 0 | none => false)
theorem rows_ok : saneRows.all rowOk = true := by decide +kernel
def dTwo : Drop := .mk 3 0 [2] [] []
def dBoth : Drop := .mk 3 1 [0, 1] [] []
def dAll : Drop := .mk 1 0 [0, 1, 2] [1, 1, 0] [dTwo, dBoth]
theorem sane_rest : (acceptsI 3 [0] sampleL [] [(0, 1)] 0 [] [0, 1] == (false, 0) && acceptsI 3 [0] sampleL [] [(1, 0)] 0 [] [0, 1] == (true, 0) &&
  verifyI (DF + 1) 3 [0] sampleL [0, 1] [] dAll == some 0 && verifyI (DF + 1) 3 [0] sampleL [0, 1] [] dTwo == some 312) = true := by decide +kernel
end Go.Proofs.YtnanffbjmfgafaaGreat.S
namespace Go.Proofs.YtnanffbjmfgafaaGreat.S
open Go.RowKit
def kRow : Kd Row := ⟨3, fun g cs r => ∃ va vp vw, cs = [va, vp, vw] ∧ RS kInt g va r.all ∧ RS kPairI g vp r.pairs ∧ RS kInt g vw r.want, fun ⟨_, _, _, e, _⟩ => by rw [e]; rfl, fun hg ⟨va, vp, vw, e, h1, h2, h3⟩ => ⟨va, vp, vw, e, h1.mono hg, h2.mono hg, h3.mono hg⟩⟩
structure RowOk (r : Row) : Prop where
  cores : coresI 3 sampleL r.all r.pairs = some (r.want.map Int.toNat, 0)
  nonneg : (r.want.map Int.toNat).map Int.ofNat = r.want
  find : ∃ o, findI 3 [0] sampleL r.all r.pairs = some (o, 0) ∧ o.isSome = decide (0 < r.want.length)
  prove : ∃ o, proveI (DF + 1) 3 [0] sampleL r.all r.pairs = some (o, 0) ∧ o.isSome = !decide (0 < r.want.length)
theorem rowOk_iff {r : Row} (h : rowOk r = true) : RowOk r := by
  simp only [rowOk, Bool.and_eq_true] at h
  obtain ⟨⟨⟨h1, h2⟩, h3⟩, h4⟩ := h
  refine ⟨eq_of_beq h1, ?_, ?_, ?_⟩
  · rw [List.map_map]
    refine (List.map_congr_left (g := id) fun x hx => ?_).trans (List.map_id _)
    have := of_decide_eq_true (List.all_eq_true.1 h2 x hx)
    show Int.ofNat x.toNat = x
    exact Int.toNat_of_nonneg this
  · split at h3
    · rename_i o e q
      simp only [Bool.and_eq_true] at h3
      have := eq_of_beq h3.2
      subst this
      exact ⟨o, q, eq_of_beq h3.1⟩
    · cases h3
  · split at h4
    · rename_i o e q
      simp only [Bool.and_eq_true] at h4
      have := eq_of_beq h4.2
      subst this
      exact ⟨o, q, eq_of_beq h4.1⟩
    · cases h4
theorem sane_acc : acceptsI 3 [0] sampleL [] [(0, 1)] 0 [] [0, 1] = (false, 0) ∧ acceptsI 3 [0] sampleL [] [(1, 0)] 0 [] [0, 1] = (true, 0) ∧ verifyI (DF + 1) 3 [0] sampleL [0, 1] [] dAll = some 0 ∧ verifyI (DF + 1) 3 [0] sampleL [0, 1] [] dTwo = some 312 := by
  have h := sane_rest
  simp only [Bool.and_eq_true] at h
  exact ⟨eq_of_beq h.1.1.1, eq_of_beq h.1.1.2, eq_of_beq h.1.2, eq_of_beq h.2⟩
theorem dTwo_ok (k : Nat) : DropOk (k + 1) dTwo := ⟨by simp [dTwo, Drop.l], by simp [dTwo, Drop.nodes], by simp [dTwo, Drop.rank], fun i h => by simp [dTwo, Drop.l] at h⟩
theorem dBoth_ok (k : Nat) : DropOk (k + 1) dBoth := ⟨by simp [dBoth, Drop.l], by simp [dBoth, Drop.nodes], by simp [dBoth, Drop.rank], fun i h => by simp [dBoth, Drop.l] at h⟩
theorem dAll_ok (k : Nat) : DropOk (k + 1 + 1) dAll := ⟨by simp [dAll, Drop.l], by simp [dAll, Drop.nodes], by simp [dAll, Drop.rank], fun i h => by
  simp only [dAll, Drop.l, List.length_cons, List.length_nil] at h
  rcases i with _ | _ | i
  · exact dTwo_ok k
  · exact dBoth_ok k
  · omega⟩
theorem sane_spec (g : Ghost) : Cl PP 4 [] g [] (Det (.bool true)) := by
  obtain ⟨acc1, acc2, ver1, ver2⟩ := sane_acc
  refine cl_intro Tryz.func4 rfl rfl Tryz.ntmps4 rfl ?_
  intro w F hs
  repeat (refine wc_seq ?_)
  refine wc_region ?_
  repeat (refine wl_p rfl rfl rfl ?_)
  refine wl_nil (wk_seq ?_)
  repeat (refine wc_seq ?_)
  refine wc_region ?_
  refine wl_build (ps := []) rfl rfl rfl rfl rfl rfl rfl ?_
  refine wl_lit (ps := [(0, .const (.int .i64 0)), (1, .const (.int .i64 1)), (2, .const (.int .i64 2))]) hs rfl rfl rfl rfl rfl rfl rfl rfl rfl rfl ?_
  clear hs; intro b22 w hs
  refine wl_build (ps := [(0, .tmp 21), (1, .tmp 22)]) rfl rfl rfl rfl rfl rfl rfl ?_
  refine wl_lit (ps := [(0, .const (.int .i64 0))]) hs rfl rfl rfl rfl rfl rfl rfl rfl rfl rfl ?_
  clear hs; intro b24 w hs
  refine wl_build (ps := [(0, .tmp 24)]) rfl rfl rfl rfl rfl rfl rfl ?_
  refine wl_lit (ps := [(0, .const (.int .i64 0)), (1, .const (.int .i64 1))]) hs rfl rfl rfl rfl rfl rfl rfl rfl rfl rfl ?_
  clear hs; intro b26 w hs
  refine wl_build (ps := [(0, .tmp 25), (1, .tmp 26)]) rfl rfl rfl rfl rfl rfl rfl ?_
  refine wl_lit (ps := [(0, .const (.int .i64 0)), (1, .const (.int .i64 1))]) hs rfl rfl rfl rfl rfl rfl rfl rfl rfl rfl ?_
  clear hs; intro b28 w hs
  refine wl_build (ps := [(0, .tmp 28)]) rfl rfl rfl rfl rfl rfl rfl ?_
  refine wl_build (ps := [(0, .tmp 29), (1, .const (.slice none 0 0))]) rfl rfl rfl rfl rfl rfl rfl ?_
  refine wl_buildA (ps := [(0, .const (.int .i64 0)), (1, .const (.int .i64 1))]) rfl rfl rfl rfl rfl rfl rfl rfl rfl ?_
  refine wl_lit (ps := [(0, .tmp 31)]) hs rfl rfl rfl rfl rfl rfl rfl rfl rfl rfl ?_
  clear hs; intro b32 w hs
  refine wl_build (ps := [(1, .tmp 32)]) rfl rfl rfl rfl rfl rfl rfl ?_
  refine wl_lit (ps := [(0, .const (.int .i64 2))]) hs rfl rfl rfl rfl rfl rfl rfl rfl rfl rfl ?_
  clear hs; intro b34 w hs
  refine wl_build (ps := [(0, .tmp 33), (1, .tmp 34)]) rfl rfl rfl rfl rfl rfl rfl ?_
  refine wl_lit (ps := [(0, .const (.int .i64 0))]) hs rfl rfl rfl rfl rfl rfl rfl rfl rfl rfl ?_
  clear hs; intro b36 w hs
  refine wl_buildA (ps := [(0, .const (.int .i64 0)), (1, .const (.int .i64 1))]) rfl rfl rfl rfl rfl rfl rfl rfl rfl ?_
  refine wl_lit (ps := [(0, .tmp 37)]) hs rfl rfl rfl rfl rfl rfl rfl rfl rfl rfl ?_
  clear hs; intro b38 w hs
  refine wl_build (ps := [(0, .tmp 36), (1, .tmp 38)]) rfl rfl rfl rfl rfl rfl rfl ?_
  refine wl_build (ps := [(0, .tmp 39), (1, .const (.slice none 0 0))]) rfl rfl rfl rfl rfl rfl rfl ?_
  refine wl_lit (ps := [(0, .tmp 23), (1, .tmp 27), (2, .tmp 30), (3, .tmp 35), (4, .tmp 40)]) hs rfl rfl rfl rfl rfl rfl rfl rfl rfl rfl ?_
  clear hs; intro b41 w hs
  repeat (refine wl_p rfl rfl rfl ?_)
  refine wl_nil (wk_seq ?_)
  obtain ⟨g1, hg1, hs, hb41⟩ := freezeB hs
  obtain ⟨g2, hg2, hs, hb38⟩ := freezeB hs
  obtain ⟨g3, hg3, hs, hb36⟩ := freezeB hs
  obtain ⟨g4, hg4, hs, hb34⟩ := freezeB hs
  obtain ⟨g5, hg5, hs, hb32⟩ := freezeB hs
  obtain ⟨g6, hg6, hs, hb28⟩ := freezeB hs
  obtain ⟨g7, hg7, hs, hb26⟩ := freezeB hs
  obtain ⟨g8, hg8, hs, hb24⟩ := freezeB hs
  obtain ⟨g9, hg9, hs, hb22⟩ := freezeB hs
  replace hs := (show St g9 w F from hs)
  replace hb41 := hb41.mono (Ghost.tr hg2 (Ghost.tr hg3 (Ghost.tr hg4 (Ghost.tr hg5 (Ghost.tr hg6 (Ghost.tr hg7 (Ghost.tr hg8 (hg9))))))))
  replace hb38 := hb38.mono (Ghost.tr hg3 (Ghost.tr hg4 (Ghost.tr hg5 (Ghost.tr hg6 (Ghost.tr hg7 (Ghost.tr hg8 (hg9)))))))
  replace hb36 := hb36.mono (Ghost.tr hg4 (Ghost.tr hg5 (Ghost.tr hg6 (Ghost.tr hg7 (Ghost.tr hg8 (hg9))))))
  replace hb34 := hb34.mono (Ghost.tr hg5 (Ghost.tr hg6 (Ghost.tr hg7 (Ghost.tr hg8 (hg9)))))
  replace hb32 := hb32.mono (Ghost.tr hg6 (Ghost.tr hg7 (Ghost.tr hg8 (hg9))))
  replace hb28 := hb28.mono (Ghost.tr hg7 (Ghost.tr hg8 (hg9)))
  replace hb26 := hb26.mono (Ghost.tr hg8 (hg9))
  replace hb24 := hb24.mono (hg9)
  replace hb22 := hb22.mono (Ghost.rfl')
  have hg09 : g ≤ g9 := Ghost.tr hg1 (Ghost.tr hg2 (Ghost.tr hg3 (Ghost.tr hg4 (Ghost.tr hg5 (Ghost.tr hg6 (Ghost.tr hg7 (Ghost.tr hg8 (hg9))))))))
  have hrows : RS kRow g9 (.slice (some ⟨b41, 0, none⟩) 5 5) saneRows := RS.mk' rfl hb41 fun i hi => by
    simp only [saneRows, List.length_cons, List.length_nil] at hi
    rcases i with _ | _ | _ | _ | _ | i
    · exact ⟨_, _, _, rfl, RS.nil _ _ _ _, RS.nil _ _ _ _, RS.ofFlat [0, 1, 2] rfl hb22⟩
    · exact ⟨_, _, _, rfl, RS.ofFlat [0] rfl hb24, RS.nil _ _ _ _, RS.ofFlat [0, 1] rfl hb26⟩
    · exact ⟨_, _, _, rfl, RS.ofFlat [0, 1] rfl hb28, RS.nil _ _ _ _, RS.nil _ _ _ _⟩
    · exact ⟨_, _, _, rfl, RS.nil _ _ _ _, RS.ofFlat [(0, 1)] rfl hb32, RS.ofFlat [2] rfl hb34⟩
    · exact ⟨_, _, _, rfl, RS.ofFlat [0] rfl hb36, RS.ofFlat [(0, 1)] rfl hb38, RS.nil _ _ _ _⟩
    · omega
  clear hb41
  clear hb38
  clear hb36
  clear hb34
  clear hb32
  clear hb28
  clear hb26
  clear hb24
  clear hb22
  have hall := rows_ok
  rw [List.all_eq_true] at hall
  refine wc_for 5 (fun _ (_ : Unit) => [(42, .int .i64 5), (41, .slice (some ⟨b41, 0, none⟩) 5 5)]) (fun _ (_ : Unit) w => ∃ g', g9 ≤ g' ∧ St g' w F) () (by omega) (by repeat (first | exact trivial | refine ⟨rfl, ?_⟩)) ⟨g9, Ghost.rfl', hs⟩ (fun _ _ => rfl) rfl rfl rfl ?_ ?_ (fun _ _ => rfl) rfl
  · rintro i _ w hi ⟨g10, hg10, hs⟩
    have hg010 := Ghost.tr hg09 hg10
    have hR := hrows.mono hg10
    have hi5 : i < saneRows.length := hi
    obtain ⟨cs, ⟨va, vp, vw, rfl, ra, rp, rw_⟩, hl⟩ := hR.get hi5
    have hO := rowOk_iff (hall _ (List.getElem_mem hi5))
    generalize saneRows[i] = r at ra rp rw_ hO
    repeat (refine wc_seq ?_)
    refine wc_region ?_
    refine wl_ix rfl rfl rfl rfl rfl (by omega) (hR.base hi5) rfl rfl ?_
    refine wl_ldGN (cs := [va, vp, vw]) hs (Lies.of_eaddr hl) rfl rfl rfl rfl rfl rfl ?_
    refine wl_new hs rfl rfl rfl ?_; clear hs; intro rwb w hs
    refine wl_stN (cs := [va, vp, vw]) hs 0 rfl rfl rfl rfl rfl (Nat.le_of_ble_eq_true rfl) (by simp only [List.all_cons, List.all_nil, ra.one, rp.one, rw_.one]; rfl) rfl ?_
    clear hs; intro w hs
    refine wl_nil (wk_seq ?_)
    replace hs := (show St g10 w ((rwb, cellsO [va, vp, vw] 43) :: F) from hs)
    obtain ⟨g11, hg11, hs, hrw⟩ := freezeB hs
    replace hrw := (show Lies g11 rwb 0 [va, vp, vw] from hrw)
    repeat (refine wc_seq ?_)
    refine wc_region ?_
    repeat (refine wl_p rfl rfl rfl ?_)
    refine wl_ldGN (cs := [va, vp]) hs hrw.at0 rfl rfl rfl rfl rfl rfl ?_
    refine wl_call (L := []) rfl rfl rfl hs (sample_spec g11 va vp ra.one rp.one) ?_
    rintro u g12 L' w hg12 hs ⟨rfl, vi, vl, rfl, ri, rl⟩
    refine wl_new hs rfl rfl rfl ?_; clear hs; intro nb w hs
    refine wl_stN (cs := [.int .i64 3, vi, vl, va, vp]) hs 0 rfl rfl rfl rfl rfl (Nat.le_of_ble_eq_true rfl) (by simp only [List.all_cons, List.all_nil, ra.one, rp.one, ri.one, rl.one]; rfl) rfl ?_
    clear hs; intro w hs
    refine wl_nil (wk_seq ?_)
    replace hs := (show St g12 w ((nb, cellsO [.int .i64 3, vi, vl, va, vp] 28) :: F) from hs)
    obtain ⟨g13, hg13, hs, hnb⟩ := freezeB hs
    replace hnb := (show Lies g13 nb 0 [.int .i64 3, vi, vl, va, vp] from hnb)
    replace hs := (show St g13 w F from hs)
    have hg1013 := Ghost.tr hg11 (Ghost.tr hg12 hg13)
    replace ra := ra.mono hg1013
    replace rp := rp.mono hg1013
    replace rw_ := rw_.mono hg1013
    replace ri := ri.mono hg13
    replace rl := rl.mono hg13
    have hrw13 := hrw.mono (Ghost.tr hg12 hg13)
    have hl4 : sampleL.length ≤ 4611686018427387904 := by simp [sampleL]
    have hi1 : ([0] : List Int).length ≤ 4611686018427387904 := by simp
    have hC := checkI 3 [0] sampleL r.all r.pairs
    obtain ⟨hlen_a, hlen_p⟩ : r.all.length ≤ 4611686018427387904 ∧ r.pairs.length ≤ 4611686018427387904 := by
      have hc : checkI 3 [] sampleL r.all r.pairs = 0 := by
        have := hO.cores
        unfold coresI at this
        split at this
        · assumption
        · simp only [Option.some.injEq, Prod.mk.injEq] at this
          exact this.2
      have h1 := (checked hc).all.len (by omega)
      have h2 := (checked hc).plen
      omega
    repeat (refine wc_seq ?_)
    refine wc_region ?_
    repeat (refine wl_p rfl rfl rfl ?_)
    refine wl_ldG hs (hnb 0 _ rfl) rfl rfl rfl rfl rfl ?_
    repeat (refine wl_p rfl rfl rfl ?_)
    refine wl_ldG hs (hnb 2 _ rfl) rfl rfl rfl rfl rfl ?_
    repeat (refine wl_p rfl rfl rfl ?_)
    refine wl_ldGN (cs := [va, vp]) hs hnb.at3 rfl rfl rfl rfl rfl rfl ?_
    refine wl_call (L := []) rfl rfl rfl hs (Cores_spec g13 3 _ _ _ sampleL r.all r.pairs rl ra rp hl4 hlen_a hlen_p _ hO.cores) ?_
    rintro u g14 L' w hg14 hs ⟨rfl, vc, rfl, rc⟩
    obtain ⟨ac, cc, rfl⟩ := rc.form
    repeat (refine wl_p rfl rfl rfl ?_)
    refine wl_nil (wk_seq ?_)
    obtain ⟨of, hof, hofs⟩ := hO.find
    obtain ⟨op, hop, hops⟩ := hO.prove
    repeat (refine wc_seq ?_)
    refine wc_region ?_
    repeat (refine wl_p rfl rfl rfl ?_)
    refine wl_ldG hs (hnb.mono hg14 0 _ rfl) rfl rfl rfl rfl rfl ?_
    repeat (refine wl_p rfl rfl rfl ?_)
    refine wl_ldG hs (hnb.mono hg14 1 _ rfl) rfl rfl rfl rfl rfl ?_
    repeat (refine wl_p rfl rfl rfl ?_)
    refine wl_ldG hs (hnb.mono hg14 2 _ rfl) rfl rfl rfl rfl rfl ?_
    repeat (refine wl_p rfl rfl rfl ?_)
    refine wl_ldGN (cs := [va, vp]) hs (hnb.mono hg14).at3 rfl rfl rfl rfl rfl rfl ?_
    refine wl_call (L := []) rfl rfl rfl hs (Find_spec g14 3 _ _ _ _ [0] sampleL r.all r.pairs (ri.mono hg14) (rl.mono hg14) (ra.mono hg14) (rp.mono hg14) hi1 hl4 hlen_a hlen_p _ hof) ?_
    rintro u g15 L' w hg15 hs ⟨rfl, vs, vlo, rfl, rs1, rs2⟩
    have hg1315 := Ghost.tr hg14 hg15
    repeat (refine wl_p rfl rfl rfl ?_)
    refine wl_new hs rfl rfl rfl ?_; clear hs; intro fb w hs
    refine wl_stN (cs := [.int .i64 (((of, (0 : Int)).1.getD (0, [], [])).1 : Int), vs, vlo]) hs 0 rfl rfl rfl rfl rfl (Nat.le_of_ble_eq_true rfl) (by simp only [List.all_cons, List.all_nil, rs1.one, rs2.one]; rfl) rfl ?_
    clear hs; intro w hs
    repeat (refine wl_p rfl rfl rfl ?_)
    refine wl_nil (wk_seq ?_)
    replace hs := hs.drop
    repeat (refine wc_seq ?_)
    refine wc_region ?_
    repeat (refine wl_p rfl rfl rfl ?_)
    refine wl_ldG hs (hnb.mono hg1315 0 _ rfl) rfl rfl rfl rfl rfl ?_
    repeat (refine wl_p rfl rfl rfl ?_)
    refine wl_ldG hs (hnb.mono hg1315 1 _ rfl) rfl rfl rfl rfl rfl ?_
    repeat (refine wl_p rfl rfl rfl ?_)
    refine wl_ldG hs (hnb.mono hg1315 2 _ rfl) rfl rfl rfl rfl rfl ?_
    repeat (refine wl_p rfl rfl rfl ?_)
    refine wl_ldGN (cs := [va, vp]) hs (hnb.mono hg1315).at3 rfl rfl rfl rfl rfl rfl ?_
    refine wl_call (L := []) rfl rfl rfl hs (Prove_spec DF g15 3 _ _ _ _ [0] sampleL r.all r.pairs (ri.mono hg1315) (rl.mono hg1315) (ra.mono hg1315) (rp.mono hg1315) hi1 hl4 hlen_a hlen_p _ hop) ?_
    rintro u g16 L' w hg16 hs ⟨rfl, cd, rfl, hdr⟩
    have hg1316 := Ghost.tr hg1315 hg16
    obtain ⟨d1, d2, d3, d4, d5, rfl, hone⟩ := hdr.cells5
    repeat (refine wl_p rfl rfl rfl ?_)
    refine wl_new hs rfl rfl rfl ?_; clear hs; intro pb w hs
    refine wl_stN (cs := [d1, d2, d3, d4, d5]) hs 0 rfl rfl rfl rfl rfl (Nat.le_of_ble_eq_true rfl) hone rfl ?_
    clear hs; intro w hs
    repeat (refine wl_p rfl rfl rfl ?_)
    refine wl_nil (wk_seq ?_)
    have hs16 : St g16 w F := hs.drop
    have hofs' : (of, (0 : Int)).1.isSome = decide (0 < r.want.length) := hofs
    have hops' : (op, (0 : Int)).1.isSome = !decide (0 < r.want.length) := hops
    rw [hofs', hops']
    obtain ⟨aw, cw, hvw⟩ := rw_.form
    subst hvw
    have hs : St g16 w F := by assumption
    have hw2 : decide (((r.want.length : Nat) : Int) > 0) = decide (0 < r.want.length) := by rw [decide_eq_decide]; omega
    have hwl : r.want.length ≤ 4611686018427387904 := by
      have h1 := hO.cores
      unfold coresI at h1
      split at h1
      · obtain ⟨c, hc1, hc2⟩ := Option.map_eq_some_iff.1 h1
        have := (coresR_lt hc1).2
        simp only [Prod.mk.injEq] at hc2
        rw [hc2.1, List.length_map] at this
        omega
      · simp only [Option.some.injEq, Prod.mk.injEq] at h1
        have : r.want.length = 0 := by have := congrArg List.length h1.1; simpa using this.symm
        omega
    repeat (refine wc_seq ?_)
    refine wc_region ?_
    repeat (first | refine wl_p rfl rfl rfl ?_ | refine wl_skip rfl rfl rfl ?_)
    refine wl_ldG hs (hrw13.mono hg1316 2 _ rfl) rfl rfl rfl rfl rfl ?_
    refine wl_call (L := []) rfl rfl rfl hs (equal_spec g16 _ _ _ r.want ((rc.mono (Ghost.tr hg15 hg16)).ofNat) (rw_.mono hg1316) (by rw [hO.nonneg]; exact hwl)) ?_
    rintro u g17 L' w hg17 hs ⟨rfl, rfl⟩
    rw [decide_eq_true hO.nonneg]
    have hg1317 := Ghost.tr hg1316 hg17
    repeat (first | refine wl_p rfl rfl rfl ?_ | refine wl_skip rfl rfl rfl ?_)
    refine wl_ldG hs (hrw13.mono hg1317 2 _ rfl) rfl rfl rfl rfl rfl ?_
    repeat (first | refine wl_p rfl rfl rfl ?_ | refine wl_skip rfl rfl rfl ?_)
    refine wl_neqB false (by rw [hw2]; cases decide (0 < r.want.length) <;> rfl) rfl rfl rfl rfl rfl rfl ?_
    repeat (first | refine wl_p rfl rfl rfl ?_ | refine wl_skip rfl rfl rfl ?_)
    refine wl_eqB false (by cases decide (0 < r.want.length) <;> rfl) rfl rfl rfl rfl rfl rfl ?_
    repeat (first | refine wl_p rfl rfl rfl ?_ | refine wl_skip rfl rfl rfl ?_)
    refine wl_nil (wk_seq ?_)
    refine wc_condF rfl rfl (wc_skip (wk_blk (wk_next () hi (by omega) ⟨g17, Ghost.tr hg10 (Ghost.tr hg1013 hg1317), hs⟩ rfl rfl rfl (by repeat (first | exact trivial | refine ⟨rfl, ?_⟩)))))
  · rintro _ w ⟨g10, hg10, hs⟩
    have hg010 := Ghost.tr hg09 hg10
    refine wk_seq ?_
    repeat (refine wc_seq ?_)
    refine wc_region ?_
    refine wl_buildA (ps := [(0, .const (.int .i64 0)), (1, .const (.int .i64 1))]) rfl rfl rfl rfl rfl rfl rfl rfl rfl ?_
    refine wl_lit (ps := [(0, .tmp 117)]) hs rfl rfl rfl rfl rfl rfl rfl rfl rfl rfl ?_
    clear hs; intro pb w hs
    refine wl_build (ps := [(1, .tmp 118)]) rfl rfl rfl rfl rfl rfl rfl ?_
    refine wl_call (L := []) rfl rfl rfl hs (sample_spec g10 (.slice none 0 0) (.slice (some ⟨pb, 0, none⟩) 1 1) rfl rfl) ?_
    rintro u g11 L' w hg11 hs ⟨rfl, vi, vl, rfl, ri, rl⟩
    refine wl_new hs rfl rfl rfl ?_; clear hs; intro nb w hs
    refine wl_stN (cs := [.int .i64 3, vi, vl, .slice none 0 0, .slice (some ⟨pb, 0, none⟩) 1 1]) hs 0 rfl rfl rfl rfl rfl (Nat.le_of_ble_eq_true rfl) (by simp only [List.all_cons, List.all_nil, ri.one, rl.one]; rfl) rfl ?_
    clear hs; intro w hs
    refine wl_nil (wk_seq ?_)
    repeat (refine wc_seq ?_)
    refine wc_region ?_
    refine wl_lit (ps := [(0, .const (.int .i64 0)), (1, .const (.int .i64 1))]) hs rfl rfl rfl rfl rfl rfl rfl rfl rfl rfl ?_
    clear hs; intro lb w hs
    refine wl_build (ps := [(2, .tmp 121)]) rfl rfl rfl rfl rfl rfl rfl ?_
    refine wl_new hs rfl rfl rfl ?_; clear hs; intro rb w hs
    refine wl_stN hs 0 rfl rfl rfl rfl rfl (Nat.le_of_ble_eq_true rfl) rfl rfl ?_; clear hs; intro w hs
    refine wl_nil (wk_seq ?_)
    replace hs := (show St g11 w ((lb, cellsO [.int .i64 0, .int .i64 1] 3) :: (rb, cellsO [.int .i64 0, .slice none 0 0, .slice (some ⟨lb, 0, none⟩) 2 2] 50) :: (nb, cellsO [.int .i64 3, vi, vl, .slice none 0 0, .slice (some ⟨pb, 0, none⟩) 1 1] 28) :: (pb, cellsO [.int .i64 0, .int .i64 1] 44) :: F) from hs.perm (by classical exact List.perm_iff_count.2 fun x => by simp only [List.append_eq, List.set_cons_succ, List.set_cons_zero, List.eraseIdx_cons_zero, List.eraseIdx_cons_succ, List.count_cons, List.count_append, List.cons_append, List.nil_append, List.append_nil, List.append_assoc] <;> ac_rfl))
    obtain ⟨g12, hg12, hs, hlb⟩ := freezeB hs
    obtain ⟨g13, hg13, hs, hrb⟩ := freezeB hs
    have hg1013 := Ghost.tr hg11 (Ghost.tr hg12 hg13)
    have hg013 := Ghost.tr hg010 hg1013
    replace hlb := hlb.mono hg13
    replace ri := ri.mono (Ghost.tr hg12 hg13)
    replace rl := rl.mono (Ghost.tr hg12 hg13)
    have rlo : RS kInt g13 (.slice (some ⟨lb, 0, none⟩) 2 2) [0, 1] := RS.ofFlat [0, 1] rfl hlb
    replace hs := (show St g13 w ((pb, cellsO [.int .i64 0, .int .i64 1] 44) :: (nb, cellsO [.int .i64 3, vi, vl, .slice none 0 0, .slice (some ⟨pb, 0, none⟩) 1 1] 28) :: F) from hs.perm (by classical exact List.perm_iff_count.2 fun x => by simp only [List.append_eq, List.set_cons_succ, List.set_cons_zero, List.eraseIdx_cons_zero, List.eraseIdx_cons_succ, List.count_cons, List.count_append, List.cons_append, List.nil_append, List.append_nil, List.append_assoc] <;> ac_rfl))
    have hsA := hs
    obtain ⟨g14, hg14, hs, hpb, hpH⟩ := freezeH hs
    have rp : RS kPairI g14 (.slice (some ⟨pb, 0, none⟩) 1 1) [(0, 1)] := RS.ofFlat [(0, 1)] rfl hpb
    repeat (refine wc_seq ?_)
    refine wc_region ?_
    repeat (refine wl_p rfl rfl rfl ?_)
    refine wl_ldO hs 0 rfl rfl rfl rfl rfl rfl rfl ?_
    repeat (refine wl_p rfl rfl rfl ?_)
    refine wl_ldO hs 0 rfl rfl rfl rfl rfl rfl rfl ?_
    repeat (refine wl_p rfl rfl rfl ?_)
    refine wl_ldO hs 0 rfl rfl rfl rfl rfl rfl rfl ?_
    repeat (refine wl_p rfl rfl rfl ?_)
    refine wl_ldON hs 0 rfl rfl rfl rfl rfl rfl rfl ?_
    refine wl_ldGN (cs := [.int .i64 0, .slice none 0 0, .slice (some ⟨lb, 0, none⟩) 2 2]) hs (hrb.mono hg14).at' rfl rfl rfl rfl rfl rfl ?_
    refine wl_call (L := []) rfl rfl rfl hs (accepts_spec g14 3 _ _ _ _ _ _ [0] sampleL [] [(0, 1)] 0 [] [0, 1] (ri.mono hg14) (rl.mono hg14) (RS.nil _ _ _ _) rp (RS.nil _ _ _ _) (rlo.mono hg14) (by simp) (by simp [sampleL]) (by simp) (by simp) (by simp) (by simp)) ?_
    rintro u g15 L' w hg15 hs15 ⟨rfl, rfl⟩
    rw [acc1]
    have hs := hsA.thaw hg14 hpH hg15 hs15
    repeat (refine wl_p rfl rfl rfl ?_)
    refine wl_nil (wk_seq ?_)
    repeat (refine wc_seq ?_)
    refine wc_region ?_
    repeat (refine wl_p rfl rfl rfl ?_)
    refine wl_ldO hs 1 rfl rfl rfl rfl rfl rfl rfl ?_
    refine wl_buildA (ps := [(0, .const (.int .i64 1)), (1, .const (.int .i64 0))]) rfl rfl rfl rfl rfl rfl rfl rfl rfl ?_
    refine wl_ixO rfl rfl rfl rfl rfl (by omega) rfl rfl ?_
    refine wl_stN hs 0 rfl rfl rfl rfl rfl (Nat.le_of_ble_eq_true rfl) rfl rfl ?_; clear hs; intro w hs
    refine wl_nil (wk_seq ?_)
    replace hs := (show St g13 w ((pb, cellsO [.int .i64 1, .int .i64 0] 44) :: (nb, cellsO [.int .i64 3, vi, vl, .slice none 0 0, .slice (some ⟨pb, 0, none⟩) 1 1] 28) :: F) from hs)
    obtain ⟨g16, hg16, hs, hpb⟩ := freezeB hs
    have rp : RS kPairI g16 (.slice (some ⟨pb, 0, none⟩) 1 1) [(1, 0)] := RS.ofFlat [(1, 0)] rfl hpb
    repeat (refine wc_seq ?_)
    refine wc_region ?_
    repeat (refine wl_p rfl rfl rfl ?_)
    refine wl_ldO hs 0 rfl rfl rfl rfl rfl rfl rfl ?_
    repeat (refine wl_p rfl rfl rfl ?_)
    refine wl_ldO hs 0 rfl rfl rfl rfl rfl rfl rfl ?_
    repeat (refine wl_p rfl rfl rfl ?_)
    refine wl_ldO hs 0 rfl rfl rfl rfl rfl rfl rfl ?_
    repeat (refine wl_p rfl rfl rfl ?_)
    refine wl_ldON hs 0 rfl rfl rfl rfl rfl rfl rfl ?_
    refine wl_ldGN (cs := [.int .i64 0, .slice none 0 0, .slice (some ⟨lb, 0, none⟩) 2 2]) hs (hrb.mono hg16).at' rfl rfl rfl rfl rfl rfl ?_
    refine wl_call (L := []) rfl rfl rfl hs (accepts_spec g16 3 _ _ _ _ _ _ [0] sampleL [] [(1, 0)] 0 [] [0, 1] (ri.mono hg16) (rl.mono hg16) (RS.nil _ _ _ _) rp (RS.nil _ _ _ _) (rlo.mono hg16) (by simp) (by simp [sampleL]) (by simp) (by simp) (by simp) (by simp)) ?_
    rintro u g17 L' w hg17 hs ⟨rfl, rfl⟩
    rw [acc2]
    have hg1317 := Ghost.tr hg16 hg17
    repeat (refine wl_p rfl rfl rfl ?_)
    refine wl_nil (wk_seq ?_)
    repeat (refine wc_seq ?_)
    refine wc_region ?_
    refine wl_lit (ps := [(0, .const (.int .i64 0)), (1, .const (.int .i64 1))]) hs rfl rfl rfl rfl rfl rfl rfl rfl rfl rfl ?_
    clear hs; intro ab w hs
    refine wl_build (ps := [(0, .tmp 154)]) rfl rfl rfl rfl rfl rfl rfl ?_
    repeat (refine wl_p rfl rfl rfl ?_)
    refine wl_stN hs 1 rfl rfl rfl rfl rfl (Nat.le_of_ble_eq_true rfl) rfl rfl ?_; clear hs; intro w hs
    refine wl_nil (wk_seq ?_)
    repeat (refine wc_seq ?_)
    refine wc_region ?_
    refine wl_lit (ps := [(0, .const (.int .i64 2))]) hs rfl rfl rfl rfl rfl rfl rfl rfl rfl rfl ?_
    clear hs; intro e1 w hs
    refine wl_build (ps := [(0, .const (.int .i64 3)), (2, .tmp 157)]) rfl rfl rfl rfl rfl rfl rfl ?_
    refine wl_new hs rfl rfl rfl ?_; clear hs; intro d1 w hs
    refine wl_stN hs 0 rfl rfl rfl rfl rfl (Nat.le_of_ble_eq_true rfl) rfl rfl ?_; clear hs; intro w hs
    refine wl_nil (wk_seq ?_)
    repeat (refine wc_seq ?_)
    refine wc_region ?_
    refine wl_lit (ps := [(0, .const (.int .i64 0)), (1, .const (.int .i64 1))]) hs rfl rfl rfl rfl rfl rfl rfl rfl rfl rfl ?_
    clear hs; intro e2 w hs
    refine wl_build (ps := [(0, .const (.int .i64 3)), (1, .const (.int .i64 1)), (2, .tmp 159)]) rfl rfl rfl rfl rfl rfl rfl ?_
    refine wl_new hs rfl rfl rfl ?_; clear hs; intro d2 w hs
    refine wl_stN hs 0 rfl rfl rfl rfl rfl (Nat.le_of_ble_eq_true rfl) rfl rfl ?_; clear hs; intro w hs
    refine wl_nil (wk_seq ?_)
    repeat (refine wc_seq ?_)
    refine wc_region ?_
    refine wl_lit (ps := [(0, .const (.int .i64 0)), (1, .const (.int .i64 1)), (2, .const (.int .i64 2))]) hs rfl rfl rfl rfl rfl rfl rfl rfl rfl rfl ?_
    clear hs; intro e3 w hs
    refine wl_lit (ps := [(0, .const (.int .i64 1)), (1, .const (.int .i64 1)), (2, .const (.int .i64 0))]) hs rfl rfl rfl rfl rfl rfl rfl rfl rfl rfl ?_
    clear hs; intro e4 w hs
    refine wl_ldW hs 4 rfl rfl rfl rfl rfl rfl rfl ?_
    refine wl_ldW hs 2 rfl rfl rfl rfl rfl rfl rfl ?_
    refine wl_lit (ps := [(0, .tmp 163), (1, .tmp 164)]) hs rfl rfl rfl rfl rfl rfl rfl rfl rfl rfl ?_
    clear hs; intro e5 w hs
    refine wl_build (ps := [(0, .const (.int .i64 1)), (2, .tmp 161), (3, .tmp 162), (4, .tmp 165)]) rfl rfl rfl rfl rfl rfl rfl ?_
    refine wl_new hs rfl rfl rfl ?_; clear hs; intro d3 w hs
    refine wl_stN hs 0 rfl rfl rfl rfl rfl (Nat.le_of_ble_eq_true rfl) rfl rfl ?_; clear hs; intro w hs
    refine wl_nil (wk_seq ?_)
    replace hs := (show St g17 w ((d3, cellsO [.int .i64 1, .int .i64 0, .slice (some ⟨e3, 0, none⟩) 3 3, .slice (some ⟨e4, 0, none⟩) 3 3, .slice (some ⟨e5, 0, none⟩) 2 2] 31) :: (e5, cellsO [.int .i64 3, .int .i64 0, .slice (some ⟨e1, 0, none⟩) 1 1, .slice none 0 0, .slice none 0 0, .int .i64 3, .int .i64 1, .slice (some ⟨e2, 0, none⟩) 2 2, .slice none 0 0, .slice none 0 0] 31) :: (e4, cellsO [.int .i64 1, .int .i64 1, .int .i64 0] 3) :: (e3, cellsO [.int .i64 0, .int .i64 1, .int .i64 2] 3) ::
      (d2, cellsO [.int .i64 3, .int .i64 1, .slice (some ⟨e2, 0, none⟩) 2 2, .slice none 0 0, .slice none 0 0] 31) :: (e2, cellsO [.int .i64 0, .int .i64 1] 3) :: (d1, cellsO [.int .i64 3, .int .i64 0, .slice (some ⟨e1, 0, none⟩) 1 1, .slice none 0 0, .slice none 0 0] 31) :: (e1, cellsO [.int .i64 2] 3) :: (ab, cellsO [.int .i64 0, .int .i64 1] 3) :: (nb, cellsO [.int .i64 3, vi, vl, .slice (some ⟨ab, 0, none⟩) 2 2, .slice none 0 0] 28) :: F) from hs)
    obtain ⟨g18, hg18, hs, hd3⟩ := freezeB hs
    obtain ⟨g19, hg19, hs, he5⟩ := freezeB hs
    obtain ⟨g20, hg20, hs, he4⟩ := freezeB hs
    obtain ⟨g21, hg21, hs, he3⟩ := freezeB hs
    obtain ⟨g22, hg22, hs, hd2⟩ := freezeB hs
    obtain ⟨g23, hg23, hs, he2⟩ := freezeB hs
    obtain ⟨g24, hg24, hs, hd1⟩ := freezeB hs
    obtain ⟨g25, hg25, hs, he1⟩ := freezeB hs
    obtain ⟨g26, hg26, hs, hab⟩ := freezeB hs
    obtain ⟨g27, hg27, hs, hnb⟩ := freezeB hs
    replace hd3 := hd3.mono (Ghost.tr hg19 (Ghost.tr hg20 (Ghost.tr hg21 (Ghost.tr hg22 (Ghost.tr hg23 (Ghost.tr hg24 (Ghost.tr hg25 (Ghost.tr hg26 (hg27)))))))))
    replace he5 := he5.mono (Ghost.tr hg20 (Ghost.tr hg21 (Ghost.tr hg22 (Ghost.tr hg23 (Ghost.tr hg24 (Ghost.tr hg25 (Ghost.tr hg26 (hg27))))))))
    replace he4 := he4.mono (Ghost.tr hg21 (Ghost.tr hg22 (Ghost.tr hg23 (Ghost.tr hg24 (Ghost.tr hg25 (Ghost.tr hg26 (hg27)))))))
    replace he3 := he3.mono (Ghost.tr hg22 (Ghost.tr hg23 (Ghost.tr hg24 (Ghost.tr hg25 (Ghost.tr hg26 (hg27))))))
    replace hd2 := hd2.mono (Ghost.tr hg23 (Ghost.tr hg24 (Ghost.tr hg25 (Ghost.tr hg26 (hg27)))))
    replace he2 := he2.mono (Ghost.tr hg24 (Ghost.tr hg25 (Ghost.tr hg26 (hg27))))
    replace hd1 := hd1.mono (Ghost.tr hg25 (Ghost.tr hg26 (hg27)))
    replace he1 := he1.mono (Ghost.tr hg26 (hg27))
    replace hab := hab.mono (hg27)
    replace hnb := hnb.mono (Ghost.rfl')
    have hg1727 := Ghost.tr hg18 (Ghost.tr hg19 (Ghost.tr hg20 (Ghost.tr hg21 (Ghost.tr hg22 (Ghost.tr hg23 (Ghost.tr hg24 (Ghost.tr hg25 (Ghost.tr hg26 (hg27)))))))))
    have hg1327 := Ghost.tr hg1317 hg1727
    have hg027 := Ghost.tr hg013 hg1327
    replace ri := ri.mono hg1327
    replace rl := rl.mono hg1327
    have rall : RS kInt g27 (.slice (some ⟨ab, 0, none⟩) 2 2) [0, 1] := RS.ofFlat [0, 1] rfl hab
    have rTwo : ∀ k, DropRn (k + 1) g27 [.int .i64 3, .int .i64 0, .slice (some ⟨e1, 0, none⟩) 1 1, .slice none 0 0, .slice none 0 0] dTwo := fun k => DropRn.close (d := dTwo) (RS.ofFlat [2] rfl he1) (RS.nil _ _ _ _) (RS.nil _ _ _ _)
    have rBoth : ∀ k, DropRn (k + 1) g27 [.int .i64 3, .int .i64 1, .slice (some ⟨e2, 0, none⟩) 2 2, .slice none 0 0, .slice none 0 0] dBoth := fun k => DropRn.close (d := dBoth) (RS.ofFlat [0, 1] rfl he2) (RS.nil _ _ _ _) (RS.nil _ _ _ _)
    have rAll : DropRn (DF + 1) g27 [.int .i64 1, .int .i64 0, .slice (some ⟨e3, 0, none⟩) 3 3, .slice (some ⟨e4, 0, none⟩) 3 3, .slice (some ⟨e5, 0, none⟩) 2 2] dAll := DropRn.close (d := dAll) (RS.ofFlat [0, 1, 2] rfl he3) (RS.ofFlat [1, 1, 0] rfl he4) (RS.mk' rfl he5 fun i hi => by
      simp only [dAll, Drop.l, List.length_cons, List.length_nil] at hi
      rcases i with _ | _ | i
      · exact rTwo 199
      · exact rBoth 199
      · omega)
    repeat (refine wc_seq ?_)
    refine wc_region ?_
    repeat (first | refine wl_p rfl rfl rfl ?_ | refine wl_skip rfl rfl rfl ?_)
    refine wl_ldG hs (hnb 0 _ rfl) rfl rfl rfl rfl rfl ?_
    repeat (first | refine wl_p rfl rfl rfl ?_ | refine wl_skip rfl rfl rfl ?_)
    refine wl_ldG hs (hnb 1 _ rfl) rfl rfl rfl rfl rfl ?_
    repeat (first | refine wl_p rfl rfl rfl ?_ | refine wl_skip rfl rfl rfl ?_)
    refine wl_ldG hs (hnb 2 _ rfl) rfl rfl rfl rfl rfl ?_
    repeat (first | refine wl_p rfl rfl rfl ?_ | refine wl_skip rfl rfl rfl ?_)
    refine wl_ldGN (cs := [.slice (some ⟨ab, 0, none⟩) 2 2, .slice none 0 0]) hs hnb.at3 rfl rfl rfl rfl rfl rfl ?_
    refine wl_ldGN hs hd3.at' rfl rfl rfl rfl rfl rfl ?_
    refine wl_call (L := []) rfl rfl rfl hs (Verify_spec (DF + 1) g27 3 _ _ _ _ _ [0] sampleL [0, 1] [] dAll ri rl rall (RS.nil _ _ _ _) rAll (dAll_ok 199) (by simp) (by simp [sampleL]) (by simp) (by simp) _ ver1) ?_
    rintro u g28 L' w hg28 hs ⟨rfl, rfl⟩
    repeat (first | refine wl_p rfl rfl rfl ?_ | refine wl_skip rfl rfl rfl ?_)
    refine wl_ldG hs (hnb.mono hg28 0 _ rfl) rfl rfl rfl rfl rfl ?_
    repeat (first | refine wl_p rfl rfl rfl ?_ | refine wl_skip rfl rfl rfl ?_)
    refine wl_ldG hs (hnb.mono hg28 1 _ rfl) rfl rfl rfl rfl rfl ?_
    repeat (first | refine wl_p rfl rfl rfl ?_ | refine wl_skip rfl rfl rfl ?_)
    refine wl_ldG hs (hnb.mono hg28 2 _ rfl) rfl rfl rfl rfl rfl ?_
    repeat (first | refine wl_p rfl rfl rfl ?_ | refine wl_skip rfl rfl rfl ?_)
    refine wl_ldGN (cs := [.slice (some ⟨ab, 0, none⟩) 2 2, .slice none 0 0]) hs (hnb.mono hg28).at3 rfl rfl rfl rfl rfl rfl ?_
    refine wl_ldGN hs (hd1.mono hg28).at' rfl rfl rfl rfl rfl rfl ?_
    refine wl_call (L := []) rfl rfl rfl hs (Verify_spec (DF + 1) g28 3 _ _ _ _ _ [0] sampleL [0, 1] [] dTwo (ri.mono hg28) (rl.mono hg28) (rall.mono hg28) (RS.nil _ _ _ _) ((rTwo DF).mono hg28) (dTwo_ok DF) (by simp) (by simp [sampleL]) (by simp) (by simp) _ ver2) ?_
    rintro u g29 L' w hg29 hs ⟨rfl, rfl⟩
    repeat (first | refine wl_p rfl rfl rfl ?_ | refine wl_skip rfl rfl rfl ?_)
    refine wl_nil (wk_seq ?_)
    exact wc_retV (res1 rfl rfl) ⟨g29, [], Ghost.tr hg027 (Ghost.tr hg28 hg29), hs, rfl, rfl⟩
end Go.Proofs.YtnanffbjmfgafaaGreat.S
namespace Go.Proofs.YtnanffbjmfgafaaGreat.S
open Go.RowKit
section
variable {P : Program} [Tabbed P] {ρ : Env} {w : World} {g : Ghost} {L : Own}
end
end Go.Proofs.YtnanffbjmfgafaaGreat.S
namespace Go.Proofs.YtnanffbjmfgafaaGreat.S
open Go.RowKit
section
variable {n : Int} {init : List Int} {ls : List ArrowI} {all : List Int} {pairs : List (Int × Int)} {start : Int} {stem loop : List Int}
end
end Go.Proofs.YtnanffbjmfgafaaGreat.S
namespace Go.Proofs.YtnanffbjmfgafaaGreat.S
open Go.RowKit
end Go.Proofs.YtnanffbjmfgafaaGreat.S
namespace Go.Proofs.YtnanffbjmfgafaaGreat.S
open Go.RowKit
theorem okWide_agg {P : Program} [Tabbed P] {t : Nat} {te : TE} {fs : List (Nat × Nat)} {W : World} {base : Nat} {v : Value} (h : tabAt (tb P) t = some te) (hd : te.td = .struct fs) (hv : Value.okWide P W .any base t v) : ∃ cs : List Value, v = .agg cs.toArray := by
  obtain ⟨l, hl1, _⟩ := und_struct h hd
  unfold Value.okWide at hv
  rw [hl1] at hv
  obtain ⟨cs, rfl, _⟩ := hv
  exact ⟨cs.toList, rfl⟩
section
variable {P : Program} [Tabbed P] {H : Type} {enc : TypeId × Value → H} {W : World} {spare : Nat → Bool} {held : Bool} {fuel : Nat} {cs : List Value} {x : DataW H × List MemPlace}
theorem tab_cells {t : Nat} {te : TE} (h : tabAt (tb P) t = some te) : P.cellsOf t = te.zs.length := by
  obtain ⟨i, h1, h2, _⟩ := tab_info h
  simp [Program.cellsOf, h1, h2]
theorem in_int {t : Nat} {te : TE} {k : IntKind} (h : tabAt (tb P) t = some te) (hd : te.td = .int k) (hx : DataW.trod enc P W 0 spare held fuel t cs = some x) : ∃ n, cs = [.int k n] ∧ (Lit.int k n).wf = true := by
  obtain ⟨n, h1, _, h2⟩ := DataW.trod_int (und_int h hd) hx
  exact ⟨n, h1, h2⟩
theorem in_slice {α : Type} {K : Kd α} {t e : Nat} {te ee : TE} (h : tabAt (tb P) t = some te) (hd : te.td = .slice e) (he : tabAt (tb P) e = some ee) (hz : ee.zs.length = K.sz) (hpos : 0 < K.sz)
    (hel : ∀ n cs' y, DataW.trod enc P W 0 spare held n e cs' = some y → ∃ x, K.R (ghostOf W) cs' x) (hx : DataW.trod enc P W 0 spare held fuel t cs = some x) :
    ∃ a xs cap, cs = [.slice a xs.length cap] ∧ RS K (ghostOf W) (.slice a xs.length cap) xs ∧ xs.length ≤ cap := by
  have hc : P.cellsOf e = K.sz := (tab_cells he).trans hz
  rcases Deep.open_slice (und_slice h hd) hx with ⟨rfl, _⟩ | ⟨a, len, cap, m, n, D, Pl, rfl, _, hl, _, hm, _, hall⟩
  · exact ⟨none, [], 0, rfl, RS.nil _ _ _ _, Nat.le_refl _⟩
  · rw [hc] at hall
    have hlm : len ≤ m := by rw [hm]; split <;> omega
    have key : ∀ k, k ≤ len → ∃ xs : List α, xs.length = k ∧ ∀ i (hi : i < xs.length), ∃ cs', W.cells? 0 (a.add (i * K.sz)) K.sz = some cs' ∧ K.R (ghostOf W) cs' xs[i] := by
      intro k
      induction k with
      | zero => intro _; exact ⟨[], rfl, fun i hi => by simp at hi⟩
      | succ k ih =>
        intro hk
        obtain ⟨xs, h1, h2⟩ := ih (by omega)
        obtain ⟨cs', q1, q2⟩ := hall k (by omega)
        obtain ⟨y, hy⟩ := hel _ _ _ q2
        refine ⟨xs ++ [y], by simp [h1], fun i hi => ?_⟩
        by_cases hik : i < xs.length
        · rw [List.getElem_append_left hik]; exact h2 i hik
        · have : i = xs.length := by simp at hi; omega
          subst this
          rw [List.getElem_append_right (Nat.le_refl _)]
          simp only [Nat.sub_self, List.getElem_cons_zero]
          rw [h1]
          exact ⟨cs', q1, hy⟩
    obtain ⟨xs, h1, h2⟩ := key len (Nat.le_refl _)
    subst h1
    refine ⟨some a, xs, cap, rfl, ⟨some a, cap, rfl, ?_⟩, hl⟩
    by_cases hx0 : xs = []
    · exact .inl hx0
    · right
      have h0 : 0 < xs.length := List.length_pos_iff.2 hx0
      obtain ⟨cs0, q1, _⟩ := h2 0 h0
      obtain ⟨_, q2, q3⟩ := World.cells?_some q1
      have hsp : a.spot = none := by
        have := q3 0 hpos
        rw [Nat.zero_mul] at this
        have ea : (a.add 0).add 0 = a := by simp [Addr.add]
        rw [ea, List.getElem?_eq_getElem (by omega)] at this
        unfold World.cell? at this
        split at this
        · split at this
          · cases this
          · rename_i hs; simpa using hs
        · cases this
      obtain ⟨b, o, sp⟩ := a
      simp only at hsp
      subst hsp
      refine ⟨b, o, rfl, fun i hi => ?_⟩
      obtain ⟨cs', q1, q2⟩ := h2 i hi
      obtain ⟨_, q3, q4⟩ := World.cells?_some q1
      refine ⟨cs', q2, fun j u hu => ?_⟩
      have hj : j < K.sz := by rw [← q3]; exact (List.getElem?_eq_some_iff.1 hu).1
      have := q4 j hj
      rw [hu, addr_add, addr_add] at this
      exact this
theorem in_field {t : Nat} {te : TE} {fs : List (Nat × Nat)} (h : tabAt (tb P) t = some te) (hd : te.td = .struct fs) (hx : DataW.trod enc P W 0 spare held fuel t cs = some x) :
    cs.length = te.zs.length ∧ ∀ (j off ft : Nat) (fte : TE), fs[j]? = some (off, ft) → tabAt (tb P) ft = some fte → ∃ n y, DataW.trod enc P W 0 spare held n ft ((cs.drop off).take fte.zs.length) = some y := by
  obtain ⟨l, hl1, hl2⟩ := und_struct h hd
  obtain ⟨xs, n, _, _, h1, h2, h3⟩ := DataW.trod_struct hl1 hx
  refine ⟨h1.trans (tab_cells h), fun j off ft fte hj hf => ?_⟩
  rw [← hl2, List.getElem?_map, Option.map_eq_some_iff] at hj
  obtain ⟨f, hf1, hf2⟩ := hj
  simp only [Prod.mk.injEq] at hf2
  have hj' : l[j]? = some f := by simpa using hf1
  have := h3 j f hj'
  rw [hf2.1, hf2.2, tab_cells hf] at this
  have hlt : j < xs.length := by rw [h2]; exact (Array.getElem?_eq_some_iff.1 hj').1
  exact ⟨n, xs[j], by rw [this, List.getElem?_eq_getElem hlt]⟩
theorem in_array {t m e : Nat} {te ee : TE} (h : tabAt (tb P) t = some te) (hd : te.td = .array m e) (he : tabAt (tb P) e = some ee) (hx : DataW.trod enc P W 0 spare held fuel t cs = some x) :
    cs.length = te.zs.length ∧ ∀ i, i < m → ∃ n y, DataW.trod enc P W 0 spare held n e ((cs.drop (i * ee.zs.length)).take ee.zs.length) = some y := by
  obtain ⟨xs, n, _, _, h1, h2, h3⟩ := DataW.trod_array (und_array h hd) hx
  refine ⟨h1.trans (tab_cells h), fun i hi => ?_⟩
  have := h3 i hi
  rw [tab_cells he] at this
  exact ⟨n, xs[i], by rw [this, List.getElem?_eq_getElem (by omega)]⟩
end
section
variable {H : Type} {enc : TypeId × Value → H} {W : World} {spare : Nat → Bool} {held : Bool} {fuel : Nat} {cs : List Value} {x : DataW H × List MemPlace}
theorem in_ints (h : DataW.trod enc PP W 0 spare held fuel 22 cs = some x) : ∃ a xs cap, cs = [.slice a xs.length cap] ∧ RS kInt (ghostOf W) (.slice a xs.length cap) xs ∧ xs.length ≤ cap :=
  in_slice (K := kInt) rfl rfl rfl rfl (by decide) (fun n cs' y hy => by
    obtain ⟨m, h1, _⟩ := in_int rfl rfl hy
    exact ⟨m, h1⟩) h
theorem list3 {α : Type} : ∀ {l : List α}, l.length = 3 → ∃ a b c, l = [a, b, c]
  | [a, b, c], _ => ⟨a, b, c, rfl⟩
theorem list2 {α : Type} : ∀ {l : List α}, l.length = 2 → ∃ a b, l = [a, b]
  | [a, b], _ => ⟨a, b, rfl⟩
theorem list5 {α : Type} : ∀ {l : List α}, l.length = 5 → ∃ a b c d e, l = [a, b, c, d, e]
  | [a, b, c, d, e], _ => ⟨a, b, c, d, e, rfl⟩
theorem wf_u32 {n : Int} (h : (Lit.int .u32 n).wf = true) : 0 ≤ n := by
  simp only [Lit.wf, Bool.and_eq_true, decide_eq_true_eq] at h
  have : IntKind.u32.min = 0 := rfl
  omega
theorem in_arrow (h : DataW.trod enc PP W 0 spare held fuel 75 cs = some x) : ∃ a, cs = eArrI a := by
  obtain ⟨h1, h2⟩ := in_field (P := PP) (t := 75) rfl rfl h
  obtain ⟨c1, c2, c3, rfl⟩ := list3 h1
  obtain ⟨n1, y1, q1⟩ := h2 0 _ _ _ rfl rfl
  obtain ⟨n2, y2, q2⟩ := h2 1 _ _ _ rfl rfl
  obtain ⟨n3, y3, q3⟩ := h2 2 _ _ _ rfl rfl
  obtain ⟨m1, e1, _⟩ := in_int (P := PP) rfl rfl q1
  obtain ⟨m2, e2, _⟩ := in_int (P := PP) rfl rfl q2
  obtain ⟨m3, e3, w3⟩ := in_int (P := PP) rfl rfl q3
  have f1 : c1 = .int .i64 m1 := by simpa using e1
  have f2 : c2 = .int .i64 m2 := by simpa using e2
  have f3 : c3 = .int .u32 m3 := by simpa using e3
  have h0 := wf_u32 w3
  refine ⟨⟨m1, m2, m3.toNat⟩, ?_⟩
  rw [f1, f2, f3]
  simp only [eArrI, Int.toNat_of_nonneg h0]
theorem in_arrows (h : DataW.trod enc PP W 0 spare held fuel 23 cs = some x) : ∃ a xs cap, cs = [.slice a xs.length cap] ∧ RS kArrI (ghostOf W) (.slice a xs.length cap) xs ∧ xs.length ≤ cap :=
  in_slice (K := kArrI) rfl rfl rfl rfl (by decide) (fun n cs' y hy => in_arrow hy) h
theorem in_pair (h : DataW.trod enc PP W 0 spare held fuel 44 cs = some x) : ∃ p, cs = ePairI p := by
  obtain ⟨h1, h2⟩ := in_array (P := PP) (t := 44) rfl rfl rfl h
  obtain ⟨c1, c2, rfl⟩ := list2 h1
  obtain ⟨n1, y1, q1⟩ := h2 0 (by decide)
  obtain ⟨n2, y2, q2⟩ := h2 1 (by decide)
  obtain ⟨m1, e1, _⟩ := in_int (P := PP) rfl rfl q1
  obtain ⟨m2, e2, _⟩ := in_int (P := PP) rfl rfl q2
  have f1 : c1 = .int .i64 m1 := by simpa using e1
  have f2 : c2 = .int .i64 m2 := by simpa using e2
  exact ⟨(m1, m2), by rw [f1, f2]; rfl⟩
theorem in_pairs (h : DataW.trod enc PP W 0 spare held fuel 24 cs = some x) : ∃ a xs cap, cs = [.slice a xs.length cap] ∧ RS kPairI (ghostOf W) (.slice a xs.length cap) xs ∧ xs.length ≤ cap :=
  in_slice (K := kPairI) rfl rfl rfl rfl (by decide) (fun n cs' y hy => in_pair hy) h
theorem in_net (h : DataW.trod enc PP W 0 spare held fuel 28 cs = some x) : ∃ n vi vl va vp init ls all pairs, cs = [.int .i64 n, vi, vl, va, vp] ∧ RS kInt (ghostOf W) vi init ∧ RS kArrI (ghostOf W) vl ls ∧ RS kInt (ghostOf W) va all ∧ RS kPairI (ghostOf W) vp pairs := by
  obtain ⟨h1, h2⟩ := in_field (P := PP) (t := 28) rfl rfl h
  obtain ⟨c1, c2, c3, c4, c5, rfl⟩ := list5 h1
  obtain ⟨n1, y1, q1⟩ := h2 0 _ _ _ rfl rfl
  obtain ⟨n2, y2, q2⟩ := h2 1 _ _ _ rfl rfl
  obtain ⟨n3, y3, q3⟩ := h2 2 _ _ _ rfl rfl
  obtain ⟨n4, y4, q4⟩ := h2 3 _ _ _ rfl rfl
  obtain ⟨m1, e1, _⟩ := in_int (P := PP) rfl rfl q1
  obtain ⟨a2, x2, p2, e2, r2, _⟩ := in_ints q2
  obtain ⟨a3, x3, p3, e3, r3, _⟩ := in_arrows q3
  obtain ⟨_, h5⟩ := in_field (P := PP) (t := 26) rfl rfl q4
  obtain ⟨n5, y5, q5⟩ := h5 0 _ _ _ rfl rfl
  obtain ⟨n6, y6, q6⟩ := h5 1 _ _ _ rfl rfl
  obtain ⟨a5, x5, p5, e5, r5, _⟩ := in_ints q5
  obtain ⟨a6, x6, p6, e6, r6, _⟩ := in_pairs q6
  have f1 : c1 = .int .i64 m1 := by simpa using e1
  have f2 : c2 = .slice a2 x2.length p2 := by simpa using e2
  have f3 : c3 = .slice a3 x3.length p3 := by simpa using e3
  have f5 : c4 = .slice a5 x5.length p5 := by simpa using e5
  have f6 : c5 = .slice a6 x6.length p6 := by simpa using e6
  exact ⟨m1, _, _, _, _, x2, x3, x5, x6, by rw [f1, f2, f3, f5, f6], r2, r3, r5, r6⟩
end
theorem cl_row {f : FuncId} {vs : List Value} {W : World} (h : Cl PP f vs (ghostOf W) [] (Det (.bool true))) : Calls PP f vs.toArray W fun e W' => e = .returned (.bool true) ∧ Below W.heap.size W W' := by
  refine (h.call W [] (by simpa using st_begin W)).mono fun e W' ⟨v, g', L', he, hg, hs, hL, hv⟩ => ?_
  subst hv
  exact ⟨he, hs.below hg⟩
end Go.Proofs.YtnanffbjmfgafaaGreat.S
namespace Go.Proofs.YtnanffbjmfgafaaGreat.S
open Go.RowKit
end Go.Proofs.YtnanffbjmfgafaaGreat.S
namespace Go.Proofs.YtnanffbjmfgafaaGreat.S
open Go.RowKit
inductive Rc (E : Nat → Nat → Prop) : Nat → Nat → Prop
  | refl (x : Nat) : Rc E x x
  | tail {x y z : Nat} : Rc E x y → E y z → Rc E x z
theorem Rc.trans {E : Nat → Nat → Prop} {x y z : Nat} (h : Rc E x y) (k : Rc E y z) : Rc E x z := by
  induction k with
  | refl => exact h
  | tail _ e ih => exact .tail ih e
theorem Rc.one {E : Nat → Nat → Prop} {x y : Nat} (h : E x y) : Rc E x y := .tail (.refl x) h
theorem sk_new {α : Type} : ∀ (m : List (Nat × α)) (k : Nat) (v : α), lk m k = none → (sk m k v).length = m.length + 1
  | [], _, _, _ => rfl
  | (k', u) :: r, k, v, h => by
    simp only [lk] at h
    split at h
    · cases h
    · rename_i hne
      simp only [sk, if_neg hne, List.length_cons, sk_new r k v h]
theorem lowOf_sk (m : List (Nat × Nat)) (k v x : Nat) : lowOf (sk m k v) x = if x = k then v else lowOf m x := by
  unfold lowOf
  rw [lk_sk]
  split <;> rfl
section
variable (ls : List Arrow) (nodes : List Nat) (on : List Bool)
def EdgeP (x y : Nat) : Prop := ∃ k, k ∈ outAt ls ls.length x ∧ arrIn ls nodes on k = true ∧ toOf ls k = y
def Ex (s : Tj) (y k : Nat) : Prop := (k ∈ outAt ls ls.length y ∧ y ∉ s.path.map (·.1)) ∨ ∃ a, (y, a) ∈ s.path ∧ k ∈ (outAt ls ls.length y).take a
structure Inv (s : Tj) : Prop where
  vis : ∀ x, (lk s.idx x).isSome = true ↔ x ∈ s.st ∨ x ∈ s.out.flatten
  on_ : ∀ x, (lk s.on x).getD false = true ↔ x ∈ s.st
  nodup : (s.st ++ s.out.flatten).Nodup
  inc : s.st.Pairwise fun x y => lowOf s.idx x < lowOf s.idx y
  lt : ∀ x, (lk s.idx x).isSome = true → lowOf s.idx x < s.idx.length
  pinc : (s.path.map (·.1)).Pairwise fun x y => lowOf s.idx x < lowOf s.idx y
  pst : ∀ g ∈ s.path.map (·.1), g ∈ s.st
  r1 : ∀ g ∈ s.path.map (·.1), ∀ y ∈ s.st, lowOf s.idx g ≤ lowOf s.idx y → Rc (EdgeP ls nodes on) g y
  lw : ∀ y ∈ s.st, lowOf s.low y ≤ lowOf s.idx y ∧ ∃ z ∈ s.st, lowOf s.idx z = lowOf s.low y ∧ Rc (EdgeP ls nodes on) y z
  lws : ∀ y ∈ s.st, y ∉ s.path.map (·.1) → lowOf s.low y < lowOf s.idx y
  near : ∀ y ∈ s.st, ∀ g ∈ s.path.map (·.1), lowOf s.idx g ≤ lowOf s.idx y → (∀ g' ∈ s.path.map (·.1), lowOf s.idx g' ≤ lowOf s.idx y → lowOf s.idx g' ≤ lowOf s.idx g) → lowOf s.low g ≤ lowOf s.low y
  ex : ∀ y ∈ s.st, ∀ k, Ex ls s y k → arrIn ls nodes on k = true → (lk s.idx (toOf ls k)).isSome = true ∧ (toOf ls k ∈ s.st → lowOf s.low y ≤ lowOf s.idx (toOf ls k))
  mem : ∀ x, (lk s.idx x).isSome = true → x ∈ nodes
  scc : ∀ c ∈ s.out, c ≠ [] ∧ c.Pairwise (· ≤ ·) ∧ ∀ x ∈ c, ∀ y ∈ c, Rc (EdgeP ls nodes on) x y
  ord : ∀ i (h : i < s.out.length), ∀ y ∈ s.out[i], ∀ z, EdgeP ls nodes on y z → ∃ j, ∃ h : j < s.out.length, j ≤ i ∧ z ∈ s.out[j]
end
section
variable {ls : List Arrow} {nodes : List Nat} {on : List Bool} {s : Tj}
theorem Inv.init : Inv ls nodes on Tj.init := by
  refine ⟨fun x => by simp [Tj.init, lk], fun x => by simp [Tj.init, lk], by simp [Tj.init], by simp [Tj.init], fun x h => by simp [Tj.init, lk] at h, by simp [Tj.init], by simp [Tj.init], by simp [Tj.init], by simp [Tj.init], by simp [Tj.init], by simp [Tj.init], by simp [Tj.init],
    fun x h => by simp [Tj.init, lk] at h, by simp [Tj.init], fun i h => by simp [Tj.init] at h⟩
theorem pw_inj {l : List Nat} {f : Nat → Nat} (h : l.Pairwise fun x y => f x < f y) : ∀ x ∈ l, ∀ y ∈ l, f x = f y → x = y := by
  induction l with
  | nil => intro x hx; cases hx
  | cons a l ih =>
    obtain ⟨h1, h2⟩ := List.pairwise_cons.1 h
    intro x hx y hy e
    rcases List.mem_cons.1 hx with ex | hx' <;> rcases List.mem_cons.1 hy with ey | hy'
    · rw [ex, ey]
    · have := h1 y hy'; rw [ex] at e; omega
    · have := h1 x hx'; rw [ey] at e; omega
    · exact ih h2 x hx' y hy' e
theorem pw_last {p : List Nat} {x : Nat} {f : Nat → Nat} (h : (p ++ [x]).Pairwise fun a b => f a < f b) : ∀ g ∈ p, f g < f x := fun g hg =>
  (List.pairwise_append.1 h).2.2 g hg x (by simp)
theorem Inv.step {p : List (Nat × Nat)} {x a k : Nat} (hI : Inv ls nodes on s) (hp : s.path = p ++ [(x, a)]) (hk : (outAt ls ls.length x)[a]? = some k)
    (hok : arrIn ls nodes on k = true → (lk s.idx (toOf ls k)).isSome = true ∧ toOf ls k ∉ s.st) : Inv ls nodes on { s with path := p ++ [(x, a + 1)] } := by
  have hg : (p ++ [(x, a + 1)]).map (·.1) = s.path.map (·.1) := by rw [hp]; simp
  refine ⟨hI.vis, hI.on_, hI.nodup, hI.inc, hI.lt, by rw [hg]; exact hI.pinc, by rw [hg]; exact hI.pst, by rw [hg]; exact hI.r1, hI.lw, by rw [hg]; exact hI.lws, by rw [hg]; exact hI.near, ?_, hI.mem, hI.scc, hI.ord⟩
  intro y hy k' hex harr
  have key : Ex ls s y k' ∨ k' = k := by
    rcases hex with ⟨h1, h2⟩ | ⟨b, h1, h2⟩
    · rw [hg] at h2; exact .inl (.inl ⟨h1, h2⟩)
    · rcases List.mem_append.1 h1 with h1 | h1
      · exact .inl (.inr ⟨b, by rw [hp]; exact List.mem_append_left _ h1, h2⟩)
      · simp only [List.mem_singleton, Prod.mk.injEq] at h1
        obtain ⟨rfl, rfl⟩ := h1
        have hlt : a < (outAt ls ls.length y).length := (List.getElem?_eq_some_iff.1 hk).1
        rw [List.take_succ_eq_append_getElem hlt] at h2
        rcases List.mem_append.1 h2 with h2 | h2
        · exact .inl (.inr ⟨a, by rw [hp]; simp, h2⟩)
        · right
          rw [List.getElem?_eq_getElem hlt, Option.some.injEq] at hk
          rw [List.mem_singleton.1 h2, hk]
  rcases key with h | rfl
  · exact hI.ex y hy k' h harr
  · obtain ⟨h1, h2⟩ := hok harr
    exact ⟨h1, fun h => absurd h h2⟩
theorem Inv.lower {p : List (Nat × Nat)} {x a k : Nat} (hI : Inv ls nodes on s) (hp : s.path = p ++ [(x, a)]) (hk : (outAt ls ls.length x)[a]? = some k) (harr : arrIn ls nodes on k = true) (hst : toOf ls k ∈ s.st) :
    Inv ls nodes on { s with path := p ++ [(x, a + 1)], low := sk s.low x (min (lowOf s.low x) (lowOf s.idx (toOf ls k))) } := by
  have hg : (p ++ [(x, a + 1)]).map (·.1) = s.path.map (·.1) := by rw [hp]; simp
  have hxg : x ∈ s.path.map (·.1) := by rw [hp]; simp
  have hxs := hI.pst x hxg
  have hlw : ∀ y, lowOf (sk s.low x (min (lowOf s.low x) (lowOf s.idx (toOf ls k)))) y = if y = x then min (lowOf s.low x) (lowOf s.idx (toOf ls k)) else lowOf s.low y := fun y => lowOf_sk _ _ _ _
  have hle : ∀ y, lowOf (sk s.low x (min (lowOf s.low x) (lowOf s.idx (toOf ls k)))) y ≤ lowOf s.low y := fun y => by
    rw [hlw]; split
    · rename_i e; subst e; omega
    · exact Nat.le_refl _
  have hkm : k ∈ outAt ls ls.length x := List.mem_of_getElem? hk
  refine ⟨hI.vis, hI.on_, hI.nodup, hI.inc, hI.lt, by rw [hg]; exact hI.pinc, by rw [hg]; exact hI.pst, by rw [hg]; exact hI.r1, ?_, ?_, ?_, ?_, hI.mem, hI.scc, hI.ord⟩
  · intro y hy
    obtain ⟨h1, z, hz, h2, h3⟩ := hI.lw y hy
    refine ⟨Nat.le_trans (hle y) h1, ?_⟩
    simp only [hlw]
    split
    · rename_i e
      subst e
      by_cases hm : lowOf s.low y ≤ lowOf s.idx (toOf ls k)
      · exact ⟨z, hz, by rw [h2]; omega, h3⟩
      · exact ⟨_, hst, by omega, .one ⟨k, hkm, harr, rfl⟩⟩
    · exact ⟨z, hz, h2, h3⟩
  · intro y hy hny
    rw [hg] at hny
    exact Nat.lt_of_le_of_lt (hle y) (hI.lws y hy hny)
  · rw [hg]
    intro y hy g hgg (h1 : lowOf s.idx g ≤ lowOf s.idx y) (h2 : ∀ g' ∈ s.path.map (·.1), lowOf s.idx g' ≤ lowOf s.idx y → lowOf s.idx g' ≤ lowOf s.idx g)
    simp only [hlw]
    by_cases hyx : y = x
    · subst hyx
      have := h2 y hxg (Nat.le_refl _)
      have hgy : g = y := pw_inj hI.pinc g hgg y hxg (by omega)
      subst hgy
      exact Nat.le_refl _
    · rw [if_neg hyx]
      have := hI.near y hy g hgg h1 h2
      split
      · rename_i e; subst e; omega
      · exact this
  · intro y hy k' hex hk'
    have key : Ex ls s y k' ∨ (y = x ∧ k' = k) := by
      rcases hex with ⟨h1, h2⟩ | ⟨b, h1, h2⟩
      · rw [hg] at h2; exact .inl (.inl ⟨h1, h2⟩)
      · rcases List.mem_append.1 h1 with h1 | h1
        · exact .inl (.inr ⟨b, by rw [hp]; exact List.mem_append_left _ h1, h2⟩)
        · simp only [List.mem_singleton, Prod.mk.injEq] at h1
          obtain ⟨rfl, rfl⟩ := h1
          have hlt : a < (outAt ls ls.length y).length := (List.getElem?_eq_some_iff.1 hk).1
          rw [List.take_succ_eq_append_getElem hlt] at h2
          rcases List.mem_append.1 h2 with h2 | h2
          · exact .inl (.inr ⟨a, by rw [hp]; simp, h2⟩)
          · right
            rw [List.getElem?_eq_getElem hlt, Option.some.injEq] at hk
            exact ⟨rfl, by rw [List.mem_singleton.1 h2, hk]⟩
    rcases key with h | ⟨rfl, rfl⟩
    · obtain ⟨h1, h2⟩ := hI.ex y hy k' h hk'
      exact ⟨h1, fun h => Nat.le_trans (hle y) (h2 h)⟩
    · refine ⟨(hI.vis _).2 (.inl hst), fun _ => ?_⟩
      rw [hlw, if_pos rfl]
      exact Nat.min_le_right _ _
theorem Inv.enter {y : Nat} (hI : Inv ls nodes on s) (hy : lk s.idx y = none) (hyn : y ∈ nodes) (p1 : List (Nat × Nat)) (hg : p1.map (·.1) = s.path.map (·.1))
    (hreach : ∀ g ∈ s.path.map (·.1), Rc (EdgeP ls nodes on) g y)
    (hex : ∀ z, ∀ k, (∃ a, (z, a) ∈ p1 ∧ k ∈ (outAt ls ls.length z).take a) → Ex ls s z k ∨ toOf ls k = y) : Inv ls nodes on ({ s with path := p1 }.enter y) := by
  have hyv : ¬ (lk s.idx y).isSome = true := by rw [hy]; simp
  have hyst : y ∉ s.st := fun h => hyv ((hI.vis y).2 (.inl h))
  have hyout : y ∉ s.out.flatten := fun h => hyv ((hI.vis y).2 (.inr h))
  have hix : ∀ x, lowOf (sk s.idx y s.idx.length) x = if x = y then s.idx.length else lowOf s.idx x := fun x => lowOf_sk _ _ _ _
  have hgl : (lk (sk s.idx y s.idx.length) y).getD 0 = s.idx.length := by rw [lk_sk, if_pos rfl]; rfl
  have hlw : ∀ x, lowOf (sk s.low y ((lk (sk s.idx y s.idx.length) y).getD 0)) x = if x = y then s.idx.length else lowOf s.low x := fun x => by rw [hgl]; exact lowOf_sk _ _ _ _
  have hne : ∀ x ∈ s.st, x ≠ y := fun x hx e => hyst (e ▸ hx)
  have hlt : ∀ x ∈ s.st, lowOf s.idx x < s.idx.length := fun x hx => hI.lt x ((hI.vis x).2 (.inl hx))
  have hvis' : ∀ x, (lk (sk s.idx y s.idx.length) x).isSome = true ↔ x = y ∨ (lk s.idx x).isSome = true := fun x => by
    rw [lk_sk]
    by_cases e : x = y
    · simp [e]
    · simp [e]
  have hgm : ∀ g, g ∈ (p1 ++ [((y, 0) : Nat × Nat)]).map Prod.fst ↔ g ∈ s.path.map (·.1) ∨ g = y := fun g => by
    rw [List.map_append, hg, List.mem_append]; simp
  have hgs : ∀ g ∈ s.path.map (·.1), g ≠ y := fun g h => hne g (hI.pst g h)
  have e : ({ s with path := p1 }.enter y) = { s with idx := sk s.idx y s.idx.length, low := sk s.low y ((lk (sk s.idx y s.idx.length) y).getD 0), on := sk s.on y true, st := s.st ++ [y], path := p1 ++ [(y, 0)] } := rfl
  rw [e]
  refine ⟨fun x => ?_, fun x => ?_, ?_, ?_, fun x hx => ?_, ?_, fun g h => ?_, fun g h z hz hle => ?_, fun z hz => ?_, fun z hz hnz => ?_, fun z hz g h h1 h2 => ?_, fun z hz k hexk harr => ?_, fun x hx => ?_, hI.scc, hI.ord⟩
  · rw [hvis', hI.vis]
    simp only [List.mem_append, List.mem_singleton]
    constructor
    · rintro (h | h | h)
      · exact .inl (.inr h)
      · exact .inl (.inl h)
      · exact .inr h
    · rintro ((h | h) | h)
      · exact .inr (.inl h)
      · exact .inl h
      · exact .inr (.inr h)
  · rw [lk_sk]
    by_cases e : x = y
    · simp [e]
    · simp [e, hI.on_]
  · have hn := hI.nodup
    rw [List.append_assoc]
    have hp : (s.st ++ ([y] ++ s.out.flatten)).Perm (y :: (s.st ++ s.out.flatten)) := List.perm_middle
    rw [hp.nodup_iff]
    exact List.nodup_cons.2 ⟨fun h => (List.mem_append.1 h).elim hyst hyout, hn⟩
  · refine List.pairwise_append.2 ⟨hI.inc.imp_of_mem fun ha hb h => ?_, by simp, fun a ha b hb => ?_⟩
    · simp only [hix]
      rw [if_neg (hne _ ha), if_neg (hne _ hb)]
      exact h
    · rw [List.mem_singleton.1 hb]
      simp only [hix, if_true]
      rw [if_neg (hne _ ha)]
      exact hlt a ha
  · simp only [hix]
    rw [sk_new _ _ _ hy]
    rcases (hvis' x).1 hx with e | h
    · rw [if_pos e]; omega
    · have := hI.lt x h
      split <;> omega
  · rw [List.map_append, hg]
    refine List.pairwise_append.2 ⟨hI.pinc.imp_of_mem fun ha hb h => ?_, by simp, fun a ha b hb => ?_⟩
    · simp only [hix]
      rw [if_neg (hgs _ ha), if_neg (hgs _ hb)]
      exact h
    · have : b = y := by simpa using hb
      rw [this]
      simp only [hix, if_true]
      rw [if_neg (hgs _ ha)]
      exact hlt a (hI.pst a ha)
  · rcases (hgm g).1 h with h | h
    · exact List.mem_append_left _ (hI.pst g h)
    · rw [h]; simp
  · simp only [hix] at hle
    rcases List.mem_append.1 hz with hz | hz
    · rw [if_neg (hne z hz)] at hle
      rcases (hgm g).1 h with h | h
      · rw [if_neg (hgs g h)] at hle
        exact hI.r1 g h z hz hle
      · rw [if_pos h] at hle
        have := hlt z hz
        omega
    · rw [List.mem_singleton.1 hz]
      rcases (hgm g).1 h with h | h
      · exact hreach g h
      · rw [h]; exact .refl _
  · simp only [hix, hlw]
    rcases List.mem_append.1 hz with hz | hz
    · rw [if_neg (hne z hz), if_neg (hne z hz)]
      obtain ⟨h1, u, hu, h2, h3⟩ := hI.lw z hz
      exact ⟨h1, u, List.mem_append_left _ hu, by rw [if_neg (hne u hu)]; exact h2, h3⟩
    · rw [List.mem_singleton.1 hz]
      simp only [if_true]
      exact ⟨Nat.le_refl _, y, by simp, by simp, .refl _⟩
  · simp only [hix, hlw]
    rcases List.mem_append.1 hz with hz | hz
    · rw [if_neg (hne z hz), if_neg (hne z hz)]
      exact hI.lws z hz fun h => hnz ((hgm z).2 (.inl h))
    · exact absurd ((hgm z).2 (.inr (List.mem_singleton.1 hz))) hnz
  · simp only [hix, hlw] at h1 h2 ⊢
    rcases List.mem_append.1 hz with hz | hz
    · rw [if_neg (hne z hz)] at h1 h2 ⊢
      rcases (hgm g).1 h with h | h
      · rw [if_neg (hgs g h)] at h1 ⊢
        refine hI.near z hz g h h1 fun g' hg' hle => ?_
        have := h2 g' ((hgm g').2 (.inl hg'))
        rw [if_neg (hgs g' hg'), if_neg (hgs g h)] at this
        exact this hle
      · rw [if_pos h] at h1
        have := hlt z hz
        omega
    · have hzy := List.mem_singleton.1 hz
      rw [if_pos hzy] at h1 h2 ⊢
      rcases (hgm g).1 h with h | h
      · have := h2 y ((hgm y).2 (.inr rfl))
        rw [if_pos rfl, if_neg (hgs g h)] at this
        have h3 := this (Nat.le_refl _)
        have := hlt g (hI.pst g h)
        omega
      · rw [if_pos h]; exact Nat.le_refl _
  · have hvis2 : (lk s.idx (toOf ls k)).isSome = true → (lk (sk s.idx y s.idx.length) (toOf ls k)).isSome = true := fun h => (hvis' _).2 (.inr h)
    rcases List.mem_append.1 hz with hz | hz
    · have key : Ex ls s z k ∨ toOf ls k = y := by
        rcases hexk with ⟨h1, h2⟩ | ⟨b, h1, h2⟩
        · exact .inl (.inl ⟨h1, fun h => h2 ((hgm z).2 (.inl h))⟩)
        · rcases List.mem_append.1 h1 with h1 | h1
          · exact hex z k ⟨b, h1, h2⟩
          · simp only [List.mem_singleton, Prod.mk.injEq] at h1
            exact absurd h1.1 (hne z hz)
      simp only [hix, hlw]
      rw [if_neg (hne z hz)]
      rcases key with h | h
      · obtain ⟨h3, h4⟩ := hI.ex z hz k h harr
        refine ⟨hvis2 h3, fun hm => ?_⟩
        rcases List.mem_append.1 hm with hm | hm
        · rw [if_neg (hne _ hm)]; exact h4 hm
        · rw [if_pos (List.mem_singleton.1 hm)]
          have := (hI.lw z hz).1
          have := hlt z hz
          omega
      · refine ⟨(hvis' _).2 (.inl h), fun _ => ?_⟩
        rw [if_pos h]
        have := (hI.lw z hz).1
        have := hlt z hz
        omega
    · exfalso
      have hzy := List.mem_singleton.1 hz
      rcases hexk with ⟨h1, h2⟩ | ⟨b, h1, h2⟩
      · exact h2 ((hgm z).2 (.inr hzy))
      · rcases List.mem_append.1 h1 with h1 | h1
        · have : z ∈ p1.map (·.1) := List.mem_map.2 ⟨_, h1, rfl⟩
          rw [hg] at this
          exact hgs z this hzy
        · simp only [List.mem_singleton, Prod.mk.injEq] at h1
          rw [h1.2] at h2
          cases h2
  · rcases (hvis' x).1 hx with e | h
    · rw [e]; exact hyn
    · exact hI.mem x h
end
end Go.Proofs.YtnanffbjmfgafaaGreat.S
namespace Go.Proofs.YtnanffbjmfgafaaGreat.S
open Go.RowKit
section
variable {ls : List Arrow} {nodes : List Nat} {on : List Bool} {s : Tj}
theorem up_low (s : Tj) (p : List (Nat × Nat)) (x y : Nat) : lowOf (s.up p x).low y = match p.getLast? with
    | none => lowOf s.low y
    | some (z, _) => if y = z then min (lowOf s.low z) (lowOf s.low x) else lowOf s.low y := by
  unfold Tj.up
  rcases p.getLast? with _ | ⟨z, b⟩
  · rfl
  · exact lowOf_sk _ _ _ _
theorem up_eq (s : Tj) (p : List (Nat × Nat)) (x : Nat) : s.up p x = { s with path := p, low := (s.up p x).low } := by
  unfold Tj.up
  split <;> rfl
theorem Inv.least (hI : Inv ls nodes on s) (h : s.st ≠ []) : ∃ y ∈ s.st, y ∈ s.path.map (·.1) ∧ lowOf s.low y = lowOf s.idx y ∧ ∀ z ∈ s.st, lowOf s.idx y ≤ lowOf s.idx z := by
  rcases hst : s.st with _ | ⟨y, r⟩
  · exact absurd hst h
  · have hy : y ∈ s.st := by rw [hst]; simp
    have hinc := hI.inc
    rw [hst] at hinc
    have h1 := (List.pairwise_cons.1 hinc).1
    have h2 : ∀ z ∈ s.st, lowOf s.idx y ≤ lowOf s.idx z := fun z hz => by
      rw [hst] at hz
      rcases List.mem_cons.1 hz with e | hz
      · rw [e]; exact Nat.le_refl _
      · exact Nat.le_of_lt (h1 z hz)
    obtain ⟨h3, z, hz, h4, _⟩ := hI.lw y hy
    have h5 := h2 z hz
    have h6 : lowOf s.low y = lowOf s.idx y := by omega
    refine ⟨y, by simp, ?_, h6, fun z hz => h2 z (by rw [hst]; exact hz)⟩
    by_cases hg : y ∈ s.path.map (·.1)
    · exact hg
    · have := hI.lws y hy hg
      omega
theorem Inv.empty (hI : Inv ls nodes on s) (h : s.path = []) : s.st = [] := by
  by_cases hst : s.st = []
  · exact hst
  · obtain ⟨y, _, hy, _⟩ := hI.least hst
    rw [h] at hy
    cases hy
theorem Inv.leave {p : List (Nat × Nat)} {x a : Nat} (hI : Inv ls nodes on s) (hp : s.path = p ++ [(x, a)]) (ha : (outAt ls ls.length x).length ≤ a) (hne : lowOf (s.up p x).low x ≠ lowOf (s.up p x).idx x) : Inv ls nodes on (s.up p x) := by
  have hxg : x ∈ s.path.map (·.1) := by rw [hp]; simp
  have hxs := hI.pst x hxg
  have hpg : s.path.map (·.1) = p.map (·.1) ++ [x] := by rw [hp]; simp
  have hlast : ∀ g ∈ p.map (·.1), lowOf s.idx g < lowOf s.idx x := pw_last (by rw [← hpg]; exact hI.pinc)
  have hgm : ∀ g, g ∈ s.path.map (·.1) ↔ g ∈ p.map (·.1) ∨ g = x := fun g => by rw [hpg, List.mem_append]; simp
  rw [up_eq] at hne ⊢
  simp only at hne
  rcases hpl : p.getLast? with _ | ⟨z, b⟩
  · exfalso
    have hp0 : p = [] := by simpa using hpl
    rw [up_low, hpl] at hne
    simp only at hne
    obtain ⟨y, hy, hyg, h1, _⟩ := hI.least (List.ne_nil_of_mem hxs)
    rw [hpg, hp0] at hyg
    have : y = x := by simpa using hyg
    rw [this] at h1
    exact hne h1
  · have hzp : (z, b) ∈ p := List.mem_of_getLast? hpl
    have hzg : z ∈ p.map (·.1) := List.mem_map.2 ⟨_, hzp, rfl⟩
    have hzs := hI.pst z ((hgm z).2 (.inl hzg))
    have hzx : lowOf s.idx z < lowOf s.idx x := hlast z hzg
    have hxz : x ≠ z := fun e => by rw [e] at hzx; omega
    have hlw : ∀ y, lowOf (s.up p x).low y = if y = z then min (lowOf s.low z) (lowOf s.low x) else lowOf s.low y := fun y => by rw [up_low, hpl]
    have hle : ∀ y, lowOf (s.up p x).low y ≤ lowOf s.low y := fun y => by
      rw [hlw]; split
      · rename_i e; subst e; omega
      · exact Nat.le_refl _
    have hzmax : ∀ g ∈ p.map (·.1), lowOf s.idx g ≤ lowOf s.idx z := fun g hg => by
      obtain ⟨q, hq⟩ : ∃ q, p = q ++ [(z, b)] := by
        rcases List.eq_nil_or_concat p with e | ⟨q, e, h⟩
        · rw [e] at hzp; cases hzp
        · refine ⟨q, ?_⟩
          rw [List.concat_eq_append] at h
          rw [h] at hpl ⊢
          simp at hpl
          rw [hpl]
      have hpi : (p.map (·.1)).Pairwise fun x y => lowOf s.idx x < lowOf s.idx y := by
        have := hI.pinc
        rw [hpg] at this
        exact (List.pairwise_append.1 this).1
      rw [hq, List.map_append] at hpi hg
      rcases List.mem_append.1 hg with hg | hg
      · exact Nat.le_of_lt (pw_last hpi g hg)
      · have : g = z := by simpa using hg
        rw [this]; exact Nat.le_refl _
    rw [hlw, if_neg hxz] at hne
    refine ⟨hI.vis, hI.on_, hI.nodup, hI.inc, hI.lt, ?_, fun g h => hI.pst g ((hgm g).2 (.inl h)), fun g h => hI.r1 g ((hgm g).2 (.inl h)), ?_, ?_, ?_, ?_, hI.mem, hI.scc, hI.ord⟩
    · have := hI.pinc
      rw [hpg] at this
      exact (List.pairwise_append.1 this).1
    · intro y hy
      obtain ⟨h1, u, hu, h2, h3⟩ := hI.lw y hy
      refine ⟨Nat.le_trans (hle y) h1, ?_⟩
      simp only [hlw]
      split
      · rename_i e
        subst e
        by_cases hm : lowOf s.low y ≤ lowOf s.low x
        · exact ⟨u, hu, by rw [h2]; omega, h3⟩
        · obtain ⟨_, v, hv, h4, h5⟩ := hI.lw x hxs
          exact ⟨v, hv, by omega, (hI.r1 y ((hgm y).2 (.inl hzg)) x hxs (Nat.le_of_lt hzx)).trans h5⟩
      · exact ⟨u, hu, h2, h3⟩
    · intro y hy hny
      by_cases hyx : y = x
      · rw [hyx]
        have := (hI.lw x hxs).1
        show lowOf (s.up p x).low x < lowOf s.idx x
        rw [hlw, if_neg hxz]
        omega
      · refine Nat.lt_of_le_of_lt (hle y) (hI.lws y hy fun h => ?_)
        rcases (hgm y).1 h with h | h
        · exact hny h
        · exact hyx h
    · intro y hy g hg (h1 : lowOf s.idx g ≤ lowOf s.idx y) (h2 : ∀ g' ∈ p.map (·.1), lowOf s.idx g' ≤ lowOf s.idx y → lowOf s.idx g' ≤ lowOf s.idx g)
      show lowOf (s.up p x).low g ≤ lowOf (s.up p x).low y
      by_cases hxy : lowOf s.idx x ≤ lowOf s.idx y
      · have hyz : y ≠ z := fun e => by rw [e] at hxy; omega
        have hgz : g = z := by
          have h3 := h2 z hzg (by omega)
          have h4 := hzmax g hg
          have hpi := hI.pinc
          exact pw_inj hpi g ((hgm g).2 (.inl hg)) z ((hgm z).2 (.inl hzg)) (by omega)
        rw [hgz, hlw, hlw, if_pos rfl, if_neg hyz]
        have := hI.near y hy x hxg hxy fun g' hg' _ => by
          rcases (hgm g').1 hg' with h | h
          · exact Nat.le_of_lt (hlast g' h)
          · rw [h]; exact Nat.le_refl _
        omega
      · have hn := hI.near y hy g ((hgm g).2 (.inl hg)) h1 fun g' hg' hle' => by
          rcases (hgm g').1 hg' with h | h
          · exact h2 g' h hle'
          · rw [h] at hle'; omega
        by_cases hyz : y = z
        · have : g = y := by
            have h3 := h2 z hzg (by rw [hyz]; exact Nat.le_refl _)
            exact pw_inj hI.pinc g ((hgm g).2 (.inl hg)) y ((hgm y).2 (.inl (by rw [hyz]; exact hzg))) (by rw [hyz] at h1 ⊢; omega)
          rw [this]; exact Nat.le_refl _
        · rw [hlw y, if_neg hyz]
          exact Nat.le_trans (hle g) hn
    · intro y hy k hex harr
      have key : Ex ls s y k := by
        rcases hex with ⟨h1, h2⟩ | ⟨b', h1, h2⟩
        · by_cases hyx : y = x
          · subst hyx
            exact .inr ⟨a, by rw [hp]; simp, by rw [List.take_of_length_le ha]; exact h1⟩
          · exact .inl ⟨h1, fun h => by
              rcases (hgm y).1 h with h | h
              · exact h2 h
              · exact hyx h⟩
        · exact .inr ⟨b', by rw [hp]; exact List.mem_append_left _ h1, h2⟩
      obtain ⟨h3, h4⟩ := hI.ex y hy k key harr
      exact ⟨h3, fun h => Nat.le_trans (hle y) (h4 h)⟩
theorem popU_eq (x : Nat) : ∀ (b a : List Nat), x ∉ b → popU x (b ++ x :: a) = some (a, b ++ [x])
  | [], a, _ => by simp [popU]
  | y :: b, a, h => by
    have h1 : y ≠ x := fun e => h (by simp [e])
    have h2 : x ∉ b := fun e => h (by simp [e])
    simp [popU, h1, popU_eq x b a h2]
theorem offAll_lk : ∀ (c : List Nat) (m : List (Nat × Bool)) (y : Nat), lk (offAll m c) y = if y ∈ c then some false else lk m y
  | [], m, y => by simp [offAll]
  | x :: c, m, y => by
    have : offAll m (x :: c) = offAll (sk m x false) c := rfl
    rw [this, offAll_lk c, lk_sk]
    by_cases h1 : y ∈ c
    · simp [h1]
    · by_cases h2 : y = x
      · simp [h2]
      · simp [h1, h2]
theorem Inv.pop {p : List (Nat × Nat)} {x a : Nat} (hI : Inv ls nodes on s) (hp : s.path = p ++ [(x, a)]) (ha : (outAt ls ls.length x).length ≤ a) (heq : lowOf (s.up p x).low x = lowOf (s.up p x).idx x) :
    ∃ s', (s.up p x).comp x = some s' ∧ Inv ls nodes on s' ∧ s'.path = p ∧ s'.idx = s.idx := by
  have hxg : x ∈ s.path.map (·.1) := by rw [hp]; simp
  have hxs := hI.pst x hxg
  have hpg : s.path.map (·.1) = p.map (·.1) ++ [x] := by rw [hp]; simp
  have hlast : ∀ g ∈ p.map (·.1), lowOf s.idx g < lowOf s.idx x := pw_last (by rw [← hpg]; exact hI.pinc)
  have hgm : ∀ g, g ∈ s.path.map (·.1) ↔ g ∈ p.map (·.1) ∨ g = x := fun g => by rw [hpg, List.mem_append]; simp
  have hgmax : ∀ g' ∈ s.path.map (·.1), lowOf s.idx g' ≤ lowOf s.idx x := fun g' hg' => by
    rcases (hgm g').1 hg' with h | h
    · exact Nat.le_of_lt (hlast g' h)
    · rw [h]; exact Nat.le_refl _
  have hxe : lowOf s.low x = lowOf s.idx x := by
    rw [up_eq] at heq
    simp only at heq
    rw [up_low] at heq
    split at heq
    · exact heq
    · rename_i z b hpl
      have hzg : z ∈ p.map (·.1) := List.mem_map.2 ⟨_, List.mem_of_getLast? hpl, rfl⟩
      have hxz : x ≠ z := fun e => by have := hlast z hzg; rw [e] at this; omega
      rw [if_neg hxz] at heq
      exact heq
  have hlw : ∀ y, lowOf (s.up p x).low y = lowOf s.low y := fun y => by
    rw [up_low]
    split
    · rfl
    · rename_i z b hpl
      have hzg : z ∈ p.map (·.1) := List.mem_map.2 ⟨_, List.mem_of_getLast? hpl, rfl⟩
      have h1 := hlast z hzg
      have h2 := (hI.lw z (hI.pst z ((hgm z).2 (.inl hzg)))).1
      split
      · rename_i e; rw [e]; omega
      · rfl
  obtain ⟨A, B, hAB⟩ := List.append_of_mem hxs
  have hinc := hI.inc
  rw [hAB] at hinc
  obtain ⟨hA, hxB, hAxB⟩ := List.pairwise_append.1 hinc
  obtain ⟨hxB1, hB⟩ := List.pairwise_cons.1 hxB
  have hAx : ∀ y ∈ A, lowOf s.idx y < lowOf s.idx x := fun y hy => hAxB y hy x (by simp)
  have hCx : ∀ y ∈ x :: B, lowOf s.idx x ≤ lowOf s.idx y := fun y hy => by
    rcases List.mem_cons.1 hy with e | h
    · rw [e]; exact Nat.le_refl _
    · exact Nat.le_of_lt (hxB1 y h)
  have hst : ∀ y, y ∈ s.st ↔ y ∈ A ∨ y ∈ x :: B := fun y => by rw [hAB, List.mem_append]
  have hsplit : ∀ y ∈ s.st, lowOf s.idx x ≤ lowOf s.idx y → y ∈ x :: B := fun y hy h => by
    rcases (hst y).1 hy with h1 | h1
    · have := hAx y h1; omega
    · exact h1
  have hsplit2 : ∀ y ∈ s.st, lowOf s.idx y < lowOf s.idx x → y ∈ A := fun y hy h => by
    rcases (hst y).1 hy with h1 | h1
    · exact h1
    · have := hCx y h1; omega
  have hxB0 : x ∉ B := fun h => by have := hxB1 x h; omega
  have hpop : popU x s.st.reverse = some (A.reverse, B.reverse ++ [x]) := by
    rw [hAB, List.reverse_append, List.reverse_cons, List.append_assoc]
    exact popU_eq x B.reverse A.reverse (by simpa using hxB0)
  have hupst : (s.up p x).st = s.st := by rw [up_eq]
  have hupix : (s.up p x).idx = s.idx := by rw [up_eq]
  have hupon : (s.up p x).on = s.on := by rw [up_eq]
  have hupout : (s.up p x).out = s.out := up_out s p x
  have hupp : (s.up p x).path = p := by rw [up_eq]
  have hc : ∀ y, y ∈ sortN (B.reverse ++ [x]) ↔ y ∈ x :: B := fun y => by rw [(sortN_perm _).mem_iff]; simp [or_comm]
  have hcB : ∀ y, y ∈ B.reverse ++ [x] ↔ y ∈ x :: B := fun y => by simp [or_comm]
  have hgray : ∀ y ∈ B, y ∉ s.path.map (·.1) := fun y hy h => by
    have := hgmax y h
    have := hxB1 y hy
    omega
  have hlowx : ∀ y ∈ x :: B, lowOf s.idx x ≤ lowOf s.low y := fun y hy => by
    have := hI.near y ((hst y).2 (.inr hy)) x hxg (hCx y hy) fun g' hg' _ => hgmax g' hg'
    omega
  refine ⟨{ idx := s.idx, low := (s.up p x).low, on := offAll s.on (B.reverse ++ [x]), st := A, path := p, out := s.out ++ [sortN (B.reverse ++ [x])] }, by unfold Tj.comp; rw [hupst, hpop]; simp only [hupix, hupon, hupout, hupp, List.reverse_reverse], ?_, rfl, rfl⟩
  have hto : ∀ y ∈ x :: B, Rc (EdgeP ls nodes on) x y := fun y hy => hI.r1 x hxg y ((hst y).2 (.inr hy)) (hCx y hy)
  have hback : ∀ (m y : Nat), lowOf s.idx y ≤ m → y ∈ x :: B → Rc (EdgeP ls nodes on) y x := by
    intro m
    induction m with
    | zero =>
      intro y hm hy
      have h1 := hCx y hy
      rcases List.mem_cons.1 hy with e | h
      · rw [e]; exact .refl _
      · have := hxB1 y h; omega
    | succ m ih =>
      intro y hm hy
      rcases List.mem_cons.1 hy with e | h
      · rw [e]; exact .refl _
      · have hys := (hst y).2 (.inr hy)
        have h1 := hI.lws y hys (hgray y h)
        obtain ⟨_, z, hz, h2, h3⟩ := hI.lw y hys
        have h4 := hlowx y hy
        exact h3.trans (ih z (by omega) (hsplit z hz (by omega)))
  have hex : ∀ y ∈ x :: B, ∀ k, k ∈ outAt ls ls.length y → Ex ls s y k := fun y hy k hk => by
    rcases List.mem_cons.1 hy with e | h
    · subst e
      exact .inr ⟨a, by rw [hp]; simp, by rw [List.take_of_length_le ha]; exact hk⟩
    · exact .inl ⟨hk, hgray y h⟩
  have hperm : (A ++ (s.out ++ [sortN (B.reverse ++ [x])]).flatten).Perm (s.st ++ s.out.flatten) := by
    rw [List.flatten_append, hAB]
    simp only [List.flatten_cons, List.flatten_nil, List.append_nil]
    rw [List.append_assoc]
    refine List.Perm.append_left A ?_
    have h1 : (sortN (B.reverse ++ [x])).Perm (x :: B) := (sortN_perm _).trans (by
      refine List.perm_append_comm.trans ?_
      exact (List.reverse_perm B).cons x)
    exact (List.perm_append_comm).trans (h1.append_right _)
  have hmemp : ∀ y, (y ∈ A ∨ y ∈ (s.out ++ [sortN (B.reverse ++ [x])]).flatten) ↔ (y ∈ s.st ∨ y ∈ s.out.flatten) := fun y => by
    rw [← List.mem_append, ← List.mem_append]; exact hperm.mem_iff
  refine ⟨fun y => ?_, fun y => ?_, ?_, hA, hI.lt, ?_, fun g h => ?_, fun g h z hz => ?_, fun y hy => ?_, fun y hy hny => ?_, fun y hy g hg h1 h2 => ?_, fun y hy k hexk harr => ?_, hI.mem, fun c hcm => ?_, fun i hi y hy z hyz => ?_⟩
  · rw [hI.vis]; exact (hmemp y).symm
  · rw [offAll_lk]
    split
    · rename_i h
      have hyB := (hcB y).1 h
      constructor
      · intro h; cases h
      · intro hyA
        have h1 := hAx y hyA
        have h2 := hCx y hyB
        omega
    · rename_i h
      rw [hI.on_, hst]
      constructor
      · rintro (h1 | h1)
        · exact h1
        · exact absurd ((hcB y).2 h1) h
      · exact .inl
  · exact hperm.nodup_iff.2 hI.nodup
  · have := hI.pinc
    rw [hpg] at this
    exact (List.pairwise_append.1 this).1
  · exact hsplit2 g (hI.pst g ((hgm g).2 (.inl h))) (hlast g h)
  · exact hI.r1 g ((hgm g).2 (.inl h)) z ((hst z).2 (.inl hz))
  · obtain ⟨h1, z, hz, h2, h3⟩ := hI.lw y ((hst y).2 (.inl hy))
    have := hAx y hy
    rw [hlw]
    exact ⟨h1, z, hsplit2 z hz (by omega), h2, h3⟩
  · have := hAx y hy
    rw [hlw]
    refine hI.lws y ((hst y).2 (.inl hy)) fun h => ?_
    rcases (hgm y).1 h with h | h
    · exact hny h
    · rw [h] at this; omega
  · rw [hlw, hlw]
    refine hI.near y ((hst y).2 (.inl hy)) g ((hgm g).2 (.inl hg)) h1 fun g' hg' hle => ?_
    rcases (hgm g').1 hg' with h | h
    · exact h2 g' h hle
    · have := hAx y hy
      rw [h] at hle
      omega
  · have hyx := hAx y hy
    have key : Ex ls s y k := by
      rcases hexk with ⟨h1, h2⟩ | ⟨b', h1, h2⟩
      · exact .inl ⟨h1, fun h => by
          rcases (hgm y).1 h with h | h
          · exact h2 h
          · rw [h] at hyx; omega⟩
      · exact .inr ⟨b', by rw [hp]; exact List.mem_append_left _ h1, h2⟩
    obtain ⟨h3, h4⟩ := hI.ex y ((hst y).2 (.inl hy)) k key harr
    rw [hlw]
    exact ⟨h3, fun h => h4 ((hst _).2 (.inl h))⟩
  · rcases List.mem_append.1 hcm with hcm | hcm
    · exact hI.scc c hcm
    · rw [List.mem_singleton.1 hcm]
      refine ⟨fun h => ?_, sortN_sorted _, fun u hu v hv => ?_⟩
      · have := (hc x).2 (by simp)
        rw [h] at this
        cases this
      · exact (hback _ u (Nat.le_refl _) ((hc u).1 hu)).trans (hto v ((hc v).1 hv))
  · rw [List.length_append] at hi
    by_cases hi2 : i < s.out.length
    · rw [List.getElem_append_left hi2] at hy
      obtain ⟨j, hj, h1, h2⟩ := hI.ord i hi2 y hy z hyz
      exact ⟨j, by rw [List.length_append]; omega, h1, by rw [List.getElem_append_left hj]; exact h2⟩
    · have hie : i = s.out.length := by simp at hi; omega
      subst hie
      rw [List.getElem_append_right (Nat.le_refl _)] at hy
      simp only [Nat.sub_self, List.getElem_cons_zero] at hy
      have hyB := (hc y).1 hy
      obtain ⟨k, hk, harr, hkz⟩ := hyz
      obtain ⟨h3, h4⟩ := hI.ex y ((hst y).2 (.inr hyB)) k (hex y hyB k hk) harr
      rw [hkz] at h3 h4
      rcases (hI.vis z).1 h3 with h | h
      · have h5 := h4 h
        have h6 := hlowx y hyB
        have hzB := hsplit z h (by omega)
        exact ⟨s.out.length, by simp, Nat.le_refl _, by rw [List.getElem_append_right (Nat.le_refl _)]; simp only [Nat.sub_self, List.getElem_cons_zero]; exact (hc z).2 hzB⟩
      · obtain ⟨c, hcm, hzc⟩ := List.mem_flatten.1 h
        obtain ⟨j, hj, hjc⟩ := List.getElem_of_mem hcm
        exact ⟨j, by rw [List.length_append]; omega, by omega, by rw [List.getElem_append_left hj, hjc]; exact hzc⟩
end
end Go.Proofs.YtnanffbjmfgafaaGreat.S
namespace Go.Proofs.YtnanffbjmfgafaaGreat.S
open Go.RowKit
def degR (ls : List Arrow) (x : Nat) : Nat := (outAt ls ls.length x).length
def unvis (ls : List Arrow) (m : List (Nat × Nat)) : List Nat → Nat
  | [] => 0
  | x :: r => (if (lk m x).isSome = true then 0 else degR ls x + 3) + unvis ls m r
def onPath (ls : List Arrow) : List (Nat × Nat) → Nat
  | [] => 0
  | (x, a) :: r => (degR ls x + 1 - a) + onPath ls r
theorem onPath_app (ls : List Arrow) : ∀ p q, onPath ls (p ++ q) = onPath ls p + onPath ls q
  | [], q => by simp [onPath]
  | (x, a) :: p, q => by simp only [List.cons_append, onPath, onPath_app ls p q]; omega
def phi (ls : List Arrow) (nodes : List Nat) (s : Tj) : Nat := unvis ls s.idx nodes + onPath ls s.path
theorem unvis_le (ls : List Arrow) (m : List (Nat × Nat)) (y v : Nat) : ∀ nodes, unvis ls (sk m y v) nodes ≤ unvis ls m nodes
  | [] => Nat.le_refl _
  | x :: r => by
    have := unvis_le ls m y v r
    simp only [unvis, lk_sk]
    by_cases h : x = y
    · rw [if_pos h]; simp only [Option.isSome_some, if_true]; omega
    · rw [if_neg h]; omega
theorem unvis_new (ls : List Arrow) (m : List (Nat × Nat)) (y v : Nat) (hy : lk m y = none) : ∀ nodes, y ∈ nodes → unvis ls (sk m y v) nodes + (degR ls y + 3) ≤ unvis ls m nodes
  | [], h => by cases h
  | x :: r, h => by
    simp only [unvis, lk_sk]
    by_cases e : x = y
    · have := unvis_le ls m y v r
      subst e
      simp only [if_true, Option.isSome_some, hy, Option.isSome_none, Bool.false_eq_true, if_false]
      omega
    · have := unvis_new ls m y v hy r (by rcases List.mem_cons.1 h with h | h; exact absurd h.symm e; exact h)
      rw [if_neg e]
      omega
theorem arrIn_to {ls : List Arrow} {nodes : List Nat} {on : List Bool} {k : Nat} (h : arrIn ls nodes on k = true) : toOf ls k ∈ nodes := by
  unfold arrIn at h
  unfold toOf
  rw [Bool.and_eq_true] at h
  have h2 := h.2
  rcases hk : ls[k]? with _ | b
  · rw [hk] at h2; cases h2
  · rw [hk] at h2
    simpa using h2
structure Inv2 (ls : List Arrow) (nodes : List Nat) (on : List Bool) (s : Tj) : Prop where
  inv : Inv ls nodes on s
  pa : ∀ q ∈ s.path, q.2 ≤ degR ls q.1
section
variable {ls : List Arrow} {nodes : List Nat} {on : List Bool} {s : Tj}
theorem Inv2.scan {p : List (Nat × Nat)} {x a : Nat} (h : Inv2 ls nodes on s) (hp : s.path = p ++ [(x, a)]) (ha : a < (outAt ls ls.length x).length) :
    Inv2 ls nodes on (s.scan ls nodes on p x a).1 ∧ phi ls nodes (s.scan ls nodes on p x a).1 + 1 ≤ phi ls nodes s := by
  have hI := h.inv
  obtain ⟨k, hk⟩ : ∃ k, (outAt ls ls.length x)[a]? = some k := ⟨_, List.getElem?_eq_getElem ha⟩
  have hkd : (outAt ls ls.length x).getD a 0 = k := by rw [List.getD_eq_getElem?_getD, hk]; rfl
  have hkm : k ∈ outAt ls ls.length x := List.mem_of_getElem? hk
  have hpa : ∀ q ∈ p, q.2 ≤ degR ls q.1 := fun q hq => h.pa q (by rw [hp]; exact List.mem_append_left _ hq)
  have hpa1 : ∀ q ∈ p ++ [(x, a + 1)], q.2 ≤ degR ls q.1 := fun q hq => by
    rcases List.mem_append.1 hq with hq | hq
    · exact hpa q hq
    · rw [List.mem_singleton.1 hq]; exact ha
  have hph : onPath ls (p ++ [(x, a + 1)]) + 1 = onPath ls s.path := by
    rw [hp, onPath_app, onPath_app]
    simp only [onPath]
    have : a < degR ls x := ha
    omega
  have hxg : x ∈ s.path.map (·.1) := by rw [hp]; simp
  have hgeq : (p ++ [(x, a + 1)]).map (·.1) = s.path.map (·.1) := by rw [hp]; simp
  unfold Tj.scan Tj.arrow
  simp only [hkd]
  split
  · rename_i h1
    refine ⟨⟨hI.step hp hk (fun h2 => by rw [h1] at h2; cases h2), hpa1⟩, ?_⟩
    unfold phi
    simp only
    omega
  · rename_i h1
    have harr : arrIn ls nodes on k = true := by simpa using h1
    have hyn := arrIn_to harr
    split
    · rename_i h2
      refine ⟨⟨hI.enter h2 hyn (p ++ [(x, a + 1)]) hgeq (fun g hg => ?_) (fun z k' hz => ?_), fun q hq => ?_⟩, ?_⟩
      · refine .tail (hI.r1 g hg x (hI.pst x hxg) ?_) ⟨k, hkm, harr, rfl⟩
        have hpg : s.path.map (·.1) = p.map (·.1) ++ [x] := by rw [hp]; simp
        have hg2 := hg
        rw [hpg] at hg2
        rcases List.mem_append.1 hg2 with hg2 | hg2
        · exact Nat.le_of_lt (pw_last (by rw [← hpg]; exact hI.pinc) g hg2)
        · rw [List.mem_singleton.1 hg2]; exact Nat.le_refl _
      · obtain ⟨b, hb, hkb⟩ := hz
        rcases List.mem_append.1 hb with hb | hb
        · exact .inl (.inr ⟨b, by rw [hp]; exact List.mem_append_left _ hb, hkb⟩)
        · simp only [List.mem_singleton, Prod.mk.injEq] at hb
          obtain ⟨rfl, rfl⟩ := hb
          rw [List.take_succ_eq_append_getElem ha] at hkb
          rcases List.mem_append.1 hkb with hkb | hkb
          · exact .inl (.inr ⟨a, by rw [hp]; simp, hkb⟩)
          · right
            rw [List.getElem?_eq_getElem ha, Option.some.injEq] at hk
            rw [List.mem_singleton.1 hkb, hk]
      · rcases List.mem_append.1 hq with hq | hq
        · exact hpa1 q hq
        · rw [List.mem_singleton.1 hq]; exact Nat.zero_le _
      · have := unvis_new ls s.idx (toOf ls k) s.idx.length h2 nodes hyn
        show unvis ls (sk s.idx (toOf ls k) s.idx.length) nodes + onPath ls ((p ++ [(x, a + 1)]) ++ [(toOf ls k, 0)]) + 1 ≤ unvis ls s.idx nodes + onPath ls s.path
        rw [onPath_app]
        simp only [onPath]
        omega
    · rename_i h2
      split
      · rename_i h3
        refine ⟨⟨hI.lower hp hk harr ((hI.on_ _).1 h3), hpa1⟩, ?_⟩
        unfold phi
        simp only
        omega
      · rename_i h3
        refine ⟨⟨hI.step hp hk (fun _ => ⟨(by
          rcases hq : lk s.idx (toOf ls k) with _ | v
          · exact absurd hq h2
          · rfl), fun hm => h3 ((hI.on_ _).2 hm)⟩), hpa1⟩, ?_⟩
        unfold phi
        simp only
        omega
theorem Inv2.done {p : List (Nat × Nat)} {x a : Nat} (h : Inv2 ls nodes on s) (hp : s.path = p ++ [(x, a)]) (ha : ¬ a < (outAt ls ls.length x).length) :
    ∃ s', s.done p x = some s' ∧ Inv2 ls nodes on s' ∧ phi ls nodes s' + 1 ≤ phi ls nodes s := by
  have hI := h.inv
  have hpa : ∀ q ∈ p, q.2 ≤ degR ls q.1 := fun q hq => h.pa q (by rw [hp]; exact List.mem_append_left _ hq)
  have hax : a ≤ degR ls x := h.pa (x, a) (by rw [hp]; simp)
  have hph : ∀ s' : Tj, s'.idx = s.idx → s'.path = p → phi ls nodes s' + 1 ≤ phi ls nodes s := fun s' e1 e2 => by
    unfold phi
    rw [e1, e2, hp, onPath_app]
    simp only [onPath]
    omega
  unfold Tj.done
  split
  · rename_i heq
    obtain ⟨s', e, hI', e1, e2⟩ := hI.pop hp (Nat.le_of_not_lt ha) heq
    exact ⟨s', e, ⟨hI', by rw [e1]; exact hpa⟩, hph s' e2 e1⟩
  · rename_i hne
    exact ⟨_, rfl, ⟨hI.leave hp (Nat.le_of_not_lt ha) hne, by rw [up_eq]; exact hpa⟩, hph _ (by rw [up_eq]) (by rw [up_eq])⟩
theorem runT_total : ∀ (f : Nat) (s : Tj), Inv2 ls nodes on s → phi ls nodes s + 1 ≤ f → ∃ f' s', runT ls nodes on f s = some (f', s') ∧ Inv2 ls nodes on s' ∧ s'.path = [] ∧ f + phi ls nodes s' ≤ f' + phi ls nodes s + 1 ∧ ∀ y, (lk s.idx y).isSome = true → (lk s'.idx y).isSome = true
  | 0, s, _, h => by omega
  | f + 1, s, hI, hf => by
    rcases List.eq_nil_or_concat s.path with hp | ⟨p, ⟨x, a⟩, hp⟩
    · exact ⟨f, s, runT_end hp, hI, hp, by omega, fun _ h => h⟩
    · rw [List.concat_eq_append] at hp
      by_cases ha : a < (outAt ls ls.length x).length
      · obtain ⟨h1, h2⟩ := hI.scan hp ha
        obtain ⟨f', s', e, h3, h4, h5, h6⟩ := runT_total f _ h1 (by omega)
        refine ⟨f', s', by rw [runT_scan hp ha]; exact e, h3, h4, by omega, fun y hy => h6 y ?_⟩
        unfold Tj.scan Tj.arrow
        simp only
        split
        · exact hy
        · split
          · show (lk (sk s.idx _ _) y).isSome = true
            rw [lk_sk]
            split
            · rfl
            · exact hy
          · split <;> exact hy
      · obtain ⟨s1, e1, h1, h2⟩ := hI.done hp ha
        obtain ⟨f', s', e, h3, h4, h5, h6⟩ := runT_total f _ h1 (by omega)
        have g1 : s.path.getLast? = some (x, a) := by rw [hp]; simp
        have g2 : s.path.dropLast = p := by rw [hp]; simp
        refine ⟨f', s', by simp only [runT, g1, g2, ha, if_false, e1]; exact e, h3, h4, by omega, fun y hy => h6 y ?_⟩
        have : s1.idx = s.idx := by
          unfold Tj.done at e1
          split at e1
          · unfold Tj.comp at e1
            split at e1
            · cases e1; rw [up_eq]
            · cases e1
          · cases e1; rw [up_eq]
        rw [this]; exact hy
theorem rootsT_total : ∀ (rs : List Nat) (f : Nat) (s : Tj), (∀ r ∈ rs, r ∈ nodes) → Inv2 ls nodes on s → s.path = [] → phi ls nodes s ≤ f → ∃ s', rootsT ls nodes on rs f s = some s' ∧ Inv2 ls nodes on s' ∧ s'.path = [] ∧ (∀ y, (lk s.idx y).isSome = true → (lk s'.idx y).isSome = true) ∧ ∀ r ∈ rs, (lk s'.idx r).isSome = true
  | [], f, s, _, hI, hp, _ => ⟨s, rfl, hI, hp, fun _ h => h, fun r h => by cases h⟩
  | r :: rs, f, s, hrs, hI, hp, hf => by
    unfold rootsT
    by_cases hv : (lk s.idx r).isSome = true
    · rw [if_pos hv]
      obtain ⟨s', e, h1, h2, h3, h4⟩ := rootsT_total rs f s (fun q hq => hrs q (by simp [hq])) hI hp hf
      exact ⟨s', e, h1, h2, h3, fun q hq => by
        rcases List.mem_cons.1 hq with e | hq
        · rw [e]; exact h3 r hv
        · exact h4 q hq⟩
    · rw [if_neg hv]
      have hn : lk s.idx r = none := by
        rcases hq : lk s.idx r with _ | v
        · rfl
        · rw [hq] at hv; exact absurd rfl hv
      have hrn := hrs r (by simp)
      have hu := unvis_new ls s.idx r s.idx.length hn nodes hrn
      have hphi : phi ls nodes s = unvis ls s.idx nodes := by unfold phi; rw [hp]; rfl
      rcases f with _ | f
      · omega
      · have hE : Inv2 ls nodes on ({ s with path := [] }.enter r) := by
          refine ⟨hI.inv.enter hn hrn [] (by rw [hp]) (fun g hg => by rw [hp] at hg; cases hg) (fun z k ⟨b, hb, _⟩ => by cases hb), fun q hq => ?_⟩
          have : q = (r, 0) := by simpa [Tj.enter] using hq
          rw [this]; exact Nat.zero_le _
        have hpE : phi ls nodes ({ s with path := [] }.enter r) + 2 ≤ phi ls nodes s := by
          show unvis ls (sk s.idx r s.idx.length) nodes + onPath ls [(r, 0)] + 2 ≤ phi ls nodes s
          simp only [onPath]
          omega
        obtain ⟨f', s1, e1, h1, h2, h3, h4⟩ := runT_total f _ hE (by omega)
        obtain ⟨s', e, h5, h6, h7, h8⟩ := rootsT_total rs f' s1 (fun q hq => hrs q (by simp [hq])) h1 h2 (by omega)
        have hgr : ∀ y, (lk s.idx y).isSome = true → (lk s'.idx y).isSome = true := fun y hy => h7 y (h4 y (by
          show (lk (sk s.idx r s.idx.length) y).isSome = true
          rw [lk_sk]
          split
          · rfl
          · exact hy))
        refine ⟨s', by simpa only [e1] using e, h5, h6, hgr, fun q hq => ?_⟩
        rcases List.mem_cons.1 hq with eq | hq
        · rw [eq]
          refine h7 r (h4 r ?_)
          show (lk (sk s.idx r s.idx.length) r).isSome = true
          rw [lk_sk, if_pos rfl]; rfl
        · exact h8 q hq
structure CompsOk (ls : List Arrow) (nodes : List Nat) (on : List Bool) (cs : List (List Nat)) : Prop where
  mem : ∀ x, x ∈ cs.flatten ↔ x ∈ nodes
  nodup : cs.flatten.Nodup
  scc : ∀ c ∈ cs, c ≠ [] ∧ c.Pairwise (· ≤ ·) ∧ ∀ x ∈ c, ∀ y ∈ c, Rc (EdgeP ls nodes on) x y
  ord : ∀ i (h : i < cs.length), ∀ y ∈ cs[i], ∀ z, EdgeP ls nodes on y z → ∃ j, ∃ h : j < cs.length, j ≤ i ∧ z ∈ cs[j]
theorem unvis_all (ls : List Arrow) : ∀ nodes : List Nat, unvis ls [] nodes ≤ nodes.length * (ls.length + 3)
  | [] => by simp [unvis]
  | x :: r => by
    have h1 := unvis_all ls r
    have h2 : degR ls x ≤ ls.length := outAt_len _ _ _
    simp only [unvis, lk, Option.isSome_none, Bool.false_eq_true, if_false, List.length_cons, Nat.add_mul, Nat.one_mul]
    omega
theorem comps_total (ls : List Arrow) (nodes : List Nat) (on : List Bool) (hb : nodes.length * (ls.length + 3) ≤ 1000000) : ∃ cs, compsR ls nodes on = some cs ∧ CompsOk ls nodes on cs := by
  have h0 : phi ls nodes Tj.init ≤ 1000000 := by
    have := unvis_all ls nodes
    show unvis ls [] nodes + onPath ls [] ≤ 1000000
    simp only [onPath]
    omega
  obtain ⟨s', e, hI, hp, _, hv⟩ := rootsT_total (on := on) nodes 1000000 Tj.init (fun _ h => h) ⟨Inv.init, fun q hq => by cases hq⟩ rfl h0
  have hst := hI.inv.empty hp
  refine ⟨s'.out, by unfold compsR; rw [e]; rfl, fun x => ⟨fun h => hI.inv.mem x ((hI.inv.vis x).2 (.inr h)), fun h => ?_⟩, ?_, hI.inv.scc, hI.inv.ord⟩
  · rcases (hI.inv.vis x).1 (hv x h) with h1 | h1
    · rw [hst] at h1; cases h1
    · exact h1
  · have := hI.inv.nodup
    rw [hst] at this
    exact this
end
end Go.Proofs.YtnanffbjmfgafaaGreat.S
