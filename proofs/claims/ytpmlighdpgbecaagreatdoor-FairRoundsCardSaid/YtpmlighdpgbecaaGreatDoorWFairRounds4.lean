/- What the statement FairRounds is proved with, part 4: walks of the code, each against a pure version of it. -/
import Derived.Test.YtpmlighdpgbecaaGreatDoorWFairRounds3
set_option linter.all false
namespace Go.Proofs.YtpmlighdpgbecaaGreatDoor.S
section
open Go.RowKit
def argC (g : Ghost) (c : List Nat) (vs : List Value) : Prop := ∃ v, vs = [v] ∧ RS kNat g v c
set_option maxRecDepth 4000 in
theorem comps_it (g : Ghost) (gp v1 v2 v3 : Value) (bx px n : Nat) (ls : List Arrow) (nodes : List Nat) (on : List Bool) (hG : GraphR g gp n ls) (hv : ValidG n ls) (h1 : RS kNat g v1 nodes) (h2 : RS Yt g v2 (inF n nodes)) (h3 : RS Yt g v3 on)
    (hlen : on.length = ls.length) (hnl : nodes.length ≤ 20000) (hn : ∀ x ∈ nodes, x < n) (hbx : Lies g bx 0 [gp]) (hpx : Lies g px 0 [v1, v2, v3]) (xs : List (List Nat)) (hxs : compsR ls nodes on = some xs) :
    It PP 109 [.pointer (some ⟨bx, 0, none⟩), .pointer (some ⟨px, 0, none⟩)] g argC xs := by
  obtain ⟨gb, al, cl, ao, co, rfl, hG, hA, hO⟩ := hG;obtain ⟨a1, c1, rfl⟩ := h1.form;obtain ⟨a2, c2, rfl⟩ := h2.form;obtain ⟨a3, c3, rfl⟩ := h3.form
  obtain ⟨sE, hsE, rfl⟩ : ∃ sE, Qw ls nodes on nodes 1000000 Tj.init = some sE ∧ sE.out = xs := by
    unfold compsR at hxs
    cases hr : Qw ls nodes on nodes 1000000 Tj.init with
    | none => rw [hr] at hxs; cases hxs
    | some sE => rw [hr] at hxs; exact ⟨sE, rfl, by simpa using hxs⟩
  have hl0 := hv.len;have hl1 : nodes.length ≤ 4611686018427387904 := by omega
  refine it_intro Tryz.func109 rfl rfl Tryz.ntmps109 rfl ?_;intro l I Ix hcb g1 w Lc F hg1 hI0 hs;refine zQ ?_;refine wc_scope ?_;refine Y2 ?_;refine Vx hs rfl rfl ?_;clear hs; intro onb oo w hoo hs;refine Yg (ps := [(1, .tmp 20)]) rfl rfl rfl rfl rfl rfl rfl ?_;refine Xd hs (hbx.mono hg1 0 _ rfl) rfl rfl rfl rfl rfl ?_
  refine Yj hs ((hpx.mono hg1).at') rfl rfl rfl rfl rfl rfl ?_;refine Vx hs rfl rfl ?_;clear hs; intro idb io w hio hs;refine Vx hs rfl rfl ?_;clear hs; intro lob lo w hlo hs;refine Yg (ps := [(0, .tmp 21), (1, .tmp 22), (2, .tmp 23), (3, .tmp 24), (4, .tmp 25)]) rfl rfl rfl rfl rfl rfl rfl ?_;refine Yi hs rfl rfl rfl rfl ?_; clear hs; intro fb w hs
  refine Yp hs rfl rfl rfl ?_; clear hs; intro tb4 w hs;refine Yh hs 0 rfl rfl rfl rfl rfl rfl rfl rfl ?_; clear hs; intro w hs;refine Y16 ?_;refine wc_label (Zl ?_);refine Y0 ?_;refine Xd hs (hpx.mono hg1 0 _ rfl) rfl rfl rfl rfl rfl ?_;refine Y7 ?_
  refine Yw nodes.length (fun _ _ => [(30, .int .i64 nodes.length), (29, .slice a1 nodes.length c1), (4, .pointer (some ⟨tb4, 0, none⟩)), (0, Ys l), (1, .pointer (some ⟨bx, 0, none⟩)), (2, .pointer (some ⟨px, 0, none⟩))])
    (fun i (_ : Unit) w => ∃ s fuel g' Lc, g1 ≤ g' ∧ Qw ls nodes on (nodes.drop i) fuel s = some sE ∧ I s.out g' Lc ∧ s.st.length + fuel ≤ 2000000 ∧
      FinB tb4 fb onb idb lob (.pointer (some ⟨gb, 0, none⟩)) (.slice a1 nodes.length c1) (.slice a2 (inF n nodes).length c2) (.slice a3 on.length c3) s g' w (Lc ++ F)) () hl1 ⟨rfl, rfl, rfl, rfl, rfl, rfl, rfl, trivial⟩
    ⟨Tj.init, 1000000, g1, Lc, Ghost.rfl', hsE, hI0, by decide, .slice none 0 0, [], oo, io, lo, hs.perm (by classical exact List.perm_iff_count.2 fun x => by simp only [List.append_eq, List.set_cons_succ, List.set_cons_zero, List.eraseIdx_cons_zero, List.eraseIdx_cons_succ, List.count_cons, List.count_append, List.cons_append, List.nil_append, List.append_nil, List.append_assoc] <;> ac_rfl), OwnS.nil _ _, hoo, hio, hlo⟩ (fun _ _ => rfl) rfl rfl rfl ?_ ?_ (fun _ _ => rfl) rfl
  · rintro i _ w hi ⟨s, fuel, g2, Lc, hg2, hroot, hI, hfu, hB⟩;have hg02 := Ghost.tr hg1 hg2;have hb := h1.base hi;have hc := (h1.mono hg02).nat hi;have hr : nodes[i] < n := hn _ (List.getElem_mem hi);rw [List.drop_eq_getElem_cons hi] at hroot
    generalize hri : nodes[i] = r at hc hr hroot
    have hBr := hB;obtain ⟨vl, Hl, oo, io, lo, hs, ol, oon, oix, olo⟩ := hB;refine Y2 ?_;refine Yb rfl rfl rfl rfl rfl (by omega) (hb) rfl rfl ?_;refine Xd hs (hc) rfl rfl rfl rfl rfl ?_;refine Y10 ?_;refine wc_scope ?_;refine Y2 ?_;refine zL0 ?_;refine zP ?_;refine zL1 ?_;refine zP ?_;refine wl_lookOk hs 3 oix rfl rfl rfl rfl rfl rfl rfl rfl (lookV _ _) (lookS' _ _ _) rfl rfl ?_
    refine Y15 ?_
    refine Xi rfl (fun hseen => ?_) (fun hseen => ?_)
    · refine Zm rfl (Xx () hi hl1 ⟨s, fuel, g2, Lc, hg2, ?_, hI, hfu, hBr⟩ rfl rfl rfl ⟨rfl, rfl, rfl, rfl, rfl, rfl, trivial⟩);unfold Qw at hroot
      rwa [if_pos hseen] at hroot
    · refine zS ?_
      have hroot' : ∃ f f' sR, fuel = f + 1 ∧ runT ls nodes on f ({ s with path := [] }.enter r) = some (f', sR) ∧ Qw ls nodes on (nodes.drop (i + 1)) f' sR = some sE := by
        unfold Qw at hroot
        rw [if_neg (by rw [hseen]; exact Bool.false_ne_true)] at hroot
        cases fuel with
        | zero => cases hroot
        | succ f =>
          simp only at hroot
          split at hroot
          · rename_i f' sR q; exact ⟨f, f', sR, rfl, q, hroot⟩
          · cases hroot
      obtain ⟨f, f', sR, rfl, hrun, hrest⟩ := hroot';obtain ⟨tR, htR⟩ := rootsT_out hrest;refine Y2 ?_;refine Yp hs rfl rfl rfl ?_; clear hs; intro pvb w hs;refine Y56 ?_
      have hL0 : FinderL tb4 fb onb idb lob pvb (.pointer (some ⟨gb, 0, none⟩)) (.slice a1 nodes.length c1) (.slice a2 (inF n nodes).length c2) (.slice a3 on.length c3) { s with path := [] } ((tb4, Xa [.pointer (some ⟨fb, 0, none⟩)] 167) :: (fb, Xa [vl, .map (some onb), .pointer (some ⟨gb, 0, none⟩), .slice a1 nodes.length c1, .slice a2 (inF n nodes).length c2, .slice a3 on.length c3, .map (some idb), .map (some lob)] 171) :: (onb, oo) :: (idb, io) :: (lob, lo) :: (pvb, Xa [.slice none 0 0] 172) :: (Hl ++ [])) :=
        ⟨vl, Hl, _, [], oo, io, lo, rfl, ol, OwnS.nil _ _, oon, oix, olo⟩
      replace hs := (show St g2 w (((tb4, Xa [.pointer (some ⟨fb, 0, none⟩)] 167) :: (fb, Xa [vl, .map (some onb), .pointer (some ⟨gb, 0, none⟩), .slice a1 nodes.length c1, .slice a2 (inF n nodes).length c2, .slice a3 on.length c3, .map (some idb), .map (some lob)] 171) :: (onb, oo) :: (idb, io) :: (lob, lo) :: (pvb, Xa [.slice none 0 0] 172) :: (Hl ++ [])) ++ (Lc ++ F)) from St.perm (show St g2 w ((pvb, Xa [.slice none 0 0] 172) :: (tb4, _) :: (fb, _) :: (onb, oo) :: (idb, io) :: (lob, lo) :: (Hl ++ (Lc ++ F))) from hs) (by classical exact List.perm_iff_count.2 fun x => by simp only [List.append_eq, List.set_cons_succ, List.set_cons_zero, List.eraseIdx_cons_zero, List.eraseIdx_cons_succ, List.count_cons, List.count_append, List.cons_append, List.nil_append, List.append_nil, List.append_assoc] <;> ac_rfl))
      refine Xf rfl rfl rfl hs (enter_spec g2 tb4 fb onb idb lob pvb _ _ _ _ _ _ r hL0 (by simp only; omega) (by simp)) ?_;rintro u g3 L3 w hg3 hs hL3;refine Y16 ?_;refine wc_label (Zl ?_)
      have hInv0 : ∃ (s : Tj) (g' : Ghost) (Lc : Own), g1 ≤ g' ∧ runT ls nodes on f s = some (f', sR) ∧ I s.out g' Lc ∧ s.st.length + f ≤ 2000000 ∧ s.path.length + f ≤ 2000000 ∧ (∀ q ∈ s.path, q.1 < n) ∧
          FinP tb4 fb onb idb lob pvb (.pointer (some ⟨gb, 0, none⟩)) (.slice a1 nodes.length c1) (.slice a2 (inF n nodes).length c2) (.slice a3 on.length c3) s g' w (Lc ++ F) := by
        refine ⟨_, g3, Lc, Ghost.tr hg2 hg3, hrun, hcb.grows _ _ _ _ hg3 hI, ?_, ?_, ?_, L3, hL3, hs⟩
        · simp only [Tj.enter, List.length_append, List.length_cons, List.length_nil]; omega
        · simp only [Tj.enter, List.length_append, List.length_cons, List.length_nil]; omega
        · intro q hq;have : q = (r, 0) := by simpa [Tj.enter] using hq
          rw [this]; exact hr
      clear hrun hL3 hL0 hs hBr
      refine Yc (Ke (fun _ => [(31, .int .i64 (i : Int)), (30, .int .i64 nodes.length), (29, (.slice a1 nodes.length c1)), (4, .pointer (some ⟨tb4, 0, none⟩)), (0, Ys l), (1, .pointer (some ⟨bx, 0, none⟩)), (2, .pointer (some ⟨px, 0, none⟩)), (9, .pointer (some ⟨pvb, 0, none⟩)), (10, .func (.func 110) #[] #[.pointer (some ⟨tb4, 0, none⟩), .pointer (some ⟨pvb, 0, none⟩)])]) (fun f w => ∃ (s : Tj) (g' : Ghost) (Lc : Own), g1 ≤ g' ∧ runT ls nodes on f s = some (f', sR) ∧ I s.out g' Lc ∧ s.st.length + f ≤ 2000000 ∧ s.path.length + f ≤ 2000000 ∧ (∀ q ∈ s.path, q.1 < n) ∧ FinP tb4 fb onb idb lob pvb (.pointer (some ⟨gb, 0, none⟩)) (.slice a1 nodes.length c1) (.slice a2 (inF n nodes).length c2) (.slice a3 on.length c3) s g' w (Lc ++ F)) id f ⟨rfl, rfl, rfl, rfl, rfl, rfl, rfl, rfl, rfl, trivial⟩ hInv0 ?_)
      clear hInv0;rintro f w ⟨s, g3, Lc, hg3, hrun, hI, hfs, hfp, hpn, hP⟩;cases hrf : f with
      | zero => rw [hrf] at hrun; cases hrun
      | succ f0 =>
      subst hrf;have hP' := hP;obtain ⟨L, ⟨vl, Hl, vp, Hp, oo, io, lo, rfl, ol, opp, oon, oix, olo⟩, hs⟩ := hP;obtain ⟨pa, pcap, rfl⟩ := opp.form;refine Y2 ?_;refine Yu hs 5 rfl rfl rfl rfl rfl rfl rfl ?_;refine Y7 ?_
      refine Xi rfl (fun hne => ?_) (fun hemp => ?_)
      · refine zS ?_;have hpne : s.path ≠ [] := fun e => by rw [e] at hne; cases hne
        obtain ⟨p, ⟨x, a0⟩, hpath⟩ : ∃ p q, s.path = p ++ [q] := ⟨s.path.dropLast, s.path.getLast hpne, (List.dropLast_concat_getLast hpne).symm⟩
        have hx : x < n := hpn (x, a0) (by rw [hpath]; simp);have hpq : ∀ q ∈ p, q.1 < n := fun q hq => hpn q (by rw [hpath]; simp [hq])
        obtain ⟨pb, cap, pad, hS⟩ := FinP.toS hP' hpne;have hpl : s.path.length = p.length + 1 := by rw [hpath]; simp
        have hS' := hS;clear hs ol opp oon oix olo hP';obtain ⟨vl, Hl, oo, io, lo, hs, ol, oon, oix, olo, k1, k2⟩ := hS;rw [hpl, hpath] at hs
        refine zQ ?_;refine Yc ?_;refine Y2 ?_;refine Yu hs 5 rfl rfl rfl rfl rfl rfl rfl ?_;refine Yu hs 5 rfl rfl rfl rfl rfl rfl rfl ?_;refine zP ?_;refine wl_arK (p.length : Int) rfl rfl (by simp only [Qn]; congr 1; omega) (by omega) rfl rfl ?_;refine wl_ixS p.length 2 rfl rfl rfl rfl rfl (Nat.lt_succ_self _) rfl rfl rfl ?_;refine Y4 ?_
        refine Yu hs 6 rfl rfl (steps_at0 p x a0 pad) rfl rfl rfl rfl ?_;refine Y7 ?_;have hxl : x < (Zs n ls).length := by simpa [Zs] using hx
        have hol : n = (Zs n ls).length := by simp [Zs]
        have hO' : RS (kSl kNat) g (.slice ao (Zs n ls).length co) (Zs n ls) := by rw [← hol]; exact hO
        have hbO := hO'.base hxl;clear hs ol oon oix olo;refine zQ ?_
        refine Yc (Ke (fun _ => [(11, .pointer (some ⟨pb, p.length * 2, none⟩)), (12, .int .i64 (x : Int)), (31, .int .i64 (i : Int)), (30, .int .i64 nodes.length), (29, (.slice a1 nodes.length c1)), (4, .pointer (some ⟨tb4, 0, none⟩)), (0, Ys l), (1, .pointer (some ⟨bx, 0, none⟩)), (2, .pointer (some ⟨px, 0, none⟩)), (9, .pointer (some ⟨pvb, 0, none⟩)), (10, .func (.func 110) #[] #[.pointer (some ⟨tb4, 0, none⟩), .pointer (some ⟨pvb, 0, none⟩)])]) (fun f w => ∃ (s : Tj) (a cap : Nat) (pad : List Value) (g' : Ghost) (Lc : Own), s.path = p ++ [(x, a)] ∧ g1 ≤ g' ∧ f ≤ f0 + 1 ∧ runT ls nodes on f s = some (f', sR) ∧ I s.out g' Lc ∧ s.st.length + f ≤ 2000000 ∧ s.path.length + f ≤ 2000000 ∧ FinS tb4 fb onb idb lob pvb (.pointer (some ⟨gb, 0, none⟩)) (.slice a1 nodes.length c1) (.slice a2 (inF n nodes).length c2) (.slice a3 on.length c3) pb cap pad s g' w (Lc ++ F)) id (f0 + 1)
          ⟨rfl, rfl, rfl, rfl, rfl, rfl, rfl, rfl, rfl, rfl, rfl, trivial⟩ ⟨s, a0, cap, pad, g3, Lc, hpath, hg3, Nat.le_refl _, hrun, hI, hfs, hfp, hS'⟩ ?_)
        clear hS' hrun hI hfs hfp k1 k2 hpath hpn hpl hne hpne hg3;rintro f w ⟨s, a, cap, pad, g4, Lc, hpath, hg4, hff, hrun, hI, hfs, hfp, hS⟩;cases hrf : f with
        | zero => rw [hrf] at hrun; cases hrun
        | succ f1 =>
        subst hrf;have hpl : s.path.length = p.length + 1 := by rw [hpath]; simp
        have hS' := hS;obtain ⟨vl, Hl, oo, io, lo, hs, ol, oon, oix, olo, k1, k2⟩ := hS;rw [hpl, hpath] at hs
        have hg04 := Ghost.tr hg1 hg4;obtain ⟨sa, sc, hcO, hSO⟩ := (hO'.mono hg04).sl hxl;rw [outsF_at hx] at hcO hSO
        have hol2 := Vt ls ls.length x;refine zQ ?_;refine Yf 13 [] Yd (by kernel_rfl) rfl hs ?_;refine zC ?_;refine Xv 6 rfl rfl (steps_at1 p x a pad) rfl rfl rfl ?_;refine Xp (hbx.mono hg04 0 _ rfl) rfl rfl rfl rfl ?_;refine zC ?_;refine Xp (hG.mono hg04 2 _ rfl) rfl rfl rfl rfl ?_;refine zC ?_;refine Uc rfl rfl rfl rfl rfl (by omega) hbO rfl ?_
        refine Xp (hcO) rfl rfl rfl rfl ?_;refine zC ?_;refine Xy ?_;intro g5 w hg5;intro hs;refine zn ?_
        refine Xi rfl (fun hlt => ?_) (fun hge => ?_)
        · refine zS ?_;have ha : a < (Xt ls ls.length x).length := by have := of_decide_eq_true hlt; omega
          rw [runT_scan hpath ha] at hrun
          have hbj := hSO.base ha;have hcj := hSO.nat ha;have hgk : (Xt ls ls.length x).getD a 0 = (Xt ls ls.length x)[a] := by simp [ha]
          have hkl : (Xt ls ls.length x)[a] < ls.length := outAt_lt (List.getElem_mem ha)
          dsimp only [Tj.scan] at hrun
          rw [hgk] at hrun
          generalize (Xt ls ls.length x)[a] = k at hcj hkl hrun hgk
          have hyt : Yk ls k = ls[k].to := by simp [Yk, hkl]
          rw [hyt] at hrun
          have hto : ls[k].to < n := (hv.ok _ (List.getElem_mem hkl)).2.1;have hcA := hA.enc hkl;obtain ⟨lb, lo2, rfl⟩ := hA.base hkl;have hko : k < on.length := by omega
          have hb3 := h3.base hko;have hc3 := h3.bool hko;have hgetD : on.getD k false = on[k] := by simp [hko]
          have harr : Uk ls nodes on k = (on[k] && decide (ls[k].to ∈ nodes)) := by
            unfold Uk;rw [hgetD, List.getElem?_eq_getElem hkl]
          generalize hy : ls[k].to = y at hrun hto harr
          have hcA1 : g.cell ⟨(Zj (some ⟨lb, lo2, none⟩) 3 k).block, (Zj (some ⟨lb, lo2, none⟩) 3 k).off + 1, none⟩ = some (.int .i64 (y : Int)) := by rw [← hy]; exact hcA 1 _ rfl
          have htl : y < (inF n nodes).length := by rw [inF_len]; exact hto
          have hb2 := h2.base htl;have hc2 := h2.bool htl;rw [inF_at hto] at hc2
          have hi2 := inF_len n nodes;have hg05 := Ghost.tr hg04 hg5;refine zQ ?_;refine Yc ?_;refine zQ ?_;refine Yf 14 [] Yd (by kernel_rfl) rfl hs ?_;refine Xp (hbx.mono hg05 0 _ rfl) rfl rfl rfl rfl ?_;refine zC ?_;refine Xp (hG.mono hg05 2 _ rfl) rfl rfl rfl rfl ?_;refine zC ?_;refine Uc rfl rfl rfl rfl rfl (by omega) hbO rfl ?_
          refine Xp (hg5.cell hcO) rfl rfl rfl rfl ?_;refine zC ?_;refine Xv 6 rfl rfl (steps_at1 p x a pad) rfl rfl rfl ?_;refine Uc rfl rfl rfl rfl rfl (by omega) (hbj) rfl ?_;refine Xp (hg5.cell hcj) rfl rfl rfl rfl ?_;refine zC ?_;refine Xy ?_;intro g6 w hg6;intro hs;have hg06 := Ghost.tr hg05 hg6;refine Y9 ?_;refine Xd hs (hbx.mono hg06 0 _ rfl) rfl rfl rfl rfl rfl ?_
          refine zP ?_;refine Xd hs (hG.mono hg06 1 _ rfl) rfl rfl rfl rfl rfl ?_;refine zP ?_;refine Yb rfl rfl rfl rfl rfl (by omega) (⟨lb, lo2, rfl⟩) rfl rfl ?_;refine zP ?_;refine Xd hs (hg06.cell hcA1) rfl rfl rfl rfl rfl ?_;refine Y4 ?_;refine Yu hs 6 rfl rfl (steps_at1 p x a pad) rfl rfl rfl rfl ?_;refine wl_arK ((a + 1 : Nat) : Int) rfl rfl rfl (by omega) rfl rfl ?_
          refine zP ?_;refine Yh hs 6 rfl rfl rfl (steps_at1 p x a pad) rfl rfl rfl rfl ?_;clear hs; intro w hs;rw [steps_set] at hs
          have hs1len : (p ++ [(x, a + 1)]).length = p.length + 1 := by simp
          have kk1 : ((p ++ [(x, a + 1)]).flatMap Up ++ pad).length = cap * 2 := by rw [← k1, hpath, List.length_append, List.length_append, Zx, Zx]; simp
          have hg16 := Ghost.tr hg4 (Ghost.tr hg5 hg6);have hI6 := hcb.grows _ _ _ _ (Ghost.tr hg5 hg6) hI
          have next : ∀ (s' : Tj) (lo' : Obj), s'.path = p ++ [(x, a + 1)] → s'.st = s.st → s'.on = s.on → s'.idx = s.idx → Jb (Jh vNat s'.low) lo' → s'.out = s.out → runT ls nodes on f1 s' = some (f', sR) → ∀ (g7 : Ghost) (w : World), g6 ≤ g7 →
              St g7 w ((tb4, Xa [.pointer (some ⟨fb, 0, none⟩)] 167) :: (fb, Xa [vl, .map (some onb), (.pointer (some ⟨gb, 0, none⟩)), (.slice a1 nodes.length c1), (.slice a2 (inF n nodes).length c2), (.slice a3 on.length c3), .map (some idb), .map (some lob)] 171) :: (onb, oo) :: (idb, io) :: (lob, lo') :: (pvb, Xa [.slice (some ⟨pb, 0, none⟩) (p.length + 1) cap] 172) :: (pb, Xa ((p ++ [(x, a + 1)]).flatMap Up ++ pad) 174) :: (Hl ++ (Lc ++ F))) →
              ∃ (s : Tj) (a cap : Nat) (pad : List Value) (g' : Ghost) (Lc : Own), s.path = p ++ [(x, a)] ∧ g1 ≤ g' ∧ f1 ≤ f0 + 1 ∧ runT ls nodes on f1 s = some (f', sR) ∧ I s.out g' Lc ∧ s.st.length + f1 ≤ 2000000 ∧ s.path.length + f1 ≤ 2000000 ∧ FinS tb4 fb onb idb lob pvb (.pointer (some ⟨gb, 0, none⟩)) (.slice a1 nodes.length c1) (.slice a2 (inF n nodes).length c2) (.slice a3 on.length c3) pb cap pad s g' w (Lc ++ F) := by
            intro s' lo' e1 e2 e3 e4 e5 e6 hr g7 w hg7 hs;refine ⟨s', a + 1, cap, pad, g7, Lc, e1, Ghost.tr hg16 hg7, by omega, hr, by rw [e6]; exact hcb.grows _ _ _ _ hg7 hI6, by rw [e2]; omega, by rw [e1, hs1len]; omega, vl, Hl, oo, io, lo', ?_, by rw [e2]; exact ol, by rw [e3]; exact oon, by rw [e4]; exact oix, e5, by rw [e1]; exact kk1, by rw [e1, hs1len]; omega⟩;rw [e1, hs1len];exact hs
          refine Y8 ?_;refine Xd hs (hpx.mono hg06 2 _ rfl) rfl rfl rfl rfl rfl ?_;refine zP ?_;refine Yb rfl rfl rfl rfl rfl (by omega) (hb3) rfl rfl ?_;refine Xd hs (hg06.cell hc3) rfl rfl rfl rfl rfl ?_;refine zP ?_
          refine Xr 108 rfl (fun q1 => ?_) (fun q1 => ?_)
          · have hq1 : Uk ls nodes on k = false := by rw [harr, show on[k] = false by simpa using q1]; rfl
            rw [scan_skip hq1] at hrun
            refine Y40 ?_;refine zT ?_;exact Zm rfl (Uh f1 ⟨rfl, rfl, rfl, rfl, rfl, rfl, rfl, rfl, rfl, rfl, rfl, trivial⟩ (next { s with path := p ++ [(x, a + 1)] } lo rfl rfl rfl rfl olo rfl hrun g6 _ Ghost.rfl' hs) (Nat.lt_succ_self _))
          · have q1' : on[k] = true := by simpa using q1
            refine zG ?_;refine Xd hs (hpx.mono hg06 1 _ rfl) rfl rfl rfl rfl rfl ?_;refine zG ?_;refine Yb rfl rfl rfl rfl rfl (by omega) hb2 rfl rfl ?_;refine Xd hs (hg06.cell hc2) rfl rfl rfl rfl rfl ?_;refine Y40 ?_
            refine Xi rfl (fun q2 => ?_) (fun q2 => ?_)
            · have hq1 : Uk ls nodes on k = false := by rw [harr, show decide (y ∈ nodes) = false by simpa using q2, Bool.and_false]
              rw [scan_skip hq1] at hrun
              exact Zm rfl (Uh f1 ⟨rfl, rfl, rfl, rfl, rfl, rfl, rfl, rfl, rfl, rfl, rfl, trivial⟩ (next { s with path := p ++ [(x, a + 1)] } lo rfl rfl rfl rfl olo rfl hrun g6 _ Ghost.rfl' hs) (Nat.lt_succ_self _))
            · have hq1 : Uk ls nodes on k = true := by rw [harr, q1', show decide (y ∈ nodes) = true by simpa using q2]; rfl
              refine Y45 ?_;refine zL0 ?_;refine zP ?_;refine zL1 ?_;refine zP ?_;refine wl_lookOk hs 3 oix rfl rfl rfl rfl rfl rfl rfl rfl (lookV _ _) (lookS' _ _ _) rfl rfl ?_;refine Y15 ?_
              refine Xi rfl (fun q3 => ?_) (fun q3 => ?_)
              · have q3' : lk s.idx y = none := by
                  cases hq : lk s.idx y with
                  | none => rfl
                  | some v => rw [hq] at q3; cases q3
                rw [scan_new hq1 q3'] at hrun
                refine Y0 ?_;have hS6 : FinS tb4 fb onb idb lob pvb (.pointer (some ⟨gb, 0, none⟩)) (.slice a1 nodes.length c1) (.slice a2 (inF n nodes).length c2) (.slice a3 on.length c3) pb cap pad { s with path := p ++ [(x, a + 1)] } g6 w (Lc ++ F) := ⟨vl, Hl, oo, io, lo, by rw [hs1len]; exact hs, ol, oon, oix, olo, kk1, by rw [hs1len]; omega⟩
                obtain ⟨L6, hL6, hs6⟩ := FinS.toP hS6;refine Xf rfl rfl rfl hs6 (enter_spec g6 tb4 fb onb idb lob pvb _ _ _ _ _ _ y hL6 (by simp only; omega) (by simp only [hs1len]; omega)) ?_;rintro u g7 L7 w hg7 hs7 hL7;refine zn ?_
                refine Zm rfl (Uh f1 ⟨rfl, rfl, rfl, rfl, rfl, rfl, rfl, rfl, rfl, trivial⟩ ⟨_, g7, Lc, Ghost.tr hg16 hg7, hrun, hcb.grows _ _ _ _ hg7 hI6, ?_, ?_, ?_, L7, hL7, hs7⟩ ?_)
                · simp only [Tj.enter, List.length_append, List.length_cons, List.length_nil]; omega
                · simp only [Tj.enter, List.length_append, List.length_cons, List.length_nil]; omega
                · intro q hq;simp only [Tj.enter, List.mem_append, List.mem_singleton] at hq
                  rcases hq with (hq | rfl) | rfl
                  · exact hpq q hq
                  · exact hx
                  · exact hto
                · show f1 < f0 + 1
                  omega
              · have q3' : ¬ lk s.idx y = none := by
                  intro hq;rw [hq] at q3; cases q3
                refine Y45 ?_;refine zL0 ?_;refine zP ?_;refine zL1 ?_;refine zP ?_;refine wl_look hs 2 oon rfl rfl rfl rfl rfl rfl rfl rfl (lookB _ _) rfl rfl ?_;refine zn ?_
                refine Xi rfl (fun q4 => ?_) (fun q4 => ?_)
                · rw [scan_low hq1 q3' q4] at hrun
                  refine zQ ?_;refine Yf 18 [] Yd (by kernel_rfl) rfl hs ?_;refine Xv 0 rfl rfl rfl rfl rfl rfl ?_;refine zC ?_;refine Xv 1 rfl rfl rfl rfl rfl rfl ?_;refine zC ?_;refine Xv 0 rfl rfl rfl rfl rfl rfl ?_;refine zC ?_;refine Xv 1 rfl rfl rfl rfl rfl rfl ?_;refine zC ?_;refine sg_look 4 olo rfl rfl rfl rfl rfl rfl rfl rfl (lookV _ _) rfl ?_
                  refine Xv 0 rfl rfl rfl rfl rfl rfl ?_;refine zC ?_;refine Xv 1 rfl rfl rfl rfl rfl rfl ?_;refine zC ?_;refine sg_look 3 oix rfl rfl rfl rfl rfl rfl rfl rfl (lookV _ _) rfl ?_;refine sg_min rfl rfl rfl ?_;refine Xy ?_;intro g7 w hg7;intro hs;refine Kw hs 4 olo rfl rfl (congrArg some (minV _ _)) rfl rfl rfl rfl rfl rfl ?_;clear hs; intro lo' w olo' hs
                  rw [Ja] at olo'
                  refine Xn (Xh (Uh f1 ⟨rfl, rfl, rfl, rfl, rfl, rfl, rfl, rfl, rfl, rfl, rfl, trivial⟩ (next { s with path := p ++ [(x, a + 1)], low := sk s.low x (min (Xg s.low x) (Xg s.idx y)) } lo' rfl rfl rfl rfl olo' rfl hrun g7 _ hg7 hs) (Nat.lt_succ_self _)))
                · rw [scan_off hq1 q3' q4] at hrun
                  refine Xq (Xh (Uh f1 ⟨rfl, rfl, rfl, rfl, rfl, rfl, rfl, rfl, rfl, rfl, rfl, trivial⟩ (next { s with path := p ++ [(x, a + 1)] } lo rfl rfl rfl rfl olo rfl hrun g6 _ Ghost.rfl' hs) (Nat.lt_succ_self _)))
        · have hnlt : ¬ a < (Xt ls ls.length x).length := by have := of_decide_eq_false hge; omega
          obtain ⟨s', hdone, hrun⟩ := runT_done hpath hnlt hrun;have hcut : (p ++ [(x, a)]).flatMap Up ++ pad = p.flatMap Up ++ (Up (x, a) ++ pad) := by rw [List.flatMap_append, List.append_assoc]; rfl
          rw [hcut] at hs
          have hk1 : (p.flatMap Up ++ (Up (x, a) ++ pad)).length = cap * 2 := by rw [← hcut, ← hpath]; exact k1
          have hg05 := Ghost.tr hg04 hg5;have hI5 := hcb.grows _ _ _ _ hg5 hI;refine Zm rfl (Zl ?_);refine Y2 ?_;refine Yu hs 5 rfl rfl rfl rfl rfl rfl rfl ?_;refine Yu hs 5 rfl rfl rfl rfl rfl rfl rfl ?_;refine zP ?_;refine wl_arK (p.length : Int) rfl rfl (by simp only [Qn]; congr 1; omega) (by omega) rfl rfl ?_
          refine wl_sliceTo p.length rfl rfl (by omega) rfl rfl rfl rfl rfl ?_;refine Yh hs 5 rfl rfl rfl rfl rfl rfl rfl rfl ?_; clear hs; intro w hs;refine Y9 ?_;refine Yu hs 5 rfl rfl rfl rfl rfl rfl rfl ?_;refine Y7 ?_
          refine wc_meetK (fun (_ : Unit) => [(12, .int .i64 (x : Int)), (31, .int .i64 (i : Int)), (30, .int .i64 nodes.length), (29, (.slice a1 nodes.length c1)), (4, .pointer (some ⟨tb4, 0, none⟩)), (0, Ys l), (1, .pointer (some ⟨bx, 0, none⟩)), (2, .pointer (some ⟨px, 0, none⟩)), (9, .pointer (some ⟨pvb, 0, none⟩)), (10, .func (.func 110) #[] #[.pointer (some ⟨tb4, 0, none⟩), .pointer (some ⟨pvb, 0, none⟩)])]) (fun _ w => ∃ lo' g', g5 ≤ g' ∧ Jb (Jh vNat (s.up p x).low) lo' ∧
            St g' w ((tb4, Xa [.pointer (some ⟨fb, 0, none⟩)] 167) :: (fb, Xa [vl, .map (some onb), (.pointer (some ⟨gb, 0, none⟩)), (.slice a1 nodes.length c1), (.slice a2 (inF n nodes).length c2), (.slice a3 on.length c3), .map (some idb), .map (some lob)] 171) :: (onb, oo) :: (idb, io) :: (lob, lo') :: (pvb, Xa [.slice (some ⟨pb, 0, none⟩) p.length cap] 172) :: (pb, Xa (p.flatMap Up ++ (Up (x, a) ++ pad)) 174) :: (Hl ++ (Lc ++ F)))) ?_ ?_
          · refine Xi rfl (fun hp1 => ?_) (fun hp0 => ?_)
            · have hpne : p ≠ [] := fun e => by rw [e] at hp1; cases hp1
              obtain ⟨p', ⟨z, az⟩, rfl⟩ : ∃ p' q, p = p' ++ [q] := ⟨p.dropLast, p.getLast hpne, (List.dropLast_concat_getLast hpne).symm⟩
              have hpl' : (p' ++ [(z, az)]).length = p'.length + 1 := by simp
              rw [hpl'] at hs
              refine Y2 ?_;refine Yu hs 5 rfl rfl rfl rfl rfl rfl rfl ?_;refine Yu hs 5 rfl rfl rfl rfl rfl rfl rfl ?_;refine zP ?_;refine wl_arK (p'.length : Int) rfl rfl (by simp only [Qn]; congr 1; omega) (by omega) rfl rfl ?_;refine wl_ixS p'.length 2 rfl rfl rfl rfl rfl (by omega) rfl rfl rfl ?_;refine zP ?_
              refine Yu hs 6 rfl rfl (steps_at0 p' z az (Up (x, a) ++ pad)) rfl rfl rfl rfl ?_;refine Y10 ?_;refine Yf 18 [] Yd (by kernel_rfl) rfl hs ?_;refine Xv 0 rfl rfl rfl rfl rfl rfl ?_;refine zC ?_;refine Xv 1 rfl rfl rfl rfl rfl rfl ?_;refine zC ?_;refine Xv 0 rfl rfl rfl rfl rfl rfl ?_;refine zC ?_;refine Xv 1 rfl rfl rfl rfl rfl rfl ?_;refine zC ?_
              refine sg_look 4 olo rfl rfl rfl rfl rfl rfl rfl rfl (lookV _ _) rfl ?_;refine Xv 0 rfl rfl rfl rfl rfl rfl ?_;refine zC ?_;refine Xv 1 rfl rfl rfl rfl rfl rfl ?_;refine zC ?_;refine sg_look 4 olo rfl rfl rfl rfl rfl rfl rfl rfl (lookV _ _) rfl ?_;refine sg_min rfl rfl rfl ?_;refine Xy ?_;intro g6 w hg6;intro hs
              refine Kw hs 4 olo rfl rfl (congrArg some (minV _ _)) rfl rfl rfl rfl rfl rfl ?_;clear hs; intro lo' w olo' hs;rw [Ja] at olo'
              refine Xn (Vl () ⟨rfl, rfl, rfl, rfl, rfl, rfl, rfl, rfl, rfl, rfl, trivial⟩ ⟨lo', g6, hg6, by rw [up_snoc]; exact olo', ?_⟩);rw [hpl'];exact hs
            · have hpe : p = [] := by
                have := of_decide_eq_false hp0;exact List.eq_nil_of_length_eq_zero (by omega)
              subst hpe;exact Xq (Vl () ⟨rfl, rfl, rfl, rfl, rfl, rfl, rfl, rfl, rfl, rfl, trivial⟩ ⟨lo, g5, Ghost.rfl', olo, hs⟩)
          · rintro _ w ⟨lo', g6, hg6, olo', hs⟩;have hg06 := Ghost.tr hg05 hg6;have hg16 := Ghost.tr hg4 (Ghost.tr hg5 hg6);have hI6 := hcb.grows _ _ _ _ hg6 hI5;refine zQ ?_;refine Yf 13 [] Yd (by kernel_rfl) rfl hs ?_;refine Xv 0 rfl rfl rfl rfl rfl rfl ?_;refine zC ?_;refine Xv 1 rfl rfl rfl rfl rfl rfl ?_;refine zC ?_
            refine sg_look 4 olo' rfl rfl rfl rfl rfl rfl rfl rfl (lookV _ _) rfl ?_;refine Xv 0 rfl rfl rfl rfl rfl rfl ?_;refine zC ?_;refine Xv 1 rfl rfl rfl rfl rfl rfl ?_;refine zC ?_;refine sg_look 3 oix rfl rfl rfl rfl rfl rfl rfl rfl (lookV _ _) rfl ?_;refine zC ?_;refine Xy ?_;intro g7 w hg7;intro hs;refine zn ?_;have hg17 := Ghost.tr hg16 hg7
            have hI7 := hcb.grows _ _ _ _ hg7 hI6
            refine Xi rfl (fun hdiff => ?_) (fun hsame => ?_)
            · have hd' : s' = s.up p x := by
                unfold Tj.done at hdone
                have : ¬ Xg (s.up p x).low x = Xg (s.up p x).idx x := by
                  intro he;rw [up_idx] at he
                  rw [he] at hdiff
                  simp at hdiff
                rw [if_neg this] at hdone
                cases hdone; rfl
              have hS7 : FinS tb4 fb onb idb lob pvb (.pointer (some ⟨gb, 0, none⟩)) (.slice a1 nodes.length c1) (.slice a2 (inF n nodes).length c2) (.slice a3 on.length c3) pb cap (Up (x, a) ++ pad) (s.up p x) g7 w (Lc ++ F) :=
                ⟨vl, Hl, oo, io, lo', by rw [up_path]; exact hs, by rw [up_st]; exact ol, by rw [up_on]; exact oon, by rw [up_idx]; exact oix, olo', by rw [up_path]; exact hk1, by rw [up_path]; omega⟩
              subst hd';refine Zm rfl (Uh f1 ⟨rfl, rfl, rfl, rfl, rfl, rfl, rfl, rfl, rfl, trivial⟩ ⟨s.up p x, g7, Lc, hg17, hrun, by rw [up_out]; exact hI7, by rw [up_st]; omega, by rw [up_path]; omega, fun q hq => hpq q (by rw [up_path] at hq; exact hq), FinS.toP hS7⟩ ?_)
              show f1 < f0 + 1
              omega
            · refine zS ?_
              have hd' : (s.up p x).comp x = some s' := by
                unfold Tj.done at hdone
                have : Xg (s.up p x).low x = Xg (s.up p x).idx x := by
                  rw [up_idx];have h9 : (!((Xg (s.up p x).low x : Int) == (Xg s.idx x : Int))) = false := hsame;have : (Xg (s.up p x).low x : Int) = (Xg s.idx x : Int) := by simpa using h9
                  omega
                rwa [if_pos this] at hdone
              obtain ⟨r0, c, hpop, hs'⟩ : ∃ r0 c, popU x s.st.reverse = some (r0, c) ∧ s' = { s.up p x with st := r0.reverse, on := offAll s.on c, out := s.out ++ [Vj c] } := by
                unfold Tj.comp at hd'
                rw [up_st, up_on, up_out] at hd'
                split at hd'
                · rename_i r0 c q; cases hd'; exact ⟨r0, c, q, rfl⟩
                · cases hd'
              have hclen := popU_len hpop;rw [List.length_reverse] at hclen
              refine Y11 ?_
              refine Yc (Ke (fun (v : Value × Nat) => [(18, v.1), (12, .int .i64 (x : Int)), (31, .int .i64 (i : Int)), (30, .int .i64 nodes.length), (29, (.slice a1 nodes.length c1)), (4, .pointer (some ⟨tb4, 0, none⟩)), (0, Ys l), (1, .pointer (some ⟨bx, 0, none⟩)), (2, .pointer (some ⟨px, 0, none⟩)), (9, .pointer (some ⟨pvb, 0, none⟩)), (10, .func (.func 110) #[] #[.pointer (some ⟨tb4, 0, none⟩), .pointer (some ⟨pvb, 0, none⟩)])]) (fun v w => ∃ (st : List Nat) (onm : List (Nat × Bool)) (d1 d2 : List Nat) (vl : Value) (Hl Hc : Own) (oo : Obj) (g' : Ghost), g7 ≤ g' ∧ popU x st.reverse = some (r0, d2) ∧ c = d1 ++ d2 ∧
                offAll onm d2 = offAll s.on c ∧ st.length = v.2 ∧ OwnS 3 1 vl st.length (st.flatMap Zd) Hl ∧ Jb (Jh .bool onm) oo ∧ OwnS 3 1 v.1 d1.length (d1.flatMap Zd) Hc ∧ st.length ≤ s.st.length ∧
                St g' w ((tb4, Xa [.pointer (some ⟨fb, 0, none⟩)] 167) :: (fb, Xa [vl, .map (some onb), (.pointer (some ⟨gb, 0, none⟩)), (.slice a1 nodes.length c1), (.slice a2 (inF n nodes).length c2), (.slice a3 on.length c3), .map (some idb), .map (some lob)] 171) :: (onb, oo) :: (idb, io) :: (lob, lo') :: (pvb, Xa [.slice (some ⟨pb, 0, none⟩) p.length cap] 172) :: (pb, Xa (p.flatMap Up ++ (Up (x, a) ++ pad)) 174) :: (Hl ++ (Hc ++ (Lc ++ F))))) (·.2) (.slice none 0 0, s.st.length)
                ⟨rfl, rfl, rfl, rfl, rfl, rfl, rfl, rfl, rfl, rfl, rfl, trivial⟩ ⟨s.st, s.on, [], c, vl, Hl, [], oo, g7, Ghost.rfl', hpop, rfl, rfl, rfl, ol, oon, OwnS.nil _ _, Nat.le_refl _, hs⟩ ?_)
              clear hs ol oon hpop hS';rintro ⟨vc, m⟩ w ⟨st, onm, d1, d2, vl, Hl, Hc, oo, g8, hg8, hpop, hc12, hoff, hm, ol, oon, oc, hstl, hs⟩;simp only at hm oc
              obtain ⟨y, r', hrev⟩ : ∃ y r', st.reverse = y :: r' := by
                cases hst : st.reverse with
                | nil => rw [hst] at hpop; cases hpop
                | cons y r' => exact ⟨y, r', rfl⟩
              have hst : st = r'.reverse ++ [y] := by rw [← List.reverse_reverse st, hrev, List.reverse_cons]
              rw [hrev] at hpop
              generalize hst' : r'.reverse = st' at hst
              subst hst;have hstlen : (st' ++ [y]).length = st'.length + 1 := by simp
              refine zQ ?_;refine Yc ?_;refine Y2 ?_;refine zL0 ?_;refine zP ?_
              replace hs := (show St g8 w (((fb, Xa (vl :: .map (some onb) :: [(.pointer (some ⟨gb, 0, none⟩)), (.slice a1 nodes.length c1), (.slice a2 (inF n nodes).length c2), (.slice a3 on.length c3), .map (some idb), .map (some lob)]) 171) :: (onb, oo) :: Hl) ++ ((tb4, Xa [.pointer (some ⟨fb, 0, none⟩)] 167) :: (idb, io) :: (lob, lo') :: (pvb, Xa [.slice (some ⟨pb, 0, none⟩) p.length cap] 172) :: (pb, Xa (p.flatMap Up ++ (Up (x, a) ++ pad)) 174) :: (Hc ++ (Lc ++ F)))) from hs.perm (by classical exact List.perm_iff_count.2 fun x => by simp only [List.append_eq, List.set_cons_succ, List.set_cons_zero, List.eraseIdx_cons_zero, List.eraseIdx_cons_succ, List.count_cons, List.count_append, List.cons_append, List.nil_append, List.append_nil, List.append_assoc] <;> ac_rfl))
              refine Xf rfl rfl rfl hs (pop_spec g8 fb onb vl _ st' onm oo Hl y ol oon (by omega)) ?_;rintro u g9 L' w hg9 hs ⟨rfl, vl', oo', Hl', rfl, ol', oon'⟩;refine Y7 ?_
              replace hs := (show St g9 w (Hc ++ ((tb4, Xa [.pointer (some ⟨fb, 0, none⟩)] 167) :: (fb, Xa [vl', .map (some onb), (.pointer (some ⟨gb, 0, none⟩)), (.slice a1 nodes.length c1), (.slice a2 (inF n nodes).length c2), (.slice a3 on.length c3), .map (some idb), .map (some lob)] 171) :: (onb, oo') :: (idb, io) :: (lob, lo') :: (pvb, Xa [.slice (some ⟨pb, 0, none⟩) p.length cap] 172) :: (pb, Xa (p.flatMap Up ++ (Up (x, a) ++ pad)) 174) :: (Hl' ++ (Lc ++ F)))) from hs.perm (by classical exact List.perm_iff_count.2 fun x => by simp only [List.append_eq, List.set_cons_succ, List.set_cons_zero, List.eraseIdx_cons_zero, List.eraseIdx_cons_succ, List.count_cons, List.count_append, List.cons_append, List.nil_append, List.append_nil, List.append_assoc] <;> ac_rfl))
              have hc1 : d1.length + 1 ≤ 4294967296 := by
                have : c.length = d1.length + d2.length := by rw [hc12, List.length_append]
                omega
              refine Y0 ?_;refine Jj hs oc hc1 rfl rfl rfl rfl rfl rfl rfl rfl rfl rfl rfl rfl rfl rfl ?_;intro vc' w Hc' oc' hs;refine Y7 ?_
              have oc2 : OwnS 3 1 vc' (d1 ++ [y]).length ((d1 ++ [y]).flatMap Zd) Hc' := by
                simp only [List.length_append, List.length_cons, List.length_nil, List.flatMap_append, List.flatMap_cons, List.flatMap_nil, List.append_nil];exact oc'
              have hg19 := Ghost.tr hg17 (Ghost.tr hg8 hg9);have hI9 := hcb.grows _ _ _ _ (Ghost.tr hg8 hg9) hI7;refine Y1 ?_
              refine Xi rfl (fun heq => ?_) (fun hneq => ?_)
              · have hyx : y = x := by
                  have h9 : ((y : Int) == (x : Int)) = true := heq;have : (y : Int) = (x : Int) := by simpa using h9
                  omega
                subst hyx;simp only [popU, if_true, Option.some.injEq, Prod.mk.injEq] at hpop
                obtain ⟨e1, e2⟩ := hpop;subst e2;rw [← hc12] at oc2
                refine Zm rfl (Zl ?_);refine Y0 ?_;refine Xf rfl rfl rfl hs (sort_spec g9 vc' c Hc' oc2 (by omega)) ?_;rintro u g10 L10 w hg10 hs os;refine zn ?_;rw [← Zu c] at os
                obtain ⟨g11, hg11, hs, hrs⟩ := OwnS.freezeE (e := Zd) (h0 := fun _ => rfl) os hs;have hg911 := Ghost.tr hg10 hg11;have hI11 := hcb.grows _ _ _ _ hg911 hI9;obtain ⟨t1, ht1⟩ := runT_out hrun;have hxs2 : sE.out = s.out ++ Vj c :: (t1 ++ tR) := by rw [htR, ht1, hs']; simp
                replace hs := (show St g11 w (Lc ++ (((tb4, Xa [.pointer (some ⟨fb, 0, none⟩)] 167) :: (fb, Xa [vl', .map (some onb), (.pointer (some ⟨gb, 0, none⟩)), (.slice a1 nodes.length c1), (.slice a2 (inF n nodes).length c2), (.slice a3 on.length c3), .map (some idb), .map (some lob)] 171) :: (onb, oo') :: (idb, io) :: (lob, lo') :: (pvb, Xa [.slice (some ⟨pb, 0, none⟩) p.length cap] 172) :: (pb, Xa (p.flatMap Up ++ (Up (y, a) ++ pad)) 174) :: Hl') ++ F)) from hs.perm (by classical exact List.perm_iff_count.2 fun x => by simp only [List.append_eq, List.set_cons_succ, List.set_cons_zero, List.eraseIdx_cons_zero, List.eraseIdx_cons_succ, List.count_cons, List.count_append, List.cons_append, List.nil_append, List.append_nil, List.append_assoc] <;> ac_rfl))
                refine Y0 ?_;refine wl_yield rfl rfl rfl (hcb.call s.out (Vj c) (t1 ++ tR) g11 w Lc _ [vc'] hxs2 hI11 ⟨vc', rfl, hrs⟩ hs) ?_;rintro b w ⟨g12, L12, hg12, hs, hb⟩;have hg112 := Ghost.tr hg19 (Ghost.tr hg911 hg12)
                replace hs := (show St g12 w (((tb4, Xa [.pointer (some ⟨fb, 0, none⟩)] 167) :: (fb, Xa [vl', .map (some onb), (.pointer (some ⟨gb, 0, none⟩)), (.slice a1 nodes.length c1), (.slice a2 (inF n nodes).length c2), (.slice a3 on.length c3), .map (some idb), .map (some lob)] 171) :: (onb, oo') :: (idb, io) :: (lob, lo') :: (pvb, Xa [.slice (some ⟨pb, 0, none⟩) p.length cap] 172) :: (pb, Xa (p.flatMap Up ++ (Up (y, a) ++ pad)) 174) :: Hl') ++ (L12 ++ F)) from hs.perm (by classical exact List.perm_iff_count.2 fun x => by simp only [List.append_eq, List.set_cons_succ, List.set_cons_zero, List.eraseIdx_cons_zero, List.eraseIdx_cons_succ, List.count_cons, List.count_append, List.cons_append, List.nil_append, List.append_nil, List.append_assoc] <;> ac_rfl))
                rcases hb with ⟨rfl, hI12⟩ | ⟨rfl, hX12⟩
                · refine Y7 ?_;refine zF ?_;have ho9 : sk onm y false = offAll s.on c := by rw [← hoff]; rfl
                  have hst0 : st' = r0.reverse := by rw [← hst', e1]
                  refine Xq (Xh (Uh f1 ⟨rfl, rfl, rfl, rfl, rfl, rfl, rfl, rfl, rfl, trivial⟩ ⟨s', g12, L12, hg112, hrun, by rw [hs']; exact hI12, by rw [hs']; simp only [List.length_reverse]; omega, by rw [hs']; simp only [up_path]; omega, fun q hq => hpq q (by rw [hs'] at hq; simpa [up_path] using hq), ?_⟩ ?_))
                  · refine FinS.toP (pb := pb) (cap := cap) (pad := Up (y, a) ++ pad) ⟨vl', Hl', oo', io, lo', ?_, ?_, ?_, ?_, ?_, ?_, ?_⟩
                    · rw [hs']; simp only [up_path]; exact hs
                    · rw [hs', ← hst0]; exact ol'
                    · rw [hs', ← ho9]; exact oon'
                    · rw [hs']; simp only [up_idx]; exact oix
                    · rw [hs']; exact olo'
                    · rw [hs']; simp only [up_path]; exact hk1
                    · rw [hs']; simp only [up_path]; omega
                  · show f1 < f0 + 1
                    omega
                · refine Y7 ?_;refine zT ?_;exact wc_retV0 (res0 rfl) ⟨g12, L12, hg112, hs.dropL, .inr hX12⟩
              · have hyx : ¬ y = x := by
                  intro e;subst e;have h9 : ((y : Int) == (y : Int)) = false := hneq;simp at h9
                unfold popU at hpop
                rw [if_neg hyx] at hpop
                split at hpop
                · rename_i r1 d3 hp3;cases hpop
                  refine Xq (Xh (Uh (vc', st'.length) ⟨rfl, rfl, rfl, rfl, rfl, rfl, rfl, rfl, rfl, rfl, rfl, trivial⟩ ⟨st', sk onm y false, d1 ++ [y], d3, vl', Hl', Hc', oo', g9, Ghost.tr hg8 hg9, ?_, ?_, ?_, rfl, ol', oon', oc2, by omega, hs.perm (by classical exact List.perm_iff_count.2 fun x => by simp only [List.append_eq, List.set_cons_succ, List.set_cons_zero, List.eraseIdx_cons_zero, List.eraseIdx_cons_succ, List.count_cons, List.count_append, List.cons_append, List.nil_append, List.append_nil, List.append_assoc] <;> ac_rfl)⟩ ?_))
                  · rw [← hst', List.reverse_reverse]; exact hp3
                  · rw [hc12, List.append_assoc]; rfl
                  · rw [← hoff]; rfl
                  · show st'.length < m
                    omega
                · cases hpop
      · have hpe : s.path = [] := by
          have := of_decide_eq_false hemp;exact List.eq_nil_of_length_eq_zero (by omega)
        rw [runT_end hpe] at hrun
        simp only [Option.some.injEq, Prod.mk.injEq] at hrun
        obtain ⟨e1, e2⟩ := hrun;rw [← e1, ← e2] at hrest
        refine Zm rfl ?_;exact wk_scp (Xh (Xx () hi hl1 ⟨s, f0, g3, Lc, hg3, hrest, hI, by omega, FinP.toB hP'⟩ rfl rfl rfl ⟨rfl, rfl, rfl, rfl, rfl, rfl, trivial⟩))
  · rintro _ w ⟨s, fuel, g2, Lc, hg2, hroot, hI, hfu, hB⟩;rw [List.drop_length] at hroot
    cases hroot;exact wk_scp (wk_end0 (res0 rfl) ⟨g2, Lc, hg2, hB.rest, .inl hI⟩)
end
section
open Go.RowKit
theorem components_spec (g : Ghost) (gp v1 v2 v3 : Value) (n : Nat) (ls : List Arrow) (nodes : List Nat) (on : List Bool) (hG : GraphR g gp n ls) (hv : ValidG n ls) (h1 : RS kNat g v1 nodes) (h2 : RS Yt g v2 (inF n nodes)) (h3 : RS Yt g v3 on)
  (hlen : on.length = ls.length) (hnl : nodes.length ≤ 20000) (hn : ∀ x ∈ nodes, x < n) (xs : List (List Nat)) (hxs : compsR ls nodes on = some xs) :
  Cl PP 70 [gp, .agg #[v1, v2, v3]] g [] fun g' L' r => L' = [] ∧ ∃ caps, r = .func (.func 109) #[] caps.toArray ∧ It PP 109 caps g' argC xs := by
 obtain ⟨gb, hgp⟩ : ∃ gb, gp = .pointer (some ⟨gb, 0, none⟩) := by obtain ⟨gb, _, _, _, _, rfl, _⟩ := hG; exact ⟨gb, rfl⟩
 subst hgp
 refine Xj Tryz.func70 rfl rfl Tryz.ntmps70 rfl ?_
 intro w F hs
 refine Y2 ?_
 refine Yi hs rfl rfl rfl rfl ?_; clear hs; intro bx w hs
 refine Yi hs rfl rfl rfl rfl ?_; clear hs; intro px w hs
 refine Y15 ?_
 obtain ⟨g2, hg2, hs, hl2⟩ := freezeB hs
 obtain ⟨g3, hg3, hs, hl3⟩ := freezeB hs
 have hg := Ghost.tr hg2 hg3
 refine Xb (Xo rfl rfl) ⟨g3, [], hg, hs, rfl, [.pointer (some ⟨bx, 0, none⟩), .pointer (some ⟨px, 0, none⟩)], rfl, ?_⟩
 exact comps_it g3 _ v1 v2 v3 bx px n ls nodes on (hG.mono hg) hv (h1.mono hg) (h2.mono hg) (h3.mono hg) hlen hnl hn hl3 (hl2.mono hg3) xs hxs
theorem good_spec (g : Ghost) (gb : Nat) (v1 v2 v3 va vp : Value) :
  Cl PP 36 [.pointer (some ⟨gb, 0, none⟩), .agg #[v1, v2, v3], .agg #[va, vp]] g [] fun g' L' r => L' = [] ∧ ∃ bx px wx, r = .func (.func 69) #[] #[.pointer (some ⟨bx, 0, none⟩), .pointer (some ⟨px, 0, none⟩), .pointer (some ⟨wx, 0, none⟩)] ∧
   Lies g' bx 0 [.pointer (some ⟨gb, 0, none⟩)] ∧ Lies g' px 0 [v1, v2, v3] ∧ Lies g' wx 0 [va, vp] := by
 refine Xj Tryz.func36 rfl rfl Tryz.ntmps36 rfl ?_
 intro w F hs
 refine Y2 ?_
 refine Yi hs rfl rfl rfl rfl ?_; clear hs; intro bx w hs
 refine Yi hs rfl rfl rfl rfl ?_; clear hs; intro px w hs
 refine Yi hs rfl rfl rfl rfl ?_; clear hs; intro wx w hs
 refine Y15 ?_
 obtain ⟨g2, hg2, hs, hl2⟩ := freezeB hs
 obtain ⟨g3, hg3, hs, hl3⟩ := freezeB hs
 obtain ⟨g4, hg4, hs, hl4⟩ := freezeB hs
 exact Xb (Xo rfl rfl) ⟨g4, [], Ghost.tr hg2 (Ghost.tr hg3 hg4), hs, rfl, bx, px, wx, rfl, hl4, hl3.mono hg4, hl2.mono (Ghost.tr hg3 hg4)⟩
end
section
open Go.RowKit
abbrev GL := List (List Nat × List Nat)
def seqO {β : Type} : List (Option (List β)) → Option (List β)
 | [] => some []
 | a :: r => match a, seqO r with
  | some x, some y => some (x ++ y)
  | _, _ => none
theorem seqO_some {α β : Type} {f : α → Option (List β)} : ∀ {cs : List α} {xs : List β}, seqO (cs.map f) = some xs → (∀ c ∈ cs, f c = some ((f c).getD [])) ∧ xs = cs.flatMap fun c => (f c).getD []
 | [], xs, h => by cases h; exact ⟨fun c hc => (by cases hc), rfl⟩
 | c :: cs, xs, h => by
  simp only [List.map_cons, seqO] at h
  split at h
  ·rename_i x y h1 h2;cases h;obtain ⟨q1, q2⟩ := seqO_some h2
   refine ⟨fun d hd => ?_, ?_⟩
   ·rcases List.mem_cons.1 hd with rfl | hd
    ·rw [h1]; rfl
    ·exact q1 d hd
   ·rw [List.flatMap_cons, h1, ← q2]; rfl
  ·cases h
section
variable (n : Nat) (ls : List Arrow) (all : List Nat) (pairs : List (Nat × Nat))
def goodC (rec : List Nat → List Bool → Option GL) (on : List Bool) (c : List Nat) : Option GL :=
 if (c.all (fun x => decide (x < n)) && decide (c.length ≤ 20000)) = true then
  if (Xk ls c on).length = 0 then some []
  else match Xw (Zh ls (Xk ls c on)) all pairs with
   | (3, _) => some []
   | (4, i) => rec c (Ya ls on (pairs.getD i (0, 0)).1)
   | _ => some [(c, Xk ls c on)]
 else none
def Kb : Nat → List Nat → List Bool → Option GL
 | 0, _, _ => none
 | f + 1, nodes, on => match compsR ls nodes on with
  | some cs => seqO (cs.map (goodC n ls all pairs (Kb f) on))
  | none => none
end
theorem lackingF_cases (ms : List Bool) (all : List Nat) (pairs : List (Nat × Nat)) : (Xw ms all pairs).1 = 3 ∨ ((Xw ms all pairs).1 = 4 ∧ (Xw ms all pairs).2 < pairs.length) ∨ Xw ms all pairs = (0, 0) := by
 unfold Xw
 split
 ·exact .inl rfl
 ·split
  ·rename_i i h;exact .inr (.inl ⟨rfl, (List.findIdx?_eq_some_iff_getElem.1 h).1⟩)
  ·exact .inr (.inr rfl)
def argG (g : Ghost) (x : List Nat × List Nat) (vs : List Value) : Prop := ∃ v1 v2, vs = [v1, v2] ∧ RS kNat g v1 x.1 ∧ RS kNat g v2 x.2
theorem withinF_lt {ls : List Arrow} {nodes : List Nat} {on : List Bool} {i : Nat} (h : i ∈ Xk ls nodes on) : i < ls.length := by
 obtain ⟨x, _, h2⟩ := List.mem_flatMap.1 h
 exact outAt_lt (List.mem_filter.1 h2).1
theorem withinF_len {ls : List Arrow} {nodes : List Nat} {on : List Bool} (hl : ls.length ≤ 200000) (hn : nodes.length ≤ 20000) : (Xk ls nodes on).length ≤ 4611686018427387904 := by
 have e1 := flat_len (fun x => (Xt ls ls.length x).filter (Uk ls nodes on)) ls.length nodes (fun x _ => Nat.le_trans (List.length_filter_le _ _) (Vt _ _ _))
 have e3 : nodes.length * ls.length ≤ 20000 * 200000 := Nat.mul_le_mul hn hl
 unfold Xk
 omega
theorem good_it (n : Nat) (ls : List Arrow) (all : List Nat) (pairs : List (Nat × Nat)) (hv : ValidG n ls) (hw : ValidW all pairs) : ∀ (f : Nat) (nodes : List Nat) (on : List Bool) (g : Ghost) (gp v1 v2 v3 va vp : Value) (bx px wx : Nat) (xs : GL), Kb n ls all pairs f nodes on = some xs →
  GraphR g gp n ls → RS kNat g v1 nodes → RS Yt g v2 (inF n nodes) → RS Yt g v3 on → RS kNat g va all → RS kPair g vp pairs → on.length = ls.length → nodes.length ≤ 20000 → (∀ x ∈ nodes, x < n) → Lies g bx 0 [gp] → Lies g px 0 [v1, v2, v3] → Lies g wx 0 [va, vp] →
  It PP 69 [.pointer (some ⟨bx, 0, none⟩), .pointer (some ⟨px, 0, none⟩), .pointer (some ⟨wx, 0, none⟩)] g argG xs := by
 intro f
 induction f with
 | zero => intro _ _ _ _ _ _ _ _ _ _ _ _ _ h; cases h
 | succ f ih =>
  intro nodes on g gp v1 v2 v3 va vp bx px wx xs hgood hG h1 h2 h3 ha hp hlen hnl hn hbx hpx hwx
  obtain ⟨cs, hcs, hseq⟩ : ∃ cs, compsR ls nodes on = some cs ∧ seqO (cs.map (goodC n ls all pairs (Kb n ls all pairs f) on)) = some xs := by
   simp only [Kb] at hgood
   split at hgood
   ·rename_i cs q; exact ⟨cs, q, hgood⟩
   ·cases hgood
  obtain ⟨hall, hxs⟩ := seqO_some hseq;generalize hD : (fun c => (goodC n ls all pairs (Kb n ls all pairs f) on c).getD []) = D at hxs
  have hall' : ∀ c ∈ cs, goodC n ls all pairs (Kb n ls all pairs f) on c = some (D c) := fun c hc => by rw [hall c hc, ← hD]
  subst hxs;obtain ⟨gb, hgp⟩ : ∃ gb, gp = .pointer (some ⟨gb, 0, none⟩) := by obtain ⟨gb, _, _, _, _, rfl, _⟩ := hG; exact ⟨gb, rfl⟩
  subst hgp;obtain ⟨a3, c3, rfl⟩ := h3.form;obtain ⟨ap, cp, rfl⟩ := hp.form;refine it_intro Tryz.func69 rfl rfl Tryz.ntmps69 rfl ?_;intro l I Ix hcb g1 w Lc F hg1 hI0 hs;refine Y2 ?_;refine Yi hs rfl rfl rfl rfl ?_; clear hs; intro yb w hs;refine Y9 ?_;refine Xd hs (hbx.mono hg1 0 _ rfl) rfl rfl rfl rfl rfl ?_;refine Yj hs ((hpx.mono hg1).at') rfl rfl rfl rfl rfl rfl ?_
  refine Xf (L := []) rfl rfl rfl hs (components_spec g1 _ v1 v2 _ n ls nodes on (hG.mono hg1) hv (h1.mono hg1) (h2.mono hg1) (h3.mono hg1) hlen hnl hn cs hcs) ?_;rintro u g2 L' w hg2 hs ⟨rfl, caps, rfl, hit⟩;refine zn ?_;replace hs := (show St g2 w (((yb, Xa [Ys l] 65) :: Lc) ++ F) from hs)
  refine Yc (wc_range (fun pre g' L => ∃ Lc, L = (yb, Xa [Ys l] 65) :: Lc ∧ I (pre.flatMap D) g' Lc) (fun c g' L => c = .ret ∧ ∃ Lc, L = (yb, Xa [Ys l] 65) :: Lc ∧ Ix g' Lc) rfl hit hs rfl (fun g x vs ⟨v, e, _⟩ => by rw [e]; rfl)
   (fun pre g g' L hle ⟨Lc, e, h⟩ => ⟨Lc, e, hcb.grows _ _ _ _ hle h⟩) (fun c g g' L hle ⟨e0, Lc, e, h⟩ => ⟨e0, Lc, e, hcb.growx _ _ _ hle h⟩) ⟨Lc, rfl, hcb.grows _ _ _ _ hg2 hI0⟩ ?_ ?_ ?_)
  ·rintro l2 rc pre c post g3 w L1 F1 vs hready hpre ⟨Lc, rfl, hI⟩ ⟨v, rfl, hrv⟩ hg3 hs;have hg03 := Ghost.tr hg1 (Ghost.tr hg2 hg3);have hcc := hall' c (by rw [hpre]; simp);refine Y5 ?_;refine Xn (wk_begin 0 hs rfl hready ?_);clear hs; intro w hs
   have hok : (c.all (fun x => decide (x < n)) && decide (c.length ≤ 20000)) = true := by
    unfold goodC at hcc
    split at hcc
    ·assumption
    ·cases hcc
   unfold goodC at hcc
   rw [if_pos hok] at hcc
   simp only [Bool.and_eq_true] at hok
   have hcl : c.length ≤ 20000 := of_decide_eq_true hok.2;have hcn : ∀ x ∈ c, x < n := fun x hx => of_decide_eq_true (List.all_eq_true.1 hok.1 x hx)
   refine Yc ?_;refine Y2 ?_;refine Xd hs (hbx.mono hg03 0 _ rfl) rfl rfl rfl rfl rfl ?_;refine zP ?_;refine Xd hs (hpx.mono hg03 2 _ rfl) rfl rfl rfl rfl rfl ?_;replace hs := (show St g3 w ((l2, .loop { rc with state := .busy }) :: (((yb, Xa [Ys l] 65) :: Lc) ++ F1)) from hs)
   refine Xf (L := []) rfl rfl rfl hs (Ka g3 _ v _ n ls c (hG.mono hg03) hv hrv (by omega) ⟨_, _, _, rfl⟩ hcn) ?_;rintro u g4 L' w hg4 hs ⟨rfl, v2', rfl, hr2⟩;have hg04 := Ghost.tr hg03 hg4;obtain ⟨av, cv, rfl⟩ := hrv.form;obtain ⟨av2, cv2, rfl⟩ := hr2.form;refine Yp hs rfl rfl rfl ?_; clear hs; intro qb w hs
   refine Yx (cs := [.slice av c.length cv, .slice av2 (inF n c).length cv2, .slice a3 on.length c3]) hs 0 rfl rfl rfl rfl rfl (Nat.le_of_ble_eq_true rfl) rfl rfl ?_;clear hs; intro w hs;refine Y9 ?_;refine Xd hs (hbx.mono hg04 0 _ rfl) rfl rfl rfl rfl rfl ?_;refine Vy hs 0 rfl rfl rfl rfl rfl rfl rfl ?_
   refine Xf (L := []) rfl rfl rfl hs (within_spec g4 _ _ n ls c on (hG.mono hg04) hv ⟨_, _, _, rfl, hrv.mono hg4, hr2, h3.mono hg04⟩ hlen hcl hcn) ?_;rintro vl g5 L' w hg5 hs ⟨rfl, hrl⟩;have hg05 := Ghost.tr hg04 hg5;obtain ⟨al, cl, rfl⟩ := hrl.form;refine Y15 ?_;have hg35 := Ghost.tr hg4 hg5
   refine Xi rfl (fun h0 => ?_) (fun h0 => ?_)
   ·have hl0 : (Xk ls c on).length = 0 := by have := of_decide_eq_true h0; omega
    rw [if_pos hl0] at hcc
    refine Zm rfl (wk_nil fun _ _ => ⟨g5, (yb, Xa [Ys l] 65) :: Lc, hg35, hs.drop, Lc, rfl, ?_⟩);have : D c = [] := by simpa using hcc.symm
    rw [List.flatMap_append, List.flatMap_cons, List.flatMap_nil, this, List.append_nil, List.append_nil];exact hcb.grows _ _ _ _ hg35 hI
   ·have hl0 : ¬ (Xk ls c on).length = 0 := by have := of_decide_eq_false h0; omega
    rw [if_neg hl0] at hcc
    refine zS ?_;refine zQ ?_;refine Yf 10 [] Yd (by kernel_rfl) rfl hs ?_;refine Xp (hbx.mono hg05 0 _ rfl) rfl rfl rfl rfl ?_;refine zC ?_;refine Vq [] [] rfl rfl rfl (fun g' hg' => met_spec g' _ _ n ls (Xk ls c on) (hG.mono (Ghost.tr hg05 hg')) hv (hrl.mono hg') (withinF_len hv.len hcl) (fun i hi => withinF_lt hi)) (fun _ _ _ h => h) ?_
    refine Vm ((hwx.mono hg05).at') rfl rfl rfl rfl rfl ?_;refine Vq [] [] rfl rfl rfl (fun g' hg' => lacking_spec g' va _ _ all pairs (metF_len _ _) (ha.mono (Ghost.tr hg05 hg')) (hp.mono (Ghost.tr hg05 hg')) hw) (fun _ _ _ h => h) ?_;refine zC ?_;refine Xy ?_;intro g6 w hg6;intro hs;have hg06 := Ghost.tr hg05 hg6;have hg36 := Ghost.tr hg35 hg6;have hI6 := hcb.grows _ _ _ _ hg36 hI
    have hcases := lackingF_cases (Zh ls (Xk ls c on)) all pairs;generalize hlk : Xw (Zh ls (Xk ls c on)) all pairs = k at hcc hcases
    obtain ⟨k1, k2⟩ := k;refine zn ?_;replace hs := (show St g6 w ((qb, Xa [.slice av c.length cv, .slice av2 (inF n c).length cv2, .slice a3 on.length c3] 94) :: (l2, .loop { rc with state := .busy }) :: (((yb, Xa [Ys l] 65) :: Lc) ++ F1)) from hs)
    have hflat : (pre ++ [c]).flatMap D = pre.flatMap D ++ D c := by rw [List.flatMap_append, List.flatMap_cons, List.flatMap_nil, List.append_nil]
    have hxs : cs.flatMap D = pre.flatMap D ++ (D c ++ post.flatMap D) := by rw [hpre, List.flatMap_append, List.flatMap_cons]
    rcases hcases with e | ⟨e, hk2⟩ | e
    ·simp only at e
     subst e;have hDc : D c = [] := by simpa using hcc.symm
     refine Y11 ?_;refine Yc ?_;refine Y1 ?_;refine zT ?_;refine Zm rfl (wk_nil fun _ _ => ⟨g6, (yb, Xa [Ys l] 65) :: Lc, hg36, hs.drop, Lc, rfl, ?_⟩);rw [hflat, hDc, List.append_nil];exact hI6
    ·simp only at e hk2
     subst e;have hgd : pairs.getD k2 (0, 0) = pairs[k2] := by simp [hk2]
     simp only [hgd] at hcc
     obtain ⟨pb2, po2, rfl⟩ := hp.base hk2;have hcp := hp.enc hk2;refine Y11 ?_;refine Yc ?_;refine Y1 ?_;refine zF ?_;refine Y0 ?_;refine Y42 ?_;refine Yf 11 [] Yd (by kernel_rfl) rfl hs ?_;refine Xp (hbx.mono hg06 0 _ rfl) rfl rfl rfl rfl ?_;refine zC ?_;refine Xp (hpx.mono hg06 2 _ rfl) rfl rfl rfl rfl ?_;refine zC ?_
     refine Xp (hwx.mono hg06 1 _ rfl) rfl rfl rfl rfl ?_;refine zC ?_;refine Uc rfl rfl rfl rfl rfl (by omega) (⟨pb2, po2, rfl⟩) rfl ?_;refine sg_ixA rfl rfl rfl rfl rfl (by omega) rfl ?_;refine Xp (hcp.mono hg06 0 _ rfl) rfl rfl rfl rfl ?_
     refine Uf (post := fun g' L' r => L' = [] ∧ RS Yt g' r (Ya ls on pairs[k2].1)) [] [] rfl rfl rfl (fun g' hg' => without_spec g' _ _ n pairs[k2].1 ls on (hG.mono (Ghost.tr hg06 hg')) hv (h3.mono (Ghost.tr hg06 hg')) hlen) ?_;refine zC ?_;refine Xy ?_;intro g7 w hg7;rintro vo L1 ⟨g7', hg7', rfl, hro⟩ hs;replace hro := hro.mono hg7';have hg07 := Ghost.tr hg06 hg7
     have hg37 := Ghost.tr hg36 hg7;obtain ⟨avo, cvo, rfl⟩ := hro.form;refine Yh hs 0 rfl rfl rfl rfl rfl rfl rfl rfl ?_; clear hs; intro w hs;refine zn ?_
     replace hs := (show St g7 w ((qb, Xa [.slice av c.length cv, .slice av2 (inF n c).length cv2, .slice avo (Ya ls on pairs[k2].1).length cvo] 94) :: (l2, .loop { rc with state := .busy }) :: (((yb, Xa [Ys l] 65) :: Lc) ++ F1)) from hs)
     refine Y2 ?_;refine Xd hs (hbx.mono hg07 0 _ rfl) rfl rfl rfl rfl rfl ?_;refine Vy hs 0 rfl rfl rfl rfl rfl rfl rfl ?_;refine Yj hs ((hwx.mono hg07).at') rfl rfl rfl rfl rfl rfl ?_;refine Xf (L := []) rfl rfl rfl hs (good_spec g7 gb _ _ _ va _) ?_;rintro u g8 L' w hg8 hs ⟨rfl, bx2, px2, wx2, rfl, hbx2, hpx2, hwx2⟩;have hg08 := Ghost.tr hg07 hg8
     have hg38 := Ghost.tr hg37 hg8;have hI8 := hcb.grows _ _ _ _ hg38 hI;refine zn ?_;have hit2 := ih c (Ya ls on pairs[k2].1) g8 _ _ _ _ va _ bx2 px2 wx2 (D c) hcc (hG.mono hg08) (hrv.mono hg38) (hr2.mono (Ghost.tr hg5 (Ghost.tr hg6 (Ghost.tr hg7 hg8)))) (hro.mono hg8) (ha.mono hg08) (hp.mono hg08) (by simp [Ya]) hcl hcn hbx2 hpx2 hwx2
     replace hs := (show St g8 w (((yb, Xa [Ys l] 65) :: Lc) ++ ((l2, .loop { rc with state := .busy }) :: ((qb, Xa [.slice av c.length cv, .slice av2 (inF n c).length cv2, .slice avo (Ya ls on pairs[k2].1).length cvo] 94) :: F1))) from St.perm (show St g8 w ((qb, Xa [.slice av c.length cv, .slice av2 (inF n c).length cv2, .slice avo (Ya ls on pairs[k2].1).length cvo] 94) :: (l2, .loop { rc with state := .busy }) :: (((yb, Xa [Ys l] 65) :: Lc) ++ F1)) from hs) (by classical exact List.perm_iff_count.2 fun x => by simp only [List.append_eq, List.set_cons_succ, List.set_cons_zero, List.eraseIdx_cons_zero, List.eraseIdx_cons_succ, List.count_cons, List.count_append, List.cons_append, List.nil_append, List.append_nil, List.append_assoc] <;> ac_rfl))
     refine zQ ?_
     refine Yc (wc_rangeN (l0 := l2) (r0 := { rc with state := .busy }) (fun pre2 g' L => ∃ Lc, L = (yb, Xa [Ys l] 65) :: Lc ∧ I (pre.flatMap D ++ pre2) g' Lc) (fun c g' L => c = .ret ∧ ∃ Lc, L = (yb, Xa [Ys l] 65) :: Lc ∧ Ix g' Lc) rfl hit2 hs (List.mem_append_right _ List.mem_cons_self) rfl (fun g x vs ⟨v1, v2, e, _⟩ => by rw [e]; rfl)
      (fun pre g g' L hle ⟨Lc, e, h⟩ => ⟨Lc, e, hcb.grows _ _ _ _ hle h⟩) (fun c g g' L hle ⟨e0, Lc, e, h⟩ => ⟨e0, Lc, e, hcb.growx _ _ _ hle h⟩) ⟨Lc, rfl, by rw [List.append_nil]; exact hI8⟩ ?_ ?_ ?_)
     ·rintro l3 rc3 pre2 y post2 g9 w L2 F2 vs hready3 hpre2 ⟨Lc2, rfl, hI2⟩ ⟨w1, w2, rfl, hw1, hw2⟩ hg9 hs;refine Y1 ?_;refine Y5 ?_;refine Xn (wk_begin 0 hs rfl hready3 ?_);clear hs; intro w hs;replace hs := (show St g9 w ((l3, .loop { rc3 with state := .busy }) :: (yb, Xa [Ys l] 65) :: (Lc2 ++ F2)) from hs)
      refine Yc ?_;refine Y2 ?_;refine zL1 ?_;refine zP ?_
      refine wl_yield rfl rfl rfl (hcb.call (pre.flatMap D ++ pre2) y (post2 ++ post.flatMap D) g9 w Lc2 ((l3, .loop { rc3 with state := .busy }) :: (yb, Xa [Ys l] 65) :: F2) [w1, w2] (by rw [hxs, hpre2]; simp) hI2 ⟨w1, w2, rfl, hw1, hw2⟩ (hs.perm (by classical exact List.perm_iff_count.2 fun x => by simp only [List.append_eq, List.set_cons_succ, List.set_cons_zero, List.eraseIdx_cons_zero, List.eraseIdx_cons_succ, List.count_cons, List.count_append, List.cons_append, List.nil_append, List.append_nil, List.append_assoc] <;> ac_rfl))) ?_
      rintro b w ⟨g10, L10, hg10, hs, hb⟩
      replace hs := (show St g10 w ((l3, .loop { rc3 with state := .busy }) :: (((yb, Xa [Ys l] 65) :: L10) ++ F2)) from hs.perm (by classical exact List.perm_iff_count.2 fun x => by simp only [List.append_eq, List.set_cons_succ, List.set_cons_zero, List.eraseIdx_cons_zero, List.eraseIdx_cons_succ, List.count_cons, List.count_append, List.cons_append, List.nil_append, List.append_nil, List.append_assoc] <;> ac_rfl))
      rcases hb with ⟨rfl, hI10⟩ | ⟨rfl, hX10⟩
      ·refine Y7 ?_;refine Yy rfl rfl (Xq (Xh (wk_nil fun _ _ => ⟨g10, (yb, Xa [Ys l] 65) :: L10, hg10, hs, L10, rfl, ?_⟩)));rw [← List.append_assoc];exact hI10
      ·refine Y7 ?_;exact wc_condT rfl rfl (wc_ret fun _ _ => ⟨g10, (yb, Xa [Ys l] 65) :: L10, hg10, hs, rfl, L10, rfl, hX10⟩)
     ·rintro g9 w L' hg9 ⟨Lc2, rfl, hI2⟩ hs
      refine Xh (Zl (Zm rfl (wk_nil fun _ _ => ⟨g9, (yb, Xa [Ys l] 65) :: Lc2, Ghost.tr hg38 hg9, ?_, Lc2, rfl, ?_⟩)))
      ·exact St.drop (p := (qb, Xa [.slice av c.length cv, .slice av2 (inF n c).length cv2, .slice avo (Ya ls on pairs[k2].1).length cvo] 94)) (hs.perm (by classical exact List.perm_iff_count.2 fun x => by simp only [List.append_eq, List.set_cons_succ, List.set_cons_zero, List.eraseIdx_cons_zero, List.eraseIdx_cons_succ, List.count_cons, List.count_append, List.cons_append, List.nil_append, List.append_nil, List.append_assoc] <;> ac_rfl))
      ·rw [hflat]; exact hI2
     ·rintro cd g9 w L' hg9 ⟨rfl, Lc2, rfl, hX2⟩ hs;refine wc_ret fun _ _ => ⟨g9, (yb, Xa [Ys l] 65) :: Lc2, Ghost.tr hg38 hg9, ?_, rfl, Lc2, rfl, hX2⟩
      exact St.drop (p := (qb, Xa [.slice av c.length cv, .slice av2 (inF n c).length cv2, .slice avo (Ya ls on pairs[k2].1).length cvo] 94)) (hs.perm (by classical exact List.perm_iff_count.2 fun x => by simp only [List.append_eq, List.set_cons_succ, List.set_cons_zero, List.eraseIdx_cons_zero, List.eraseIdx_cons_succ, List.count_cons, List.count_append, List.cons_append, List.nil_append, List.append_nil, List.append_assoc] <;> ac_rfl))
    ·simp only [Prod.mk.injEq] at e
     obtain ⟨rfl, rfl⟩ := e;have hDc : D c = [(c, Xk ls c on)] := by simpa using hcc.symm
     refine Y11 ?_;refine Yc ?_;refine Y1 ?_;refine zF ?_;refine Y1 ?_;refine zF ?_;refine Xq (Xh (Zl ?_));refine Y2 ?_;refine zL2 ?_;refine zP ?_
     refine wl_yield rfl rfl rfl (hcb.call (pre.flatMap D) (c, Xk ls c on) (post.flatMap D) g6 w Lc ((l2, .loop { rc with state := .busy }) :: (qb, Xa [.slice av c.length cv, .slice av2 (inF n c).length cv2, .slice a3 on.length c3] 94) :: (yb, Xa [Ys l] 65) :: F1) [.slice av c.length cv, .slice al (Xk ls c on).length cl] (by rw [hxs, hDc]; rfl) hI6 ⟨_, _, rfl, hrv.mono hg36, hrl.mono hg6⟩ (hs.perm (by classical exact List.perm_iff_count.2 fun x => by simp only [List.append_eq, List.set_cons_succ, List.set_cons_zero, List.eraseIdx_cons_zero, List.eraseIdx_cons_succ, List.count_cons, List.count_append, List.cons_append, List.nil_append, List.append_nil, List.append_assoc] <;> ac_rfl))) ?_
     rintro b w ⟨g10, L10, hg10, hs, hb⟩;have hg310 := Ghost.tr hg36 hg10
     replace hs := (show St g10 w ((qb, Xa [.slice av c.length cv, .slice av2 (inF n c).length cv2, .slice a3 on.length c3] 94) :: ((l2, .loop { rc with state := .busy }) :: (((yb, Xa [Ys l] 65) :: L10) ++ F1))) from hs.perm (by classical exact List.perm_iff_count.2 fun x => by simp only [List.append_eq, List.set_cons_succ, List.set_cons_zero, List.eraseIdx_cons_zero, List.eraseIdx_cons_succ, List.count_cons, List.count_append, List.cons_append, List.nil_append, List.append_nil, List.append_assoc] <;> ac_rfl))
     rcases hb with ⟨rfl, hI10⟩ | ⟨rfl, hX10⟩
     ·refine Y7 ?_;refine Yy rfl rfl (Xq (Xh (wk_nil fun _ _ => ⟨g10, (yb, Xa [Ys l] 65) :: L10, hg310, hs.drop, L10, rfl, ?_⟩)));rw [hflat, hDc];exact hI10
     ·refine Y7 ?_;exact wc_condT rfl rfl (wc_ret fun _ _ => ⟨g10, (yb, Xa [Ys l] 65) :: L10, hg310, hs.drop, rfl, L10, rfl, hX10⟩)
  ·rintro dk g3 w L' hg3 ⟨Lc2, rfl, hI2⟩ hs;refine Xh (wk_endM 0 hs rfl fun w' hs => ⟨.tuple #[], res0 rfl, g3, Lc2, Ghost.tr hg2 hg3, ?_, .inl hI2⟩);exact St.drop (p := (yb, Xa [Ys l] 65)) hs
  ·rintro dk cd g3 w L' hg3 ⟨rfl, Lc2, rfl, hX2⟩ hs;refine wc_retM 0 hs rfl fun w' hs => ⟨.tuple #[], res0 rfl, g3, Lc2, Ghost.tr hg2 hg3, ?_, .inr hX2⟩
   exact St.drop (p := (yb, Xa [Ys l] 65)) hs
end
section
open Go.RowKit
def Ky (c : List Nat) : Bool := (List.range (c.length - 1)).all fun i => decide (c.getD i 0 < c.getD (i + 1) 0)
theorem strictly_at {c : List Nat} (h : Ky c = true) {i : Nat} (hi : i + 1 < c.length) : c[i] < c[i + 1] := by
 have := of_decide_eq_true (List.all_eq_true.1 h i (List.mem_range.2 (by omega)))
 simpa [hi, show i < c.length by omega] using this
theorem compact_spec (g : Ghost) (v : Value) (c : List Nat) (H : Own) (ho : OwnS 3 1 v c.length (c.flatMap Zd) H) (hc : Ky c = true) (hl : c.length ≤ 4294967296) :
  Cl PP 92 [v] g H fun _ L' r => r = v ∧ L' = H := by
 obtain ⟨a, cap, rfl⟩ := ho.form
 refine Xj Tryz.func92 rfl rfl Tryz.ntmps92 rfl ?_
 intro w F hs
 refine Y22 ?_
 refine Xi rfl (fun h => ?_) (fun h => ?_)
 ·refine Y1 ?_;exact Xb (Xo rfl rfl) ⟨g, H, Ghost.rfl', hs, rfl, rfl⟩
 ·have hn2 : 2 ≤ c.length := by have := of_decide_eq_false h; omega
  obtain ⟨b, cap', pad, e, p1, p2, p3, rfl⟩ := ho.pos (by omega);cases e
  have hcell : ∀ i (hi : i < c.length), (c.flatMap Zd ++ pad)[i]? = some (.int .i64 (c[i] : Int)) := fun i hi => by
   rw [Ks, List.getElem?_append_left (by simpa using hi)];simp [hi]
  refine zS ?_;refine Y11 ?_;refine Yc (Ke (fun (k : Nat) => [(3, .int .i64 (k : Int)), (0, .slice (some ⟨b, 0, none⟩) c.length cap)]) (fun k w => 1 ≤ k ∧ k ≤ c.length ∧ ∃ g', g ≤ g' ∧ St g' w ([(b, Xa (c.flatMap Zd ++ pad) 3)] ++ F)) (fun k => c.length - k) 1 ⟨rfl, rfl, trivial⟩ ⟨Nat.le_refl _, by omega, g, Ghost.rfl', hs⟩ ?_)
  rintro k w ⟨hk1, hk2, g1, hg1, hs⟩;refine Y1 ?_
  refine Xi rfl (fun hlt => ?_) (fun hge => ?_)
  ·have hkl : k < c.length := by have := of_decide_eq_true hlt; omega
   obtain ⟨j, rfl⟩ : ∃ j, k = j + 1 := ⟨k - 1, by omega⟩
   refine zS ?_;refine zQ ?_;refine Yc ?_;refine zQ ?_;refine Yf 10 [] Yd (by kernel_rfl) rfl hs ?_;refine zC ?_;refine sg_ixJ _ rfl rfl rfl rfl rfl (hkl) rfl rfl ?_;refine Xv 0 rfl rfl (hcell (j + 1) hkl) rfl rfl rfl ?_;refine zC ?_;refine sg_arK (j : Int) rfl rfl (by simp only [Qn]; congr 1; omega) (by omega) rfl ?_
   refine sg_ixJ _ rfl rfl rfl rfl rfl ((by omega)) rfl rfl ?_;refine Xv 0 rfl rfl (hcell j (by omega)) rfl rfl rfl ?_;refine zC ?_;refine Xy ?_;intro g2 w hg2;intro hs;refine zn ?_;refine Yy rfl (by have := strictly_at hc hkl; simp; omega) ?_;refine Xq (Xh (Zl ?_));refine Y0 ?_;refine wl_arK ((j + 1 + 1 : Nat) : Int) rfl rfl rfl (by omega) rfl rfl ?_;refine zP ?_
   exact Xn (Uh (j + 1 + 1) ⟨rfl, rfl, trivial⟩ ⟨by omega, by omega, g2, Ghost.tr hg1 hg2, hs⟩ (by show c.length - (j + 1 + 1) < c.length - (j + 1); omega))
  ·refine Zm rfl (Zl ?_);refine Y1 ?_;exact Xb (Xo rfl rfl) ⟨g1, _, hg1, hs, rfl, rfl⟩
def coresR (n : Nat) (ls : List Arrow) (all : List Nat) (pairs : List (Nat × Nat)) : Option (List Nat) :=
 match Kb n ls all pairs 400 (List.range n) (List.replicate ls.length true) with
 | some xs => if (Ky (Vj (xs.flatMap (·.1))) && decide ((xs.flatMap (·.1)).length ≤ 20000)) = true then some (Vj (xs.flatMap (·.1))) else none
 | none => none
theorem cores_spec (g : Ghost) (vg va vp : Value) (n : Nat) (ls : List Arrow) (all : List Nat) (pairs : List (Nat × Nat)) (out : List Nat) (hG : GraphR g vg n ls) (hv : ValidG n ls) (hw : ValidW all pairs) (ha : RS kNat g va all) (hp : RS kPair g vp pairs) (hout : coresR n ls all pairs = some out) :
    Cl PP 48 [vg, .agg #[va, vp]] g [] fun g' L' r => L' = [] ∧ RS kNat g' r out := by
  obtain ⟨xs, hxs, hst, hlen, rfl⟩ : ∃ xs, Kb n ls all pairs 400 (List.range n) (List.replicate ls.length true) = some xs ∧ Ky (Vj (xs.flatMap (·.1))) = true ∧ (xs.flatMap (·.1)).length ≤ 20000 ∧ Vj (xs.flatMap (·.1)) = out := by
    unfold coresR at hout
    split at hout
    · rename_i xs q
      split at hout
      · rename_i h;simp only [Bool.and_eq_true, decide_eq_true_eq] at h
        cases hout;exact ⟨xs, q, h.1, h.2, rfl⟩
      · cases hout
    · cases hout
  have hGG := hG;obtain ⟨gb, al, cl, ao, co, rfl, hG, hA, hO⟩ := hG;have hn0 := hv.size;refine cl_introM Tryz.func48 rfl rfl Tryz.ntmps48 rfl ?_;intro w F hs;refine Y2 ?_;refine Yi hs rfl rfl rfl rfl ?_; clear hs; intro wb w hs;refine Y6 ?_;refine Yp hs rfl rfl rfl ?_; clear hs; intro ob w hs;refine Y16 ?_;refine Yf 10 [] Yd (by kernel_rfl) rfl hs ?_;refine zC ?_
  refine Xp (hG 0 _ rfl) rfl rfl rfl rfl ?_;refine Uf (post := fun g' L' r => L' = [] ∧ RS kNat g' r (List.range n)) [] [] rfl rfl rfl (fun g' _ => numbers_spec g' n hn0) ?_
  refine sg_callW (post := fun g' L' r => L' = [] ∧ PieceR g' r n (List.range n) (List.replicate ls.length true)) 13 [] [] rfl rfl rfl (fun _ => rfl) (fun _ => rfl) (fun g' g1 v L' hg1 ⟨g2, hg2, hL, hr⟩ hg' => whole_spec g' _ v n ls (List.range n) (hGG.mono (Ghost.tr hg1 hg')) hv (hr.mono (Ghost.tr hg2 hg')) (by simp; omega) (fun x hx => by simpa using hx)) ?_
  refine sg_ldW 1 rfl rfl rfl rfl rfl rfl ?_
  refine sg_callW (post := fun g' L' r => L' = [] ∧ ∃ bx px wx v1 v2 v3, r = .func (.func 69) #[] #[.pointer (some ⟨bx, 0, none⟩), .pointer (some ⟨px, 0, none⟩), .pointer (some ⟨wx, 0, none⟩)] ∧
      Lies g' bx 0 [.pointer (some ⟨gb, 0, none⟩)] ∧ Lies g' px 0 [v1, v2, v3] ∧ Lies g' wx 0 [va, vp] ∧ RS kNat g' v1 (List.range n) ∧ RS Yt g' v2 (inF n (List.range n)) ∧ RS Yt g' v3 (List.replicate ls.length true)) 14 [] [] rfl rfl rfl (fun _ => rfl) (fun _ => rfl) (fun g' g1 v L' hg1 ⟨g2, hg2, hL, hr⟩ hg' => by
    obtain ⟨v1, v2, v3, rfl, q1, q2, q3⟩ := hr
    refine (good_spec g' gb v1 v2 v3 va vp).mono fun g3 L3 r hg3 ⟨e, bx, px, wx, e2, l1, l2, l3⟩ => ⟨e, bx, px, wx, v1, v2, v3, e2, l1, l2, l3, ?_, ?_, ?_⟩
    · exact q1.mono (Ghost.tr hg2 (Ghost.tr hg' hg3))
    · exact q2.mono (Ghost.tr hg2 (Ghost.tr hg' hg3))
    · exact q3.mono (Ghost.tr hg2 (Ghost.tr hg' hg3))) ?_
  refine Xy ?_;intro g2 w hg2;rintro _ _ ⟨_, _, rfl, _⟩ _ _ ⟨_, _, rfl, _⟩ u _ ⟨g3, hg3, rfl, bx, px, wx, v1, v2, v3, rfl, l1, l2, l3, q1, q2, q3⟩ hs;refine zn ?_
  have hit := good_it n ls all pairs hv hw 400 (List.range n) (List.replicate ls.length true) g2 _ v1 v2 v3 va vp bx px wx xs hxs (hGG.mono hg2) (q1.mono hg3) (q2.mono hg3) (q3.mono hg3) (ha.mono hg2) (hp.mono hg2) (by simp) (by simpa using hn0) (fun x hx => by simpa using hx) (l1.mono hg3) (l2.mono hg3) (l3.mono hg3)
  replace hs := (show St g2 w ([(ob, Xa [.slice none 0 0] 22)] ++ ((wb, Xa [va, vp] 26) :: F)) from hs)
  refine Yc (wc_range (fun pre g' L => ∃ vo Ho, L = (ob, Xa [vo] 22) :: Ho ∧ OwnS 3 1 vo (pre.flatMap (·.1)).length ((pre.flatMap (·.1)).flatMap Zd) Ho) (fun c g' L => False) rfl hit hs rfl (fun g x vs ⟨v1, v2, e, _⟩ => by rw [e]; rfl)
    (fun pre g g' L hle h => h) (fun c g g' L hle h => h) ⟨_, [], rfl, OwnS.nil _ _⟩ ?_ ?_ ?_)
  · rintro l2 rc pre x post g3 w L1 F1 vs hready hpre ⟨vo, Ho, rfl, hown⟩ ⟨w1, w2, rfl, hw1, hw2⟩ hg3 hs;obtain ⟨aw, cw, rfl⟩ := hw1.form;obtain ⟨f1, f2, f3⟩ := RS.flat hw1;refine Y5 ?_;refine Xn (wk_begin 0 hs rfl hready ?_);clear hs; intro w hs;replace hs := (show St g3 w ((l2, .loop { rc with state := .busy }) :: (ob, Xa [vo] 22) :: (Ho ++ F1)) from hs)
    refine Yc ?_;refine Y2 ?_;refine zL1 ?_;refine zP ?_
    have hroom : (pre.flatMap (·.1)).length + x.1.length ≤ 4294967296 := by
      have : (xs.flatMap (·.1)).length = (pre.flatMap (·.1)).length + (x.1.length + (post.flatMap (·.1)).length) := by rw [hpre, List.flatMap_append, List.flatMap_cons, List.length_append, List.length_append]
      omega
    replace hs := (show St g3 w (Ho ++ ((l2, .loop { rc with state := .busy }) :: (ob, Xa [vo] 22) :: F1)) from hs.perm (by classical exact List.perm_iff_count.2 fun x => by simp only [List.append_eq, List.set_cons_succ, List.set_cons_zero, List.eraseIdx_cons_zero, List.eraseIdx_cons_succ, List.count_cons, List.count_append, List.cons_append, List.nil_append, List.append_nil, List.append_assoc] <;> ac_rfl))
    refine Ju (ys := x.1.flatMap Zd) (m := x.1.length) hs hown (RS.cellsAt hs f3) (by exact f2) rfl rfl rfl rfl rfl rfl rfl rfl rfl (all_one (fun _ => rfl) x.1) hroom rfl rfl ?_;intro vo' w Ho' hown' hs
    replace hs := (show St g3 w ((l2, .loop { rc with state := .busy }) :: (ob, Xa [vo] 22) :: (Ho' ++ F1)) from hs.perm (by classical exact List.perm_iff_count.2 fun x => by simp only [List.append_eq, List.set_cons_succ, List.set_cons_zero, List.eraseIdx_cons_zero, List.eraseIdx_cons_succ, List.count_cons, List.count_append, List.cons_append, List.nil_append, List.append_nil, List.append_assoc] <;> ac_rfl))
    refine Yh hs 1 rfl rfl rfl rfl rfl rfl hown'.one rfl ?_;clear hs; intro w hs;refine Xn (Xh (wk_nil fun _ _ => ⟨g3, (ob, Xa [vo'] 22) :: Ho', Ghost.rfl', hs, vo', Ho', rfl, ?_⟩));simp only [List.flatMap_append, List.flatMap_cons, List.flatMap_nil, List.append_nil, List.length_append];exact hown'
  · rintro dk g3 w L' hg3 ⟨vo, Ho, rfl, hown⟩ hs;refine Xh (Zl ?_);have hg13 := Ghost.tr hg2 hg3
    replace hs := (show St g3 w (Ho ++ ((ob, Xa [vo] 22) :: (dk, .deferred (some [])) :: (wb, Xa [va, vp] 26) :: F)) from hs.perm (by classical exact List.perm_iff_count.2 fun x => by simp only [List.append_eq, List.set_cons_succ, List.set_cons_zero, List.eraseIdx_cons_zero, List.eraseIdx_cons_succ, List.count_cons, List.count_append, List.cons_append, List.nil_append, List.append_nil, List.append_assoc] <;> ac_rfl))
    obtain ⟨avo, cvo, hvo⟩ := hown.form;refine Y2 ?_;refine Yu (St.perm hs (List.perm_append_comm (l₁ := ((ob, Xa [vo] 22) :: (dk, .deferred (some [])) :: (wb, Xa [va, vp] 26) :: F)) (l₂ := Ho))) 0 rfl rfl rfl rfl rfl rfl rfl ?_;refine Xf rfl rfl rfl hs (sort_spec g3 vo _ Ho hown (by omega)) ?_;rintro u g4 Ho4 w hg4 hs hown4;refine zn ?_;rw [← Zu] at hown4
    refine Y2 ?_;refine Yu (St.perm hs (List.perm_append_comm (l₁ := ((ob, Xa [vo] 22) :: (dk, .deferred (some [])) :: (wb, Xa [va, vp] 26) :: F)) (l₂ := Ho4))) 0 rfl rfl rfl rfl rfl rfl rfl ?_;refine Xf rfl rfl rfl hs (compact_spec g4 vo _ Ho4 hown4 hst (by rw [Zu]; omega)) ?_;rintro u g5 Ho5 w hg5 hs5 ⟨rfl, rfl⟩;refine Y7 ?_
    obtain ⟨g6, hg6, hs, hr6⟩ := OwnS.freezeE (g := g5) (e := Zd) (h0 := fun _ => rfl) hown4 hs5;refine wc_retM 1 hs rfl fun w' hs => ⟨_, Xo rfl rfl, g6, [], Ghost.tr hg13 (Ghost.tr hg4 (Ghost.tr hg5 hg6)), ?_, rfl, hr6⟩
    exact hs.drop.drop
  · rintro dk cd g3 w L' hg3 h hs;exact h.elim
end
section
open Go.RowKit
def Uq (seen l : List Nat) : List Nat := l.foldl (fun s x => if x ∈ s then s else s ++ [x]) seen
def closR (nx : Nat → List Nat) : Nat → List Nat → Nat → Option (List Nat)
 | 0, _, _ => none
 | f + 1, seen, i => match seen[i]? with
  | some x => closR nx f (Uq seen (nx x)) (i + 1)
  | none => some seen
def Ql (nx : Nat → List Nat) (from_ : List Nat) : Option (List Nat) := (closR nx 30000 (Uq [] from_) 0).map Vj
theorem Jc : ∀ (n : Nat) (l : List Nat), l.Nodup → (∀ x ∈ l, x < n) → l.length ≤ n
 | 0, l, _, h => by
  cases l with
  | nil => simp
  | cons x l => have := h x List.mem_cons_self; omega
 | n + 1, l, hd, h => by
  have h1 := Jc n (l.erase n) (hd.erase n) (fun x hx => by
   have h2 := (hd.mem_erase_iff).1 hx;have := h x h2.2;have := h2.1;omega)
  have := List.length_erase (a := n) (l := l);split at this <;> omega
theorem addS_snoc (seen l : List Nat) (x : Nat) : Uq seen (l ++ [x]) = if x ∈ Uq seen l then Uq seen l else Uq seen l ++ [x] := by
 unfold Uq
 rw [List.foldl_append]
 rfl
theorem Qz : ∀ (l seen : List Nat), seen.Nodup → (Uq seen l).Nodup
 | [], _, h => h
 | x :: l, seen, h => by
  show (Uq (if x ∈ seen then seen else seen ++ [x]) l).Nodup
  refine Qz l _ ?_
  split
  ·exact h
  ·rename_i hx;exact List.nodup_append.2 ⟨h, by simp, fun a ha b hb => by simp at hb; subst hb; exact fun e => hx (e ▸ ha)⟩
theorem addS_pre : ∀ (l seen : List Nat), ∃ t, Uq seen l = seen ++ t
 | [], seen => ⟨[], by simp [Uq]⟩
 | x :: l, seen => by
  obtain ⟨t, ht⟩ := addS_pre l (if x ∈ seen then seen else seen ++ [x]);have e : Uq seen (x :: l) = Uq (if x ∈ seen then seen else seen ++ [x]) l := rfl;rw [e, ht]
  split
  ·exact ⟨t, rfl⟩
  ·exact ⟨x :: t, by simp⟩
theorem addS_mem : ∀ (l seen : List Nat) (y : Nat), y ∈ Uq seen l ↔ y ∈ seen ∨ y ∈ l
 | [], seen, y => by simp [Uq]
 | x :: l, seen, y => by
  have e : Uq seen (x :: l) = Uq (if x ∈ seen then seen else seen ++ [x]) l := rfl;rw [e, addS_mem l]
  split
  ·rename_i hx;simp only [List.mem_cons]
   constructor
   ·rintro (h | h)
    ·exact .inl h
    ·exact .inr (.inr h)
   ·rintro (h | rfl | h)
    ·exact .inl h
    ·exact .inl hx
    ·exact .inr h
  ·simp only [List.mem_append, List.mem_cons, List.not_mem_nil, or_false, or_assoc]
section
variable (sb kb wb n : Nat)
def AddL (seen : List Nat) (i : Nat) (L : Own) : Prop :=
 ∃ vw Hw, L = (sb, Xa [.slice (some ⟨kb, 0, none⟩) n n] 92) :: (kb, Xa ((List.range n).map fun x => .bool (decide (x ∈ seen))) 4) :: (wb, Xa [vw] 22) :: Hw ∧ OwnO 3 1 vw (seen.drop i).length ((seen.drop i).flatMap Zd) Hw
end
theorem add_spec (g : Ghost) (sb kb wb n i : Nat) (v : Value) (l seen : List Nat) (L : Own) (hL : AddL sb kb wb n seen i L) (hr : RS kNat g v l) (hl : ∀ x ∈ l, x < n) (hll : l.length ≤ 4611686018427387904) (hnd : seen.Nodup) (hsn : ∀ x ∈ seen, x < n) (hi : i ≤ seen.length) (hn : n ≤ 20000) :
  Cl PP 67 [v, .pointer (some ⟨sb, 0, none⟩), .pointer (some ⟨wb, 0, none⟩)] g L fun _ L' _ => AddL sb kb wb n (Uq seen l) i L' := by
 obtain ⟨a, cap, rfl⟩ := hr.form
 have hlt : ∀ k, ∀ x ∈ Uq seen (l.take k), x < n := fun k x hx => by
  rcases (addS_mem _ _ _).1 hx with h | h
  ·exact hsn x h
  ·exact hl x (List.mem_of_mem_take h)
 have hpre : ∀ k, i ≤ (Uq seen (l.take k)).length := fun k => by
  obtain ⟨t, ht⟩ := addS_pre (l.take k) seen;rw [ht, List.length_append]; omega
 refine Xj Tryz.func67 rfl rfl Tryz.ntmps67 rfl ?_
 intro w F hs
 refine Y1 ?_
 obtain ⟨vw0, Hw0, rfl, how0⟩ := hL
 refine Yw l.length (fun _ _ => [(7, .int .i64 l.length), (6, .slice a l.length cap), (1, .pointer (some ⟨sb, 0, none⟩)), (2, .pointer (some ⟨wb, 0, none⟩))])
  (fun k (_ : Unit) w => ∃ vw Hw, OwnO 3 1 vw ((Uq seen (l.take k)).drop i).length (((Uq seen (l.take k)).drop i).flatMap Zd) Hw ∧
   St g w ((sb, Xa [.slice (some ⟨kb, 0, none⟩) n n] 92) :: (kb, Xa ((List.range n).map fun x => .bool (decide (x ∈ Uq seen (l.take k)))) 4) :: (wb, Xa [vw] 22) :: (Hw ++ F))) () hll ⟨rfl, rfl, rfl, rfl, rfl, trivial⟩ ⟨vw0, Hw0, how0, hs⟩ (fun _ _ => rfl) rfl rfl rfl ?_ ?_ (fun _ _ => rfl) rfl
 ·rintro k _ w hk ⟨vw, Hw, how, hs⟩;have hb := hr.base hk;have hc := hr.nat hk;have hx : l[k] < n := hl _ (List.getElem_mem hk);have hcell : ((List.range n).map fun x => Value.bool (decide (x ∈ Uq seen (l.take k))))[l[k]]? = some (.bool (decide (l[k] ∈ Uq seen (l.take k)))) := by simp [hx]
  have hstep : Uq seen (l.take (k + 1)) = if l[k] ∈ Uq seen (l.take k) then Uq seen (l.take k) else Uq seen (l.take k) ++ [l[k]] := by rw [Yr hk, addS_snoc]
  refine Y44 ?_;refine zL0 ?_;refine zP ?_;refine Yv _ rfl rfl rfl rfl rfl (hx) rfl rfl rfl ?_;refine Yu hs 1 rfl rfl hcell rfl rfl rfl rfl ?_;refine Y7 ?_
  refine Xi rfl (fun h1 => ?_) (fun h1 => ?_)
  ·have h1' : ¬ l[k] ∈ Uq seen (l.take k) := by simpa using h1
   rw [if_neg h1'] at hstep
   refine Y2 ?_;refine zL0 ?_;refine zP ?_;refine Yv _ rfl rfl rfl rfl rfl (hx) rfl rfl rfl ?_;refine Yh hs 1 rfl rfl rfl hcell rfl rfl rfl rfl ?_;clear hs; intro w hs;refine zn ?_
   rw [set_range (f' := fun x => .bool (decide (x ∈ Uq seen (l.take (k + 1))))) hx (by rw [hstep]; simp) (fun j _ hj => by rw [hstep]; congr 1; rw [decide_eq_decide, List.mem_append, List.mem_singleton]; exact ⟨Or.inl, fun h => h.resolve_right hj⟩)] at hs
   replace hs := (show St g w ((sb, Xa [.slice (some ⟨kb, 0, none⟩) n n] 92) :: (kb, Xa ((List.range n).map fun x => .bool (decide (x ∈ Uq seen (l.take (k + 1))))) 4) :: (wb, Xa [vw] 22) :: (Hw ++ F)) from hs)
   refine Y2 ?_;refine zL2 ?_;refine zP ?_
   have hbound : ((Uq seen (l.take k)).drop i).length + 1 ≤ 4294967296 := by
    have := Jc n _ (Qz (l.take k) seen hnd) (hlt k);rw [List.length_drop];omega
   refine wl_pushO (hs.perm (by classical exact List.perm_iff_count.2 fun x => by simp only [List.append_eq, List.set_cons_succ, List.set_cons_zero, List.eraseIdx_cons_zero, List.eraseIdx_cons_succ, List.count_cons, List.count_append, List.cons_append, List.nil_append, List.append_nil, List.append_assoc] <;> ac_rfl) : St g w (Hw ++ ((sb, Xa [.slice (some ⟨kb, 0, none⟩) n n] 92) :: (kb, Xa ((List.range n).map fun x => .bool (decide (x ∈ Uq seen (l.take (k + 1))))) 4) :: (wb, Xa [vw] 22) :: F))) how hbound rfl rfl rfl rfl rfl rfl rfl rfl rfl rfl rfl rfl rfl rfl ?_
   intro vw' w Hw' how' hs
   replace hs := (show St g w ((sb, Xa [.slice (some ⟨kb, 0, none⟩) n n] 92) :: (kb, Xa ((List.range n).map fun x => .bool (decide (x ∈ Uq seen (l.take (k + 1))))) 4) :: (wb, Xa [vw] 22) :: (Hw' ++ F)) from hs.perm (by classical exact List.perm_iff_count.2 fun x => by simp only [List.append_eq, List.set_cons_succ, List.set_cons_zero, List.eraseIdx_cons_zero, List.eraseIdx_cons_succ, List.count_cons, List.count_append, List.cons_append, List.nil_append, List.append_nil, List.append_assoc] <;> ac_rfl))
   refine Yh hs 2 rfl rfl rfl rfl rfl rfl how'.one rfl ?_;clear hs; intro w hs;refine Xn (Xh (Xx () hk hll ⟨vw', Hw', ?_, hs⟩ rfl rfl rfl ⟨rfl, rfl, rfl, rfl, trivial⟩));rw [hstep, List.drop_append_of_le_length (hpre k), List.length_append, List.flatMap_append];exact how'
  ·have h1' : l[k] ∈ Uq seen (l.take k) := by simpa using h1
   rw [if_pos h1'] at hstep
   refine Xq (Xh (Xx () hk hll ⟨vw, Hw, by rw [hstep]; exact how, by rw [hstep]; exact hs⟩ rfl rfl rfl ⟨rfl, rfl, rfl, rfl, trivial⟩))
 ·rintro _ w ⟨vw, Hw, how, hs⟩;rw [List.take_length] at how hs
  exact wk_end (res0 rfl) ⟨g, (sb, Xa [.slice (some ⟨kb, 0, none⟩) n n] 92) :: (kb, Xa ((List.range n).map fun x => .bool (decide (x ∈ Uq seen l))) 4) :: (wb, Xa [vw] 22) :: Hw, Ghost.rfl', hs, vw, Hw, rfl, how⟩
theorem closure_spec (g : Ghost) (n : Nat) (v : Value) (from_ : List Nat) (fid : Nat) (first caps : Array Value) (nx : Nat → List Nat) (out : List Nat) (hn : n ≤ 20000) (hr : RS kNat g v from_) (hf : ∀ x ∈ from_, x < n) (hfl : from_.length ≤ 4611686018427387904)
  (hstep : ∀ g' x, g ≤ g' → x < n → Cl PP fid (first.toList ++ [.int .i64 ((x : Nat) : Int)] ++ caps.toList) g' [] fun g2 L' r => L' = [] ∧ RS kNat g2 r (nx x)) (hnx : ∀ x, x < n → (∀ y ∈ nx x, y < n) ∧ (nx x).length ≤ 4611686018427387904) (hout : Ql nx from_ = some out) :
  Cl PP 34 [.int .i64 (n : Int), v, .func (.func fid) first caps] g [] fun g' L' r => L' = [] ∧ RS kNat g' r out := by
 obtain ⟨sEnd, hsE, rfl⟩ : ∃ sEnd, closR nx 30000 (Uq [] from_) 0 = some sEnd ∧ Vj sEnd = out := by
  unfold Ql at hout
  cases hc : closR nx 30000 (Uq [] from_) 0 with
  | none => rw [hc] at hout; cases hout
  | some sEnd => rw [hc] at hout; exact ⟨sEnd, rfl, by simpa using hout⟩
 refine Xj Tryz.func34 rfl rfl Tryz.ntmps34 rfl ?_
 intro w F hs
 refine Y12 ?_
 refine Jk hs rfl (by omega) rfl rfl rfl rfl rfl rfl rfl ?_
 clear hs; intro kb w hs
 replace hs := (show St g w ((kb, Xa ((List.range n).map fun _ => .bool false) 4) :: _) by rw [← zero_bools n]; exact hs)
 refine Yp hs rfl rfl rfl ?_; clear hs; intro sb w hs
 refine Yh hs 0 rfl rfl rfl rfl rfl rfl rfl rfl ?_; clear hs; intro w hs
 refine Y9 ?_
 refine Yp hs rfl rfl rfl ?_; clear hs; intro wb w hs
 refine Y15 ?_
 have e0 : ((List.range n).map fun x => Value.bool (decide (x ∈ ([] : List Nat)))) = (List.range n).map fun _ => .bool false := List.map_congr_left fun x _ => by simp
 replace hs := (show St g w (((sb, Xa [.slice (some ⟨kb, 0, none⟩) n n] 92) :: (kb, Xa ((List.range n).map fun x => .bool (decide (x ∈ ([] : List Nat)))) 4) :: (wb, Xa [.slice none 0 0] 22) :: []) ++ F) from St.perm (show St g w ((wb, Xa [.slice none 0 0] 22) :: (sb, Xa [.slice (some ⟨kb, 0, none⟩) n n] 92) :: (kb, Xa ((List.range n).map fun x => .bool (decide (x ∈ ([] : List Nat)))) 4) :: F) by rw [e0]; exact hs) (by classical exact List.perm_iff_count.2 fun x => by simp only [List.append_eq, List.set_cons_succ, List.set_cons_zero, List.eraseIdx_cons_zero, List.eraseIdx_cons_succ, List.count_cons, List.count_append, List.cons_append, List.nil_append, List.append_nil, List.append_assoc] <;> ac_rfl))
 refine Y0 ?_
 refine Xf rfl rfl rfl hs (add_spec g sb kb wb n 0 v from_ [] _ ⟨_, [], rfl, .inl ⟨rfl, rfl, rfl, rfl⟩⟩ hr hf hfl List.nodup_nil (fun x hx => by cases hx) (Nat.le_refl _) hn) ?_
 rintro u g1 L1 w hg1 hs hL1
 refine zn ?_
 have hnd0 : (Uq [] from_).Nodup := Qz _ _ List.nodup_nil
 have hsn0 : ∀ x ∈ Uq [] from_, x < n := fun x hx => by
  rcases (addS_mem _ _ _).1 hx with h | h
  ·cases h
  ·exact hf x h
 refine Yc (Ke (fun (x : Value × Nat) => [(9, x.1), (8, .pointer (some ⟨wb, 0, none⟩)), (2, .func (.func fid) first caps), (10, .func (.func 67) #[] #[.pointer (some ⟨sb, 0, none⟩), .pointer (some ⟨wb, 0, none⟩)])])
  (fun x w => ∃ seen i g' Ho L, g ≤ g' ∧ closR nx x.2 seen i = some sEnd ∧ seen.Nodup ∧ (∀ y ∈ seen, y < n) ∧ i ≤ seen.length ∧ AddL sb kb wb n seen i L ∧ OwnS 3 1 x.1 i ((seen.take i).flatMap Zd) Ho ∧ St g' w (L ++ (Ho ++ F))) (·.2) (.slice none 0 0, 30000)
  ⟨rfl, rfl, rfl, rfl, trivial⟩ ⟨_, 0, g1, [], L1, hg1, hsE, hnd0, hsn0, Nat.zero_le _, hL1, OwnS.nil _ _, hs⟩ ?_)
 rintro ⟨vo, f⟩ w ⟨seen, i, g2, Ho, L, hg2, hrun, hnd, hsn, hi, ⟨vw, Hw, rfl, how⟩, hown, hs⟩
 simp only at hrun hown
 obtain ⟨aw, cw, hvw⟩ := how.form
 have hlenS := Jc n seen hnd hsn
 replace hs := (show St g2 w ((sb, Xa [.slice (some ⟨kb, 0, none⟩) n n] 92) :: (kb, Xa ((List.range n).map fun x => .bool (decide (x ∈ seen))) 4) :: (wb, Xa [vw] 22) :: (Hw ++ (Ho ++ F))) from hs)
 subst hvw
 refine Y2 ?_
 refine zL2 ?_
 refine Y7 ?_
 cases f with
 | zero => cases hrun
 | succ f =>
 refine Xi rfl (fun hne => ?_) (fun hemp => ?_)
 ·have hil : i < seen.length := by
   have := of_decide_eq_true hne;rw [List.length_drop] at this
   omega
  refine zS ?_;refine zQ ?_;refine Yc ?_
  have hrun' : closR nx f (Uq seen (nx seen[i])) (i + 1) = some sEnd := by
   simp only [closR, List.getElem?_eq_getElem hil] at hrun
   exact hrun
  have hxn : seen[i] < n := hsn _ (List.getElem_mem hil);obtain ⟨b, off, cap, l, e, rfl, q1, q2, q3, q4⟩ := how.pos (by rw [List.length_drop]; omega);cases e;rw [List.drop_eq_getElem_cons hil] at q3 q4
  generalize hx : seen[i] = x at hrun' hxn q3 q4
  have hpos : 0 < (seen.drop i).length := by rw [List.length_drop]; omega
  refine Y2 ?_;refine zL2 ?_;refine Yb rfl rfl rfl rfl rfl (by omega) ⟨b, off, rfl⟩ rfl rfl ?_;refine Yu hs 3 rfl rfl (q4 0 _ rfl) rfl rfl rfl rfl ?_;refine Y6 ?_;refine zL2 ?_;refine wl_tail (c := .int .i64 (x : Int)) (cs := (seen.drop (i + 1)).flatMap Zd) rfl hpos (by omega) q2 (by rw [Ks]; simp; omega) q4 rfl rfl rfl rfl rfl rfl ?_;intro vw' how'
  refine Yh hs 2 rfl rfl rfl rfl rfl rfl how'.one rfl ?_;clear hs; intro w hs;refine zn ?_
  replace hs := (show St g2 w (Ho ++ ((sb, Xa [.slice (some ⟨kb, 0, none⟩) n n] 92) :: (kb, Xa ((List.range n).map fun x => .bool (decide (x ∈ seen))) 4) :: (wb, Xa [vw'] 22) :: (b, Xa l 3) :: F)) from St.perm (show St g2 w ((sb, Xa [.slice (some ⟨kb, 0, none⟩) n n] 92) :: (kb, Xa ((List.range n).map fun x => .bool (decide (x ∈ seen))) 4) :: (wb, Xa [vw'] 22) :: (b, Xa l 3) :: (Ho ++ F)) from hs) (by classical exact List.perm_iff_count.2 fun x => by simp only [List.append_eq, List.set_cons_succ, List.set_cons_zero, List.eraseIdx_cons_zero, List.eraseIdx_cons_succ, List.count_cons, List.count_append, List.cons_append, List.nil_append, List.append_nil, List.append_assoc] <;> ac_rfl))
  refine Y0 ?_;refine Jj hs hown (by omega) rfl rfl rfl rfl rfl rfl rfl rfl rfl rfl rfl rfl rfl rfl ?_;intro vo' w Ho' hown' hs;refine Y7 ?_;have hdl : (seen.drop i).length - 1 = (seen.drop (i + 1)).length := by rw [List.length_drop, List.length_drop]; omega
  rw [hdl] at how'
  refine Y0 ?_;refine Xf (L := []) rfl rfl rfl hs (hstep g2 x hg2 hxn) ?_;rintro vn g3 L' w hg3 hs ⟨rfl, hrn⟩
  replace hs := (show St g3 w (((sb, Xa [.slice (some ⟨kb, 0, none⟩) n n] 92) :: (kb, Xa ((List.range n).map fun x => .bool (decide (x ∈ seen))) 4) :: (wb, Xa [vw'] 22) :: [(b, Xa l 3)]) ++ (Ho' ++ F)) from hs.perm (by classical exact List.perm_iff_count.2 fun x => by simp only [List.append_eq, List.set_cons_succ, List.set_cons_zero, List.eraseIdx_cons_zero, List.eraseIdx_cons_succ, List.count_cons, List.count_append, List.cons_append, List.nil_append, List.append_nil, List.append_assoc] <;> ac_rfl))
  refine Xf rfl rfl rfl hs (add_spec g3 sb kb wb n (i + 1) vn (nx x) seen _ ⟨vw', _, rfl, how'⟩ hrn (hnx x hxn).1 (hnx x hxn).2 hnd hsn hil hn) ?_;rintro u g4 L4 w hg4 hs hL4
  refine Xn (Xh (Uh (vo', f) ⟨rfl, rfl, rfl, rfl, trivial⟩ ⟨Uq seen (nx x), i + 1, g4, Ho', L4, Ghost.tr hg2 (Ghost.tr hg3 hg4), hrun', Qz _ _ hnd, ?_, ?_, hL4, ?_, hs⟩ (Nat.lt_succ_self f)))
  ·intro y hy
   rcases (addS_mem _ _ _).1 hy with h | h
   ·exact hsn y h
   ·exact (hnx x hxn).1 y h
  ·obtain ⟨t, ht⟩ := addS_pre (nx x) seen;rw [ht, List.length_append]; omega
  ·obtain ⟨t, ht⟩ := addS_pre (nx x) seen;rw [ht, List.take_append_of_le_length (by omega), Yr hil, hx, List.flatMap_append];exact hown'
 ·have hil : ¬ i < seen.length := by
   have := of_decide_eq_false hemp;rw [List.length_drop] at this
   omega
  have hes : seen = sEnd := by
   simp only [closR, List.getElem?_eq_none (by omega : seen.length ≤ i)] at hrun
   cases hrun; rfl
  have hei : i = seen.length := by omega
  subst hes;rw [hei, List.take_length] at hown
  refine Zm rfl (Zl ?_)
  replace hs := (show St g2 w (Ho ++ ((sb, Xa [.slice (some ⟨kb, 0, none⟩) n n] 92) :: (kb, Xa ((List.range n).map fun x => .bool (decide (x ∈ seen))) 4) :: (wb, Xa [.slice aw (seen.drop i).length cw] 22) :: (Hw ++ F))) from hs.perm (by classical exact List.perm_iff_count.2 fun x => by simp only [List.append_eq, List.set_cons_succ, List.set_cons_zero, List.eraseIdx_cons_zero, List.eraseIdx_cons_succ, List.count_cons, List.count_append, List.cons_append, List.nil_append, List.append_nil, List.append_assoc] <;> ac_rfl))
  refine Y0 ?_;refine Xf rfl rfl rfl hs (sort_spec g2 vo seen Ho hown (by omega)) ?_;rintro u g3 H3 w hg3 hs hown3;refine zn ?_;rw [← Zu seen] at hown3
  obtain ⟨g4, hg4, hs, hr4⟩ := OwnS.freezeE (e := Zd) (h0 := fun _ => rfl) hown3 hs;refine Y1 ?_;exact Xb (Xo rfl rfl) ⟨g4, [], Ghost.tr hg2 (Ghost.tr hg3 hg4), hs.drop.drop.drop.dropL, rfl, hr4⟩
end
section
open Go.RowKit
def nxF (ls : List Arrow) (x : Nat) : List Nat := (Xt ls ls.length x).map (Yk ls)
theorem nxF_len (ls : List Arrow) (x : Nat) : (nxF ls x).length ≤ ls.length := by
 unfold nxF
 rw [List.length_map]
 exact Vt _ _ _
theorem nxF_lt {n : Nat} {ls : List Arrow} (hv : ValidG n ls) {x y : Nat} (h : y ∈ nxF ls x) : y < n := by
 obtain ⟨k, hk, rfl⟩ := List.mem_map.1 h
 have hkl := outAt_lt hk
 simp only [Yk, List.getElem?_eq_getElem hkl]
 exact (hv.ok _ (List.getElem_mem hkl)).2.1
theorem next_spec (g : Ghost) (vg : Value) (n x : Nat) (ls : List Arrow) (hG : GraphR g vg n ls) (hv : ValidG n ls) (hx : x < n) :
  Cl PP 35 [vg, .int .i64 (x : Int)] g [] fun g' L' r => L' = [] ∧ RS kNat g' r (nxF ls x) := by
 obtain ⟨gb, al, cl, ao, co, rfl, hG, hA, hO⟩ := hG
 have hxl : x < (Zs n ls).length := by simpa [Zs] using hx
 have hol : n = (Zs n ls).length := by simp [Zs]
 have hO' : RS (kSl kNat) g (.slice ao (Zs n ls).length co) (Zs n ls) := by rw [← hol]; exact hO
 have hbO := hO'.base hxl
 obtain ⟨sa, sc, hcO, hS⟩ := hO'.sl hxl
 rw [outsF_at hx] at hcO hS
 have hol2 := Vt ls ls.length x
 have hl0 := hv.len
 have hl2 : (Xt ls ls.length x).length ≤ 4611686018427387904 := by omega
 refine Xj Tryz.func35 rfl rfl Tryz.ntmps35 rfl ?_
 intro w F hs
 refine Y0 ?_
 refine Y56 ?_
 refine Xd hs (hG 2 _ rfl) rfl rfl rfl rfl rfl ?_
 refine zP ?_
 refine Yb rfl rfl rfl rfl rfl (by omega) hbO rfl rfl ?_
 refine Xd hs (hcO) rfl rfl rfl rfl rfl ?_
 refine Y7 ?_
 refine Yw (Xt ls ls.length x).length (fun _ (y : Value × Own) => [(15, .int .i64 (Xt ls ls.length x).length), (14, .slice sa (Xt ls ls.length x).length sc), (5, y.1), (0, .pointer (some ⟨gb, 0, none⟩))])
  (fun j (y : Value × Own) w => OwnS 3 1 y.1 j ((((Xt ls ls.length x).take j).map (Yk ls)).flatMap Zd) y.2 ∧ St g w (y.2 ++ F)) (.slice none 0 0, []) hl2 ⟨rfl, rfl, rfl, rfl, rfl, trivial⟩ ⟨OwnS.nil _ _, hs⟩ (fun _ _ => rfl) rfl rfl rfl ?_ ?_ (fun _ _ => rfl) rfl
 ·rintro j ⟨vo, H⟩ w hj ⟨hown, hs⟩;simp only at hown hs
  have hbj := hS.base hj;have hcj := hS.nat hj;have htk := Yr hj;have hkl : (Xt ls ls.length x)[j] < ls.length := outAt_lt (List.getElem_mem hj);generalize (Xt ls ls.length x)[j] = k at hcj hkl htk
  obtain ⟨lb, lo, rfl⟩ := hA.base hkl;have hcA := hA.enc hkl;refine Y2 ?_;refine Yb rfl rfl rfl rfl rfl (by omega) (hbj) rfl rfl ?_;refine Xd hs (hcj) rfl rfl rfl rfl rfl ?_;refine Y4 ?_;refine Xd hs (hG 1 _ rfl) rfl rfl rfl rfl rfl ?_;refine zP ?_;refine Yb rfl rfl rfl rfl rfl (by omega) (⟨lb, lo, rfl⟩) rfl rfl ?_;refine zP ?_
  refine Xd hs (hcA 1 _ rfl) rfl rfl rfl rfl rfl ?_;refine Jj hs hown (by omega) rfl rfl rfl rfl rfl rfl rfl rfl rfl rfl rfl rfl rfl rfl ?_;intro vo' w H' hown' hs;refine zP ?_;refine Xn (Xh (Xx (vo', H') hj hl2 ⟨?_, hs⟩ rfl rfl rfl ⟨rfl, rfl, rfl, rfl, trivial⟩))
  simp only [htk, List.map_append, List.map_cons, List.map_nil, List.flatMap_append, List.flatMap_cons, List.flatMap_nil, List.append_nil];have : Yk ls k = ls[k].to := by simp [Yk, hkl]
  rw [this];exact hown'
 ·rintro ⟨vo, H⟩ w ⟨hown, hs⟩;simp only at hown hs
  rw [List.take_length] at hown
  refine Y24 ?_;obtain ⟨g4, hg4, hs, hr4⟩ := OwnS.freezeE (e := Zd) (h0 := fun _ => rfl) (xs := nxF ls x) (by simpa [nxF] using hown) hs;exact Xb (Xo rfl rfl) ⟨g4, [], hg4, hs, rfl, hr4⟩
def coresI (n : Int) (ls : List ArrowI) (all : List Int) (pairs : List (Int × Int)) : Option (List Nat × Int) :=
 if Xz n [] ls all pairs = 0 then (coresR n.toNat (ls.map toA) (all.map Int.toNat) (pairs.map toP)).map fun c => (c, 0) else some ([], Xz n [] ls all pairs)
theorem Cores_spec (g : Ghost) (n : Int) (vl va vp : Value) (ls : List ArrowI) (all : List Int) (pairs : List (Int × Int)) (hl : RS Jl g vl ls) (ha : RS kInt g va all) (hp : RS Vh g vp pairs)
  (hl0 : ls.length ≤ 4611686018427387904) (ha0 : all.length ≤ 4611686018427387904) (hp0 : pairs.length ≤ 4611686018427387904) (o : List Nat × Int) (ho : coresI n ls all pairs = some o) :
  Cl PP 18 [.int .i64 n, vl, .agg #[va, vp]] g [] fun g' L' r => L' = [] ∧ ∃ v, r = .tuple #[v, .int .i64 o.2] ∧ RS kNat g' v o.1 := by
 refine Xj Tryz.func18 rfl rfl Tryz.ntmps18 rfl ?_
 intro w F hs
 refine Y2 ?_
 refine Yi hs rfl rfl rfl rfl ?_; clear hs; intro wb w hs
 refine Y4 ?_
 refine Vy hs 0 rfl rfl rfl rfl rfl rfl rfl ?_
 refine Xf (L := []) rfl rfl rfl hs (check_spec g n (.slice none 0 0) vl va vp [] ls all pairs (RS.nil _ _ _ _) hl ha hp (by simp) hl0 ha0 hp0) ?_
 rintro u g1 L' w hg1 hs ⟨rfl, rfl⟩
 refine Y15 ?_
 refine Xi rfl (fun h1 => ?_) (fun h1 => ?_)
 ·refine Y1 ?_;have h9 : ¬ Xz n [] ls all pairs = 0 := by simpa using h1
  unfold coresI at ho
  rw [if_neg h9] at ho
  cases ho;exact Xb (res2 rfl rfl rfl) ⟨g1, [], hg1, hs.drop, rfl, _, rfl, RS.nil _ _ _ _⟩
 ·have hc : Xz n [] ls all pairs = 0 := by simpa using h1
  have hC := Jn hc;have hnn : n = (n.toNat : Int) := (Int.toNat_of_nonneg hC.n0).symm;unfold coresI at ho
  rw [if_pos hc] at ho
  obtain ⟨c, hcr, hoc⟩ := Option.map_eq_some_iff.1 ho;subst hoc;refine zS ?_;refine zQ ?_;refine Yf 5 [] Yd (by kernel_rfl) rfl hs ?_;refine zC ?_
  refine Uf (vs := [.int .i64 (n.toNat : Int), vl]) (post := fun g' L' r => L' = [] ∧ GraphR g' r n.toNat (ls.map toA)) [] [] rfl (by rw [← hnn]; rfl) rfl (fun g' hg' => Jd g' n.toNat vl (ls.map toA) (hC.rsA (hl.mono (Ghost.tr hg1 hg'))) hC.validG.size hC.validG.len (fun a ha => (hC.validG.ok a ha).1)) ?_;refine sg_ldW 0 rfl rfl rfl rfl rfl rfl ?_
  refine sg_callW (post := fun g' L' r => L' = [] ∧ RS kNat g' r c) 18 [] [] rfl rfl rfl (fun _ => rfl) (fun _ => rfl) (fun g' g2 v L' hg2 ⟨g3, hg3, hL, hG⟩ hg' => cores_spec g' v va vp n.toNat (ls.map toA) (all.map Int.toNat) (pairs.map toP) c (hG.mono (Ghost.tr hg3 hg')) hC.validG hC.validW (hC.all.rs (ha.mono (Ghost.tr hg1 (Ghost.tr hg2 hg')))) (hC.rsP (hp.mono (Ghost.tr hg1 (Ghost.tr hg2 hg')))) hcr) ?_
  refine Xy ?_;intro g4 w hg4;rintro _ _ ⟨_, _, rfl, _⟩ v _ ⟨g5, hg5, rfl, hr⟩ hs;refine Y7 ?_;exact Xb (res2 rfl rfl rfl) ⟨g4, [], Ghost.tr hg1 hg4, hs.drop, rfl, _, rfl, hr.mono hg5⟩
theorem goodR_lt {n : Nat} {ls : List Arrow} {all : List Nat} {pairs : List (Nat × Nat)} : ∀ {f : Nat} {nodes : List Nat} {on : List Bool} {xs : GL}, Kb n ls all pairs f nodes on = some xs → ∀ p ∈ xs, (∀ x ∈ p.1, x < n) ∧ p.1.length ≤ 20000
 | 0, _, _, _, h => by cases h
 | f + 1, nodes, on, xs, h => by
  simp only [Kb] at h
  split at h
  ·rename_i cs q;obtain ⟨h1, h2⟩ := seqO_some h;intro p hp;rw [h2] at hp
   obtain ⟨c, hc, hpc⟩ := List.mem_flatMap.1 hp;have hcc := h1 c hc;generalize ((goodC n ls all pairs (Kb n ls all pairs f) on c).getD []) = D at hcc hpc
   unfold goodC at hcc
   split at hcc
   ·rename_i hok;simp only [Bool.and_eq_true] at hok
    split at hcc
    ·cases hcc; cases hpc
    ·split at hcc
     ·cases hcc; cases hpc
     ·exact goodR_lt hcc p hpc
     ·cases hcc;simp only [List.mem_singleton] at hpc
      subst hpc;exact ⟨fun x hx => of_decide_eq_true (List.all_eq_true.1 hok.1 x hx), of_decide_eq_true hok.2⟩
   ·cases hcc
  ·cases h
theorem coresR_lt {n : Nat} {ls : List Arrow} {all : List Nat} {pairs : List (Nat × Nat)} {c : List Nat} (h : coresR n ls all pairs = some c) : (∀ x ∈ c, x < n) ∧ c.length ≤ 20000 := by
 unfold coresR at h
 split at h
 ·rename_i xs q
  split at h
  ·rename_i hok;simp only [Bool.and_eq_true, decide_eq_true_eq] at hok
   cases h;refine ⟨fun x hx => ?_, by rw [Zu]; exact hok.2⟩;obtain ⟨p, hp, hx2⟩ := List.mem_flatMap.1 ((Uy _).mem_iff.1 hx);exact (goodR_lt q p hp).1 x hx2
  ·cases h
 ·cases h
end
section
open Go.RowKit
abbrev PS := List Nat × List (Nat × Nat) × List (Nat × Bool)
section
variable (ls : List Arrow) (on end_ : Nat → Bool) (from_ : Nat)
def Vf (k : Nat) : Nat := match ls[k]? with
 | some a => a.fr
 | none => 0
def Zi (s : PS) (k : Nat) : PS :=
 if (on k && !((lk s.2.2 (Yk ls k)).getD false)) = true then (s.1 ++ [Yk ls k], sk s.2.1 (Yk ls k) k, sk s.2.2 (Yk ls k) true) else s
def backR (by_ : List (Nat × Nat)) : Nat → Nat → Option (List Nat)
 | 0, _ => none
 | f + 1, x => if x = from_ then some [] else if Xg by_ x < ls.length then (backR by_ f (Vf ls (Xg by_ x))).map (Xg by_ x :: ·) else none
def pathR : Nat → PS → Nat → Option (List Nat × Bool)
 | 0, _, _ => none
 | f + 1, s, i => match s.1[i]? with
  | none => some ([], false)
  | some x => if end_ x = true then (backR ls from_ s.2.1 100000 x).map fun out => (out.reverse, true) else pathR f ((Xt ls ls.length x).foldl (Zi ls on) s) (i + 1)
def pathF : Option (List Nat × Bool) := pathR ls on end_ from_ 20002 ([from_], [], [(from_, true)]) 0
end
theorem pathStep_pre (ls : List Arrow) (on : Nat → Bool) : ∀ (ks : List Nat) (s : PS), ∃ t, (ks.foldl (Zi ls on) s).1 = s.1 ++ t ∧ t.length ≤ ks.length ∧ ∀ y ∈ t, ∃ k ∈ ks, y = Yk ls k
 | [], s => ⟨[], by simp, by simp, fun y hy => by cases hy⟩
 | k :: ks, s => by
  obtain ⟨t, h1, h2, h3⟩ := pathStep_pre ls on ks (Zi ls on s k);rw [List.foldl_cons, h1];unfold Zi
  split
  ·refine ⟨Yk ls k :: t, by simp, by simp; omega, fun y hy => ?_⟩
   rcases List.mem_cons.1 hy with rfl | hy
   ·exact ⟨k, List.mem_cons_self, rfl⟩
   ·obtain ⟨k', a, b⟩ := h3 y hy;exact ⟨k', List.mem_cons_of_mem _ a, b⟩
  ·refine ⟨t, rfl, by simp; omega, fun y hy => ?_⟩;obtain ⟨k', a, b⟩ := h3 y hy;exact ⟨k', List.mem_cons_of_mem _ a, b⟩
theorem path_spec (g : Ghost) (vg : Value) (n from_ : Nat) (ls : List Arrow) (on end_ : Nat → Bool) (fo fe : Nat) (f1 c1 f2 c2 : Array Value) (out : List Nat × Bool) (hG : GraphR g vg n ls) (hv : ValidG n ls) (hfrom : from_ < n)
    (hon : ∀ g' k, g ≤ g' → k < ls.length → Cl PP fo (f1.toList ++ [.int .i64 ((k : Nat) : Int)] ++ c1.toList) g' [] (Det (.bool (on k))))
    (hend : ∀ g' x, g ≤ g' → x < n → Cl PP fe (f2.toList ++ [.int .i64 ((x : Nat) : Int)] ++ c2.toList) g' [] (Det (.bool (end_ x)))) (hout : pathF ls on end_ from_ = some out) :
    Cl PP 40 [vg, .int .i64 (from_ : Int), .func (.func fo) f1 c1, .func (.func fe) f2 c2] g [] fun g' L' r => L' = [] ∧ ∃ v, r = .tuple #[v, .bool out.2] ∧ RS kNat g' v out.1 := by
  obtain ⟨gb, al, cl, ao, co, rfl, hG, hA, hO⟩ := hG;have hn0 := hv.size;have hl0 := hv.len;unfold pathF at hout
  generalize hfu : 20002 = fu at hout
  refine Xj Tryz.func40 rfl rfl Tryz.ntmps40 rfl ?_;intro w F hs;refine Y13 ?_;refine Vx hs rfl rfl ?_;clear hs; intro bb bo w hbo hs;refine Y6 ?_;refine Vx hs rfl rfl ?_;clear hs; intro sb so w hso hs;refine zP ?_;refine wl_ins hs 0 hso rfl rfl rfl rfl rfl rfl rfl rfl rfl ?_;clear hs; intro so' w hso' hs;refine Y4 ?_
  refine Ug (ps := [(0, .tmp 22)]) (vs := [.int .i64 (from_ : Int)]) (cs := [.int .i64 (from_ : Int)]) hs rfl rfl rfl rfl rfl rfl rfl rfl rfl rfl ?_;clear hs; intro wb w hs;refine Y7 ?_
  replace hs := (show St g w ((bb, bo) :: (sb, so') :: ([(wb, Xa [.int .i64 (from_ : Int)] 3)] ++ F)) from St.perm (show St g w ((wb, Xa [.int .i64 (from_ : Int)] 3) :: (sb, so') :: (bb, bo) :: F) from hs) (by classical exact List.perm_iff_count.2 fun x => by simp only [List.append_eq, List.set_cons_succ, List.set_cons_zero, List.eraseIdx_cons_zero, List.eraseIdx_cons_succ, List.count_cons, List.count_append, List.cons_append, List.nil_append, List.append_nil, List.append_assoc] <;> ac_rfl))
  refine Yc (Ke (fun (x : Value × Nat) => [(12, x.1), (0, (.pointer (some ⟨gb, 0, none⟩))), (1, .int .i64 (from_ : Int)), (2, .func (.func fo) f1 c1), (3, .func (.func fe) f2 c2), (10, .map (some bb)), (11, .map (some sb))]) (fun x w => ∃ (s : PS) (i : Nat) (g' : Ghost) (bo so : Obj) (Hw : Own), g ≤ g' ∧ pathR ls on end_ from_ x.2 s i = some out ∧ (∀ y ∈ s.1, y < n) ∧ i ≤ s.1.length ∧ i + x.2 ≤ 20002 ∧ s.1.length ≤ 1 + i * 200000 ∧
      Jb (Jh vNat s.2.1) bo ∧ Jb (Jh .bool s.2.2) so ∧ OwnO 3 1 x.1 (s.1.drop i).length ((s.1.drop i).flatMap Zd) Hw ∧ St g' w ((bb, bo) :: (sb, so) :: (Hw ++ F))) (·.2) (.slice (some ⟨wb, 0, none⟩) 1 1, fu)
      ⟨rfl, rfl, rfl, rfl, rfl, rfl, rfl, trivial⟩ ⟨_, 0, g, bo, so', _, Ghost.rfl', hout, fun y hy => (by simp at hy; omega), by simp, by simp only; omega, by simp, hbo, hso', (OwnS.lit (m := 1) rfl).toO, hs⟩ ?_)
  rintro ⟨vw, f⟩ w ⟨s, i, g1, bo, so, Hw, hg1, hrun, hlt, hi, hif, hql, obo, oso, how, hs⟩;simp only at hrun how hif
  obtain ⟨aw, cw, hvw⟩ := how.form;subst hvw;refine Y1 ?_;cases f with
  | zero => cases hrun
  | succ f =>
  refine Xi rfl (fun hne => ?_) (fun hemp => ?_)
  · have hil : i < s.1.length := by
      have := of_decide_eq_true hne;rw [List.length_drop] at this
      omega
    have hxn : s.1[i] < n := hlt _ (List.getElem_mem hil);simp only [pathR, List.getElem?_eq_getElem hil] at hrun
    have how0 := how;obtain ⟨b, off, cap, l, e, rfl, q1, q2, q3, q4⟩ := how.pos (by rw [List.length_drop]; omega);cases e;have hdc := List.drop_eq_getElem_cons hil;rw [hdc] at q3 q4
    generalize hx : s.1[i] = x at hrun hxn q3 q4 hdc
    have hpos : 0 < (s.1.drop i).length := by rw [List.length_drop]; omega
    refine zS ?_;refine zQ ?_;refine Yc ?_;refine Y0 ?_;refine Yb rfl rfl rfl rfl rfl (by omega) ⟨b, off, rfl⟩ rfl rfl ?_;refine Yu hs 2 rfl rfl (q4 0 _ rfl) rfl rfl rfl rfl ?_;refine Y4 ?_;refine Xf (L := []) rfl rfl rfl hs (hend g1 x hg1 hxn) ?_;rintro u g2 L' w hg2 hs ⟨rfl, rfl⟩;refine zn ?_;have hg02 := Ghost.tr hg1 hg2
    refine Xi rfl (fun he => ?_) (fun he => ?_)
    · rw [if_pos he] at hrun
      obtain ⟨o2, hback, rfl⟩ := Option.map_eq_some_iff.1 hrun;generalize hfbe : 100000 = fb at hback
      replace hs := (show St g2 w ((bb, bo) :: (sb, so) :: ([] ++ ((b, Xa l 3) :: F))) from hs)
      refine Y11 ?_
      refine Yc (Ke (fun (y : Value × Nat × Nat) => [(14, y.1), (13, .int .i64 (y.2.1 : Int)), (0, (.pointer (some ⟨gb, 0, none⟩))), (1, .int .i64 (from_ : Int)), (2, .func (.func fo) f1 c1), (3, .func (.func fe) f2 c2), (10, .map (some bb)), (11, .map (some sb))]) (fun y w => ∃ (d1 d2 : List Nat) (Ho : Own) (g' : Ghost), g2 ≤ g' ∧ backR ls from_ s.2.1 y.2.2 y.2.1 = some d2 ∧ o2 = d1 ++ d2 ∧ y.2.1 < n ∧ d1.length + y.2.2 ≤ fb ∧
        OwnS 3 1 y.1 d1.length (d1.flatMap Zd) Ho ∧ St g' w ((bb, bo) :: (sb, so) :: (Ho ++ ((b, Xa l 3) :: F)))) (·.2.2) (.slice none 0 0, x, fb) ⟨rfl, rfl, rfl, rfl, rfl, rfl, rfl, rfl, trivial⟩ ⟨[], o2, [], g2, Ghost.rfl', hback, rfl, hxn, by simp, OwnS.nil _ _, hs⟩ ?_)
      clear hs;rintro ⟨vo, x, fb2⟩ w ⟨d1, d2, Ho, g3, hg3, hback, hd, hxn, hfb, oo, hs⟩;simp only at hback hxn hfb oo
      cases fb2 with
      | zero => cases hback
      | succ fb2 =>
      have hg03 := Ghost.tr hg02 hg3;refine Y1 ?_
      refine Xi rfl (fun hnf => ?_) (fun hnf => ?_)
      · have hxf : ¬ x = from_ := by
          intro e;subst e;have h9 : (!((x : Int) == (x : Int))) = true := hnf;simp at h9
        simp only [backR, if_neg hxf] at hback
        split at hback
        · rename_i hkl;obtain ⟨d3, hb3, rfl⟩ := Option.map_eq_some_iff.1 hback;generalize hk : Xg s.2.1 x = k at hkl hb3
          obtain ⟨lb, lo, rfl⟩ := hA.base hkl;have hcA := (hA.mono hg03).enc hkl;have hfr : Vf ls k = ls[k].fr := by simp [Vf, hkl]
          rw [hfr] at hb3
          refine zS ?_;refine zQ ?_;refine Yc ?_;have hlook : (Zt (Jh vNat s.2.1) (x : Int)).getD (.int .i64 0) = .int .i64 (k : Int) := by rw [lookV, hk]
          refine Y0 ?_;refine wl_look hs 0 obo rfl rfl rfl rfl rfl rfl rfl rfl hlook rfl rfl ?_
          replace hs := (show St g3 w (Ho ++ ((bb, bo) :: (sb, so) :: (b, Xa l 3) :: F)) from hs.perm (by classical exact List.perm_iff_count.2 fun x => by simp only [List.append_eq, List.set_cons_succ, List.set_cons_zero, List.eraseIdx_cons_zero, List.eraseIdx_cons_succ, List.count_cons, List.count_append, List.cons_append, List.nil_append, List.append_nil, List.append_assoc] <;> ac_rfl))
          refine Jj hs oo (by omega) rfl rfl rfl rfl rfl rfl rfl rfl rfl rfl rfl rfl rfl rfl ?_;intro vo' w Ho' oo' hs
          replace hs := (show St g3 w ((bb, bo) :: (sb, so) :: (Ho' ++ ((b, Xa l 3) :: F))) from hs.perm (by classical exact List.perm_iff_count.2 fun x => by simp only [List.append_eq, List.set_cons_succ, List.set_cons_zero, List.eraseIdx_cons_zero, List.eraseIdx_cons_succ, List.count_cons, List.count_append, List.cons_append, List.nil_append, List.append_nil, List.append_assoc] <;> ac_rfl))
          refine Y10 ?_;refine Yf 10 [] Yd (by kernel_rfl) rfl hs ?_;refine zC ?_;refine Xp (hG.mono hg03 1 _ rfl) rfl rfl rfl rfl ?_;refine zC ?_;refine sg_look 0 obo rfl rfl rfl rfl rfl rfl rfl rfl hlook rfl ?_;refine Uc rfl rfl rfl rfl rfl (by omega) (⟨lb, lo, rfl⟩) rfl ?_;refine zC ?_;refine Xp (hcA 0 _ rfl) rfl rfl rfl rfl ?_;refine Xy ?_;intro g4 w hg4;intro hs
          refine zP ?_;refine Xn (Xh (Uh (vo', ls[k].fr, fb2) ⟨rfl, rfl, rfl, rfl, rfl, rfl, rfl, rfl, trivial⟩ ⟨d1 ++ [k], d3, Ho', g4, Ghost.tr hg3 hg4, hb3, by rw [hd, hk]; simp, (hv.ok _ (List.getElem_mem hkl)).1, by simp only [List.length_append, List.length_cons, List.length_nil]; omega, ?_, hs⟩ (Nat.lt_succ_self fb2)))
          simp only [List.length_append, List.length_cons, List.length_nil, List.flatMap_append, List.flatMap_cons, List.flatMap_nil, List.append_nil];exact oo'
        · cases hback
      · have hxf : x = from_ := by
          have h9 : (!((x : Int) == (from_ : Int))) = false := hnf;have : (x : Int) = (from_ : Int) := by simpa using h9
          omega
        simp only [backR, if_pos hxf] at hback
        cases hback;rw [List.append_nil] at hd
        subst hd;refine Zm rfl (Zl ?_)
        replace hs := (show St g3 w (Ho ++ ((bb, bo) :: (sb, so) :: (b, Xa l 3) :: F)) from hs.perm (by classical exact List.perm_iff_count.2 fun x => by simp only [List.append_eq, List.set_cons_succ, List.set_cons_zero, List.eraseIdx_cons_zero, List.eraseIdx_cons_succ, List.count_cons, List.count_append, List.cons_append, List.nil_append, List.append_nil, List.append_assoc] <;> ac_rfl))
        refine Y0 ?_;refine Xf rfl rfl rfl hs (reverse_spec g3 vo o2 Ho oo (by omega)) ?_;rintro u g4 Ho4 w hg4 hs oo4;refine zn ?_;rw [← List.length_reverse] at oo4
        obtain ⟨g5, hg5, hs, hr5⟩ := OwnS.freezeE (e := Zd) (h0 := fun _ => rfl) oo4 hs;refine Y1 ?_;exact Xb (res2 rfl rfl rfl) ⟨g5, [], Ghost.tr hg03 (Ghost.tr hg4 hg5), hs.drop.drop.drop, rfl, _, rfl, hr5⟩
    · rw [if_neg (by rw [he]; exact Bool.false_ne_true)] at hrun
      refine zS ?_;have hxl : x < (Zs n ls).length := by simpa [Zs] using hxn
      have hol : n = (Zs n ls).length := by simp [Zs]
      have hO' : RS (kSl kNat) g (.slice ao (Zs n ls).length co) (Zs n ls) := by rw [← hol]; exact hO
      have hbO := hO'.base hxl;obtain ⟨sa, sc, hcO, hSO⟩ := hO'.sl hxl;rw [outsF_at hxn] at hcO hSO
      have hol2 := Vt ls ls.length x;have hl2 : (Xt ls ls.length x).length ≤ 4611686018427387904 := by omega
      have hmul : i * 200000 ≤ 20001 * 200000 := Nat.mul_le_mul_right _ (by omega);refine Y0 ?_;refine Xd hs (hG.mono hg02 2 _ rfl) rfl rfl rfl rfl rfl ?_;refine zP ?_;refine Yb rfl rfl rfl rfl rfl (by omega) hbO rfl rfl ?_;refine Xd hs (hg02.cell hcO) rfl rfl rfl rfl rfl ?_;refine Y7 ?_
      refine Yw (Xt ls ls.length x).length (fun _ (y : Value) => [(64, .int .i64 (Xt ls ls.length x).length), (63, .slice sa (Xt ls ls.length x).length sc), (12, y), (0, (.pointer (some ⟨gb, 0, none⟩))), (1, .int .i64 (from_ : Int)), (2, .func (.func fo) f1 c1), (3, .func (.func fe) f2 c2), (10, .map (some bb)), (11, .map (some sb))])
        (fun k (y : Value) w => ∃ (s' : PS) (g' : Ghost) (bo so : Obj) (Hw : Own), g2 ≤ g' ∧ s' = ((Xt ls ls.length x).take k).foldl (Zi ls on) s ∧ Jb (Jh vNat s'.2.1) bo ∧ Jb (Jh .bool s'.2.2) so ∧ OwnO 3 1 y (s'.1.drop i).length ((s'.1.drop i).flatMap Zd) Hw ∧ St g' w ((bb, bo) :: (sb, so) :: (Hw ++ F)))
        (.slice (some ⟨b, off, none⟩) (s.1.drop i).length cw) hl2 ⟨rfl, rfl, rfl, rfl, rfl, rfl, rfl, rfl, rfl, rfl, trivial⟩ ⟨s, g2, bo, so, _, Ghost.rfl', rfl, obo, oso, how0, hs⟩ (fun _ _ => rfl) rfl rfl rfl ?_ ?_ (fun _ _ => rfl) rfl
      · rintro k vw w hk ⟨s', g3, bo, so, Hw, hg3, hs', obo, oso, how, hs⟩;have hg03 := Ghost.tr hg02 hg3;have hbk := hSO.base hk;have hck := (hSO.mono hg03).nat hk;have hal : (Xt ls ls.length x)[k] < ls.length := outAt_lt (List.getElem_mem hk)
        have htk : ((Xt ls ls.length x).take (k + 1)).foldl (Zi ls on) s = Zi ls on s' (Xt ls ls.length x)[k] := by rw [Yr hk, List.foldl_append, ← hs']; rfl
        obtain ⟨tt, ht1, ht2, ht3⟩ := pathStep_pre ls on ((Xt ls ls.length x).take k) s;rw [← hs'] at ht1
        rw [List.length_take] at ht2
        have hslen : s'.1.length ≤ 4000400001 := by rw [ht1, List.length_append]; omega
        have hil2 : i ≤ s'.1.length := by rw [ht1, List.length_append]; omega
        generalize (Xt ls ls.length x)[k] = a at hck hal htk
        obtain ⟨lb, lo, rfl⟩ := hA.base hal;have hcA := (hA.mono hg03).enc hal;have hto : Yk ls a = ls[a].to := by simp [Yk, hal]
        refine Y2 ?_;refine Yb rfl rfl rfl rfl rfl (by omega) (hbk) rfl rfl ?_;refine Xd hs (hck) rfl rfl rfl rfl rfl ?_;refine Y4 ?_;refine Xd hs (hG.mono hg03 1 _ rfl) rfl rfl rfl rfl rfl ?_;refine zP ?_;refine Yb rfl rfl rfl rfl rfl (by omega) (⟨lb, lo, rfl⟩) rfl rfl ?_;refine zP ?_;refine Xd hs (hcA 1 _ rfl) rfl rfl rfl rfl rfl ?_;refine Y4 ?_
        refine Xf (L := []) rfl rfl rfl hs (hon g3 a hg03 hal) ?_;rintro u g4 L' w hg4 hs ⟨rfl, rfl⟩;replace hs := (show St g4 w ((bb, bo) :: (sb, so) :: (Hw ++ F)) from hs)
        have hg24 := Ghost.tr hg3 hg4;refine zP ?_
        refine Xr 80 rfl (fun h1 => ?_) (fun h1 => ?_)
        · refine zP ?_;refine wl_look hs 1 oso rfl rfl rfl rfl rfl rfl rfl rfl (lookB _ _) rfl rfl ?_;refine Y7 ?_
          refine Xi rfl (fun h2 => ?_) (fun h2 => ?_)
          · have hst : Zi ls on s' a = (s'.1 ++ [ls[a].to], sk s'.2.1 ls[a].to a, sk s'.2.2 ls[a].to true) := by
              unfold Zi;rw [hto, if_pos (by rw [h1, h2]; rfl)]
            refine Y0 ?_;refine Kw hs 1 oso rfl rfl rfl rfl rfl rfl rfl rfl rfl ?_;clear hs; intro so2 w oso2 hs;refine Kw hs 0 obo rfl rfl rfl rfl rfl rfl rfl rfl rfl ?_;clear hs; intro bo2 w obo2 hs;rw [Ja] at oso2
            rw [show Value.int .i64 ((a : Nat) : Int) = vNat a from rfl, Ja] at obo2
            refine zn ?_
            replace hs := (show St g4 w (Hw ++ ((bb, bo2) :: (sb, so2) :: F)) from St.perm (show St g4 w ((bb, bo2) :: (sb, so2) :: (Hw ++ F)) from hs) (by classical exact List.perm_iff_count.2 fun x => by simp only [List.append_eq, List.set_cons_succ, List.set_cons_zero, List.eraseIdx_cons_zero, List.eraseIdx_cons_succ, List.count_cons, List.count_append, List.cons_append, List.nil_append, List.append_nil, List.append_assoc] <;> ac_rfl))
            refine Y0 ?_;refine wl_pushO hs how (by rw [List.length_drop]; omega) rfl rfl rfl rfl rfl rfl rfl rfl rfl rfl rfl rfl rfl rfl ?_;intro vw' w Hw' how' hs;refine zP ?_
            refine Xn (Xh (Xx vw' hk hl2 ⟨_, g4, bo2, so2, Hw', hg24, rfl, by rw [htk, hst]; exact obo2, by rw [htk, hst]; exact oso2, ?_, hs.perm (by classical exact List.perm_iff_count.2 fun x => by simp only [List.append_eq, List.set_cons_succ, List.set_cons_zero, List.eraseIdx_cons_zero, List.eraseIdx_cons_succ, List.count_cons, List.count_append, List.cons_append, List.nil_append, List.append_nil, List.append_assoc] <;> ac_rfl)⟩ rfl rfl rfl ⟨rfl, rfl, rfl, rfl, rfl, rfl, rfl, rfl, rfl, trivial⟩))
            rw [htk, hst];simp only [List.drop_append_of_le_length hil2, List.length_append, List.length_cons, List.length_nil, List.flatMap_append, List.flatMap_cons, List.flatMap_nil, List.append_nil];exact how'
          · have hst : Zi ls on s' a = s' := by
              unfold Zi;rw [hto, if_neg (by rw [h2, Bool.and_false]; exact Bool.false_ne_true)]
            refine Xq (Xh (Xx vw hk hl2 ⟨_, g4, bo, so, Hw, hg24, rfl, by rw [htk, hst]; exact obo, by rw [htk, hst]; exact oso, by rw [htk, hst]; exact how, hs⟩ rfl rfl rfl ⟨rfl, rfl, rfl, rfl, rfl, rfl, rfl, rfl, rfl, trivial⟩))
        · refine Y40 ?_
          have hst : Zi ls on s' a = s' := by
            unfold Zi;rw [if_neg (by rw [h1]; exact Bool.false_ne_true)]
          refine zF ?_;refine Xq (Xh (Xx vw hk hl2 ⟨_, g4, bo, so, Hw, hg24, rfl, by rw [htk, hst]; exact obo, by rw [htk, hst]; exact oso, by rw [htk, hst]; exact how, hs⟩ rfl rfl rfl ⟨rfl, rfl, rfl, rfl, rfl, rfl, rfl, rfl, rfl, trivial⟩))
      · rintro vw w ⟨s', g3, bo, so, Hw, hg3, hs', obo, oso, how, hs⟩;rw [List.take_length] at hs'
        rw [← hs'] at hrun
        obtain ⟨tt, ht1, ht2, ht3⟩ := pathStep_pre ls on (Xt ls ls.length x) s;rw [← hs'] at ht1
        have hil3 : i < s'.1.length := by rw [ht1, List.length_append]; omega
        obtain ⟨b2, off2, cap2, l2, rfl, rfl, r1, r2, r3, r4⟩ := how.pos (by rw [List.length_drop]; omega);have hdc2 := List.drop_eq_getElem_cons hil3;rw [hdc2] at r3 r4
        have hpos2 : 1 ≤ (s'.1.drop i).length := by rw [List.length_drop]; omega
        refine Xh (Zl ?_);refine Y0 ?_;refine wl_tail (c := .int .i64 (s'.1[i] : Int)) (cs := (s'.1.drop (i + 1)).flatMap Zd) rfl hpos2 (by omega) r2 (by rw [Ks]; simp; omega) r4 rfl rfl rfl rfl rfl rfl ?_;intro vw' how';refine zP ?_;have hdl : (s'.1.drop i).length - 1 = (s'.1.drop (i + 1)).length := by rw [List.length_drop, List.length_drop]; omega
        rw [hdl] at how'
        refine Xn (Uh (vw', f) ⟨rfl, rfl, rfl, rfl, rfl, rfl, rfl, trivial⟩ ⟨s', i + 1, g3, bo, so, _, Ghost.tr hg02 hg3, hrun, ?_, hil3, by simp only; omega, ?_, obo, oso, how', hs⟩ (Nat.lt_succ_self f))
        · intro y hy;rw [ht1] at hy
          rcases List.mem_append.1 hy with h | h
          · exact hlt y h
          · obtain ⟨k, hk, rfl⟩ := ht3 y h;have hkl := outAt_lt hk;simp only [Yk, List.getElem?_eq_getElem hkl];exact (hv.ok _ (List.getElem_mem hkl)).2.1
        · rw [ht1, List.length_append, Nat.add_mul]; omega
  · have hil : ¬ i < s.1.length := by
      have := of_decide_eq_false hemp;rw [List.length_drop] at this
      omega
    simp only [pathR, List.getElem?_eq_none (by omega : s.1.length ≤ i)] at hrun
    cases hrun;refine Zm rfl (Zl ?_);refine Y1 ?_;exact Xb (res2 rfl rfl rfl) ⟨g1, [], hg1, hs.drop.drop.dropL, rfl, _, rfl, RS.nil _ _ _ _⟩
end
section
open Go.RowKit
theorem in_spec (g : Ghost) (tb9 mb k : Nat) (m : List (Nat × Bool)) (mo : Obj) (h1 : Lies g tb9 0 [.map (some mb)]) (h2 : g.heap mb = some mo) (h3 : Jb (Jh .bool m) mo) :
  Cl PP 78 [.int .i64 (k : Int), .pointer (some ⟨tb9, 0, none⟩)] g [] (Det (.bool ((lk m k).getD false))) := by
 refine Xj Tryz.func78 rfl rfl Tryz.ntmps78 rfl ?_
 intro w F hs
 refine Y13 ?_
 refine Xd hs (h1 0 _ rfl) rfl rfl rfl rfl rfl ?_
 refine zP ?_
 refine wl_lookG hs h2 h3 rfl rfl rfl rfl rfl rfl rfl (lookB _ _) rfl rfl ?_
 refine Y7 ?_
 exact Xb (Xo rfl rfl) ⟨g, [], Ghost.rfl', hs, rfl, rfl⟩
theorem isFr_spec (g : Ghost) (vg : Value) (n gx ib y i : Nat) (ls : List Arrow) (hG : GraphR g vg n ls) (hi : i < ls.length) (h1 : Lies g gx 0 [vg]) (h2 : Lies g ib 0 [.int .i64 (i : Int)]) :
  Cl PP 80 [.int .i64 (y : Int), .pointer (some ⟨gx, 0, none⟩), .pointer (some ⟨ib, 0, none⟩)] g [] (Det (.bool (decide (y = Vf ls i)))) := by
 obtain ⟨gb, al, cl, ao, co, rfl, hG, hA, hO⟩ := hG
 obtain ⟨lb, lo, rfl⟩ := hA.base hi
 have hcA := hA.enc hi
 refine Xj Tryz.func80 rfl rfl Tryz.ntmps80 rfl ?_
 intro w F hs
 refine Y11 ?_
 refine Yf 10 [] Yd (by kernel_rfl) rfl hs ?_
 refine zC ?_
 refine Xp (h1 0 _ rfl) rfl rfl rfl rfl ?_
 refine zC ?_
 refine Xp (hG 1 _ rfl) rfl rfl rfl rfl ?_
 refine Xp (h2 0 _ rfl) rfl rfl rfl rfl ?_
 refine Uc rfl rfl rfl rfl rfl (by omega) (⟨lb, lo, rfl⟩) rfl ?_
 refine zC ?_
 refine Xp (hcA 0 _ rfl) rfl rfl rfl rfl ?_
 refine zC ?_
 refine Xy ?_
 intro g2 w hg2
 intro hs
 refine Y7 ?_
 refine Xb (Xo rfl rfl) ⟨g2, [], hg2, hs, rfl, ?_⟩
 have hfr : Vf ls i = ls[i].fr := by simp [Vf, hi]
 rw [hfr]
 congr 1
 rw [Bool.eq_iff_iff]
 simp
 omega
theorem isX_spec (g : Ghost) (xb y x : Nat) (h : Lies g xb 0 [.int .i64 (x : Int)]) :
  Cl PP 83 [.int .i64 (y : Int), .pointer (some ⟨xb, 0, none⟩)] g [] (Det (.bool (decide (y = x)))) := by
 refine Xj Tryz.func83 rfl rfl Tryz.ntmps83 rfl ?_
 intro w F hs
 refine Y12 ?_
 refine Xd hs (h 0 _ rfl) rfl rfl rfl rfl rfl ?_
 refine Y7 ?_
 refine Xb (Xo rfl rfl) ⟨g, [], Ghost.rfl', hs, rfl, ?_⟩
 congr 1
 rw [Bool.eq_iff_iff]
 simp
 omega
def visitR (ls : List Arrow) (inn : Nat → Bool) (s : Nat × List Nat) (i : Nat) : Option (Nat × List Nat) :=
 match pathF ls inn (fun y => decide (y = Vf ls i)) s.1 with
 | some (way, _) => if s.2.length + way.length ≤ 4000000000 then some (Yk ls i, s.2 ++ way ++ [i]) else none
 | none => none
theorem visit_spec (g : Ghost) (vg : Value) (n gx atb onb ob : Nat) (i : Nat) (ls : List Arrow) (inn : Nat → Bool) (fo : Nat) (f1 c1 : Array Value) (s s' : Nat × List Nat) (vo : Value) (Ho : Own) (hG : GraphR g vg n ls) (hv : ValidG n ls) (hi : i < ls.length) (hat : s.1 < n)
  (h1 : Lies g gx 0 [vg]) (h2 : Lies g onb 0 [.func (.func fo) f1 c1]) (hin : ∀ g' k, g ≤ g' → k < ls.length → Cl PP fo (f1.toList ++ [.int .i64 ((k : Nat) : Int)] ++ c1.toList) g' [] (Det (.bool (inn k))))
  (ho : OwnS 3 1 vo s.2.length (s.2.flatMap Zd) Ho) (hs' : visitR ls inn s i = some s') :
  Cl PP 79 [.int .i64 (i : Int), .pointer (some ⟨gx, 0, none⟩), .pointer (some ⟨atb, 0, none⟩), .pointer (some ⟨onb, 0, none⟩), .pointer (some ⟨ob, 0, none⟩)] g ((atb, Xa [.int .i64 (s.1 : Int)] 3) :: (ob, Xa [vo] 22) :: Ho)
   fun _ L' _ => ∃ vo' Ho', L' = (atb, Xa [.int .i64 (s'.1 : Int)] 3) :: (ob, Xa [vo'] 22) :: Ho' ∧ OwnS 3 1 vo' s'.2.length (s'.2.flatMap Zd) Ho' := by
 obtain ⟨way, b, hw, hlen, rfl⟩ : ∃ way b, pathF ls inn (fun y => decide (y = Vf ls i)) s.1 = some (way, b) ∧ s.2.length + way.length ≤ 4000000000 ∧ s' = (Yk ls i, s.2 ++ way ++ [i]) := by
  unfold visitR at hs'
  split at hs'
  ·rename_i way b q
   split at hs'
   ·rename_i hl;cases hs';exact ⟨way, b, q, hl, rfl⟩
   ·cases hs'
  ·cases hs'
 have hGG := hG
 obtain ⟨gb, al, cl, ao, co, rfl, hG, hA, hO⟩ := hG
 obtain ⟨lb, lo, rfl⟩ := hA.base hi
 have hcA := hA.enc hi
 refine Xj Tryz.func79 rfl rfl Tryz.ntmps79 rfl ?_
 intro w F hs
 refine Y2 ?_
 refine Yi hs rfl rfl rfl rfl ?_; clear hs; intro ib w hs
 refine zn ?_
 obtain ⟨g1, hg1, hs, hib⟩ := freezeB hs
 replace hs := (show St g1 w ((atb, Xa [.int .i64 (s.1 : Int)] 3) :: (ob, Xa [vo] 22) :: (Ho ++ F)) from hs)
 refine Y2 ?_
 refine Xd hs (h1.mono hg1 0 _ rfl) rfl rfl rfl rfl rfl ?_
 refine zL0 ?_
 refine Xd hs (h2.mono hg1 0 _ rfl) rfl rfl rfl rfl rfl ?_
 refine zP ?_
 refine Xf (L := []) rfl rfl rfl hs (path_spec g1 _ n s.1 ls inn (fun y => decide (y = Vf ls i)) fo 80 f1 c1 #[] #[.pointer (some ⟨gx, 0, none⟩), .pointer (some ⟨ib, 0, none⟩)] (way, b) (hGG.mono hg1) hv hat
  (fun g' k hg' => hin g' k (Ghost.tr hg1 hg')) (fun g' y hg' _ => isFr_spec g' _ n gx ib y i ls (hGG.mono (Ghost.tr hg1 hg')) hi (h1.mono (Ghost.tr hg1 hg')) (hib.mono hg')) hw) ?_
 rintro u g2 L' w hg2 hs ⟨rfl, vw, rfl, hrw⟩
 replace hrw : RS kNat g2 vw way := hrw
 have hg02 := Ghost.tr hg1 hg2
 refine Y7 ?_
 obtain ⟨aw, cw, rfl⟩ := hrw.form
 obtain ⟨w1, w2, w3⟩ := RS.flat hrw
 replace hs := (show St g2 w (Ho ++ ((atb, Xa [.int .i64 (s.1 : Int)] 3) :: (ob, Xa [vo] 22) :: F)) from hs.perm (by classical exact List.perm_iff_count.2 fun x => by simp only [List.append_eq, List.set_cons_succ, List.set_cons_zero, List.eraseIdx_cons_zero, List.eraseIdx_cons_succ, List.count_cons, List.count_append, List.cons_append, List.nil_append, List.append_nil, List.append_assoc] <;> ac_rfl))
 refine zQ ?_
 refine Yf 5 Ho Yd (by kernel_rfl) rfl hs ?_
 refine Xv 1 rfl rfl rfl rfl rfl rfl ?_
 refine zC ?_
 refine sg_append Ho [] (List.append_nil _).symm ho w3 (by exact w2) (by omega) rfl rfl rfl rfl rfl rfl rfl rfl rfl (all_one (fun _ => rfl) way) rfl ?_
 refine Xp (hib.mono hg2 0 _ rfl) rfl rfl rfl rfl ?_
 refine sg_one rfl rfl rfl rfl rfl rfl rfl rfl ?_
 refine Xy ?_
 intro g3 w hg3
 rintro v18 L1 ⟨_, _, own18⟩ v20 _ ⟨g4, hg4, b2, rfl, rfl, lies2⟩ hs
 have hg03 := Ghost.tr hg02 hg3
 replace hs := (show St g3 w (L1 ++ ((atb, Xa [.int .i64 (s.1 : Int)] 3) :: (ob, Xa [vo] 22) :: F)) by simpa using hs)
 refine Ju (ys := [.int .i64 (i : Int)]) (m := 1) hs own18 ((lies2.mono hg4).cellsAt hs) rfl rfl rfl rfl rfl rfl rfl rfl rfl rfl rfl (by omega) rfl rfl ?_
 intro vo' w Ho' ho' hs
 replace hs := (show St g3 w ((atb, Xa [.int .i64 (s.1 : Int)] 3) :: (ob, Xa [vo] 22) :: (Ho' ++ F)) from hs.perm (by classical exact List.perm_iff_count.2 fun x => by simp only [List.append_eq, List.set_cons_succ, List.set_cons_zero, List.eraseIdx_cons_zero, List.eraseIdx_cons_succ, List.count_cons, List.count_append, List.cons_append, List.nil_append, List.append_nil, List.append_assoc] <;> ac_rfl))
 refine Yh hs 1 rfl rfl rfl rfl rfl rfl ho'.one rfl ?_
 clear hs; intro w hs
 refine zn ?_
 replace hs := (show St g3 w ((atb, Xa [.int .i64 (s.1 : Int)] 3) :: (ob, Xa [vo'] 22) :: (Ho' ++ F)) from hs)
 refine zQ ?_
 refine Yf 8 [] Yd (by kernel_rfl) rfl hs ?_
 refine Xp (h1.mono hg03 0 _ rfl) rfl rfl rfl rfl ?_
 refine zC ?_
 refine Xp (hG.mono hg03 1 _ rfl) rfl rfl rfl rfl ?_
 refine Xp (hib.mono (Ghost.tr hg2 hg3) 0 _ rfl) rfl rfl rfl rfl ?_
 refine Uc rfl rfl rfl rfl rfl (by omega) (⟨lb, lo, rfl⟩) rfl ?_
 refine zC ?_
 refine Xp (hcA.mono hg03 1 _ rfl) rfl rfl rfl rfl ?_
 refine Xy ?_
 intro g5 w hg5
 intro hs
 refine Yh hs 0 rfl rfl rfl rfl rfl rfl rfl rfl ?_; clear hs; intro w hs
 have hto : Yk ls i = ls[i].to := by simp [Yk, hi]
 refine Xn (wk_end (res0 rfl) ⟨g5, (atb, Xa [.int .i64 (ls[i].to : Int)] 3) :: (ob, Xa [vo'] 22) :: Ho', Ghost.tr hg03 hg5, hs, vo', Ho', by rw [hto], ?_⟩)
 simp only [List.length_append, List.length_cons, List.length_nil, List.flatMap_append, List.flatMap_cons, List.flatMap_nil, List.append_nil]
 exact ho'
end
section
open Go.RowKit
def Vp (ls : List Arrow) (inn : Nat → Bool) (l : List Nat) (s : Nat × List Nat) (m : Nat) : Option (Nat × List Nat) :=
 match l.find? fun i => Zv ls i m with
 | some i => visitR ls inn s i
 | none => some s
theorem visitR_lt {n : Nat} {ls : List Arrow} (hv : ValidG n ls) {inn : Nat → Bool} {s s' : Nat × List Nat} {i : Nat} (hi : i < ls.length) (h : visitR ls inn s i = some s') : s'.1 < n := by
 unfold visitR at h
 split at h
 ·split at h
  ·cases h;simp only [Yk, List.getElem?_eq_getElem hi];exact (hv.ok _ (List.getElem_mem hi)).2.1
  ·cases h
 ·cases h
theorem throughR_lt {n : Nat} {ls : List Arrow} (hv : ValidG n ls) {inn : Nat → Bool} {l : List Nat} {s s' : Nat × List Nat} {m : Nat} (hl : ∀ i ∈ l, i < ls.length) (hs : s.1 < n) (h : Vp ls inn l s m = some s') : s'.1 < n := by
 unfold Vp at h
 split at h
 ·rename_i i q;exact visitR_lt hv (hl i (List.mem_of_find?_eq_some q)) h
 ·cases h; exact hs
theorem through_spec (g : Ghost) (vg vl : Value) (n gx lx vb atb onb ob m : Nat) (l : List Nat) (ls : List Arrow) (inn : Nat → Bool) (fo : Nat) (f1 c1 : Array Value) (s s' : Nat × List Nat) (vo : Value) (Ho : Own) (hG : GraphR g vg n ls) (hv : ValidG n ls) (hl : RS kNat g vl l) (hll : l.length ≤ 4611686018427387904) (hli : ∀ i ∈ l, i < ls.length) (hat : s.1 < n)
  (h1 : Lies g gx 0 [vg]) (h0 : Lies g lx 0 [vl]) (h3 : Lies g vb 0 [.func (.func 79) #[] #[.pointer (some ⟨gx, 0, none⟩), .pointer (some ⟨atb, 0, none⟩), .pointer (some ⟨onb, 0, none⟩), .pointer (some ⟨ob, 0, none⟩)]]) (h2 : Lies g onb 0 [.func (.func fo) f1 c1]) (hin : ∀ g' k, g ≤ g' → k < ls.length → Cl PP fo (f1.toList ++ [.int .i64 ((k : Nat) : Int)] ++ c1.toList) g' [] (Det (.bool (inn k))))
  (ho : OwnS 3 1 vo s.2.length (s.2.flatMap Zd) Ho) (hs' : Vp ls inn l s m = some s') :
  Cl PP 81 [.int .i64 (m : Int), .pointer (some ⟨lx, 0, none⟩), .pointer (some ⟨gx, 0, none⟩), .pointer (some ⟨vb, 0, none⟩)] g ((atb, Xa [.int .i64 (s.1 : Int)] 3) :: (ob, Xa [vo] 22) :: Ho)
   fun _ L' _ => ∃ vo' Ho', L' = (atb, Xa [.int .i64 (s'.1 : Int)] 3) :: (ob, Xa [vo'] 22) :: Ho' ∧ OwnS 3 1 vo' s'.2.length (s'.2.flatMap Zd) Ho' := by
 have hGG := hG
 obtain ⟨gb, al, cl, ao, co, rfl, hG, hA, hO⟩ := hG
 obtain ⟨a2, c2, rfl⟩ := hl.form
 refine Xj Tryz.func81 rfl rfl Tryz.ntmps81 rfl ?_
 intro w F hs
 refine Y2 ?_
 refine Xd hs (h0 0 _ rfl) rfl rfl rfl rfl rfl ?_
 refine Y7 ?_
 refine Yw l.length (fun _ _ => [(8, .int .i64 l.length), (7, .slice a2 l.length c2), (0, .int .i64 (m : Int)), (1, .pointer (some ⟨lx, 0, none⟩)), (2, .pointer (some ⟨gx, 0, none⟩)), (3, .pointer (some ⟨vb, 0, none⟩))])
  (fun j (g' : Ghost) w => g ≤ g' ∧ St g' w ((atb, Xa [.int .i64 (s.1 : Int)] 3) :: (ob, Xa [vo] 22) :: (Ho ++ F)) ∧ ∀ k (h : k < j) (h' : k < l.length), Zv ls l[k] m = false) g hll ⟨rfl, rfl, rfl, rfl, rfl, rfl, rfl, trivial⟩ ⟨Ghost.rfl', hs, fun k h => by omega⟩ (fun _ _ => rfl) rfl rfl rfl ?_ ?_ (fun _ _ => rfl) rfl
 ·rintro j g1 w hj ⟨hg1, hs, hall⟩;have hb := hl.base hj;have hc := (hl.mono hg1).nat hj;have hki : l[j] < ls.length := hli _ (List.getElem_mem hj);obtain ⟨lb, lo, rfl⟩ := hA.base hki;have hcA := (hA.mono hg1).enc hki;refine Y2 ?_;refine Yb rfl rfl rfl rfl rfl (by omega) (hb) rfl rfl ?_;refine Xd hs (hc) rfl rfl rfl rfl rfl ?_;refine Y6 ?_
  refine Xd hs (h1.mono hg1 0 _ rfl) rfl rfl rfl rfl rfl ?_;refine zP ?_;refine Xd hs (hG.mono hg1 1 _ rfl) rfl rfl rfl rfl rfl ?_;refine zP ?_;refine Yb rfl rfl rfl rfl rfl (by omega) (⟨lb, lo, rfl⟩) rfl rfl ?_;refine Yj hs (hcA.of_eaddr) rfl rfl rfl rfl rfl rfl ?_;refine zP ?_
  refine Xf (L := []) rfl rfl rfl hs (has_spec g1 _ _ ls[l[j]].ms m (by have := (hv.ok _ (List.getElem_mem hki)).2.2; omega) rfl rfl) ?_;rintro u g2 L' w hg2 hs ⟨rfl, rfl⟩;have hg02 := Ghost.tr hg1 hg2;refine zn ?_
  refine Xi rfl (fun ht => ?_) (fun hf => ?_)
  ·have hm : Zv ls l[j] m = true := by unfold Zv; rw [List.getElem?_eq_getElem hki]; exact ht
   have hfind : l.find? (fun i => Zv ls i m) = some l[j] := by
    rw [List.find?_eq_some_iff_getElem];exact ⟨hm, j, hj, rfl, fun k hk => by rw [hall k hk (by omega)]; rfl⟩
   unfold Vp at hs'
   rw [hfind] at hs'
   simp only at hs'
   replace hs := (show St g2 w (((atb, Xa [.int .i64 (s.1 : Int)] 3) :: (ob, Xa [vo] 22) :: Ho) ++ F) from hs)
   refine Y2 ?_;refine Xd hs (h3.mono hg02 0 _ rfl) rfl rfl rfl rfl rfl ?_;refine zP ?_;refine Xf rfl rfl rfl hs (visit_spec g2 _ n gx atb onb ob l[j] ls inn fo f1 c1 s s' vo Ho (hGG.mono hg02) hv hki hat (h1.mono hg02) (h2.mono hg02) (fun g' k hg' => hin g' k (Ghost.tr hg02 hg')) ho hs') ?_;rintro u g3 L' w hg3 hs ⟨vo', Ho', rfl, ho'⟩;refine zn ?_
   exact Xb (res0 rfl) ⟨g3, _, Ghost.tr hg02 hg3, hs, vo', Ho', rfl, ho'⟩
  ·refine Xq (Xh (Xx g2 hj hll ⟨hg02, hs, fun k h1 h2 => ?_⟩ rfl rfl rfl ⟨rfl, rfl, rfl, rfl, rfl, rfl, trivial⟩))
   by_cases e : k = j
   ·subst e; unfold Zv; rw [List.getElem?_eq_getElem hki]; exact hf
   ·exact hall k (by omega) h2
 ·rintro g1 w ⟨hg1, hs, hall⟩
  have hfind : l.find? (fun i => Zv ls i m) = none := by
   rw [List.find?_eq_none];intro i hi;obtain ⟨k, hk, rfl⟩ := List.getElem_of_mem hi;simp [hall k hk hk]
  unfold Vp at hs'
  rw [hfind] at hs'
  cases hs';exact wk_end (res0 rfl) ⟨g1, (atb, Xa [.int .i64 (s.1 : Int)] 3) :: (ob, Xa [vo] 22) :: Ho, hg1, hs, vo, Ho, rfl, ho⟩
def marksOf (all : List Nat) (pairs : List (Nat × Nat)) : List Nat := all ++ pairs.map (·.2)
def foldO {σ α : Type} (f : σ → α → Option σ) : List α → σ → Option σ
 | [], s => some s
 | x :: xs, s => match f s x with
  | some s' => foldO f xs s'
  | none => none
def aroundR (ls : List Arrow) (x : Nat) (l : List Nat) (all : List Nat) (pairs : List (Nat × Nat)) : Option (List Nat) :=
 match (if Zh ls l = List.replicate 16 false then some (x, []) else foldO (Vp ls (fun k => decide (k ∈ l)) l) (marksOf all pairs) (x, [])) with
 | some s1 => match (if s1.2.length = 0 then visitR ls (fun k => decide (k ∈ l)) s1 (l.getD 0 0) else some s1) with
  | some s2 => match pathF ls (fun k => decide (k ∈ l)) (fun y => decide (y = x)) s2.1 with
   | some (way, _) => if s2.2.length + way.length ≤ 4000000000 then some (s2.2 ++ way) else none
   | none => none
  | none => none
 | none => none
end
section
open Go.RowKit
theorem foldO_cons {σ α : Type} {f : σ → α → Option σ} {x : α} {xs : List α} {s r : σ} (h : foldO f (x :: xs) s = some r) : ∃ s', f s x = some s' ∧ foldO f xs s' = some r := by
 simp only [foldO] at h
 split at h
 ·rename_i s' q; exact ⟨s', q, h⟩
 ·cases h
def inM (l : List Nat) (k : Nat) : List (Nat × Bool) := (l.take k).foldl (fun m i => sk m i true) []
theorem inM_at (l : List Nat) (x : Nat) : ∀ (m : List (Nat × Bool)), (lk (l.foldl (fun m i => sk m i true) m) x).getD false = ((lk m x).getD false || decide (x ∈ l)) := by
 induction l with
 | nil => intro m; simp
 | cons y l ih =>
  intro m;rw [List.foldl_cons, ih, lk_sk]
  by_cases h : x = y
  ·subst h; simp
  ·rw [if_neg h];simp [h]
theorem freezeO {g : Ghost} {w : World} {L : Own} {b : Nat} {o : Obj} (hs : St g w ((b, o) :: L)) : ∃ g', g ≤ g' ∧ St g' w L ∧ g'.heap b = some o := by
 obtain ⟨s1, s2, s3⟩ := hs.freeze
 exact ⟨_, s2, s1, s3⟩
theorem around_spec (g : Ghost) (vg vl va vp : Value) (n x : Nat) (ls : List Arrow) (l all : List Nat) (pairs : List (Nat × Nat)) (out : List Nat) (hG : GraphR g vg n ls) (hv : ValidG n ls) (hw : ValidW all pairs) (hx : x < n) (hl : RS kNat g vl l) (hll : l.length ≤ 4611686018427387904) (hli : ∀ i ∈ l, i < ls.length) (hne : 0 < l.length)
    (ha : RS kNat g va all) (hp : RS kPair g vp pairs) (hout : aroundR ls x l all pairs = some out) :
    Cl PP 42 [vg, .int .i64 (x : Int), vl, .agg #[va, vp]] g [] fun g' L' r => L' = [] ∧ RS kNat g' r out := by
  have hal : all.length ≤ 4611686018427387904 := by have := hw.all_len; omega
  have hpl : pairs.length ≤ 4611686018427387904 := by have := hw.pairs_len; omega
  obtain ⟨gb, hgv⟩ : ∃ gb, vg = .pointer (some ⟨gb, 0, none⟩) := by obtain ⟨gb, _, _, _, _, rfl, _⟩ := hG; exact ⟨gb, rfl⟩
  subst hgv;obtain ⟨a2, c2, rfl⟩ := hl.form;obtain ⟨aa, ca, rfl⟩ := ha.form;obtain ⟨ap, cp, rfl⟩ := hp.form;refine Xj Tryz.func42 rfl rfl Tryz.ntmps42 rfl ?_;intro w F hs;refine Y2 ?_;refine Yi hs rfl rfl rfl rfl ?_; clear hs; intro gx w hs;refine Yi hs rfl rfl rfl rfl ?_; clear hs; intro xb w hs;refine Yi hs rfl rfl rfl rfl ?_; clear hs; intro lx w hs
  refine Yi hs rfl rfl rfl rfl ?_; clear hs; intro wx w hs;refine Y7 ?_;obtain ⟨g1, hg1, hs, hwx⟩ := freezeB hs;obtain ⟨g2, hg2, hs, hlx⟩ := freezeB hs;obtain ⟨g3, hg3, hs, hxb⟩ := freezeB hs;obtain ⟨g4, hg4, hs, hgx⟩ := freezeB hs;replace hxb := hxb.mono hg4;replace hlx := hlx.mono (Ghost.tr hg3 hg4);replace hwx := hwx.mono (Ghost.tr hg2 (Ghost.tr hg3 hg4))
  have hg04 := Ghost.tr hg1 (Ghost.tr hg2 (Ghost.tr hg3 hg4));replace hs := (show St g4 w F from hs)
  clear hg1 hg2 hg3 hg4;refine Y2 ?_;refine Vx hs rfl rfl ?_;clear hs; intro mb mo w hmo hs;refine Yp hs rfl rfl rfl ?_; clear hs; intro ib w hs;refine Yh hs 0 rfl rfl rfl rfl rfl rfl rfl rfl ?_; clear hs; intro w hs;refine Y9 ?_;refine Xd hs (hlx 0 _ rfl) rfl rfl rfl rfl rfl ?_;refine Y7 ?_
  refine Yw l.length (fun _ _ => [(25, .int .i64 l.length), (24, .slice a2 l.length c2), (9, .pointer (some ⟨ib, 0, none⟩)), (4, .pointer (some ⟨gx, 0, none⟩)), (5, .pointer (some ⟨xb, 0, none⟩)), (6, .pointer (some ⟨lx, 0, none⟩)), (7, .pointer (some ⟨wx, 0, none⟩))])
    (fun k (_ : Unit) w => ∃ mo, Jb (Jh .bool (inM l k)) mo ∧ St g4 w ((ib, Xa [.map (some mb)] 140) :: (mb, mo) :: F)) () hll ⟨rfl, rfl, rfl, rfl, rfl, rfl, rfl, rfl, trivial⟩ ⟨mo, hmo, hs⟩ (fun _ _ => rfl) rfl rfl rfl ?_ ?_ (fun _ _ => rfl) rfl
  · rintro k _ w hk ⟨mo, hmo, hs⟩;have hb := hl.base hk;have hc := (hl.mono hg04).nat hk;refine Y2 ?_;refine Yb rfl rfl rfl rfl rfl (by omega) (hb) rfl rfl ?_;refine Xd hs (hc) rfl rfl rfl rfl rfl ?_;refine Y6 ?_;refine zL0 ?_;refine zP ?_;refine Kw hs 1 hmo rfl rfl rfl rfl rfl rfl rfl rfl rfl ?_;clear hs; intro mo' w hmo' hs;rw [Ja] at hmo'
    refine Xn (Xh (Xx () hk hll ⟨mo', ?_, hs⟩ rfl rfl rfl ⟨rfl, rfl, rfl, rfl, rfl, rfl, rfl, trivial⟩));unfold inM;rw [Yr hk, List.foldl_append];exact hmo'
  · rintro _ w ⟨mo, hmo, hs⟩;obtain ⟨g5, hg5, hs, hib⟩ := freezeB hs;obtain ⟨g6, hg6, hs, hmb⟩ := freezeO hs;replace hib := hib.mono hg6;have hg46 := Ghost.tr hg5 hg6;have hg06 := Ghost.tr hg04 hg46
    have hinn : ∀ k, (lk (inM l l.length) k).getD false = decide (k ∈ l) := fun k => by
      unfold inM;rw [List.take_length, inM_at];rfl
    have hin : ∀ g' k, g6 ≤ g' → k < ls.length → Cl PP 78 ((#[] : Array Value).toList ++ [.int .i64 ((k : Nat) : Int)] ++ (#[.pointer (some ⟨ib, 0, none⟩)] : Array Value).toList) g' [] (Det (.bool (decide (k ∈ l)))) := fun g' k hg' _ => by
      rw [← hinn k];exact in_spec g' ib mb k (inM l l.length) mo (hib.mono hg') (hg'.heap _ _ hmb) hmo
    refine Y23 ?_;refine Yp hs rfl rfl rfl ?_; clear hs; intro onb w hs;refine Yh hs 0 rfl rfl rfl rfl rfl rfl rfl rfl ?_; clear hs; intro w hs;refine zn ?_;obtain ⟨g7, hg7, hs, honb⟩ := freezeB hs;replace hs := (show St g7 w F from hs)
    refine Y2 ?_;refine Yp hs rfl rfl rfl ?_; clear hs; intro ob w hs;refine Y9 ?_;refine Xd hs (hxb.mono (Ghost.tr hg46 hg7) 0 _ rfl) rfl rfl rfl rfl rfl ?_;refine Yp hs rfl rfl rfl ?_; clear hs; intro atb w hs;refine Yh hs 0 rfl rfl rfl rfl rfl rfl rfl rfl ?_; clear hs; intro w hs;refine Y8 ?_;refine Yp hs rfl rfl rfl ?_; clear hs; intro vb w hs
    refine Yh hs 0 rfl rfl rfl rfl rfl rfl rfl rfl ?_; clear hs; intro w hs;refine zn ?_;obtain ⟨g8, hg8, hs, hvb⟩ := freezeB hs;replace hs := (show St g8 w ((atb, Xa [.int .i64 (x : Int)] 3) :: (ob, Xa [.slice none 0 0] 22) :: ([] ++ F)) from hs)
    have hg48 := Ghost.tr hg46 (Ghost.tr hg7 hg8);have hg08 := Ghost.tr hg04 hg48;have hg68 := Ghost.tr hg7 hg8;refine Y1 ?_
    obtain ⟨s1, s2, way, wb, hs1, hs2, hway, hlen, rfl⟩ : ∃ s1 s2 way wb, (if Zh ls l = List.replicate 16 false then some (x, []) else foldO (Vp ls (fun k => decide (k ∈ l)) l) (marksOf all pairs) (x, [])) = some s1 ∧
        (if s1.2.length = 0 then visitR ls (fun k => decide (k ∈ l)) s1 (l.getD 0 0) else some s1) = some s2 ∧ pathF ls (fun k => decide (k ∈ l)) (fun y => decide (y = x)) s2.1 = some (way, wb) ∧ s2.2.length + way.length ≤ 4000000000 ∧ s2.2 ++ way = out := by
      unfold aroundR at hout
      split at hout
      · rename_i s1 q1
        split at hout
        · rename_i s2 q2
          split at hout
          · rename_i way wb q3
            split at hout
            · rename_i q4;cases hout;exact ⟨s1, s2, way, wb, q1, q2, q3, q4, rfl⟩
            · cases hout
          · cases hout
        · cases hout
      · cases hout
    refine Y2 ?_;refine Xd hs (hgx.mono hg48 0 _ rfl) rfl rfl rfl rfl rfl ?_;refine Xd hs (hlx.mono hg48 0 _ rfl) rfl rfl rfl rfl rfl ?_;refine Xf (L := []) rfl rfl rfl hs (met_spec g8 _ _ n ls l (hG.mono hg08) hv (hl.mono hg08) hll hli) ?_;rintro u g9 L' w hg9 hs ⟨rfl, rfl⟩;have hg49 := Ghost.tr hg48 hg9;have hg09 := Ghost.tr hg04 hg49;refine wl_buildA0 rfl rfl rfl rfl rfl ?_
    refine wl_neqBools (xs := Zh ls l) (ys := List.replicate 16 false) rfl rfl (metF_len _ _) rfl rfl rfl rfl rfl rfl (by kernel_rfl) rfl rfl ?_;refine zn ?_
    refine wc_meetK (fun (_ : Unit) => [(4, .pointer (some ⟨gx, 0, none⟩)), (5, .pointer (some ⟨xb, 0, none⟩)), (6, .pointer (some ⟨lx, 0, none⟩)), (7, .pointer (some ⟨wx, 0, none⟩)), (12, .pointer (some ⟨onb, 0, none⟩)), (13, .pointer (some ⟨ob, 0, none⟩)), (14, .pointer (some ⟨atb, 0, none⟩)), (15, .pointer (some ⟨vb, 0, none⟩))]) (fun _ w => ∃ vo Ho g', g9 ≤ g' ∧ s1.1 < n ∧ OwnS 3 1 vo s1.2.length (s1.2.flatMap Zd) Ho ∧ St g' w ((atb, Xa [.int .i64 (s1.1 : Int)] 3) :: (ob, Xa [vo] 22) :: (Ho ++ F))) ?_ ?_
    · refine Xi rfl (fun hnz => ?_) (fun hz => ?_)
      · have hnz' : ¬ Zh ls l = List.replicate 16 false := by simpa using hnz
        rw [if_neg hnz'] at hs1
        refine Y0 ?_;refine Xd hs (hwx.mono hg49 0 _ rfl) rfl rfl rfl rfl rfl ?_;refine Y10 ?_
        refine Yw all.length (fun _ _ => [(44, .int .i64 all.length), (43, .slice aa all.length ca), (4, .pointer (some ⟨gx, 0, none⟩)), (5, .pointer (some ⟨xb, 0, none⟩)), (6, .pointer (some ⟨lx, 0, none⟩)), (7, .pointer (some ⟨wx, 0, none⟩)), (12, .pointer (some ⟨onb, 0, none⟩)), (13, .pointer (some ⟨ob, 0, none⟩)), (14, .pointer (some ⟨atb, 0, none⟩)), (15, .pointer (some ⟨vb, 0, none⟩)), (16, .func (.func 81) #[] #[.pointer (some ⟨lx, 0, none⟩), .pointer (some ⟨gx, 0, none⟩), .pointer (some ⟨vb, 0, none⟩)])]) (fun k (_ : Unit) w => ∃ s vo Ho g', g9 ≤ g' ∧ foldO (Vp ls (fun k => decide (k ∈ l)) l) (all.drop k ++ pairs.map (·.2)) s = some s1 ∧ s.1 < n ∧ OwnS 3 1 vo s.2.length (s.2.flatMap Zd) Ho ∧
          St g' w ((atb, Xa [.int .i64 (s.1 : Int)] 3) :: (ob, Xa [vo] 22) :: (Ho ++ F))) () hal ⟨rfl, rfl, rfl, rfl, rfl, rfl, rfl, rfl, rfl, rfl, rfl, rfl, trivial⟩ ⟨(x, []), _, [], g9, Ghost.rfl', hs1, hx, OwnS.nil _ _, hs⟩ (fun _ _ => rfl) rfl rfl rfl ?_ ?_ (fun _ _ => rfl) rfl
        · rintro k _ w hk ⟨s, vo, Ho, g10, hg10, hfold, hsn, oo, hs⟩;have hg010 := Ghost.tr hg09 hg10;have hg410 := Ghost.tr hg49 hg10;have hb := ha.base hk;have hc := (ha.mono hg010).nat hk;rw [List.drop_eq_getElem_cons hk, List.cons_append] at hfold
          obtain ⟨s', hth, hfold'⟩ := foldO_cons hfold;refine Y2 ?_;refine Yb rfl rfl rfl rfl rfl (by omega) (hb) rfl rfl ?_;refine Xd hs (hc) rfl rfl rfl rfl rfl ?_;refine Y7 ?_;replace hs := (show St g10 w (((atb, Xa [.int .i64 (s.1 : Int)] 3) :: (ob, Xa [vo] 22) :: Ho) ++ F) from hs)
          refine Y0 ?_
          refine Xf rfl rfl rfl hs (through_spec g10 _ _ n gx lx vb atb onb ob all[k] l ls (fun k => decide (k ∈ l)) 78 #[] #[.pointer (some ⟨ib, 0, none⟩)] s s' vo Ho (hG.mono hg010) hv (hl.mono hg010) hll hli hsn (hgx.mono hg410) (hlx.mono hg410) (hvb.mono (Ghost.tr hg9 hg10)) (honb.mono (Ghost.tr hg8 (Ghost.tr hg9 hg10)))
            (fun g' k' hg' hk' => hin g' k' (Ghost.tr hg68 (Ghost.tr hg9 (Ghost.tr hg10 hg'))) hk') oo hth) ?_
          rintro u g11 L' w hg11 hs ⟨vo', Ho', rfl, oo'⟩;exact Xn (Xh (Xx () hk hal ⟨s', vo', Ho', g11, Ghost.tr hg10 hg11, hfold', throughR_lt hv hli hsn hth, oo', hs⟩ rfl rfl rfl ⟨rfl, rfl, rfl, rfl, rfl, rfl, rfl, rfl, rfl, rfl, rfl, trivial⟩))
        · rintro _ w ⟨s, vo, Ho, g10, hg10, hfold, hsn, oo, hs⟩;rw [List.drop_length, List.nil_append] at hfold
          refine Y23 ?_;refine Xd hs (hwx.mono (Ghost.tr hg49 hg10) 1 _ rfl) rfl rfl rfl rfl rfl ?_;refine Y7 ?_
          refine Yw pairs.length (fun _ _ => [(55, .int .i64 pairs.length), (54, .slice ap pairs.length cp), (4, .pointer (some ⟨gx, 0, none⟩)), (5, .pointer (some ⟨xb, 0, none⟩)), (6, .pointer (some ⟨lx, 0, none⟩)), (7, .pointer (some ⟨wx, 0, none⟩)), (12, .pointer (some ⟨onb, 0, none⟩)), (13, .pointer (some ⟨ob, 0, none⟩)), (14, .pointer (some ⟨atb, 0, none⟩)), (15, .pointer (some ⟨vb, 0, none⟩)), (16, .func (.func 81) #[] #[.pointer (some ⟨lx, 0, none⟩), .pointer (some ⟨gx, 0, none⟩), .pointer (some ⟨vb, 0, none⟩)])]) (fun k (_ : Unit) w => ∃ s vo Ho g', g9 ≤ g' ∧ foldO (Vp ls (fun k => decide (k ∈ l)) l) ((pairs.drop k).map (·.2)) s = some s1 ∧ s.1 < n ∧ OwnS 3 1 vo s.2.length (s.2.flatMap Zd) Ho ∧
            St g' w ((atb, Xa [.int .i64 (s.1 : Int)] 3) :: (ob, Xa [vo] 22) :: (Ho ++ F))) () hpl ⟨rfl, rfl, rfl, rfl, rfl, rfl, rfl, rfl, rfl, rfl, rfl, rfl, trivial⟩ ⟨s, vo, Ho, g10, hg10, hfold, hsn, oo, hs⟩ (fun _ _ => rfl) rfl rfl rfl ?_ ?_ (fun _ _ => rfl) rfl
          · rintro k _ w hk ⟨s, vo, Ho, g10, hg10, hfold, hsn, oo, hs⟩;have hg010 := Ghost.tr hg09 hg10;have hg410 := Ghost.tr hg49 hg10;have hb := hp.base hk;have hc := (hp.mono hg010).enc hk;rw [List.drop_eq_getElem_cons hk, List.map_cons] at hfold
            obtain ⟨s', hth, hfold'⟩ := foldO_cons hfold;refine Y2 ?_;refine Yb rfl rfl rfl rfl rfl (by omega) (hb) rfl rfl ?_;refine Yj hs (hc.of_eaddr) rfl rfl rfl rfl rfl rfl ?_;refine Yp hs rfl rfl rfl ?_; clear hs; intro pb w hs;refine Yx hs 0 rfl rfl rfl rfl rfl (Nat.le_of_ble_eq_true rfl) rfl rfl ?_; clear hs; intro w hs;refine zn ?_
            replace hs := (show St g10 w ((pb, Xa (ePair pairs[k]) 55) :: (((atb, Xa [.int .i64 (s.1 : Int)] 3) :: (ob, Xa [vo] 22) :: Ho) ++ F)) from hs)
            refine Y21 ?_;replace hs := hs.drop
            refine Xf rfl rfl rfl hs (through_spec g10 _ _ n gx lx vb atb onb ob pairs[k].2 l ls (fun k => decide (k ∈ l)) 78 #[] #[.pointer (some ⟨ib, 0, none⟩)] s s' vo Ho (hG.mono hg010) hv (hl.mono hg010) hll hli hsn (hgx.mono hg410) (hlx.mono hg410) (hvb.mono (Ghost.tr hg9 hg10)) (honb.mono (Ghost.tr hg8 (Ghost.tr hg9 hg10)))
              (fun g' k' hg' hk' => hin g' k' (Ghost.tr hg68 (Ghost.tr hg9 (Ghost.tr hg10 hg'))) hk') oo hth) ?_
            rintro u g11 L' w hg11 hs ⟨vo', Ho', rfl, oo'⟩;exact Xn (Xh (Xx () hk hpl ⟨s', vo', Ho', g11, Ghost.tr hg10 hg11, hfold', throughR_lt hv hli hsn hth, oo', hs⟩ rfl rfl rfl ⟨rfl, rfl, rfl, rfl, rfl, rfl, rfl, rfl, rfl, rfl, rfl, trivial⟩))
          · rintro _ w ⟨s, vo, Ho, g10, hg10, hfold, hsn, oo, hs⟩;rw [List.drop_length] at hfold
            cases hfold;exact Vl () ⟨rfl, rfl, rfl, rfl, rfl, rfl, rfl, rfl, trivial⟩ ⟨vo, Ho, g10, hg10, hsn, oo, hs⟩
      · have hz' : Zh ls l = List.replicate 16 false := by simpa using hz
        rw [if_pos hz'] at hs1
        cases hs1;exact Xq (Vl () ⟨rfl, rfl, rfl, rfl, rfl, rfl, rfl, rfl, trivial⟩ ⟨_, [], g9, Ghost.rfl', hx, OwnS.nil _ _, hs⟩)
    · rintro _ w ⟨vo, Ho, g10, hg10, hsn, oo, hs⟩;have hg010 := Ghost.tr hg09 hg10;have hg410 := Ghost.tr hg49 hg10;obtain ⟨avo, cvo, hvo⟩ := oo.form;subst hvo;refine Y2 ?_;refine zL1 ?_;refine Y7 ?_
      refine wc_meetK (fun (_ : Unit) => [(4, .pointer (some ⟨gx, 0, none⟩)), (5, .pointer (some ⟨xb, 0, none⟩)), (6, .pointer (some ⟨lx, 0, none⟩)), (7, .pointer (some ⟨wx, 0, none⟩)), (12, .pointer (some ⟨onb, 0, none⟩)), (13, .pointer (some ⟨ob, 0, none⟩)), (14, .pointer (some ⟨atb, 0, none⟩)), (15, .pointer (some ⟨vb, 0, none⟩))]) (fun _ w => ∃ vo Ho g', g10 ≤ g' ∧ s2.1 < n ∧ OwnS 3 1 vo s2.2.length (s2.2.flatMap Zd) Ho ∧ St g' w ((atb, Xa [.int .i64 (s2.1 : Int)] 3) :: (ob, Xa [vo] 22) :: (Ho ++ F))) ?_ ?_
      · refine Xi rfl (fun h0 => ?_) (fun h0 => ?_)
        · have h00 : s1.2.length = 0 := by have := of_decide_eq_true h0; omega
          rw [if_pos h00] at hs2
          have hb0 := hl.base hne;have hc0 := (hl.mono hg010).nat hne;have hl00 : l.getD 0 0 = l[0] := by simp [hne]
          rw [hl00] at hs2
          have hli0 : l[0] < ls.length := hli _ (List.getElem_mem hne);replace hs := (show St g10 w (((atb, Xa [.int .i64 (s1.1 : Int)] 3) :: (ob, Xa [.slice avo s1.2.length cvo] 22) :: Ho) ++ F) from hs)
          refine zQ ?_;refine Yf 4 [] Yd (by kernel_rfl) rfl hs ?_;refine Xp (hvb.mono (Ghost.tr hg9 hg10) 0 _ rfl) rfl rfl rfl rfl ?_;refine Xp (hlx.mono hg410 0 _ rfl) rfl rfl rfl rfl ?_;refine Uc rfl rfl rfl rfl rfl (by omega) hb0 rfl ?_;refine Xp (hc0) rfl rfl rfl rfl ?_;refine Xy ?_;intro g11 w hg11;intro hs
          replace hs := (show St g11 w (((atb, Xa [.int .i64 (s1.1 : Int)] 3) :: (ob, Xa [.slice avo s1.2.length cvo] 22) :: Ho) ++ F) from hs)
          refine Xf rfl rfl rfl hs (visit_spec g11 _ n gx atb onb ob l[0] ls (fun k => decide (k ∈ l)) 78 #[] #[.pointer (some ⟨ib, 0, none⟩)] s1 s2 _ Ho (hG.mono (Ghost.tr hg010 hg11)) hv hli0 hsn (hgx.mono (Ghost.tr hg410 hg11)) (honb.mono (Ghost.tr hg8 (Ghost.tr hg9 (Ghost.tr hg10 hg11))))
            (fun g' k' hg' hk' => hin g' k' (Ghost.tr hg68 (Ghost.tr hg9 (Ghost.tr hg10 (Ghost.tr hg11 hg')))) hk') oo hs2) ?_
          rintro u g12 L' w hg12 hs ⟨vo', Ho', rfl, oo'⟩;exact Xn (Vl () ⟨rfl, rfl, rfl, rfl, rfl, rfl, rfl, rfl, trivial⟩ ⟨vo', Ho', g12, Ghost.tr hg11 hg12, visitR_lt hv hli0 hs2, oo', hs⟩)
        · have h00 : ¬ s1.2.length = 0 := by have := of_decide_eq_false h0; omega
          rw [if_neg h00] at hs2
          cases hs2;exact Xq (Vl () ⟨rfl, rfl, rfl, rfl, rfl, rfl, rfl, rfl, trivial⟩ ⟨_, Ho, g10, Ghost.rfl', hsn, oo, hs⟩)
      · rintro _ w ⟨vo, Ho, g11, hg11, hsn, oo, hs⟩;have hg011 := Ghost.tr hg010 hg11;have hg411 := Ghost.tr hg410 hg11;refine Y2 ?_;refine Xd hs (hgx.mono hg411 0 _ rfl) rfl rfl rfl rfl rfl ?_;refine zL0 ?_;refine Xd hs (honb.mono (Ghost.tr hg8 (Ghost.tr hg9 (Ghost.tr hg10 hg11))) 0 _ rfl) rfl rfl rfl rfl rfl ?_;refine zP ?_
        refine Xf (L := []) rfl rfl rfl hs (path_spec g11 _ n s2.1 ls (fun k => decide (k ∈ l)) (fun y => decide (y = x)) 78 83 #[] #[.pointer (some ⟨ib, 0, none⟩)] #[] #[.pointer (some ⟨xb, 0, none⟩)] (way, wb) (hG.mono hg011) hv hsn
          (fun g' k' hg' hk' => hin g' k' (Ghost.tr hg68 (Ghost.tr hg9 (Ghost.tr hg10 (Ghost.tr hg11 hg')))) hk') (fun g' y hg' _ => isX_spec g' xb y x (hxb.mono (Ghost.tr hg411 hg'))) hway) ?_
        rintro u g12 L' w hg12 hs ⟨rfl, vw, rfl, hrw⟩;replace hrw : RS kNat g12 vw way := hrw;obtain ⟨aw, cw, rfl⟩ := hrw.form;obtain ⟨w1, w2, w3⟩ := RS.flat hrw;refine Y7 ?_
        replace hs := (show St g12 w ((ob, Xa [vo] 22) :: (Ho ++ ((atb, Xa [.int .i64 (s2.1 : Int)] 3) :: F))) from hs.perm (by classical exact List.perm_iff_count.2 fun x => by simp only [List.append_eq, List.set_cons_succ, List.set_cons_zero, List.eraseIdx_cons_zero, List.eraseIdx_cons_succ, List.count_cons, List.count_append, List.cons_append, List.nil_append, List.append_nil, List.append_assoc] <;> ac_rfl))
        refine Y2 ?_;refine zL0 ?_;refine zP ?_
        replace hs := (show St g12 w (Ho ++ ((ob, Xa [vo] 22) :: (atb, Xa [.int .i64 (s2.1 : Int)] 3) :: F)) from hs.perm (by classical exact List.perm_iff_count.2 fun x => by simp only [List.append_eq, List.set_cons_succ, List.set_cons_zero, List.eraseIdx_cons_zero, List.eraseIdx_cons_succ, List.count_cons, List.count_append, List.cons_append, List.nil_append, List.append_nil, List.append_assoc] <;> ac_rfl))
        refine Ju (ys := way.flatMap Zd) (m := way.length) hs oo (RS.cellsAt hs w3) (by exact w2) rfl rfl rfl rfl rfl rfl rfl rfl rfl (all_one (fun _ => rfl) way) (by omega) rfl rfl ?_;intro vo' w Ho' oo' hs;refine Y7 ?_;rw [← List.length_append, ← List.flatMap_append] at oo'
        obtain ⟨g13, hg13, hs, hr13⟩ := OwnS.freezeE (e := Zd) (h0 := fun _ => rfl) oo' hs;exact Xb (Xo rfl rfl) ⟨g13, [], Ghost.tr hg011 (Ghost.tr hg12 hg13), hs.drop.drop, rfl, hr13⟩
end
section
open Go.RowKit
section
variable {P : Program} [Tabbed P] {ρ : Env} {w : World} {g : Ghost} {L : Own}
theorem resC3 {fn : Func} {t1 t2 t3 : Tmp} {ty1 ty2 ty3 E1 E2 E3 b1 b2 b3 k1 k2 k3 : Nat} {l1 : List Value} {v2 v3 : Value} {te1 te2 te3 : TE} (hs : St g w L) (h : fn.results = #[.cell t1 ty1, .cell t2 ty2, .cell t3 ty3])
  (h1 : Ye ρ t1 = some (.pointer (some ⟨b1, 0, none⟩))) (h2 : Ye ρ t2 = some (.pointer (some ⟨b2, 0, none⟩))) (h3 : Ye ρ t3 = some (.pointer (some ⟨b3, 0, none⟩)))
  (hk1 : L[k1]? = some (b1, Xa l1 E1)) (hk2 : L[k2]? = some (b2, Xa [v2] E2)) (hk3 : L[k3]? = some (b3, Xa [v3] E3))
  (ht1 : Xc (tb P) ty1 = some te1) (hA1 : te1.td.isAgg = true) (hl : l1.length = te1.zs.length) (ht2 : Xc (tb P) ty2 = some te2) (hA2 : te2.td.isAgg = false) (ht3 : Xc (tb P) ty3 = some te3) (hA3 : te3.td.isAgg = false) : ResV P fn ρ w (.tuple #[.agg l1.toArray, v2, v3]) := fun _ _ a ha => by
 have c1 := Qa (P := P) w ht1 hA1 (a := ⟨b1, 0, none⟩) hl (fun j v hv => by rw [Yo]; exact hs.cellL (Za hk1) (by simpa using hv))
 have c2 := run_loadVar1 (P := P) w ht2 hA2 (hs.cellL (i := 0) (v := v2) (Za hk2) rfl)
 have c3 := run_loadVar1 (P := P) w ht3 hA3 (hs.cellL (i := 0) (v := v3) (Za hk3) rfl)
 simp only [results, h]; simp [Jx ha h1, Jx ha h2, Jx ha h3, asAddr, c1, c2, c3]
end
theorem inC_spec (g : Ghost) (cb x : Nat) (vc : Value) (c : List Nat) (h : Lies g cb 0 [vc]) (hr : RS kNat g vc c) (hl : c.length ≤ 20000) (hsort : c.Pairwise (· ≤ ·)) :
  Cl PP 38 [.int .i64 (x : Int), .pointer (some ⟨cb, 0, none⟩)] g [] (Det (.bool (c.contains x))) := by
 obtain ⟨a, cc, rfl⟩ := hr.form
 refine Xj Tryz.func38 rfl rfl Tryz.ntmps38 rfl ?_
 intro w F hs
 refine Y13 ?_
 refine Xd hs (h 0 _ rfl) rfl rfl rfl rfl rfl ?_
 refine zP ?_
 refine Xf (L := []) rfl rfl rfl hs (search_spec g _ c x hr (by omega) hsort) ?_
 rintro u g1 L' w hg1 hs ⟨rfl, rfl⟩
 refine Y15 ?_
 exact Xb (Xo rfl rfl) ⟨g1, [], hg1, hs, rfl, rfl⟩
theorem yes_spec (g : Ghost) (k : Nat) : Cl PP 41 [.int .i64 (k : Int)] g [] (Det (.bool true)) := by
 refine Xj Tryz.func41 rfl rfl Tryz.ntmps41 rfl ?_
 intro w F hs
 refine Y22 ?_
 exact Xb (Xo rfl rfl) ⟨g, [], Ghost.rfl', hs, rfl, rfl⟩
abbrev Rd := Nat × List Nat × List Nat
section
variable (n : Nat) (ls : List Arrow) (all : List Nat) (pairs : List (Nat × Nat))
def endOf (way : List Nat) (x : Nat) : Nat := if 0 < way.length then Yk ls (way.getD (way.length - 1) 0) else x
def findC (p : List Nat × List Nat) : List Nat → Option (Option Rd)
 | [] => some none
 | x :: xs => match pathF ls (fun _ => true) (fun y => p.1.contains y) x with
  | some (way, true) => if (way.all (fun k => decide (k < ls.length)) && decide (way.length ≤ 4000000000)) = true then (aroundR ls (endOf ls way x) p.2 all pairs).map fun lo => some (x, way, lo) else none
  | some (_, false) => findC p xs
  | none => none
def okG (p : List Nat × List Nat) : Bool := Ky p.1 && decide (p.1.length ≤ 20000) && p.2.all (fun k => decide (k < ls.length)) && decide (0 < p.2.length) && decide (p.2.length ≤ 4000000000)
def findG (init : List Nat) : GL → Option (Option Rd)
  | [] => some none
  | p :: ps => if okG ls p = true then match findC ls all pairs p init with
      | some (some r) => some (some r)
      | some none => findG init ps
      | none => none
    else none
def findR (init : List Nat) : Option (Option Rd) := match Ql (nxF ls) init with
  | some reached => if (reached.all (fun x => decide (x < n)) && decide (reached.length ≤ 20000)) = true then match Kb n ls all pairs 400 reached (List.replicate ls.length true) with
      | some xs => findG ls all pairs init xs
      | none => none
    else none
  | none => none
end
theorem strictly_sorted {c : List Nat} (h : Ky c = true) : c.Pairwise (· ≤ ·) := by
 rw [List.pairwise_iff_getElem]
 intro i j hi hj hij
 have key : ∀ d, ∀ (h2 : i + d < c.length), c[i] ≤ c[i + d] := by
  intro d
  induction d with
  | zero => intro _; exact Nat.le_refl _
  | succ d ih => intro h2; exact Nat.le_trans (ih (by omega)) (Nat.le_of_lt (strictly_at h (by omega)))
 have := key (j - i) (by omega)
 simpa [show i + (j - i) = j by omega] using this
def findI (n : Int) (init : List Int) (ls : List ArrowI) (all : List Int) (pairs : List (Int × Int)) : Option (Option Rd × Int) :=
 if Xz n init ls all pairs = 0 then (findR n.toNat (ls.map toA) (all.map Int.toNat) (pairs.map toP) (init.map Int.toNat)).map fun r => (r, 0) else some (none, Xz n init ls all pairs)
end
section
open Go.RowKit
theorem Find_spec (g : Ghost) (n : Int) (vi vl va vp : Value) (init : List Int) (ls : List ArrowI) (all : List Int) (pairs : List (Int × Int)) (hi : RS kInt g vi init) (hl : RS Jl g vl ls) (ha : RS kInt g va all) (hp : RS Vh g vp pairs)
    (hi0 : init.length ≤ 4611686018427387904) (hl0 : ls.length ≤ 4611686018427387904) (ha0 : all.length ≤ 4611686018427387904) (hp0 : pairs.length ≤ 4611686018427387904) (o : Option Rd × Int) (ho : findI n init ls all pairs = some o) :
    Cl PP 13 [.int .i64 n, vi, vl, .agg #[va, vp]] g [] fun g' L' r => L' = [] ∧ ∃ vs vlo, r = .tuple #[.agg #[.int .i64 ((o.1.getD (0, [], [])).1 : Int), vs, vlo], .bool o.1.isSome, .int .i64 o.2] ∧ RS kNat g' vs (o.1.getD (0, [], [])).2.1 ∧ RS kNat g' vlo (o.1.getD (0, [], [])).2.2 := by
  obtain ⟨a1, c1, rfl⟩ := hi.form;obtain ⟨a2, c2, rfl⟩ := hl.form;refine cl_introM Tryz.func13 rfl rfl Tryz.ntmps13 rfl ?_;intro w F hs;refine Y2 ?_;refine Yi hs rfl rfl rfl rfl ?_; clear hs; intro ix w hs;refine Yi hs rfl rfl rfl rfl ?_; clear hs; intro lx w hs;refine Yi hs rfl rfl rfl rfl ?_; clear hs; intro wx w hs;refine Yp hs rfl rfl rfl ?_; clear hs; intro b8 w hs
  refine Yp hs rfl rfl rfl ?_; clear hs; intro b9 w hs;refine Yp hs rfl rfl rfl ?_; clear hs; intro b10 w hs;refine zn ?_
  replace hs := (show St g w ((wx, Xa [va, vp] 26) :: (lx, Xa [.slice a2 ls.length c2] 23) :: (ix, Xa [.slice a1 init.length c1] 22) :: ((b8, Xa [.int .i64 0, .slice none 0 0, .slice none 0 0] 34) :: (b9, Xa [.bool false] 4) :: (b10, Xa [.int .i64 0] 40) :: F)) from St.perm (show St g w ((b10, Xa [.int .i64 0] 40) :: (b9, Xa [.bool false] 4) :: (b8, Xa [.int .i64 0, .slice none 0 0, .slice none 0 0] 34) :: (wx, Xa [va, vp] 26) :: (lx, Xa [.slice a2 ls.length c2] 23) :: (ix, Xa [.slice a1 init.length c1] 22) :: F) from hs) (by classical exact List.perm_iff_count.2 fun x => by simp only [List.append_eq, List.set_cons_succ, List.set_cons_zero, List.eraseIdx_cons_zero, List.eraseIdx_cons_succ, List.count_cons, List.count_append, List.cons_append, List.nil_append, List.append_nil, List.append_assoc] <;> ac_rfl))
  obtain ⟨g1, hg1, hs, hwx⟩ := freezeB hs;obtain ⟨g2, hg2, hs, hlx⟩ := freezeB hs;obtain ⟨g3, hg3, hs, hix⟩ := freezeB hs;replace hlx := hlx.mono hg3;replace hwx := hwx.mono (Ghost.tr hg2 hg3);have hg03 := Ghost.tr hg1 (Ghost.tr hg2 hg3);clear hg1 hg2 hg3;refine Y0 ?_;refine Xd hs (hix 0 _ rfl) rfl rfl rfl rfl rfl ?_;refine Xd hs (hlx 0 _ rfl) rfl rfl rfl rfl rfl ?_
  refine Yj hs (hwx.at') rfl rfl rfl rfl rfl rfl ?_;refine Xf (L := []) rfl rfl rfl hs (check_spec g3 n _ _ va vp init ls all pairs (hi.mono hg03) (hl.mono hg03) (ha.mono hg03) (hp.mono hg03) hi0 hl0 ha0 hp0) ?_;rintro u g4 L' w hg4 hs ⟨rfl, rfl⟩;have hg04 := Ghost.tr hg03 hg4;refine Y15 ?_
  refine Xi rfl (fun h1 => ?_) (fun h1 => ?_)
  · have h9 : ¬ Xz n init ls all pairs = 0 := by simpa using h1
    unfold findI at ho
    rw [if_neg h9] at ho
    cases ho;refine Y2 ?_;refine Yg (ps := []) rfl rfl rfl rfl rfl rfl rfl ?_;refine zP ?_;refine Yx hs 0 rfl rfl rfl rfl rfl (Nat.le_of_ble_eq_true rfl) rfl rfl ?_; clear hs; intro w hs;refine Yh hs 1 rfl rfl rfl rfl rfl rfl rfl rfl ?_; clear hs; intro w hs;refine Yh hs 2 rfl rfl rfl rfl rfl rfl rfl rfl ?_; clear hs; intro w hs;refine zn ?_
    refine wc_retV0 (resC3 (k1 := 0) (k2 := 1) (k3 := 2) hs rfl rfl rfl rfl rfl rfl rfl rfl rfl rfl rfl rfl rfl rfl) ⟨g4, [], hg04, hs.drop.drop.drop, rfl, _, _, rfl, RS.nil _ _ _ _, RS.nil _ _ _ _⟩
  · have hc : Xz n init ls all pairs = 0 := by simpa using h1
    have hC := Jn hc;have hnn : n = (n.toNat : Int) := (Int.toNat_of_nonneg hC.n0).symm;unfold findI at ho
    rw [if_pos hc] at ho
    obtain ⟨res, hres, hoc⟩ := Option.map_eq_some_iff.1 ho;subst hoc;have hV := hC.validG;have hW := hC.validW;have hA := hC.rsA hl;have hP := hC.rsP hp;have hI := hC.init.rs hi;have hAl := hC.all.rs ha
    have hin : ∀ x ∈ (init.map Int.toNat), x < n.toNat := fun x hx => by
      obtain ⟨y, hy, rfl⟩ := List.mem_map.1 hx;have := hC.init.low y hy;omega
    have hilen : (init.map Int.toNat).length = init.length := by simp
    have hilen2 : (init.map Int.toNat).length ≤ 20000 := by have := hC.init.len hC.n0; have := hC.n1; omega
    obtain ⟨reached, xs, hreach, hrl, hrn, hgood, hfind⟩ : ∃ reached xs, Ql (nxF (ls.map toA)) (init.map Int.toNat) = some reached ∧ reached.length ≤ 20000 ∧ (∀ x ∈ reached, x < n.toNat) ∧ Kb n.toNat (ls.map toA) (all.map Int.toNat) (pairs.map toP) 400 reached (List.replicate (ls.map toA).length true) = some xs ∧ findG (ls.map toA) (all.map Int.toNat) (pairs.map toP) (init.map Int.toNat) xs = some res := by
      unfold findR at hres
      split at hres
      · rename_i reached q
        split at hres
        · rename_i hok;simp only [Bool.and_eq_true] at hok
          split at hres
          · rename_i xs q2;exact ⟨reached, xs, q, of_decide_eq_true hok.2, fun x hx => of_decide_eq_true (List.all_eq_true.1 hok.1 x hx), q2, hres⟩
          · cases hres
        · cases hres
      · cases hres
    clear hres ho;refine Y57 ?_;refine Xd hs (hlx.mono hg4 0 _ rfl) rfl rfl rfl rfl rfl ?_;refine Xf (vs := [.int .i64 (n.toNat : Int), .slice a2 ls.length c2]) (L := []) (by rw [← hnn]; rfl) rfl rfl hs (Jd g4 n.toNat _ (ls.map toA) (hA.mono hg04) hV.size hV.len (fun a ha => (hV.ok a ha).1)) ?_;rintro gv g5 L' w hg5 hs ⟨rfl, hG⟩
    obtain ⟨gb, hgv⟩ : ∃ gb, gv = .pointer (some ⟨gb, 0, none⟩) := by obtain ⟨gb, _, _, _, _, rfl, _⟩ := hG; exact ⟨gb, rfl⟩
    subst hgv;refine Yp hs rfl rfl rfl ?_; clear hs; intro gx w hs;refine Yh hs 0 rfl rfl rfl rfl rfl rfl rfl rfl ?_; clear hs; intro w hs;refine zn ?_;obtain ⟨g6, hg6, hs, hgx⟩ := freezeB hs;replace hs := (show St g6 w ((b8, Xa [.int .i64 0, .slice none 0 0, .slice none 0 0] 34) :: (b9, Xa [.bool false] 4) :: (b10, Xa [.int .i64 0] 40) :: F) from hs)
    replace hG := hG.mono hg6;have hg46 := Ghost.tr hg5 hg6;have hg06 := Ghost.tr hg04 hg46;have hg36 := Ghost.tr hg4 hg46;refine Y0 ?_;refine Xd hs (hix.mono hg36 0 _ rfl) rfl rfl rfl rfl rfl ?_;refine Xd hs (hgx 0 _ rfl) rfl rfl rfl rfl rfl ?_;refine zP ?_
    refine Xf (vs := [.int .i64 (n.toNat : Int), .slice a1 init.length c1, .func (.func 35) #[.pointer (some ⟨gb, 0, none⟩)] #[]]) (L := []) (by rw [← hnn]; rfl) rfl rfl hs (closure_spec g6 n.toNat _ (init.map Int.toNat) 35 #[.pointer (some ⟨gb, 0, none⟩)] #[] (nxF (ls.map toA)) reached hV.size (hI.mono hg06) hin (by omega)
      (fun g' x hg' hx => next_spec g' _ n.toNat x (ls.map toA) (hG.mono hg') hV hx) (fun x hx => ⟨fun y hy => nxF_lt hV hy, by have h1 := nxF_len (ls.map toA) x; have h2 := hV.len; omega⟩) hreach) ?_
    rintro vr g7 L' w hg7 hs ⟨rfl, hrr⟩;have hg07 := Ghost.tr hg06 hg7;refine Y10 ?_;refine Yf 6 [] Yd (by kernel_rfl) rfl hs ?_;refine Xp (hgx.mono hg7 0 _ rfl) rfl rfl rfl rfl ?_;refine Xp (hgx.mono hg7 0 _ rfl) rfl rfl rfl rfl ?_;refine zC ?_
    refine Uf (post := fun g' L' r => L' = [] ∧ PieceR g' r n.toNat reached (List.replicate (ls.map toA).length true)) [] [] rfl rfl rfl (fun g' hg' => whole_spec g' _ vr n.toNat (ls.map toA) reached (hG.mono (Ghost.tr hg7 hg')) hV (hrr.mono hg') (by omega) hrn) ?_;refine Vm ((hwx.mono (Ghost.tr hg36 hg7)).at') rfl rfl rfl rfl rfl ?_
    refine sg_callW (post := fun g' L' r => L' = [] ∧ ∃ bx px wx v1 v2 v3, r = .func (.func 69) #[] #[.pointer (some ⟨bx, 0, none⟩), .pointer (some ⟨px, 0, none⟩), .pointer (some ⟨wx, 0, none⟩)] ∧
        Lies g' bx 0 [.pointer (some ⟨gb, 0, none⟩)] ∧ Lies g' px 0 [v1, v2, v3] ∧ Lies g' wx 0 [va, vp] ∧ RS kNat g' v1 reached ∧ RS Yt g' v2 (inF n.toNat reached) ∧ RS Yt g' v3 (List.replicate (ls.map toA).length true)) 42 [] [] rfl rfl rfl (fun _ => rfl) (fun _ => rfl) (fun g' g1 v L' hg1 ⟨g2, hg2, hL, hr⟩ hg' => by
      obtain ⟨v1, v2, v3, rfl, q1, q2, q3⟩ := hr
      refine (good_spec g' gb v1 v2 v3 va vp).mono fun g3 L3 r hg3 ⟨e, bx, px, wx, e2, l1, l2, l3⟩ => ⟨e, bx, px, wx, v1, v2, v3, e2, l1, l2, l3, ?_, ?_, ?_⟩
      · exact q1.mono (Ghost.tr hg2 (Ghost.tr hg' hg3))
      · exact q2.mono (Ghost.tr hg2 (Ghost.tr hg' hg3))
      · exact q3.mono (Ghost.tr hg2 (Ghost.tr hg' hg3))) ?_
    refine Xy ?_;intro g8 w hg8;rintro _ _ ⟨_, _, rfl, _⟩ u _ ⟨g9, hg9, rfl, bx, px, wx2, v1, v2, v3, rfl, l1, l2, l3, q1, q2, q3⟩ hs;refine zn ?_;have hg08 := Ghost.tr hg07 hg8;have hg68 := Ghost.tr hg7 hg8;have hg38 := Ghost.tr hg36 hg68
    have hit := good_it n.toNat (ls.map toA) (all.map Int.toNat) (pairs.map toP) hV hW 400 reached (List.replicate (ls.map toA).length true) g8 _ v1 v2 v3 va vp bx px wx2 xs hgood (hG.mono hg68) (q1.mono hg9) (q2.mono hg9) (q3.mono hg9) (hAl.mono hg08) (hP.mono hg08) (by simp) hrl hrn (l1.mono hg9) (l2.mono hg9) (l3.mono hg9)
    replace hs := (show St g8 w ([(b8, Xa [.int .i64 0, .slice none 0 0, .slice none 0 0] 34), (b9, Xa [.bool false] 4), (b10, Xa [.int .i64 0] 40)] ++ F) from hs)
    refine Yc (wc_range (fun pre g' L => L = [(b8, Xa [.int .i64 0, .slice none 0 0, .slice none 0 0] 34), (b9, Xa [.bool false] 4), (b10, Xa [.int .i64 0] 40)] ∧ findG (ls.map toA) (all.map Int.toNat) (pairs.map toP) (init.map Int.toNat) (xs.drop pre.length) = some res) (fun c g' L => c = .ret ∧ ∃ r vs vlo, res = some r ∧ L = [(b8, Xa [.int .i64 (r.1 : Int), vs, vlo] 34), (b9, Xa [.bool true] 4), (b10, Xa [.int .i64 0] 40)] ∧ RS kNat g' vs r.2.1 ∧ RS kNat g' vlo r.2.2) rfl hit hs rfl (fun g x vs ⟨v1, v2, e, _⟩ => by rw [e]; rfl)
      (fun pre g g' L hle h => h) (fun c g g' L hle ⟨e0, r, vs, vlo, e1, e2, e3, e4⟩ => ⟨e0, r, vs, vlo, e1, e2, e3.mono hle, e4.mono hle⟩) ⟨rfl, hfind⟩ ?_ ?_ ?_)
    · rintro l2 rc pre p post g9 w L1 F1 vs hready hpre ⟨rfl, hfd⟩ ⟨w1, w2, rfl, hw1, hw2⟩ hg9 hs;have hg09 := Ghost.tr hg08 hg9;have hg69 := Ghost.tr hg68 hg9;have hg39 := Ghost.tr hg38 hg9;have hdrop : xs.drop pre.length = p :: post := by rw [hpre]; simp
      have hdrop2 : xs.drop (pre ++ [p]).length = post := by rw [hpre]; simp
      rw [hdrop] at hfd
      obtain ⟨hok, hfd⟩ : okG (ls.map toA) p = true ∧ (match findC (ls.map toA) (all.map Int.toNat) (pairs.map toP) p (init.map Int.toNat) with | some (some r) => some (some r) | some none => findG (ls.map toA) (all.map Int.toNat) (pairs.map toP) (init.map Int.toNat) post | none => none) = some res := by
        unfold findG at hfd
        split at hfd
        · rename_i q; exact ⟨q, hfd⟩
        · cases hfd
      simp only [okG, Bool.and_eq_true] at hok
      obtain ⟨⟨⟨⟨ok1, ok2⟩, ok3⟩, ok4⟩, ok5⟩ := hok;obtain ⟨aw1, cw1, rfl⟩ := hw1.form;obtain ⟨aw2, cw2, rfl⟩ := hw2.form;refine Y2 ?_;refine Yp hs rfl rfl rfl ?_; clear hs; intro cb w hs;refine Yh hs 0 rfl rfl rfl rfl rfl rfl rfl rfl ?_; clear hs; intro w hs;refine zn ?_;obtain ⟨g10, hg10, hs, hcb⟩ := freezeB hs
      replace hs := (show St g10 w ((l2, .loop rc) :: ([(b8, Xa [.int .i64 0, .slice none 0 0, .slice none 0 0] 34), (b9, Xa [.bool false] 4), (b10, Xa [.int .i64 0] 40)] ++ F1)) from hs)
      refine Y5 ?_;refine Xn (wk_begin 0 hs rfl hready ?_);clear hs; intro w hs;replace hs := (show St g10 w ((l2, .loop { rc with state := .busy }) :: ([(b8, Xa [.int .i64 0, .slice none 0 0, .slice none 0 0] 34), (b9, Xa [.bool false] 4), (b10, Xa [.int .i64 0] 40)] ++ F1)) from hs)
      refine Yc ?_;refine Y13 ?_;refine Xd hs (hix.mono (Ghost.tr hg39 hg10) 0 _ rfl) rfl rfl rfl rfl rfl ?_;refine Y7 ?_;have hil : init.length ≤ 4611686018427387904 := hi0;replace hw1 := hw1.mono hg10;replace hw2 := hw2.mono hg10;have hg010 := Ghost.tr hg09 hg10;have hg610 := Ghost.tr hg69 hg10;have hg310 := Ghost.tr hg39 hg10
      refine Yw init.length (fun _ _ => [(49, .int .i64 init.length), (48, .slice a1 init.length c1), (16, .func (.func 38) #[] #[.pointer (some ⟨cb, 0, none⟩)]), (15, .slice aw2 p.2.length cw2), (8, .pointer (some ⟨b8, 0, none⟩)), (9, .pointer (some ⟨b9, 0, none⟩)), (10, .pointer (some ⟨b10, 0, none⟩)), (5, .pointer (some ⟨ix, 0, none⟩)), (6, .pointer (some ⟨lx, 0, none⟩)), (7, .pointer (some ⟨wx, 0, none⟩)), (12, .pointer (some ⟨gx, 0, none⟩))])
        (fun j (_ : Unit) w => ∃ g', g10 ≤ g' ∧ (match findC (ls.map toA) (all.map Int.toNat) (pairs.map toP) p ((init.map Int.toNat).drop j) with | some (some r) => some (some r) | some none => findG (ls.map toA) (all.map Int.toNat) (pairs.map toP) (init.map Int.toNat) post | none => none) = some res ∧ St g' w ((l2, .loop { rc with state := .busy }) :: ([(b8, Xa [.int .i64 0, .slice none 0 0, .slice none 0 0] 34), (b9, Xa [.bool false] 4), (b10, Xa [.int .i64 0] 40)] ++ F1))) () hil ⟨rfl, rfl, rfl, rfl, rfl, rfl, rfl, rfl, rfl, rfl, rfl, rfl, trivial⟩ ⟨g10, Ghost.rfl', hfd, hs⟩ (fun _ _ => rfl) rfl rfl rfl ?_ ?_ (fun _ _ => rfl) rfl
      · rintro j _ w hj ⟨g11, hg11, hfc, hs⟩;have hg011 := Ghost.tr hg010 hg11;have hg611 := Ghost.tr hg610 hg11;have hg311 := Ghost.tr hg310 hg11;have hb := hi.base hj;have hj2 : j < (init.map Int.toNat).length := by simpa using hj
        have hcx := (hI.mono hg011).nat hj2;have hxn : (init.map Int.toNat)[j] < n.toNat := hin _ (List.getElem_mem hj2);rw [List.drop_eq_getElem_cons hj2] at hfc
        generalize (init.map Int.toNat)[j] = x at hcx hxn hfc
        cases hpf : pathF (ls.map toA) (fun _ => true) (fun y => p.1.contains y) x with
        | none => rw [findC, hpf] at hfc; cases hfc
        | some o2 =>
        obtain ⟨way, isw⟩ := o2;rw [findC, hpf] at hfc
        refine Y2 ?_;refine Yb rfl rfl rfl rfl rfl (by omega) (hb) rfl rfl ?_;refine Xd hs (hcx) rfl rfl rfl rfl rfl ?_;refine Y6 ?_;refine Xd hs (hgx.mono hg611 0 _ rfl) rfl rfl rfl rfl rfl ?_;refine zP ?_
        refine Xf (L := []) rfl rfl rfl hs (path_spec g11 _ n.toNat x (ls.map toA) (fun _ => true) (fun y => p.1.contains y) 41 38 #[] #[] #[] #[.pointer (some ⟨cb, 0, none⟩)] (way, isw) (hG.mono hg611) hV hxn
          (fun g' k _ _ => yes_spec g' k) (fun g' y hg' _ => inC_spec g' cb y _ p.1 (hcb.mono (Ghost.tr hg11 hg')) (hw1.mono (Ghost.tr hg11 hg')) (of_decide_eq_true ok2) (strictly_sorted ok1)) hpf) ?_
        rintro u g12 L' w hg12 hs ⟨rfl, vw, rfl, hrw⟩;replace hrw : RS kNat g12 vw way := hrw;obtain ⟨aw, cw, rfl⟩ := hrw.form;replace hs := (show St g12 w ((l2, .loop { rc with state := .busy }) :: ([(b8, Xa [.int .i64 0, .slice none 0 0, .slice none 0 0] 34), (b9, Xa [.bool false] 4), (b10, Xa [.int .i64 0] 40)] ++ F1)) from hs)
        refine Y15 ?_;have hg012 := Ghost.tr hg011 hg12;have hg612 := Ghost.tr hg611 hg12;have hg312 := Ghost.tr hg311 hg12;cases isw with
        | false =>
          refine zT ?_;exact Zm rfl (Xx () hj hil ⟨g12, Ghost.tr hg11 hg12, hfc, hs⟩ rfl rfl rfl ⟨rfl, rfl, rfl, rfl, rfl, rfl, rfl, rfl, rfl, rfl, rfl, trivial⟩)
        | true =>
          simp only at hfc
          obtain ⟨hwok0, lo, hlo, hres⟩ : (way.all (fun k => decide (k < (ls.map toA).length)) && decide (way.length ≤ 4000000000)) = true ∧ ∃ lo, aroundR (ls.map toA) (endOf (ls.map toA) way x) p.2 (all.map Int.toNat) (pairs.map toP) = some lo ∧ res = some (x, way, lo) := by
            split at hfc
            · rename_i r q
              split at q
              · rename_i hok;obtain ⟨lo, h1, h2⟩ := Option.map_eq_some_iff.1 q;simp only [Option.some.injEq] at h2
                cases hfc;exact ⟨hok, lo, h1, by rw [h2]⟩
              · cases q
            · rename_i q
              split at q
              · obtain ⟨lo, h1, h2⟩ := Option.map_eq_some_iff.1 q;cases h2
              · cases q
            · cases hfc
          simp only [Bool.and_eq_true] at hwok0
          obtain ⟨hwok, hwl0⟩ := hwok0;have hwl : way.length ≤ 4000000000 := of_decide_eq_true hwl0;have hwlt : ∀ k ∈ way, k < (ls.map toA).length := fun k hk => of_decide_eq_true (List.all_eq_true.1 hwok k hk)
          refine Yy rfl rfl (Xq (Zl ?_));refine Y22 ?_
          have hatn : endOf (ls.map toA) way x < n.toNat := by
            unfold endOf
            split
            · rename_i hw0;have hkl := hwlt _ (List.getElem_mem (show way.length - 1 < way.length by omega));have e1 : way.getD (way.length - 1) 0 = way[way.length - 1] := by simp [show way.length - 1 < way.length by omega]
              rw [e1];simp only [Yk, List.getElem?_eq_getElem hkl];exact (hV.ok _ (List.getElem_mem hkl)).2.1
            · exact hxn
          refine wc_meetK (fun (_ : Unit) => [(21, .int .i64 (endOf (ls.map toA) way x : Int)), (18, .int .i64 (x : Int)), (19, .slice aw way.length cw), (15, .slice aw2 p.2.length cw2), (8, .pointer (some ⟨b8, 0, none⟩)), (9, .pointer (some ⟨b9, 0, none⟩)), (10, .pointer (some ⟨b10, 0, none⟩)), (5, .pointer (some ⟨ix, 0, none⟩)), (6, .pointer (some ⟨lx, 0, none⟩)), (7, .pointer (some ⟨wx, 0, none⟩)), (12, .pointer (some ⟨gx, 0, none⟩))]) (fun _ w => ∃ g', g12 ≤ g' ∧ St g' w ((l2, .loop { rc with state := .busy }) :: ([(b8, Xa [.int .i64 0, .slice none 0 0, .slice none 0 0] 34), (b9, Xa [.bool false] 4), (b10, Xa [.int .i64 0] 40)] ++ F1))) ?_ ?_
          · refine Xi rfl (fun hw0 => ?_) (fun hw0 => ?_)
            · have hw0' : 0 < way.length := by have := of_decide_eq_true hw0; omega
              have hlast : way.length - 1 < way.length := by omega
              obtain ⟨k, hk⟩ : ∃ k, way[way.length - 1] = k := ⟨_, rfl⟩
              have hkl : k < (ls.map toA).length := hk ▸ hwlt _ (List.getElem_mem hlast)
              have e1 : endOf (ls.map toA) way x = (ls.map toA)[k].to := by
                unfold endOf;rw [if_pos hw0', show way.getD (way.length - 1) 0 = k by rw [← hk]; simp [hlast]];simp only [Yk, List.getElem?_eq_getElem hkl]
              have hbw := hrw.base hlast;have hcw := hrw.nat hlast;rw [hk] at hcw
              rw [e1];have hA12 := hA.mono hg012;have hcur := hs;obtain ⟨lb, lo2, rfl⟩ := RS.base hA12 hkl;have hcA := RS.enc hA12 hkl;have hll : (ls.map toA).length = ls.length := by simp
              refine zQ ?_;refine Yf 10 [] Yd (by kernel_rfl) rfl hcur ?_;refine Xp (hlx.mono hg312 0 _ rfl) rfl rfl rfl rfl ?_;refine zC ?_;refine sg_arK ((way.length - 1 : Nat) : Int) rfl rfl (pred_ar hw0') (by omega) rfl ?_;refine Uc rfl rfl rfl rfl rfl (by omega) hbw rfl ?_;refine Xp (hcw) rfl rfl rfl rfl ?_
              refine Uc rfl rfl rfl rfl rfl (by omega) ⟨lb, lo2, rfl⟩ rfl ?_;refine zC ?_;refine Xp (hcA 1 _ rfl) rfl rfl rfl rfl ?_;refine Xy ?_;intro g13 w hg13;intro hs;refine zP ?_;exact Xn (Vl () ⟨rfl, rfl, rfl, rfl, rfl, rfl, rfl, rfl, rfl, rfl, rfl, trivial⟩ ⟨g13, hg13, hs⟩)
            · have hw0' : ¬ 0 < way.length := by have := of_decide_eq_false hw0; omega
              have e1 : endOf (ls.map toA) way x = x := by unfold endOf; rw [if_neg hw0']
              rw [e1];exact Xq (Vl () ⟨rfl, rfl, rfl, rfl, rfl, rfl, rfl, rfl, rfl, rfl, rfl, trivial⟩ ⟨g12, Ghost.rfl', hs⟩)
          · rintro _ w ⟨g13, hg13, hs⟩;have hg1013 := Ghost.tr hg11 (Ghost.tr hg12 hg13);have hg013 := Ghost.tr hg010 hg1013;refine Y0 ?_;refine Xd hs (hgx.mono (Ghost.tr hg610 hg1013) 0 _ rfl) rfl rfl rfl rfl rfl ?_;refine zP ?_;refine Yj hs ((hwx.mono (Ghost.tr hg310 hg1013)).at') rfl rfl rfl rfl rfl rfl ?_
            refine Xf (L := []) rfl rfl rfl hs (around_spec g13 _ _ va vp n.toNat (endOf (ls.map toA) way x) (ls.map toA) p.2 (all.map Int.toNat) (pairs.map toP) lo (hG.mono (Ghost.tr hg610 hg1013)) hV hW hatn (hw2.mono hg1013) (by have := of_decide_eq_true ok5; omega) (fun i hi => of_decide_eq_true (List.all_eq_true.1 ok3 i hi)) (of_decide_eq_true ok4) (hAl.mono hg013) (hP.mono hg013) hlo) ?_
            rintro vlo g14 L' w hg14 hs ⟨rfl, hrlo⟩;obtain ⟨alo, clo, rfl⟩ := hrlo.form;refine Yg (ps := [(0, .tmp 77), (1, .tmp 78), (2, .tmp 83)]) rfl rfl rfl rfl rfl rfl rfl ?_;refine Yx (cs := [.int .i64 (x : Int), .slice aw way.length cw, .slice alo lo.length clo]) hs 1 rfl rfl rfl rfl rfl (Nat.le_of_ble_eq_true rfl) rfl rfl ?_;clear hs; intro w hs
            refine Yh hs 2 rfl rfl rfl rfl rfl rfl rfl rfl ?_; clear hs; intro w hs;refine Yh hs 3 rfl rfl rfl rfl rfl rfl rfl rfl ?_; clear hs; intro w hs;refine zn ?_
            refine wc_ret fun _ _ => ⟨g14, [(b8, Xa [.int .i64 (x : Int), .slice aw way.length cw, .slice alo lo.length clo] 34), (b9, Xa [.bool true] 4), (b10, Xa [.int .i64 0] 40)], Ghost.tr hg10 (Ghost.tr hg1013 hg14), hs, rfl, (x, way, lo), _, _, hres, rfl, hrw.mono (Ghost.tr hg13 hg14), hrlo⟩
      · rintro _ w ⟨g11, hg11, hfc, hs⟩;rw [List.drop_of_length_le (by omega)] at hfc
        exact Xh (wk_nil fun _ _ => ⟨g11, [(b8, Xa [.int .i64 0, .slice none 0 0, .slice none 0 0] 34), (b9, Xa [.bool false] 4), (b10, Xa [.int .i64 0] 40)], Ghost.tr hg10 hg11, hs, rfl, by rw [hdrop2]; exact hfc⟩)
    · rintro dk g9 w L' hg9 ⟨rfl, hfd⟩ hs;rw [List.drop_length] at hfd
      cases hfd;refine Xh (Zl ?_);refine Y2 ?_;refine Yg (ps := []) rfl rfl rfl rfl rfl rfl rfl ?_;refine Yx hs 1 rfl rfl rfl rfl rfl (Nat.le_of_ble_eq_true rfl) rfl rfl ?_; clear hs; intro w hs;refine Yh hs 2 rfl rfl rfl rfl rfl rfl rfl rfl ?_; clear hs; intro w hs;refine Yh hs 3 rfl rfl rfl rfl rfl rfl rfl rfl ?_; clear hs; intro w hs;refine zn ?_
      refine wc_retM 0 hs rfl fun w' hs => ⟨_, resC3 (k1 := 0) (k2 := 1) (k3 := 2) hs rfl rfl rfl rfl rfl rfl rfl rfl rfl rfl rfl rfl rfl rfl, g9, [], Ghost.tr hg08 hg9, ?_, rfl, _, _, rfl, RS.nil _ _ _ _, RS.nil _ _ _ _⟩
      exact hs.drop.drop.drop
    · rintro dk cd g9 w L' hg9 ⟨rfl, r, vs, vlo, rfl, rfl, r1, r2⟩ hs;refine wc_retM 0 hs rfl fun w' hs => ⟨_, resC3 (k1 := 0) (k2 := 1) (k3 := 2) hs rfl rfl rfl rfl rfl rfl rfl rfl rfl rfl rfl rfl rfl rfl, g9, [], Ghost.tr hg08 hg9, ?_, rfl, _, _, rfl, r1, r2⟩
      exact hs.drop.drop.drop
end
section
open Go.RowKit
inductive Drop where
 | mk (kind n : Int) (nodes rank : List Int) (l : List Drop)
def Drop.kind : Drop → Int
 | .mk k _ _ _ _ => k
def Drop.n : Drop → Int
 | .mk _ n _ _ _ => n
def Drop.nodes : Drop → List Int
 | .mk _ _ x _ _ => x
def Drop.rank : Drop → List Int
 | .mk _ _ _ r _ => r
def Drop.l : Drop → List Drop
 | .mk _ _ _ _ l => l
def DropRn : Nat → Ghost → List Value → Drop → Prop
  | 0, _, _, _ => False
  | k + 1, g, cs, d => ∃ vn vr vl, cs = [.int .i64 d.kind, .int .i64 d.n, vn, vr, vl] ∧ RS kInt g vn d.nodes ∧ RS kInt g vr d.rank ∧
      ∃ a cap, vl = .slice a d.l.length cap ∧ (d.l = [] ∨ ∃ b o, a = some ⟨b, o, none⟩ ∧ ∀ i (h : i < d.l.length), ∃ cs, DropRn k g cs d.l[i] ∧ Lies g b (o + i * 5) cs)
theorem DropRn.len : ∀ {k : Nat} {g : Ghost} {cs : List Value} {d : Drop}, DropRn k g cs d → cs.length = 5
 | 0, _, _, _, h => h.elim
 | k + 1, g, cs, d, h => by obtain ⟨vn, vr, vl, rfl, _⟩ := h; rfl
theorem DropRn.mono : ∀ {k : Nat} {g g' : Ghost} {cs : List Value} {d : Drop}, g ≤ g' → DropRn k g cs d → DropRn k g' cs d
 | 0, _, _, _, _, _, h => h.elim
 | k + 1, g, g', cs, d, hg, h => by
  obtain ⟨vn, vr, vl, e, h1, h2, a, cap, e2, h3⟩ := h;refine ⟨vn, vr, vl, e, h1.mono hg, h2.mono hg, a, cap, e2, ?_⟩
  rcases h3 with h3 | ⟨b, o, e3, h3⟩
  ·exact .inl h3
  ·exact .inr ⟨b, o, e3, fun i hi => let ⟨cs, q1, q2⟩ := h3 i hi; ⟨cs, DropRn.mono hg q1, q2.mono hg⟩⟩
def kDrop (k : Nat) : Kd Drop := ⟨5, DropRn k, fun h => h.len, fun hg h => DropRn.mono hg h⟩
theorem DropRn.open' {k : Nat} {g : Ghost} {cs : List Value} {d : Drop} (h : DropRn (k + 1) g cs d) : ∃ vn vr vl, cs = [.int .i64 d.kind, .int .i64 d.n, vn, vr, vl] ∧ RS kInt g vn d.nodes ∧ RS kInt g vr d.rank ∧ RS (kDrop k) g vl d.l := h
theorem DropRn.close {k : Nat} {g : Ghost} {vn vr vl : Value} {d : Drop} (h1 : RS kInt g vn d.nodes) (h2 : RS kInt g vr d.rank) (h3 : RS (kDrop k) g vl d.l) : DropRn (k + 1) g [.int .i64 d.kind, .int .i64 d.n, vn, vr, vl] d := ⟨vn, vr, vl, rfl, h1, h2, h3⟩
def Zr (d : Drop) (n rank : Bool) (many : Int) : Bool := (n || d.n == 0) && (rank || (d.rank.length : Int) == 0) && (decide (many < 0) || (d.l.length : Int) == many)
theorem plain_spec (g : Ghost) (k : Nat) (cs : List Value) (d : Drop) (n rank : Bool) (many : Int) (hd : DropRn k g cs d) :
  Cl PP 94 [.agg cs.toArray, .bool n, .bool rank, .int .i64 many] g [] (Det (.bool (Zr d n rank many))) := by
 cases k with
 | zero => exact hd.elim
 | succ k =>
 obtain ⟨vn, vr, vl, rfl, h1, h2, h3⟩ := hd.open'
 obtain ⟨an, cn, rfl⟩ := h1.form
 obtain ⟨ar, cr, rfl⟩ := h2.form
 obtain ⟨al, cl, rfl⟩ := h3.form
 refine Xj Tryz.func94 rfl rfl Tryz.ntmps94 rfl ?_
 intro w F hs
 refine Y2 ?_
 refine Yi hs rfl rfl rfl rfl ?_; clear hs; intro db w hs
 refine Y7 ?_
 replace hs := (show St g w ((db, Xa [.int .i64 d.kind, .int .i64 d.n, .slice an d.nodes.length cn, .slice ar d.rank.length cr, .slice al d.l.length cl] 62) :: F) from hs)
 have fin : ∀ b, b = Zr d n rank many → ∃ g' L', g ≤ g' ∧ St g' w (L' ++ F) ∧ Det (.bool (Zr d n rank many)) g' L' (.bool b) := fun b hb => ⟨g, [], Ghost.rfl', hs.drop, rfl, by rw [hb]⟩
 refine Y21 ?_
 refine Xr 10 rfl (fun h1 => ?_) (fun h1 => ?_)
 ·refine zA ?_
  refine Xr 17 rfl (fun h2 => ?_) (fun h2 => ?_)
  ·refine zA ?_
   refine Xr 27 rfl (fun h3 => ?_) (fun h3 => ?_)
   ·refine Y31 ?_;exact Xb (Xo rfl rfl) (fin _ (by simp only [Zr, h3, h1, h2, Bool.true_or, Bool.false_or, Bool.true_and, Bool.false_and, Bool.and_true, Bool.and_false, Bool.or_true]))
   ·refine Y31 ?_;exact Xb (Xo rfl rfl) (fin _ (by simp only [Zr, h3, h1, h2, Bool.true_or, Bool.false_or, Bool.true_and, Bool.false_and, Bool.and_true, Bool.and_false, Bool.or_true]))
  ·refine zA ?_
   refine Xr 24 rfl (fun h4 => ?_) (fun h4 => ?_)
   ·refine zA ?_
    refine Xr 27 rfl (fun h3 => ?_) (fun h3 => ?_)
    ·refine Y31 ?_;exact Xb (Xo rfl rfl) (fin _ (by simp only [Zr, h3, h1, h2, h4, Bool.true_or, Bool.false_or, Bool.true_and, Bool.false_and, Bool.and_true, Bool.and_false, Bool.or_true]))
    ·refine Y31 ?_;exact Xb (Xo rfl rfl) (fin _ (by simp only [Zr, h3, h1, h2, h4, Bool.true_or, Bool.false_or, Bool.true_and, Bool.false_and, Bool.and_true, Bool.and_false, Bool.or_true]))
   ·refine Y31 ?_;exact Xb (Xo rfl rfl) (fin _ (by simp only [Zr, h1, h2, h4, Bool.true_or, Bool.false_or, Bool.true_and, Bool.false_and, Bool.and_true, Bool.and_false, Bool.or_true]))
 ·refine zA ?_
  refine Xr 15 rfl (fun h5 => ?_) (fun h5 => ?_)
  ·refine zA ?_
   refine Xr 17 rfl (fun h2 => ?_) (fun h2 => ?_)
   ·refine zA ?_
    refine Xr 27 rfl (fun h3 => ?_) (fun h3 => ?_)
    ·refine Y31 ?_;exact Xb (Xo rfl rfl) (fin _ (by simp only [Zr, h3, h1, h5, h2, Bool.true_or, Bool.false_or, Bool.true_and, Bool.false_and, Bool.and_true, Bool.and_false, Bool.or_true]))
    ·refine Y31 ?_;exact Xb (Xo rfl rfl) (fin _ (by simp only [Zr, h3, h1, h5, h2, Bool.true_or, Bool.false_or, Bool.true_and, Bool.false_and, Bool.and_true, Bool.and_false, Bool.or_true]))
   ·refine zA ?_
    refine Xr 24 rfl (fun h4 => ?_) (fun h4 => ?_)
    ·refine zA ?_
     refine Xr 27 rfl (fun h3 => ?_) (fun h3 => ?_)
     ·refine Y31 ?_;exact Xb (Xo rfl rfl) (fin _ (by simp only [Zr, h3, h1, h5, h2, h4, Bool.true_or, Bool.false_or, Bool.true_and, Bool.false_and, Bool.and_true, Bool.and_false, Bool.or_true]))
     ·refine Y31 ?_;exact Xb (Xo rfl rfl) (fin _ (by simp only [Zr, h3, h1, h5, h2, h4, Bool.true_or, Bool.false_or, Bool.true_and, Bool.false_and, Bool.and_true, Bool.and_false, Bool.or_true]))
    ·refine Y31 ?_;exact Xb (Xo rfl rfl) (fin _ (by simp only [Zr, h1, h5, h2, h4, Bool.true_or, Bool.false_or, Bool.true_and, Bool.false_and, Bool.and_true, Bool.and_false, Bool.or_true]))
  ·refine Y31 ?_;exact Xb (Xo rfl rfl) (fin _ (by simp only [Zr, h1, h5, Bool.true_or, Bool.false_or, Bool.true_and, Bool.false_and, Bool.and_true, Bool.and_false, Bool.or_true]))
end
section
open Go.RowKit
theorem RS.ofNat {g : Ghost} {v : Value} {xs : List Nat} (h : RS kNat g v xs) : RS kInt g v (xs.map Int.ofNat) := h.conv (K' := kInt) Int.ofNat rfl fun _ _ _ _ hr => hr
theorem equal_spec (g : Ghost) (v u : Value) (xs ys : List Int) (hv : RS kInt g v xs) (hu : RS kInt g u ys) (hl : xs.length ≤ 4611686018427387904) : Cl PP 20 [v, u] g [] (Det (.bool (decide (xs = ys)))) := by
 obtain ⟨a1, c1, rfl⟩ := hv.form
 obtain ⟨a2, c2, rfl⟩ := hu.form
 refine Xj Tryz.func20 rfl rfl Tryz.ntmps20 rfl ?_
 intro w F hs
 refine Y22 ?_
 refine Xi rfl (fun h => ?_) (fun h => ?_)
 ·refine Y1 ?_;refine Xb (Xo rfl rfl) ⟨g, [], Ghost.rfl', hs, rfl, ?_⟩
  have : ¬ xs = ys := by
   intro e;subst e;have h9 : (!((xs.length : Int) == (xs.length : Int))) = true := h;simp at h9
  rw [decide_eq_false this]
 ·have hlen : xs.length = ys.length := by
   have h9 : (!((xs.length : Int) == (ys.length : Int))) = false := h;have : (xs.length : Int) = (ys.length : Int) := by simpa using h9
   omega
  refine zS ?_;refine Y1 ?_
  refine Yw xs.length (fun _ _ => [(12, .int .i64 xs.length), (0, .slice a1 xs.length c1), (1, .slice a2 ys.length c2)]) (fun i (g' : Ghost) w => g ≤ g' ∧ St g' w F ∧ ∀ j (h : j < i) (h1 : j < xs.length) (h2 : j < ys.length), xs[j] = ys[j]) g hl ⟨rfl, rfl, rfl, rfl, trivial⟩ ⟨Ghost.rfl', hs, fun j h => by omega⟩ (fun _ _ => rfl) rfl rfl rfl ?_ ?_ (fun _ _ => rfl) rfl
  ·rintro i g1 w hi ⟨hg1, hs, hj⟩;have hi2 : i < ys.length := by omega
   have hb1 := hv.base hi;have hb2 := hu.base hi2;have hc1 := (hv.mono hg1).int hi;have hc2 := (hu.mono hg1).int hi2;refine Y11 ?_;refine Yf 9 [] Yd (by kernel_rfl) rfl hs ?_;refine zC ?_;refine Uc rfl rfl rfl rfl rfl (by omega) (hb1) rfl ?_;refine Xp (hc1) rfl rfl rfl rfl ?_;refine zC ?_;refine Uc rfl rfl rfl rfl rfl (by omega) (hb2) rfl ?_
   refine Xp (hc2) rfl rfl rfl rfl ?_;refine zC ?_;refine Xy ?_;intro g2 w hg2;intro hs;refine zn ?_
   refine Xi rfl (fun h => ?_) (fun h => ?_)
   ·refine Y1 ?_;refine Xb (Xo rfl rfl) ⟨g2, [], Ghost.tr hg1 hg2, hs, rfl, ?_⟩
    have : ¬ xs = ys := by
     intro e;have h9 : (!(xs[i] == ys[i])) = true := h;have : xs[i] = ys[i] := by simp only [e]
     rw [this] at h9
     simp at h9
    rw [decide_eq_false this]
   ·refine Xq (Xh (Xx g2 hi hl ⟨Ghost.tr hg1 hg2, hs, fun j h1 h2 h3 => ?_⟩ rfl rfl rfl ⟨rfl, rfl, rfl, trivial⟩))
    by_cases e : j = i
    ·subst e;have h9 : (!(xs[j] == ys[j])) = false := h;simpa using h9
    ·exact hj j (by omega) h2 h3
  ·rintro g1 w ⟨hg1, hs, hj⟩;refine Y24 ?_;refine Xb (Xo rfl rfl) ⟨g1, [], hg1, hs, rfl, ?_⟩;have : xs = ys := List.ext_getElem hlen fun j h1 h2 => hj j h1 h1 h2
   rw [decide_eq_true this]
section
variable (ls : List Arrow) (all : List Nat) (pairs : List (Nat × Nat))
def Vg (nodes : List Nat) (rank : List Nat) (i k : Nat) : List Nat := ((List.range i).filter fun j => decide (rank.getD j 0 = k)).map fun j => nodes.getD j 0
def rankM (nodes : List Nat) (rank : List Nat) (i : Nat) : List (Nat × Nat) := (List.range i).foldl (fun m j => sk m (nodes.getD j 0) (rank.getD j 0)) []
def ranksF (rec : Drop → List Nat → List Bool → Nat → Bool) (d : Drop) (nodes : List Nat) (on : List Bool) (l : List Nat) (deep : Nat) : Bool :=
 if d.rank.length ≠ nodes.length ∨ d.l.length = 0 then false
 else if d.rank.all (fun k => decide (0 ≤ k) && decide (k < d.l.length)) = false then false
 else if l.any (fun i => decide (Xg (rankM nodes (d.rank.map Int.toNat) nodes.length) (Vf ls i) < Xg (rankM nodes (d.rank.map Int.toNat) nodes.length) (Yk ls i))) = true then false
 else (List.range d.l.length).all fun k => decide ((Vg nodes (d.rank.map Int.toNat) nodes.length k).length ≠ 0) && (match d.l[k]? with
  | some e => rec e (Vg nodes (d.rank.map Int.toNat) nodes.length k) on (deep + 1)
  | none => false)
def Zg : Nat → Drop → List Nat → List Bool → Nat → Bool
 | 0, _, _, _, _ => false
 | k + 1, d, nodes, on, deep =>
  if deep > 100 ∨ d.nodes ≠ nodes.map Int.ofNat then false
  else if d.kind = 2 then Zr d false false 0 && decide ((Xk ls nodes on).length = 0)
  else if d.kind = 3 then Zr d true false 0 && decide (0 ≤ d.n) && decide (d.n < all.length) && !(Zh ls (Xk ls nodes on)).getD (all.getD d.n.toNat 0) false
  else if d.kind = 4 then
   if (!Zr d true false 1 || decide (d.n < 0) || decide (d.n ≥ pairs.length) || (Zh ls (Xk ls nodes on)).getD (pairs.getD d.n.toNat (0, 0)).2 false) = true then false
   else match d.l with
    | e :: _ => Zg k e nodes (Ya ls on (pairs.getD d.n.toNat (0, 0)).1) (deep + 1)
    | [] => false
  else if d.kind = 1 then Zr d false true (-1) && ranksF ls (Zg k) d nodes on (Xk ls nodes on) deep
  else false
end
end
section
open Go.RowKit
def DropOk : Nat → Drop → Prop
 | 0, _ => False
 | k + 1, d => d.l.length ≤ 1048576 ∧ d.nodes.length ≤ 1048576 ∧ d.rank.length ≤ 1048576 ∧ ∀ i (h : i < d.l.length), DropOk k d.l[i]
def ShowsAt (n : Nat) (ls : List Arrow) (all : List Nat) (pairs : List (Nat × Nat)) (k : Nat) : Prop :=
 ∀ (g : Ghost) (gp va vp v1 v2 v3 : Value) (cs : List Value) (d : Drop) (nodes : List Nat) (on : List Bool) (deep : Nat), GraphR g gp n ls → RS kNat g va all → RS kPair g vp pairs → DropRn k g cs d → DropOk k d → RS kNat g v1 nodes → RS Yt g v2 (inF n nodes) → RS Yt g v3 on →
  on.length = ls.length → nodes.length ≤ 20000 → (∀ x ∈ nodes, x < n) → deep ≤ 101 → Cl PP 52 [.agg #[gp, va, vp], .agg cs.toArray, .agg #[v1, v2, v3], .int .i64 (deep : Int)] g [] (Det (.bool (Zg ls all pairs k d nodes on deep)))
theorem partAt_succ (nodes rank : List Nat) (i k : Nat) : Vg nodes rank (i + 1) k = Vg nodes rank i k ++ (if rank.getD i 0 = k then [nodes.getD i 0] else []) := by
 unfold Vg
 rw [List.range_succ, List.filter_append, List.map_append]
 congr 1
 by_cases h : rank.getD i 0 = k
 ·rw [if_pos h, List.filter_cons, decide_eq_true h]; rfl
 ·rw [if_neg h, List.filter_cons, decide_eq_false h]; rfl
theorem rankM_succ (nodes rank : List Nat) (i : Nat) : rankM nodes rank (i + 1) = sk (rankM nodes rank i) (nodes.getD i 0) (rank.getD i 0) := by
 unfold rankM
 rw [List.range_succ, List.foldl_append]
 rfl
theorem partAt_len (nodes rank : List Nat) (i k : Nat) : (Vg nodes rank i k).length ≤ i := by
 unfold Vg
 rw [List.length_map]
 have := List.length_filter_le (fun j => decide (rank.getD j 0 = k)) (List.range i)
 simpa using this
theorem ranks_spec (n : Nat) (ls : List Arrow) (all : List Nat) (pairs : List (Nat × Nat)) (k : Nat) (hsh : ShowsAt n ls all pairs k) (g : Ghost) (gp va vp v1 v2 v3 vl : Value) (cs : List Value) (d : Drop) (nodes : List Nat) (on : List Bool) (l : List Nat) (deep : Nat)
    (hG : GraphR g gp n ls) (hv : ValidG n ls) (ha : RS kNat g va all) (hp : RS kPair g vp pairs) (hd : DropRn (k + 1) g cs d) (hok : DropOk (k + 1) d) (h1 : RS kNat g v1 nodes) (h2 : RS Yt g v2 (inF n nodes)) (h3 : RS Yt g v3 on) (hl : RS kNat g vl l) (hll : l.length ≤ 4611686018427387904) (hli : ∀ i ∈ l, i < ls.length)
    (hlen : on.length = ls.length) (hnl : nodes.length ≤ 20000) (hn : ∀ x ∈ nodes, x < n) (hdeep : deep ≤ 100) (hnodes : d.nodes = nodes.map Int.ofNat) :
    Cl PP 95 [.agg #[gp, va, vp], .agg cs.toArray, .agg #[v1, v2, v3], vl, .int .i64 (deep : Int)] g [] (Det (.bool (ranksF ls (Zg ls all pairs k) d nodes on l deep))) := by
  obtain ⟨hk1, hk2, hk3, hk4⟩ := hok;obtain ⟨vn, vr, vL, rfl, r1, r2, r3⟩ := hd.open';rw [hnodes] at r1
  have r1n : RS kNat g vn nodes := by
    have := r1.toNat (fun x hx => by obtain ⟨y, _, rfl⟩ := List.mem_map.1 hx; exact Int.natCast_nonneg y);rw [List.map_map] at this
    have e : nodes.map (Int.toNat ∘ Int.ofNat) = nodes := (List.map_congr_left (g := id) (fun x _ => rfl)).trans (List.map_id nodes)
    rwa [e] at this
  obtain ⟨an, cn, rfl⟩ := r1n.form;obtain ⟨ar, cr, rfl⟩ := r2.form;obtain ⟨aL, cL, rfl⟩ := r3.form;obtain ⟨gb, hgp⟩ : ∃ gb, gp = .pointer (some ⟨gb, 0, none⟩) := by obtain ⟨gb, _, _, _, _, rfl, _⟩ := hG; exact ⟨gb, rfl⟩
  subst hgp;refine Xj Tryz.func95 rfl rfl Tryz.ntmps95 rfl ?_;intro w F hs;refine Y2 ?_;refine Yi hs rfl rfl rfl rfl ?_; clear hs; intro vb w hs;refine Yi hs rfl rfl rfl rfl ?_; clear hs; intro db w hs;refine Yi hs rfl rfl rfl rfl ?_; clear hs; intro pb w hs;refine Y7 ?_;obtain ⟨g1, hg1, hs, hpb⟩ := freezeB hs;obtain ⟨g2, hg2, hs, hdb⟩ := freezeB hs
  obtain ⟨g3, hg3, hs, hvb⟩ := freezeB hs;replace hdb := hdb.mono hg3;replace hpb := hpb.mono (Ghost.tr hg2 hg3);have hg03 := Ghost.tr hg1 (Ghost.tr hg2 hg3);replace hs := (show St g3 w F from hs)
  clear hg1 hg2 hg3;refine Y0 ?_;refine Xd hs (hdb 3 _ rfl) rfl rfl rfl rfl rfl ?_;refine zP ?_;refine Xd hs (hdb 2 _ rfl) rfl rfl rfl rfl rfl ?_;refine zP ?_
  refine Xr 27 rfl (fun q1 => ?_) (fun q1 => ?_)
  · refine Y35 ?_;refine Xb (Xo rfl rfl) ⟨g3, [], hg03, hs, rfl, ?_⟩
    have : d.rank.length ≠ nodes.length := by
      intro e;rw [e] at q1
      simp at q1
    unfold ranksF;rw [if_pos (.inl this)]
  · have e1 : d.rank.length = nodes.length := by
      have : (d.rank.length : Int) = (nodes.length : Int) := by simpa using q1
      omega
    refine zG ?_;refine Xd hs (hdb 4 _ rfl) rfl rfl rfl rfl rfl ?_;refine Y40 ?_
    refine Xi rfl (fun q2 => ?_) (fun q2 => ?_)
    · refine Y1 ?_;refine Xb (Xo rfl rfl) ⟨g3, [], hg03, hs, rfl, ?_⟩
      have : d.l.length = 0 := by
        have h9 : ((d.l.length : Int) == 0) = true := q2;simpa using h9
      unfold ranksF;rw [if_pos (.inr this)]
    · have e2 : ¬ d.l.length = 0 := by
        intro e;have h9 : ((d.l.length : Int) == 0) = false := q2;rw [e] at h9
        simp at h9
      have k1 : ¬ (d.rank.length ≠ nodes.length ∨ d.l.length = 0) := by
        rintro (h | h)
        · exact h e1
        · exact e2 h
      refine Y45 ?_;refine Vx hs rfl rfl ?_;clear hs; intro mb mo w hmo hs;refine Y4 ?_;refine Xd hs (hdb 4 _ rfl) rfl rfl rfl rfl rfl ?_;refine zP ?_;refine Jk hs rfl (by omega) rfl rfl rfl rfl rfl rfl rfl ?_;clear hs; intro ob w hs
      have hz : (List.replicate (d.l.length : Int).toNat (TE.zcells ⟨.slice 3, [.slice], 24⟩)).flatten = List.replicate d.l.length (.slice none 0 0) := by
        rw [Int.toNat_natCast, show TE.zcells ⟨.slice 3, [.slice], 24⟩ = [.slice none 0 0] from rfl, rep_flat]
      replace hs := (show St g3 w ((ob, Xa (List.replicate d.l.length (.slice none 0 0)) 22) :: (mb, mo) :: F) by rw [← hz]; exact hs)
      refine Y4 ?_;refine Xd hs (hdb 2 _ rfl) rfl rfl rfl rfl rfl ?_;refine Y7 ?_;have hnl2 : nodes.length ≤ 4611686018427387904 := by omega
      refine Yw nodes.length (fun _ _ => [(40, .int .i64 nodes.length), (39, .slice an nodes.length cn), (11, .map (some mb)), (12, .slice (some ⟨ob, 0, none⟩) d.l.length d.l.length), (3, vl), (4, .int .i64 (deep : Int)), (5, .pointer (some ⟨vb, 0, none⟩)), (6, .pointer (some ⟨db, 0, none⟩)), (7, .pointer (some ⟨pb, 0, none⟩))])
        (fun i (_ : Unit) w => ∃ (hd : List Value) (Hs : List Own) (mo : Obj), (∀ j (h : j < i) (h' : j < d.rank.length), 0 ≤ d.rank[j] ∧ d.rank[j] < d.l.length) ∧ Jb (Jh vNat (rankM nodes (d.rank.map Int.toNat) i)) mo ∧ hd.length = d.l.length ∧ Hs.length = d.l.length ∧
          (∀ (k : Nat) (v : Value) (H : Own), hd[k]? = some v → Hs[k]? = some H → OwnS 3 1 v (Vg nodes (d.rank.map Int.toNat) i k).length ((Vg nodes (d.rank.map Int.toNat) i k).flatMap Zd) H) ∧
          St g3 w ((ob, Xa hd 22) :: (mb, mo) :: (Hs.flatten ++ F))) () hnl2 ⟨rfl, rfl, rfl, rfl, rfl, rfl, rfl, rfl, rfl, rfl, trivial⟩
        ⟨List.replicate d.l.length (.slice none 0 0), List.replicate d.l.length [], mo, fun j h => by omega, hmo, by simp, by simp, ?_, ?_⟩ (fun _ _ => rfl) rfl rfl rfl ?_ ?_ (fun _ _ => rfl) rfl
      · intro k v H h1 h2;have hk : k < d.l.length := by have := (List.getElem?_eq_some_iff.1 h1).1; simpa using this
        simp [hk] at h1 h2
        subst h1 h2;simpa [Vg] using OwnS.nil 3 1
      · have : (List.replicate d.l.length ([] : Own)).flatten = [] := by simp
        rw [this];exact hs
      · rintro i _ w hi ⟨hd, Hs, mo, hrk, omo, q3, q4, q5, hs⟩;have hir : i < d.rank.length := by omega
        have hb1 := r1n.base hi;have hc1 := (r1n.mono hg03).nat hi;have hb2 := r2.base hir;have hc2 := (r2.mono hg03).int hir;have hgn : nodes.getD i 0 = nodes[i] := by simp [hi]
        have hgr : (d.rank.map Int.toNat).getD i 0 = d.rank[i].toNat := by simp [hir]
        have bad : ¬ (0 ≤ d.rank[i] ∧ d.rank[i] < d.l.length) → ranksF ls (Zg ls all pairs k) d nodes on l deep = false := fun hb => by
          unfold ranksF;rw [if_neg k1, if_pos];rw [List.all_eq_false];refine ⟨d.rank[i], List.getElem_mem hir, ?_⟩;intro h;simp only [Bool.and_eq_true, decide_eq_true_eq] at h
          exact hb h
        generalize hzz : d.rank[i] = z at hc2 hgr bad
        generalize nodes[i] = x at hc1 hgn
        refine Y0 ?_;refine Yb rfl rfl rfl rfl rfl (by omega) (hb1) rfl rfl ?_;refine Xd hs (hc1) rfl rfl rfl rfl rfl ?_;refine Y4 ?_;refine Xd hs (hdb 3 _ rfl) rfl rfl rfl rfl rfl ?_;refine zP ?_;refine Yb rfl rfl rfl rfl rfl (by omega) hb2 rfl rfl ?_;refine Xd hs (hc2) rfl rfl rfl rfl rfl ?_;refine Y4 ?_
        refine Xr 53 rfl (fun c1 => ?_) (fun c1 => ?_)
        · refine Y35 ?_;refine Xb (Xo rfl rfl) ⟨g3, [], hg03, hs.drop.drop.dropL, rfl, ?_⟩;have := of_decide_eq_true c1;rw [bad (by omega)]
        · refine zG ?_;refine Xd hs (hdb 4 _ rfl) rfl rfl rfl rfl rfl ?_;refine Y40 ?_
          refine Xi rfl (fun c2 => ?_) (fun c2 => ?_)
          · refine Y1 ?_;refine Xb (Xo rfl rfl) ⟨g3, [], hg03, hs.drop.drop.dropL, rfl, ?_⟩;have := of_decide_eq_true c2;rw [bad (by omega)]
          · have c1' := of_decide_eq_false c1;have c2' := of_decide_eq_false c2;obtain ⟨r, rfl⟩ := Int.eq_ofNat_of_zero_le (show 0 ≤ z by omega);have hrl : r < d.l.length := by omega
            have hgr' : (d.rank.map Int.toNat).getD i 0 = r := by rw [hgr]; rfl
            refine Y57 ?_;refine Kw hs 1 omo rfl rfl rfl rfl rfl rfl rfl rfl rfl ?_;clear hs; intro mo' w omo' hs;rw [show Value.int .i64 ((r : Nat) : Int) = vNat r from rfl, Ja] at omo'
            refine zn ?_;have hfd : r < hd.length := by omega
            have hfH : r < Hs.length := by omega
            have ho := q5 r hd[r] Hs[r] (List.getElem?_eq_getElem hfd) (List.getElem?_eq_getElem hfH);replace hs := (show St g3 w ((ob, Xa hd 22) :: (mb, mo') :: (Hs.flatten ++ F)) from hs)
            have hs2 : St g3 w ((ob, Xa hd 22) :: (mb, mo') :: (Hs[r] ++ ((Hs.eraseIdx r).flatten ++ F))) := hs.perm (List.Perm.cons _ (List.Perm.cons _ (by rw [← List.append_assoc]; exact ((flat_front Hs _ hfH).symm.append_right F))));refine Y0 ?_;refine Yv _ rfl rfl rfl rfl rfl (hrl) rfl rfl rfl ?_;refine Yu hs2 0 rfl rfl (List.getElem?_eq_getElem hfd) rfl rfl rfl rfl ?_
            refine zP ?_
            replace hs2 := (show St g3 w (Hs[r] ++ ((ob, Xa hd 22) :: (mb, mo') :: ((Hs.eraseIdx r).flatten ++ F))) from hs2.perm (by classical exact List.perm_iff_count.2 fun x => by simp only [List.append_eq, List.set_cons_succ, List.set_cons_zero, List.eraseIdx_cons_zero, List.eraseIdx_cons_succ, List.count_cons, List.count_append, List.cons_append, List.nil_append, List.append_nil, List.append_assoc] <;> ac_rfl))
            refine Jj hs2 ho (by have := partAt_len nodes (d.rank.map Int.toNat) i r; omega) rfl rfl rfl rfl rfl rfl rfl rfl rfl rfl rfl rfl rfl rfl ?_;intro v' w H' ho' hs
            replace hs := (show St g3 w ((ob, Xa hd 22) :: (mb, mo') :: (H' ++ ((Hs.eraseIdx r).flatten ++ F))) from hs.perm (by classical exact List.perm_iff_count.2 fun x => by simp only [List.append_eq, List.set_cons_succ, List.set_cons_zero, List.eraseIdx_cons_zero, List.eraseIdx_cons_succ, List.count_cons, List.count_append, List.cons_append, List.nil_append, List.append_nil, List.append_assoc] <;> ac_rfl))
            refine Yv _ rfl rfl rfl rfl rfl (hrl) rfl rfl rfl ?_;refine Yh hs 0 rfl rfl rfl (List.getElem?_eq_getElem hfd) rfl rfl ho'.one rfl ?_;clear hs; intro w hs
            refine Xn (Xh (Xx () hi hnl2 ⟨hd.set r v', Hs.set r H', mo', fun j h1 h2 => ?_, by rw [rankM_succ, hgn, hgr']; exact omo', by simp [q3], by simp [q4], ?_, ?_⟩ rfl rfl rfl ⟨rfl, rfl, rfl, rfl, rfl, rfl, rfl, rfl, rfl, trivial⟩))
            · by_cases e : j = i
              · subst e; rw [hzz]; omega
              · exact hrk j (by omega) h2
            · intro kk v H e1 e2;rw [partAt_succ, hgr', hgn]
              by_cases hk : r = kk
              · subst hk;simp [hfd, hfH] at e1 e2
                subst e1 e2;rw [if_pos rfl, List.length_append, List.flatMap_append];exact ho'
              · simp only [List.getElem?_set_ne hk] at e1 e2
                rw [if_neg hk, List.append_nil];exact q5 kk v H e1 e2
            · refine St.perm (show St g3 w ((ob, Xa (hd.set r v') 22) :: (mb, mo') :: (H' ++ ((Hs.eraseIdx r).flatten ++ F))) from hs) (List.Perm.cons _ (List.Perm.cons _ ?_));rw [← List.append_assoc];exact (flat_set Hs _ hfH H').append_right F
      · rintro _ w ⟨hd, Hs, mo, hrk, omo, q3, q4, q5, hs⟩
        have k2 : ¬ d.rank.all (fun k => decide (0 ≤ k) && decide (k < d.l.length)) = false := by
          intro h;rw [List.all_eq_false] at h
          obtain ⟨z, hz1, hz2⟩ := h;obtain ⟨j, hj, rfl⟩ := List.getElem_of_mem hz1;have := hrk j (by omega) hj;apply hz2;simp only [Bool.and_eq_true, decide_eq_true_eq];exact this
        refine zK ?_;obtain ⟨al, cl, hvl⟩ := hl.form;subst hvl;refine Y1 ?_
        obtain ⟨lb0, hA⟩ : ∃ al2 cl2 ao co, Lies g gb 0 [.int .i64 (n : Int), .slice al2 ls.length cl2, .slice ao n co] ∧ RS kArr g (.slice al2 ls.length cl2) ls := by
          obtain ⟨gb', al2, cl2, ao, co, e, a1, a2, a3⟩ := hG;cases e;exact ⟨al2, cl2, ao, co, a1, a2⟩
        obtain ⟨cl2, ao, co, hGl, hA⟩ := hA
        refine Yw l.length (fun _ _ => [(75, .int .i64 l.length), (74, .slice al l.length cl), (11, .map (some mb)), (12, .slice (some ⟨ob, 0, none⟩) d.l.length d.l.length), (4, .int .i64 (deep : Int)), (5, .pointer (some ⟨vb, 0, none⟩)), (6, .pointer (some ⟨db, 0, none⟩)), (7, .pointer (some ⟨pb, 0, none⟩))])
          (fun j (g' : Ghost) w => g3 ≤ g' ∧ St g' w ((ob, Xa hd 22) :: (mb, mo) :: (Hs.flatten ++ F)) ∧ ∀ i (h : i < j) (h' : i < l.length), ¬ Xg (rankM nodes (d.rank.map Int.toNat) nodes.length) (Vf ls l[i]) < Xg (rankM nodes (d.rank.map Int.toNat) nodes.length) (Yk ls l[i])) g3 hll
          ⟨rfl, rfl, rfl, rfl, rfl, rfl, rfl, rfl, rfl, trivial⟩ ⟨Ghost.rfl', hs, fun i h => by omega⟩ (fun _ _ => rfl) rfl rfl rfl ?_ ?_ (fun _ _ => rfl) rfl
        · rintro j g4 w hj ⟨hg4, hs, hall⟩;have hg04 := Ghost.tr hg03 hg4;have hbj := hl.base hj;have hcj := (hl.mono hg04).nat hj;have hkl : l[j] < ls.length := hli _ (List.getElem_mem hj);have hlj : l[j]? = some l[j] := List.getElem?_eq_getElem hj;have hmem : l[j] ∈ l := List.getElem_mem hj;obtain ⟨kk, hkk⟩ : ∃ kk, l[j] = kk := ⟨_, rfl⟩
          rw [hkk] at hcj hkl hmem
          have hA4 := hA.mono hg04;have hcA := RS.enc hA4 hkl;obtain ⟨lb, lo, hlb⟩ := RS.base hA4 hkl;subst hlb;have hfr : Vf ls kk = ls[kk].fr := by simp [Vf, hkl]
          have hto : Yk ls kk = ls[kk].to := by simp [Yk, hkl]
          have hscur : St g4 w ((ob, Xa hd 22) :: (mb, mo) :: (Hs.flatten ++ F)) := by assumption
          refine Y2 ?_;refine Yb rfl rfl rfl rfl rfl (by omega) (hbj) rfl rfl ?_;refine Xd hs (hcj) rfl rfl rfl rfl rfl ?_;refine Y10 ?_;refine Yf 23 [] Yd (by kernel_rfl) rfl hscur ?_;refine zC ?_;refine Xp (hvb.mono hg4 0 _ rfl) rfl rfl rfl rfl ?_;refine zC ?_;refine Xp (hGl.mono hg04 1 _ rfl) rfl rfl rfl rfl ?_;refine zC ?_
          refine Uc rfl rfl rfl rfl rfl (by omega) (⟨lb, lo, rfl⟩) rfl ?_;refine zC ?_;refine Xp (hcA 0 _ rfl) rfl rfl rfl rfl ?_;refine sg_look 1 omo rfl rfl rfl rfl rfl rfl rfl rfl (lookV _ _) rfl ?_;refine zC ?_;refine Xp (hvb.mono hg4 0 _ rfl) rfl rfl rfl rfl ?_;refine zC ?_;refine Xp (hGl.mono hg04 1 _ rfl) rfl rfl rfl rfl ?_;refine zC ?_
          refine Uc rfl rfl rfl rfl rfl (by omega) (⟨lb, lo, rfl⟩) rfl ?_;refine zC ?_;refine Xp (hcA 1 _ rfl) rfl rfl rfl rfl ?_;refine sg_look 1 omo rfl rfl rfl rfl rfl rfl rfl rfl (lookV _ _) rfl ?_;refine zC ?_;refine Xy ?_;intro g5 w hg5;intro hs;refine zn ?_;have hg35 := Ghost.tr hg4 hg5
          refine Xi rfl (fun h => ?_) (fun h => ?_)
          · refine Y1 ?_;refine Xb (Xo rfl rfl) ⟨g5, [], Ghost.tr hg03 hg35, hs.drop.drop.dropL, rfl, ?_⟩;have := of_decide_eq_true h;unfold ranksF;rw [if_neg k1, if_neg k2, if_pos];rw [List.any_eq_true];exact ⟨kk, hmem, by rw [hfr, hto]; exact decide_eq_true (by omega)⟩
          · refine Xq (Xh (Xx g5 hj hll ⟨hg35, hs, fun i h1 h2 => ?_⟩ rfl rfl rfl ⟨rfl, rfl, rfl, rfl, rfl, rfl, rfl, rfl, trivial⟩))
            by_cases e : i = j
            · subst e;have := of_decide_eq_false h;rw [hkk, hfr, hto];omega
            · exact hall i (by omega) h2
        · rintro g4 w ⟨hg4, hs, hall⟩
          have k3 : ¬ l.any (fun i => decide (Xg (rankM nodes (d.rank.map Int.toNat) nodes.length) (Vf ls i) < Xg (rankM nodes (d.rank.map Int.toNat) nodes.length) (Yk ls i))) = true := by
            intro h;rw [List.any_eq_true] at h
            obtain ⟨i, hi1, hi2⟩ := h;obtain ⟨j, hj, rfl⟩ := List.getElem_of_mem hi1;exact hall j hj hj (of_decide_eq_true hi2)
          have hs9 : St g4 w (Hs.flatten ++ ((ob, Xa hd 22) :: (mb, mo) :: F)) := St.perm (show St g4 w ((ob, Xa hd 22) :: (mb, mo) :: (Hs.flatten ++ F)) by assumption) (List.perm_append_comm_assoc Hs.flatten [(ob, _), (mb, _)] F);obtain ⟨PT, hPT⟩ : ∃ PT : List (List Nat), PT = (List.range d.l.length).map (Vg nodes (d.rank.map Int.toNat) nodes.length) := ⟨_, rfl⟩
          have hPTl : PT.length = d.l.length := by rw [hPT]; simp
          have hPTat : ∀ (k : Nat) (xs : List Nat), PT[k]? = some xs → k < d.l.length ∧ xs = Vg nodes (d.rank.map Int.toNat) nodes.length k := fun k xs h => by
            have hk : k < d.l.length := by have := (List.getElem?_eq_some_iff.1 h).1; omega
            refine ⟨hk, ?_⟩;rw [hPT] at h
            simp [hk] at h
            exact h.symm
          obtain ⟨g5, hg5, hs5, hr5⟩ := freezeAll (e := Zd) (h0 := fun _ => rfl) hd Hs PT g4 w _ (by omega) (by omega) (fun k v H xs e1 e2 e3 => by
            obtain ⟨_, rfl⟩ := hPTat k xs e3;exact q5 k v H e1 e2) hs9
          obtain ⟨g6, hg6, hs6, hl6⟩ := freezeB hs5;replace hs6 := hs6.drop;have hrPT : RS (kSl kNat) g6 (.slice (some ⟨ob, 0, none⟩) d.l.length d.l.length) PT := RS.ofSl hl6 (by omega) (by omega) (fun k v xs e1 e2 => (hr5 k v xs e1 e2).mono hg6);rw [← hPTl] at hrPT
          have hg36 := Ghost.tr hg4 (Ghost.tr hg5 hg6);have hg06 := Ghost.tr hg03 hg36;have hPTl2 : PT.length ≤ 4611686018427387904 := by omega
          have hsub : ∀ k, ∀ x ∈ Vg nodes (d.rank.map Int.toNat) nodes.length k, x < n := fun k x hx => by
            unfold Vg at hx
            obtain ⟨j, hj, rfl⟩ := List.mem_map.1 hx;have hjl : j < nodes.length := by have := (List.mem_filter.1 hj).1; simpa using this
            have : nodes.getD j 0 = nodes[j] := by simp [hjl]
            rw [this];exact hn _ (List.getElem_mem hjl)
          have hfinal : ranksF ls (Zg ls all pairs k) d nodes on l deep = (List.range d.l.length).all fun k' => decide ((Vg nodes (d.rank.map Int.toNat) nodes.length k').length ≠ 0) && (match d.l[k']? with
              | some e => Zg ls all pairs k e (Vg nodes (d.rank.map Int.toNat) nodes.length k') on (deep + 1)
              | none => false) := by
            unfold ranksF;rw [if_neg k1, if_neg k2, if_neg k3] <;> rfl
          refine Y24 ?_;rw [← hPTl]
          refine Yw PT.length (fun _ _ => [(105, .int .i64 PT.length), (104, .slice (some ⟨ob, 0, none⟩) PT.length PT.length), (4, .int .i64 (deep : Int)), (5, .pointer (some ⟨vb, 0, none⟩)), (6, .pointer (some ⟨db, 0, none⟩)), (7, .pointer (some ⟨pb, 0, none⟩))])
            (fun i (g' : Ghost) w => g6 ≤ g' ∧ St g' w F ∧ ∀ j (h : j < i) (h' : j < d.l.length), (Vg nodes (d.rank.map Int.toNat) nodes.length j).length ≠ 0 ∧ Zg ls all pairs k d.l[j] (Vg nodes (d.rank.map Int.toNat) nodes.length j) on (deep + 1) = true) g6 hPTl2
            ⟨rfl, rfl, rfl, rfl, rfl, rfl, rfl, trivial⟩ ⟨Ghost.rfl', hs6, fun j h => by omega⟩ (fun _ _ => rfl) rfl rfl rfl ?_ ?_ (fun _ _ => rfl) rfl
          · rintro i g7 w hi ⟨hg7, hs, hall7⟩;have hid : i < d.l.length := by omega
            have hg07 := Ghost.tr hg06 hg7;have hg37 := Ghost.tr hg36 hg7;have hbP := hrPT.base hi;obtain ⟨pa, pc, hcP, hRP⟩ := (hrPT.mono hg7).sl hi;have hPi := (hPTat i _ (List.getElem?_eq_getElem hi)).2;rw [hPi] at hcP hRP
            have hplen := partAt_len nodes (d.rank.map Int.toNat) nodes.length i
            have bad : ((Vg nodes (d.rank.map Int.toNat) nodes.length i).length = 0 ∨ Zg ls all pairs k d.l[i] (Vg nodes (d.rank.map Int.toNat) nodes.length i) on (deep + 1) = false) → ranksF ls (Zg ls all pairs k) d nodes on l deep = false := fun hb => by
              rw [hfinal, List.all_eq_false];refine ⟨i, List.mem_range.2 hid, ?_⟩;rw [List.getElem?_eq_getElem hid];intro h;simp only [Bool.and_eq_true] at h
              rcases hb with hb | hb
              · exact of_decide_eq_true h.1 hb
              · rw [hb] at h; exact Bool.false_ne_true h.2
            generalize hQ : Vg nodes (d.rank.map Int.toNat) nodes.length i = Q at hcP hRP hplen bad
            have hQn : ∀ x ∈ Q, x < n := by rw [← hQ]; exact hsub i
            refine Y0 ?_;refine Yb rfl rfl rfl rfl rfl (by omega) hbP rfl rfl ?_;refine Xd hs (hcP) rfl rfl rfl rfl rfl ?_;refine Y10 ?_;refine Yf 21 [] Yd (by kernel_rfl) rfl hs ?_;refine zC ?_
            refine sg_case (fun c1 => ?_) (fun c1 => ?_)
            · refine zC ?_;refine Xy ?_;intro g8 w hg8;intro hs;refine Y29 ?_;refine Xb (Xo rfl rfl) ⟨g8, [], Ghost.tr hg07 hg8, hs, rfl, ?_⟩
              have : Q.length = 0 := by
                have h9 : ((Q.length : Int) == 0) = true := c1;simpa using h9
              rw [bad (.inl this)]
            · have hQ0 : Q.length ≠ 0 := by
                intro e;have h9 : ((Q.length : Int) == 0) = false := c1;rw [e] at h9
                simp at h9
              have r37 := r3.mono hg07;obtain ⟨dc, hdc, hdl⟩ := r37.get hid;obtain ⟨dlb, dlo, hdb2⟩ := r37.base hid;refine zC ?_;refine Vm ((hvb.mono hg37).at') rfl rfl rfl rfl rfl ?_;refine zC ?_;refine Xp (hdb.mono hg37 4 _ rfl) rfl rfl rfl rfl ?_;refine zC ?_;refine Uc rfl rfl rfl rfl rfl (by omega) ⟨dlb, dlo, hdb2⟩ rfl ?_
              refine Vm (cs := dc) (fun j v hv => by rw [Kn, Yo]; exact hdl j v hv) rfl rfl rfl (by exact (DropRn.len hdc)) rfl ?_;refine zC ?_;refine Xp (hvb.mono hg37 0 _ rfl) rfl rfl rfl rfl ?_;refine zC ?_;refine Xp (hpb.mono hg37 2 _ rfl) rfl rfl rfl rfl ?_
              refine Uf (post := fun g' L' r => L' = [] ∧ ∃ v2, r = .agg #[.slice pa Q.length pc, v2, v3] ∧ RS Yt g' v2 (inF n Q)) [] [] rfl rfl rfl (fun g' hg' => Ka g' _ _ v3 n ls Q (hG.mono (Ghost.tr hg07 hg')) hv (hRP.mono hg') (by omega) (by obtain ⟨a, c, e⟩ := h3.form; exact ⟨a, _, c, e⟩) hQn) ?_;refine zC ?_
              refine sg_arK ((deep + 1 : Nat) : Int) rfl rfl rfl (by omega) rfl ?_
              refine sg_callWK (u := .bool (Zg ls all pairs k d.l[i] Q on (deep + 1))) 126 [] [] rfl rfl rfl (fun _ => rfl) (fun _ => rfl) (fun g' g8 v L' hg8 ⟨g9, hg9, hL, v2', hv2, hr2⟩ hg' => by
                subst hv2;have hg78 := Ghost.tr hg8 hg';exact hsh g' _ va vp _ v2' v3 dc d.l[i] Q on (deep + 1) (hG.mono (Ghost.tr hg07 hg78)) (ha.mono (Ghost.tr hg07 hg78)) (hp.mono (Ghost.tr hg07 hg78)) (hdc.mono hg78) (hk4 i hid) (hRP.mono hg78) (hr2.mono (Ghost.tr hg9 hg')) (h3.mono (Ghost.tr hg07 hg78)) hlen (by omega) hQn (by omega)) (fun _ _ _ h => h) ?_
              refine zC ?_;refine Xy ?_;intro g8 w hg8;rintro _ _ ⟨_, _, rfl, _⟩ hs;refine zn ?_
              refine Xi rfl (fun c2 => ?_) (fun c2 => ?_)
              · refine Y1 ?_;refine Xb (Xo rfl rfl) ⟨g8, [], Ghost.tr hg07 hg8, hs, rfl, ?_⟩;rw [bad (.inr (by simpa using c2))]
              · refine Xq (Xh (Xx g8 hi hPTl2 ⟨Ghost.tr hg7 hg8, hs, fun j h1 h2 => ?_⟩ rfl rfl rfl ⟨rfl, rfl, rfl, rfl, rfl, rfl, trivial⟩))
                by_cases e : j = i
                · subst e;rw [hQ];exact ⟨hQ0, by simpa using c2⟩
                · exact hall7 j (by omega) h2
          · rintro g7 w ⟨hg7, hs7, hall7⟩;refine Y24 ?_;refine Xb (Xo rfl rfl) ⟨g7, [], Ghost.tr hg06 hg7, hs7, rfl, ?_⟩
            have : ranksF ls (Zg ls all pairs k) d nodes on l deep = true := by
              rw [hfinal, List.all_eq_true];intro i hi;have hid : i < d.l.length := List.mem_range.1 hi;obtain ⟨a1, a2⟩ := hall7 i (by omega) hid;rw [List.getElem?_eq_getElem hid];simp only [a2, Bool.and_true];exact decide_eq_true a1
            rw [this]
end
section
open Go.RowKit
theorem shows_all (n : Nat) (ls : List Arrow) (all : List Nat) (pairs : List (Nat × Nat)) (hv : ValidG n ls) (hw : ValidW all pairs) : ∀ k, ShowsAt n ls all pairs k := by
 intro k
 induction k with
 | zero => intro g gp va vp v1 v2 v3 cs d nodes on deep _ _ _ hd; exact hd.elim
 | succ k ih =>
  intro g gp va vp v1 v2 v3 cs d nodes on deep hG ha hp hd hok h1 h2 h3 hlen hnl hn hdeep;have hd0 := hd;have hok0 := hok;obtain ⟨hk1, hk2, hk3, hk4⟩ := hok;obtain ⟨vn, vr, vL, rfl, r1, r2, r3⟩ := hd.open';obtain ⟨gb, hgp⟩ : ∃ gb, gp = .pointer (some ⟨gb, 0, none⟩) := by obtain ⟨gb, _, _, _, _, rfl, _⟩ := hG; exact ⟨gb, rfl⟩
  subst hgp;obtain ⟨an, cn, rfl⟩ := r1.form;obtain ⟨ar, cr, rfl⟩ := r2.form;obtain ⟨aL, cL, rfl⟩ := r3.form;obtain ⟨a1, c1, rfl⟩ := h1.form;obtain ⟨a2, c2, rfl⟩ := h2.form;obtain ⟨a3, c3, rfl⟩ := h3.form;obtain ⟨aa, ca, rfl⟩ := ha.form;obtain ⟨ap, cp, rfl⟩ := hp.form;refine Xj Tryz.func52 rfl rfl Tryz.ntmps52 rfl ?_;intro w F hs;refine Y2 ?_
  refine Yi hs rfl rfl rfl rfl ?_; clear hs; intro vb w hs;refine Yi hs rfl rfl rfl rfl ?_; clear hs; intro db w hs;refine Yi hs rfl rfl rfl rfl ?_; clear hs; intro pb w hs;refine Y7 ?_
  replace hs := (show St g w ((db, Xa [.int .i64 d.kind, .int .i64 d.n, .slice an d.nodes.length cn, .slice ar d.rank.length cr, .slice aL d.l.length cL] 62) :: (vb, Xa [.pointer (some ⟨gb, 0, none⟩), .slice aa all.length ca, .slice ap pairs.length cp] 113) :: (pb, Xa [.slice a1 nodes.length c1, .slice a2 (inF n nodes).length c2, .slice a3 on.length c3] 94) :: F) from St.perm (show St g w ((pb, Xa [.slice a1 nodes.length c1, .slice a2 (inF n nodes).length c2, .slice a3 on.length c3] 94) :: (db, Xa [.int .i64 d.kind, .int .i64 d.n, .slice an d.nodes.length cn, .slice ar d.rank.length cr, .slice aL d.l.length cL] 62) :: (vb, Xa [.pointer (some ⟨gb, 0, none⟩), .slice aa all.length ca, .slice ap pairs.length cp] 113) :: F) from hs) (by classical exact List.perm_iff_count.2 fun x => by simp only [List.append_eq, List.set_cons_succ, List.set_cons_zero, List.eraseIdx_cons_zero, List.eraseIdx_cons_succ, List.count_cons, List.count_append, List.cons_append, List.nil_append, List.append_nil, List.append_assoc] <;> ac_rfl))
  obtain ⟨g1, hg1, hs, hdb⟩ := freezeB hs;obtain ⟨g2, hg2, hs, hvb⟩ := freezeB hs;replace hdb := hdb.mono hg2;have hg02 := Ghost.tr hg1 hg2;clear hg1 hg2;refine Y0 ?_
  refine Xr 13 rfl (fun q1 => ?_) (fun q1 => ?_)
  ·refine Y35 ?_;refine Xb (Xo rfl rfl) ⟨g2, [], hg02, hs.drop, rfl, ?_⟩;have : deep > 100 := by have := of_decide_eq_true q1; omega
   simp only [Zg, if_pos (Or.inl this : deep > 100 ∨ d.nodes ≠ nodes.map Int.ofNat)]
  ·have hdp : deep ≤ 100 := by have := of_decide_eq_false q1; omega
   refine zG ?_;refine Xd hs (hdb 2 _ rfl) rfl rfl rfl rfl rfl ?_;refine zG ?_;refine zL0 ?_;refine Xf (L := []) rfl rfl rfl hs (equal_spec g2 _ _ d.nodes (nodes.map Int.ofNat) (r1.mono hg02) (h1.ofNat.mono hg02) (by omega)) ?_;rintro u g3 L' w hg3 hs ⟨rfl, rfl⟩;have hg03 := Ghost.tr hg02 hg3;refine Y40 ?_
   refine Xi rfl (fun q2 => ?_) (fun q2 => ?_)
   ·refine Y1 ?_;refine Xb (Xo rfl rfl) ⟨g3, [], hg03, hs.drop, rfl, ?_⟩;have : d.nodes ≠ nodes.map Int.ofNat := by simpa using q2
    simp only [Zg, if_pos (Or.inr this : deep > 100 ∨ d.nodes ≠ nodes.map Int.ofNat)]
   ·have hnodes : d.nodes = nodes.map Int.ofNat := by simpa using q2
    have k1 : ¬ (deep > 100 ∨ d.nodes ≠ nodes.map Int.ofNat) := by
     rintro (h | h)
     ·omega
     ·exact h hnodes
    refine Y57 ?_;refine Xd hs (hvb.mono hg3 0 _ rfl) rfl rfl rfl rfl rfl ?_;refine Vy hs 0 rfl rfl rfl rfl rfl rfl rfl ?_;refine Xf (L := []) rfl rfl rfl hs (within_spec g3 _ _ n ls nodes on (hG.mono hg03) hv ⟨_, _, _, rfl, h1.mono hg03, h2.mono hg03, h3.mono hg03⟩ hlen hnl hn) ?_;rintro vl g4 L' w hg4 hs ⟨rfl, hrl⟩;have hg04 := Ghost.tr hg03 hg4;have hg24 := Ghost.tr hg3 hg4
    obtain ⟨al, cl, rfl⟩ := hrl.form;refine Y4 ?_;refine Xd hs (hvb.mono hg24 0 _ rfl) rfl rfl rfl rfl rfl ?_;refine zP ?_;refine Xf (L := []) rfl rfl rfl hs (met_spec g4 _ _ n ls (Xk ls nodes on) (hG.mono hg04) hv hrl (withinF_len hv.len hnl) (fun i hi => withinF_lt hi)) ?_;rintro u g5 L' w hg5 hs ⟨rfl, rfl⟩;have hg05 := Ghost.tr hg04 hg5;have hg25 := Ghost.tr hg24 hg5
    have hml : (Zh ls (Xk ls nodes on)).length = 16 := metF_len _ _;refine Yp hs rfl rfl rfl ?_; clear hs; intro mb w hs;refine Yx (cs := (Zh ls (Xk ls nodes on)).map .bool) hs 0 rfl rfl rfl rfl (by rw [List.length_map, hml]; rfl) (by rw [List.length_map, hml]; exact Nat.le_of_ble_eq_true rfl) (by simp [Value.oneCell']) rfl ?_;clear hs; intro w hs
    rw [setL_full (by rw [List.length_map, hml]; rfl)] at hs
    obtain ⟨g6, hg6, hs, hmb⟩ := freezeB hs;have hg06 := Ghost.tr hg05 hg6;have hg26 := Ghost.tr hg25 hg6
    have hcell : ∀ j, j < 16 → g6.cell ⟨mb, j, none⟩ = some (.bool ((Zh ls (Xk ls nodes on)).getD j false)) := fun j hj => by
     have := hmb j (.bool ((Zh ls (Xk ls nodes on)).getD j false)) (by
      rw [List.getElem?_map, List.getElem?_eq_getElem (by omega : j < (Zh ls (Xk ls nodes on)).length)];simp [hml, hj])
     rwa [Nat.zero_add] at this
    refine Y8 ?_;refine Xd hs (hdb.mono hg26 0 _ rfl) rfl rfl rfl rfl rfl ?_;refine zn ?_;refine Yc ?_;have hd6 := hd0.mono hg06;refine Y1 ?_
    refine Xi rfl (fun c2 => ?_) (fun c2 => ?_)
    ·have e2 : d.kind = 2 := by simpa using c2
     refine Y2 ?_;refine Yj hs ((hdb.mono hg26).at') rfl rfl rfl rfl rfl rfl ?_;refine Xf (L := []) rfl rfl rfl hs (plain_spec g6 _ _ d false false 0 hd6) ?_;rintro u g7 L' w hg7 hs ⟨rfl, rfl⟩;refine zP ?_
     refine Xr 35 rfl (fun c3 => ?_) (fun c3 => ?_)
     ·refine Y40 ?_;refine Xb (Xo rfl rfl) ⟨g7, [], Ghost.tr hg06 hg7, hs.drop, rfl, ?_⟩;simp only [Zg, if_neg k1, if_pos e2, show Zr d false false 0 = true from c3, Bool.true_and]
      by_cases e : (Xk ls nodes on).length = 0
      ·rw [e]; rfl
      ·rw [decide_eq_false e];exact congrArg Value.bool (by simpa using e)
     ·refine Y40 ?_;refine Xb (Xo rfl rfl) ⟨g7, [], Ghost.tr hg06 hg7, hs.drop, rfl, ?_⟩;simp only [Zg, if_neg k1, if_pos e2, show Zr d false false 0 = false from c3, Bool.false_and]
    ·have e2 : ¬ d.kind = 2 := by simpa using c2
     refine Y1 ?_
     refine Xi rfl (fun c3 => ?_) (fun c3 => ?_)
     ·have e3 : d.kind = 3 := by simpa using c3
      refine Y2 ?_;refine Yj hs ((hdb.mono hg26).at') rfl rfl rfl rfl rfl rfl ?_;refine Xf (L := []) rfl rfl rfl hs (plain_spec g6 _ _ d true false 0 hd6) ?_;rintro u g7 L' w hg7 hs ⟨rfl, rfl⟩;have hg27 := Ghost.tr hg26 hg7;have hg07 := Ghost.tr hg06 hg7;refine zP ?_
      refine Xr 44 rfl (fun c4 => ?_) (fun c4 => ?_)
      ·refine zG ?_;refine Xd hs (hdb.mono hg27 1 _ rfl) rfl rfl rfl rfl rfl ?_;refine zG ?_
       refine Xr 49 rfl (fun c5 => ?_) (fun c5 => ?_)
       ·have c5' : 0 ≤ d.n := of_decide_eq_true c5;refine zG ?_;refine Xd hs (hdb.mono hg27 1 _ rfl) rfl rfl rfl rfl rfl ?_;refine zG ?_;refine Xd hs (hvb.mono hg27 1 _ rfl) rfl rfl rfl rfl rfl ?_;refine zG ?_
        refine Xr 58 rfl (fun c6 => ?_) (fun c6 => ?_)
        ·have c6' : d.n < all.length := of_decide_eq_true c6;have hdn : d.n.toNat < all.length := by omega
         have hba := (ha.mono hg07).base hdn;have hca := (ha.mono hg07).nat hdn;have hlt := hw.all_ok _ (List.getElem_mem hdn);refine zG ?_;refine Xd hs (hvb.mono hg27 1 _ rfl) rfl rfl rfl rfl rfl ?_;refine zG ?_;refine Xd hs (hdb.mono hg27 1 _ rfl) rfl rfl rfl rfl rfl ?_;refine Yb rfl rfl rfl rfl rfl (by omega) (hba) rfl rfl ?_;refine Xd hs (hca) rfl rfl rfl rfl rfl ?_
         refine wl_ixAJ _ rfl rfl rfl rfl rfl (hlt) rfl rfl rfl ?_;have hcm := hcell _ hlt;refine Xd hs (hg7.cell hcm) rfl rfl rfl rfl rfl ?_;refine Y40 ?_;refine Xb (Xo rfl rfl) ⟨g7, [], hg07, hs.drop, rfl, ?_⟩;have hg9 : all.getD d.n.toNat 0 = all[d.n.toNat] := by simp [hdn]
         simp only [Zg, if_neg k1, if_neg e2, if_pos e3, show Zr d true false 0 = true from c4, decide_eq_true c5', decide_eq_true c6', Bool.true_and, hg9]
         try rfl
        ·refine Y40 ?_;refine Xb (Xo rfl rfl) ⟨g7, [], hg07, hs.drop, rfl, ?_⟩;simp only [Zg, if_neg k1, if_neg e2, if_pos e3, decide_eq_false (of_decide_eq_false c6 : ¬ d.n < all.length), Bool.and_false, Bool.false_and]
       ·refine Y40 ?_;refine Xb (Xo rfl rfl) ⟨g7, [], hg07, hs.drop, rfl, ?_⟩;simp only [Zg, if_neg k1, if_neg e2, if_pos e3, decide_eq_false (of_decide_eq_false c5 : ¬ 0 ≤ d.n), Bool.and_false, Bool.false_and]
      ·refine Y40 ?_;refine Xb (Xo rfl rfl) ⟨g7, [], hg07, hs.drop, rfl, ?_⟩;simp only [Zg, if_neg k1, if_neg e2, if_pos e3, show Zr d true false 0 = false from c4, Bool.false_and]
     ·have e3 : ¬ d.kind = 3 := by simpa using c3
      refine Y1 ?_
      refine Xi rfl (fun c4 => ?_) (fun c4 => ?_)
      ·have e4 : d.kind = 4 := by simpa using c4
       refine Y2 ?_;refine Yj hs ((hdb.mono hg26).at') rfl rfl rfl rfl rfl rfl ?_;refine Xf (L := []) rfl rfl rfl hs (plain_spec g6 _ _ d true false 1 hd6) ?_;rintro u g7 L' w hg7 hs ⟨rfl, rfl⟩;have hg27 := Ghost.tr hg26 hg7;have hg07 := Ghost.tr hg06 hg7
       have bad : (!Zr d true false 1 || decide (d.n < 0) || decide (d.n ≥ pairs.length) || (Zh ls (Xk ls nodes on)).getD (pairs.getD d.n.toNat (0, 0)).2 false) = true → Zg ls all pairs (k + 1) d nodes on deep = false := fun h => by
        simp only [Zg, if_neg k1, if_neg e2, if_neg e3, if_pos e4, if_pos h]
       refine zP ?_
       refine Xr 75 rfl (fun c6 => ?_) (fun c6 => ?_)
       ·refine Y35 ?_;refine Xb (Xo rfl rfl) ⟨g7, [], hg07, hs.drop, rfl, ?_⟩;rw [bad (by rw [show (!Zr d true false 1) = true from c6]; rfl)]
       ·refine zG ?_;refine Xd hs (hdb.mono hg27 1 _ rfl) rfl rfl rfl rfl rfl ?_;refine zG ?_
        refine Xr 80 rfl (fun c7 => ?_) (fun c7 => ?_)
        ·refine Y35 ?_;refine Xb (Xo rfl rfl) ⟨g7, [], hg07, hs.drop, rfl, ?_⟩;rw [bad (by rw [show decide (d.n < 0) = true from c7]; simp)]
        ·have c7' : ¬ d.n < 0 := of_decide_eq_false c7;refine zG ?_;refine Xd hs (hdb.mono hg27 1 _ rfl) rfl rfl rfl rfl rfl ?_;refine zG ?_;refine Xd hs (hvb.mono hg27 2 _ rfl) rfl rfl rfl rfl rfl ?_;refine zG ?_
         refine Xr 89 rfl (fun c8 => ?_) (fun c8 => ?_)
         ·refine Y35 ?_;refine Xb (Xo rfl rfl) ⟨g7, [], hg07, hs.drop, rfl, ?_⟩;rw [bad (by rw [show decide (d.n ≥ pairs.length) = true from c8]; simp)]
         ·have c8' : ¬ d.n ≥ pairs.length := of_decide_eq_false c8;have hdn : d.n.toNat < pairs.length := by omega
          have hp7 := hp.mono hg07;have hcp := RS.enc hp7 hdn;obtain ⟨lb, lo, hlb⟩ := RS.base hp7 hdn;have hs9 := hs;subst hlb;have hs := hs9;have hlt := (hw.pairs_ok _ (List.getElem_mem hdn)).2;have hpg : pairs.getD d.n.toNat (0, 0) = pairs[d.n.toNat] := by simp [hdn]
          refine zG ?_;refine Xd hs (hvb.mono hg27 2 _ rfl) rfl rfl rfl rfl rfl ?_;refine zG ?_;refine Xd hs (hdb.mono hg27 1 _ rfl) rfl rfl rfl rfl rfl ?_;refine Yb rfl rfl rfl rfl rfl (by omega) (⟨lb, lo, rfl⟩) rfl rfl ?_;refine wl_ixA rfl rfl rfl rfl rfl (by decide) rfl rfl ?_;refine Xd hs (hcp 1 _ rfl) rfl rfl rfl rfl rfl ?_
          refine wl_ixAJ _ rfl rfl rfl rfl rfl (hlt) rfl rfl rfl ?_;have hcm := hcell _ hlt;refine Xd hs (hg7.cell hcm) rfl rfl rfl rfl rfl ?_;refine Y40 ?_
          refine Xi rfl (fun c9 => ?_) (fun c9 => ?_)
          ·refine Y1 ?_;refine Xb (Xo rfl rfl) ⟨g7, [], hg07, hs.drop, rfl, ?_⟩;rw [bad (by rw [hpg, c9]; simp)]
          ·refine zS ?_;refine zQ ?_;refine Yf 14 [] Yd (by kernel_rfl) rfl hs ?_;refine zC ?_;refine Xp (hvb.mono hg27 0 _ rfl) rfl rfl rfl rfl ?_;refine zC ?_;refine Xv 0 rfl rfl rfl rfl rfl rfl ?_;refine zC ?_;refine Xp (hvb.mono hg27 2 _ rfl) rfl rfl rfl rfl ?_;refine zC ?_;refine Xp (hdb.mono hg27 1 _ rfl) rfl rfl rfl rfl ?_
           refine Uc rfl rfl rfl rfl rfl (by omega) (⟨lb, lo, rfl⟩) rfl ?_;refine sg_ixA rfl rfl rfl rfl rfl (by decide) rfl ?_;refine Xp (hcp 0 _ rfl) rfl rfl rfl rfl ?_
           refine Uf (post := fun g' L' r => L' = [] ∧ RS Yt g' r (Ya ls on pairs[d.n.toNat].1)) [] [] rfl rfl rfl (fun g' hg' => without_spec g' _ _ n pairs[d.n.toNat].1 ls on (hG.mono (Ghost.tr hg07 hg')) hv (h3.mono (Ghost.tr hg07 hg')) hlen) ?_;refine zC ?_;refine Xy ?_;intro g8 w hg8;rintro vw _ ⟨g9, hg9, rfl, hrw⟩ hs;have hg78 := hg8;have hg08 := Ghost.tr hg07 hg8
           have hg28 := Ghost.tr hg27 hg8;obtain ⟨aw, cw, rfl⟩ := hrw.form;replace hs := (show St g8 w ((pb, Xa [.slice a1 nodes.length c1, .slice a2 (inF n nodes).length _, .slice a3 on.length _] 94) :: F) from hs)
           refine Yh hs 0 rfl rfl rfl rfl rfl rfl rfl rfl ?_; clear hs; intro w hs;refine zn ?_;replace hs := (show St g8 w ((pb, Xa [.slice a1 nodes.length c1, .slice a2 (inF n nodes).length _, .slice aw (Ya ls on pairs[d.n.toNat].1).length cw] 94) :: F) from hs)
           obtain ⟨g10, hg10, hs, hpb⟩ := freezeB hs;have hg010 := Ghost.tr hg08 hg10;have hg210 := Ghost.tr hg28 hg10
           have hl0 : 0 < d.l.length := by
            have h9 : Zr d true false 1 = true := by simpa using c6
            unfold Zr at h9
            simp at h9
            omega
           have r30 := r3.mono hg010;obtain ⟨dc, hdc, hdl⟩ := r30.get hl0;obtain ⟨dlb, dlo, hdb2⟩ := r30.base hl0;refine zQ ?_;refine Yf 10 [] Yd (by kernel_rfl) rfl hs ?_;refine Vm ((hvb.mono hg210).at') rfl rfl rfl rfl rfl ?_;refine zC ?_;refine Xp (hdb.mono hg210 4 _ rfl) rfl rfl rfl rfl ?_;refine Uc rfl rfl rfl rfl rfl (by omega) ⟨dlb, dlo, hdb2⟩ rfl ?_
           refine Vm (cs := dc) (fun j v hv => by rw [Kn, Yo]; exact hdl j v hv) rfl rfl rfl (by exact (DropRn.len hdc)) rfl ?_;refine Vm (hpb.at') rfl rfl rfl rfl rfl ?_;refine zC ?_;refine sg_arK ((deep + 1 : Nat) : Int) rfl rfl rfl (by omega) rfl ?_
           refine Vq (v := .bool (Zg ls all pairs k d.l[0] nodes (Ya ls on pairs[d.n.toNat].1) (deep + 1))) (post := Det (.bool (Zg ls all pairs k d.l[0] nodes (Ya ls on pairs[d.n.toNat].1) (deep + 1)))) [] [] rfl rfl rfl (fun g' hg' => ih g' _ _ _ _ _ _ dc d.l[0] nodes (Ya ls on pairs[d.n.toNat].1) (deep + 1) (hG.mono (Ghost.tr hg010 hg')) (ha.mono (Ghost.tr hg010 hg')) (hp.mono (Ghost.tr hg010 hg')) (hdc.mono hg') (hk4 0 hl0) (h1.mono (Ghost.tr hg010 hg')) (h2.mono (Ghost.tr hg010 hg')) (hrw.mono (Ghost.tr hg9 (Ghost.tr hg10 hg'))) (by simp [Ya]) hnl hn (by omega)) (fun _ _ _ h => h) ?_
           refine zC ?_;refine Xy ?_;intro g11 w hg11;intro hs;refine zn ?_;refine Xb (Xo rfl rfl) ⟨g11, [], Ghost.tr hg010 hg11, hs, rfl, ?_⟩
           have hgood : (!Zr d true false 1 || decide (d.n < 0) || decide (d.n ≥ pairs.length) || (Zh ls (Xk ls nodes on)).getD (pairs.getD d.n.toNat (0, 0)).2 false) = false := by
            rw [hpg, c9, show (!Zr d true false 1) = false from c6, decide_eq_false c7', decide_eq_false c8']; rfl
           have hsh : Zg ls all pairs (k + 1) d nodes on deep = Zg ls all pairs k d.l[0] nodes (Ya ls on pairs[d.n.toNat].1) (deep + 1) := by
            rw [hpg] at hgood
            simp only [Zg, if_neg k1, if_neg e2, if_neg e3, if_pos e4, hpg, hgood, Bool.false_eq_true, if_false];obtain ⟨kd, dn, dno, drk, dl⟩ := d;cases dl with
            | nil => exact absurd hl0 (Nat.lt_irrefl 0)
            | cons a b => rfl
           rw [hsh]
      ·have e4 : ¬ d.kind = 4 := by simpa using c4
       refine Y1 ?_
       refine Xi rfl (fun c5 => ?_) (fun c5 => ?_)
       ·have e5 : d.kind = 1 := by simpa using c5
        refine Y2 ?_;refine Yj hs ((hdb.mono hg26).at') rfl rfl rfl rfl rfl rfl ?_;refine Xf (L := []) rfl rfl rfl hs (plain_spec g6 _ _ d false true (-1) hd6) ?_;rintro u g7 L' w hg7 hs ⟨rfl, rfl⟩;have hg27 := Ghost.tr hg26 hg7;have hg07 := Ghost.tr hg06 hg7;refine zP ?_
        refine Xr 128 rfl (fun c6 => ?_) (fun c6 => ?_)
        ·refine zG ?_;refine Yj hs ((hvb.mono hg27).at') rfl rfl rfl rfl rfl rfl ?_;refine zG ?_;refine Yj hs ((hdb.mono hg27).at') rfl rfl rfl rfl rfl rfl ?_;refine zG ?_;refine Vy hs 0 rfl rfl rfl rfl rfl rfl rfl ?_;refine zG ?_
         refine Xf (L := []) rfl rfl rfl hs (ranks_spec n ls all pairs k ih g7 _ _ _ _ _ _ _ _ d nodes on (Xk ls nodes on) deep (hG.mono hg07) hv (ha.mono hg07) (hp.mono hg07) (hd0.mono hg07) hok0 (h1.mono hg07) (h2.mono hg07) (h3.mono hg07) (hrl.mono (Ghost.tr hg5 (Ghost.tr hg6 hg7))) (withinF_len hv.len hnl) (fun i hi => withinF_lt hi) hlen hnl hn hdp hnodes) ?_
         rintro u g8 L' w hg8 hs ⟨rfl, rfl⟩;refine Y40 ?_;refine Xb (Xo rfl rfl) ⟨g8, [], Ghost.tr hg07 hg8, hs.drop, rfl, ?_⟩;simp only [Zg, if_neg k1, if_neg e2, if_neg e3, if_neg e4, if_pos e5, show Zr d false true (-1) = true from c6, Bool.true_and]
        ·refine Y40 ?_;refine Xb (Xo rfl rfl) ⟨g7, [], hg07, hs.drop, rfl, ?_⟩;simp only [Zg, if_neg k1, if_neg e2, if_neg e3, if_neg e4, if_pos e5, show Zr d false true (-1) = false from c6, Bool.false_and]
       ·have e5 : ¬ d.kind = 1 := by simpa using c5
        refine Xq (Xh (Zl ?_));refine Y1 ?_;refine Xb (Xo rfl rfl) ⟨g6, [], hg06, hs.drop, rfl, ?_⟩;simp only [Zg, if_neg k1, if_neg e2, if_neg e3, if_neg e4, if_neg e5]
end
section
open Go.RowKit
def reachR (n : Nat) (ls : List Arrow) (init : List Nat) : Option (List Nat) := match Ql (nxF ls) init with
 | some reached => if (reached.all (fun x => decide (x < n)) && decide (reached.length ≤ 20000)) = true then some reached else none
 | none => none
theorem reachR_some {n : Nat} {ls : List Arrow} {init reached : List Nat} (h : reachR n ls init = some reached) : Ql (nxF ls) init = some reached ∧ reached.length ≤ 20000 ∧ ∀ x ∈ reached, x < n := by
 unfold reachR at h
 split at h
 ·rename_i r q
  split at h
  ·rename_i hok;cases h;simp only [Bool.and_eq_true] at hok
   exact ⟨q, of_decide_eq_true hok.2, fun x hx => of_decide_eq_true (List.all_eq_true.1 hok.1 x hx)⟩
  ·cases h
 ·cases h
def verifyI (k : Nat) (n : Int) (init : List Int) (ls : List ArrowI) (all : List Int) (pairs : List (Int × Int)) (d : Drop) : Option Int :=
 if Xz n init ls all pairs = 0 then (reachR n.toNat (ls.map toA) (init.map Int.toNat)).map fun r => if Zg (ls.map toA) (all.map Int.toNat) (pairs.map toP) k d r (List.replicate (ls.map toA).length true) 1 = true then 0 else 312
 else some (Xz n init ls all pairs)
theorem Verify_spec (k : Nat) (g : Ghost) (n : Int) (vi vl va vp : Value) (cs : List Value) (init : List Int) (ls : List ArrowI) (all : List Int) (pairs : List (Int × Int)) (d : Drop) (hi : RS kInt g vi init) (hl : RS Jl g vl ls) (ha : RS kInt g va all) (hp : RS Vh g vp pairs) (hd : DropRn k g cs d) (hok : DropOk k d)
  (hi0 : init.length ≤ 4611686018427387904) (hl0 : ls.length ≤ 4611686018427387904) (ha0 : all.length ≤ 4611686018427387904) (hp0 : pairs.length ≤ 4611686018427387904) (o : Int) (ho : verifyI k n init ls all pairs d = some o) :
  Cl PP 22 [.int .i64 n, vi, vl, .agg #[va, vp], .agg cs.toArray] g [] (Det (.int .i64 o)) := by
 obtain ⟨a1, c1, rfl⟩ := hi.form
 obtain ⟨a2, c2, rfl⟩ := hl.form
 have hlen5 := hd.len
 refine Xj Tryz.func22 rfl rfl Tryz.ntmps22 rfl ?_
 intro w F hs
 refine Y2 ?_
 refine Yi hs rfl rfl rfl rfl ?_; clear hs; intro wx w hs
 refine Yi hs rfl rfl rfl rfl ?_; clear hs; intro dx w hs
 refine Y7 ?_
 obtain ⟨g1, hg1, hs, hdx⟩ := freezeB hs
 obtain ⟨g2, hg2, hs, hwx⟩ := freezeB hs
 replace hdx := hdx.mono hg2
 have hg02 := Ghost.tr hg1 hg2
 replace hs := (show St g2 w F from hs)
 clear hg1 hg2
 refine Y0 ?_
 refine Yj hs (hwx.at') rfl rfl rfl rfl rfl rfl ?_
 refine Xf (L := []) rfl rfl rfl hs (check_spec g2 n _ _ va vp init ls all pairs (hi.mono hg02) (hl.mono hg02) (ha.mono hg02) (hp.mono hg02) hi0 hl0 ha0 hp0) ?_
 rintro u g4 L' w hg4 hs ⟨rfl, rfl⟩
 have hg04 := Ghost.tr hg02 hg4
 refine Y15 ?_
 refine Xi rfl (fun h1 => ?_) (fun h1 => ?_)
 ·have h9 : ¬ Xz n init ls all pairs = 0 := by simpa using h1
  unfold verifyI at ho
  rw [if_neg h9] at ho
  cases ho;refine Y1 ?_;exact Xb (Xo rfl rfl) ⟨g4, [], hg04, hs, rfl, rfl⟩
 ·have hc : Xz n init ls all pairs = 0 := by simpa using h1
  have hC := Jn hc;have hnn : n = (n.toNat : Int) := (Int.toNat_of_nonneg hC.n0).symm;unfold verifyI at ho
  rw [if_pos hc] at ho
  obtain ⟨reached, hres, hoc⟩ := Option.map_eq_some_iff.1 ho;obtain ⟨hreach, hrl, hrn⟩ := reachR_some hres;have hV := hC.validG;have hW := hC.validW;have hA := hC.rsA hl;have hP := hC.rsP hp;have hI := hC.init.rs hi;have hAl := hC.all.rs ha
  have hin : ∀ x ∈ (init.map Int.toNat), x < n.toNat := fun x hx => by
   obtain ⟨y, hy, rfl⟩ := List.mem_map.1 hx;have := hC.init.low y hy;omega
  have hilen : (init.map Int.toNat).length = init.length := by simp
  have hilen2 : (init.map Int.toNat).length ≤ 20000 := by have := hC.init.len hC.n0; have := hC.n1; omega
  refine Y57 ?_;refine Xf (vs := [.int .i64 (n.toNat : Int), .slice a2 ls.length c2]) (L := []) (by rw [← hnn]; rfl) rfl rfl hs (Jd g4 n.toNat _ (ls.map toA) (hA.mono hg04) hV.size hV.len (fun a ha => (hV.ok a ha).1)) ?_;rintro gv g6 L' w hg6 hs ⟨rfl, hG⟩
  obtain ⟨gb, hgv⟩ : ∃ gb, gv = .pointer (some ⟨gb, 0, none⟩) := by obtain ⟨gb, _, _, _, _, rfl, _⟩ := hG; exact ⟨gb, rfl⟩
  subst hgv;refine Y7 ?_;have hg06 := Ghost.tr hg04 hg6;have hg26 := Ghost.tr hg4 hg6;have hs0 : St g6 w ([] ++ F) := hs;refine zQ ?_;refine Yf 13 [] Yd (by kernel_rfl) rfl hs ?_;refine zC ?_;refine Vm ((hwx.mono hg26).at') rfl rfl rfl rfl rfl ?_;refine sg_build (ps := [(0, .tmp 24), (1, .tmp 25)]) rfl rfl rfl rfl rfl rfl ?_
  refine Vm (cs := cs) ((hdx.mono hg26).at') rfl rfl rfl hlen5 rfl ?_;refine zC ?_
  refine Uf (post := fun g' L' r => L' = [] ∧ RS kNat g' r reached) (vs := [.int .i64 (n.toNat : Int), .slice a1 init.length c1, .func (.func 35) #[.pointer (some ⟨gb, 0, none⟩)] #[]]) [] [] rfl (by rw [← hnn]; rfl) rfl (fun g' hg' => closure_spec g' n.toNat _ (init.map Int.toNat) 35 #[.pointer (some ⟨gb, 0, none⟩)] #[] (nxF (ls.map toA)) reached hV.size (hI.mono (Ghost.tr hg06 hg')) hin (by omega)
   (fun g2 x hg2 hx => next_spec g2 _ n.toNat x (ls.map toA) (hG.mono (Ghost.tr hg' hg2)) hV hx) (fun x hx => ⟨fun y hy => nxF_lt hV hy, by have h1 := nxF_len (ls.map toA) x; have h2 := hV.len; omega⟩) hreach) ?_
  refine sg_callW (post := fun g' L' r => L' = [] ∧ PieceR g' r n.toNat reached (List.replicate (ls.map toA).length true)) 33 [] [] rfl rfl rfl (fun _ => rfl) (fun _ => rfl) (fun g' g1 v L' hg1 ⟨g2, hg2, hL, hr⟩ hg' =>
   whole_spec g' _ v n.toNat (ls.map toA) reached (hG.mono (Ghost.tr hg1 hg')) hV (hr.mono (Ghost.tr hg2 hg')) (by omega) hrn) ?_
  refine sg_callWK (post := Det (.bool (Zg (ls.map toA) (all.map Int.toNat) (pairs.map toP) k d reached (List.replicate (ls.map toA).length true) 1))) 34 [] [] rfl rfl rfl (fun _ => rfl) (fun _ => rfl) (fun g' g1 v L' hg1 ⟨g2, hg2, hL, hr⟩ hg' => by
   obtain ⟨v1, v2, v3, rfl, q1, q2, q3⟩ := hr;have hgg := Ghost.tr hg06 (Ghost.tr hg1 hg')
   exact shows_all n.toNat (ls.map toA) (all.map Int.toNat) (pairs.map toP) hV hW k g' _ va vp v1 v2 v3 cs d reached _ 1 (hG.mono (Ghost.tr hg1 hg')) (hAl.mono hgg) (hP.mono hgg) (hd.mono hgg) hok (q1.mono (Ghost.tr hg2 hg')) (q2.mono (Ghost.tr hg2 hg')) (q3.mono (Ghost.tr hg2 hg')) (by simp) hrl hrn (by omega)) (fun g' L' v' h => h) ?_
  refine zC ?_;refine Xy ?_;intro g8 w hg8;have hg08 := Ghost.tr hg06 hg8;rintro _ _ ⟨_, _, rfl, _⟩ _ _ ⟨_, _, rfl, _⟩ hs;replace hs := (show St g8 w F from hs)
  refine zn ?_;subst hoc
  refine Xi rfl (fun q => ?_) (fun q => ?_)
  ·have q' : Zg (ls.map toA) (all.map Int.toNat) (pairs.map toP) k d reached (List.replicate (ls.map toA).length true) 1 = false := by simpa using q
   refine Y1 ?_;refine Xb (Xo rfl rfl) ⟨g8, [], hg08, hs, rfl, by rw [q', if_neg (by simp)]⟩
  ·have q' : Zg (ls.map toA) (all.map Int.toNat) (pairs.map toP) k d reached (List.replicate (ls.map toA).length true) 1 = true := by simpa using q
   refine zS ?_;refine Y1 ?_;refine Xb (Xo rfl rfl) ⟨g8, [], hg08, hs, rfl, by rw [q', if_pos rfl]⟩
end
section
open Go.RowKit
theorem contains_nat (c : List Nat) (y : Nat) : ((c.map Int.ofNat).any fun z => ((y : Nat) : Int) == z) = c.contains y := by
 induction c with
 | nil => rfl
 | cons x c ih =>
  rw [List.map_cons, List.any_cons, ih, List.contains_cons]
  congr 1
  rw [Bool.eq_iff_iff];simp [Int.ofNat_inj]
section
variable (ls : List Arrow) (nodes : List Nat) (on : List Bool)
def lvStep (lv : List (Nat × Nat)) (c : List Nat) (m k : Nat) : Nat := if (Uk ls nodes on k && !c.contains (Yk ls k)) = true then max m (Xg lv (Yk ls k) + 1) else m
def lvN (lv : List (Nat × Nat)) (c : List Nat) : Nat := (c.flatMap fun x => Xt ls ls.length x).foldl (lvStep ls nodes on lv c) 0
structure RkS where
 lv : List (Nat × Nat)
 al : List (Nat × List Nat)
 ot : List (List Nat)
 gr : Nat
def setAll (m : List (Nat × Nat)) (c : List Nat) (v : Nat) : List (Nat × Nat) := c.foldl (fun m x => sk m x v) m
def alAt (al : List (Nat × List Nat)) (n : Nat) : List Nat := (lk al n).getD []
def rkStep (s : RkS) (c : List Nat) : RkS :=
 { lv := setAll s.lv c (lvN ls nodes on s.lv c), gr := max s.gr (lvN ls nodes on s.lv c + 1), al := if (Xk ls c on).length = 0 then sk s.al (lvN ls nodes on s.lv c) (alAt s.al (lvN ls nodes on s.lv c) ++ c) else s.al, ot := if (Xk ls c on).length = 0 then s.ot else s.ot ++ [c] }
def Uv (parts : List (List Nat)) : RkS := parts.foldl (rkStep ls nodes on) ⟨[], [], [], 0⟩
def Jv (s : RkS) (n : Nat) : List (List Nat) := (if (alAt s.al n).length = 0 then [] else [Vj (alAt s.al n)]) ++ s.ot.filter fun c => decide (Xg s.lv (c.getD 0 0) = n)
def Ur (parts : List (List Nat)) : List (List Nat) := (List.range (Uv ls nodes on parts).gr).flatMap (Jv (Uv ls nodes on parts))
end
theorem rkAll_snoc (ls : List Arrow) (nodes : List Nat) (on : List Bool) (parts : List (List Nat)) (c : List Nat) : Uv ls nodes on (parts ++ [c]) = rkStep ls nodes on (Uv ls nodes on parts) c := by
 unfold Uv
 rw [List.foldl_append]
 rfl
theorem lvFold_le {ls : List Arrow} {nodes : List Nat} {on : List Bool} {lv : List (Nat × Nat)} {c : List Nat} {B : Nat} (h : ∀ x, Xg lv x ≤ B) : ∀ (l : List Nat) (m : Nat), m ≤ B + 1 → l.foldl (lvStep ls nodes on lv c) m ≤ B + 1
 | [], m, hm => hm
 | k :: l, m, hm => by
  rw [List.foldl_cons];refine lvFold_le h l _ ?_;unfold lvStep
  split
  ·have := h (Yk ls k); omega
  ·exact hm
theorem lowOf_setAll : ∀ (c : List Nat) (m : List (Nat × Nat)) (v x : Nat), Xg (setAll m c v) x = if x ∈ c then v else Xg m x
 | [], m, v, x => by simp [setAll]
 | y :: c, m, v, x => by
  show Xg (setAll (sk m y v) c v) x = _
  rw [lowOf_setAll c];unfold Xg;rw [lk_sk]
  by_cases h1 : x ∈ c
  ·rw [if_pos h1, if_pos (List.mem_cons_of_mem _ h1)]
  ·rw [if_neg h1]
   by_cases h2 : x = y
   ·rw [if_pos h2, if_pos (h2 ▸ List.mem_cons_self)]; rfl
   ·rw [if_neg h2, if_neg (by simp [h1, h2])]
structure RkOk (s : RkS) (i m : Nat) : Prop where
 lv : ∀ x, Xg s.lv x ≤ i
 al : ∀ n, (alAt s.al n).length ≤ m
 ot : s.ot.length ≤ i
 gr : s.gr ≤ i + 1
theorem alAt_sk (al : List (Nat × List Nat)) (k n : Nat) (v : List Nat) : alAt (sk al k v) n = if n = k then v else alAt al n := by
 unfold alAt
 rw [lk_sk]
 split <;> rfl
theorem rkOk_all (ls : List Arrow) (nodes : List Nat) (on : List Bool) (parts : List (List Nat)) : ∀ i, i ≤ parts.length → RkOk (Uv ls nodes on (parts.take i)) i (parts.take i).flatten.length := by
 intro i
 induction i with
 | zero =>
  intro _;exact ⟨fun x => by simp [Uv, Xg, lk], fun n => by simp [Uv, alAt, lk], by simp [Uv], by simp [Uv]⟩
 | succ i ih =>
  intro hi;obtain ⟨h1, h2, h3, h4⟩ := ih (by omega);rw [Yr (by omega : i < parts.length), rkAll_snoc];generalize parts[i] = c;generalize hs : Uv ls nodes on (parts.take i) = s at *
  have hn : lvN ls nodes on s.lv c ≤ i + 1 := lvFold_le h1 _ _ (by omega);have e : (parts.take i ++ [c]).flatten.length = (parts.take i).flatten.length + c.length := by simp
  refine ⟨fun x => ?_, fun n => ?_, ?_, ?_⟩
  ·simp only [rkStep];rw [lowOf_setAll]
   split
   ·exact hn
   ·have := h1 x; omega
  ·simp only [rkStep];rw [e]
   split
   ·rw [alAt_sk]
    split
    ·rename_i q; subst q; rw [List.length_append]; have := h2 (lvN ls nodes on s.lv c); omega
    ·have := h2 n; omega
   ·have := h2 n; omega
  ·simp only [rkStep]
   split
   ·omega
   ·rw [List.length_append]; simp; omega
  ·simp only [rkStep];omega
def zipV (al : List (Nat × List Nat)) (vs : List Value) : AMap := List.zipWith (fun p v => ((p.1 : Int), v)) al vs
theorem zipV_at (k : Nat) : ∀ (al : List (Nat × List Nat)) (vs : List Value), vs.length = al.length →
  (∃ j xs v, al[j]? = some (k, xs) ∧ vs[j]? = some v ∧ lk al k = some xs ∧ Zt (zipV al vs) (k : Int) = some v ∧ (∀ ys, sk al k ys = al.set j (k, ys)) ∧ ∀ u ys, aset (zipV al vs) (k : Int) u = zipV (al.set j (k, ys)) (vs.set j u)) ∨
  (lk al k = none ∧ Zt (zipV al vs) (k : Int) = none ∧ (∀ ys, sk al k ys = al ++ [(k, ys)]) ∧ ∀ u ys, aset (zipV al vs) (k : Int) u = zipV (al ++ [(k, ys)]) (vs ++ [u]))
 | [], [], _ => .inr ⟨rfl, rfl, fun _ => rfl, fun _ _ => rfl⟩
 | (k0, xs) :: al, [], h => by simp at h
 | [], v :: vs, h => by simp at h
 | (k0, xs) :: al, v :: vs, h => by
  by_cases e : k = k0
  ·subst e;exact .inl ⟨0, xs, v, rfl, rfl, by simp [lk], by simp [zipV, Zt], fun ys => by simp [sk], fun u ys => by simp [zipV, aset]⟩
  ·have e2 : ¬ (k : Int) = (k0 : Int) := by omega
   rcases zipV_at k al vs (by simpa using h) with ⟨j, xs', v', h1, h2, h3, h4, h5, h6⟩ | ⟨h1, h2, h3, h4⟩
   ·refine .inl ⟨j + 1, xs', v', by simpa using h1, by simpa using h2, by simp [lk, e, h3], ?_, fun ys => by simp [sk, e, h5], fun u ys => ?_⟩
    ·show Zt (((k0 : Int), v) :: zipV al vs) (k : Int) = _
     simp only [Zt, if_neg e2]; exact h4
    ·show aset (((k0 : Int), v) :: zipV al vs) (k : Int) u = _
     simp only [aset, if_neg e2, h6 u ys];rfl
   ·refine .inr ⟨by simp [lk, e, h1], ?_, fun ys => by simp [sk, e, h3], fun u ys => ?_⟩
    ·show Zt (((k0 : Int), v) :: zipV al vs) (k : Int) = _
     simp only [Zt, if_neg e2]; exact h2
    ·show aset (((k0 : Int), v) :: zipV al vs) (k : Int) u = _
     simp only [aset, if_neg e2, h4 u ys];rfl
def AloneR (n : Nat) (al : List (Nat × List Nat)) (vs : List Value) (Hs : List Own) : Prop :=
 vs.length = al.length ∧ Hs.length = al.length ∧ ∀ (j : Nat) (p : Nat × List Nat) (v : Value) (H : Own), al[j]? = some p → vs[j]? = some v → Hs[j]? = some H → n ≤ p.1 → OwnS 3 1 v p.2.length (p.2.flatMap Zd) H
theorem AloneR.set {n : Nat} {al : List (Nat × List Nat)} {vs : List Value} {Hs : List Own} (h : AloneR n al vs Hs) (j : Nat) {p : Nat × List Nat} {v : Value} {H : Own} (ho : OwnS 3 1 v p.2.length (p.2.flatMap Zd) H) : AloneR n (al.set j p) (vs.set j v) (Hs.set j H) := by
 obtain ⟨h1, h2, h3⟩ := h
 refine ⟨by simp [h1], by simp [h2], fun j' p' v' H' e1 e2 e3 hn => ?_⟩
 by_cases hj : j = j'
 ·subst hj
  by_cases hlt : j < al.length
  ·simp [hlt, h1, h2] at e1 e2 e3
   subst e1 e2 e3;exact ho
  ·simp [hlt] at e1
 ·rw [List.getElem?_set_ne hj] at e1 e2 e3
  exact h3 j' p' v' H' e1 e2 e3 hn
theorem AloneR.snoc {n : Nat} {al : List (Nat × List Nat)} {vs : List Value} {Hs : List Own} (h : AloneR n al vs Hs) {p : Nat × List Nat} {v : Value} {H : Own} (ho : OwnS 3 1 v p.2.length (p.2.flatMap Zd) H) : AloneR n (al ++ [p]) (vs ++ [v]) (Hs ++ [H]) := by
 obtain ⟨h1, h2, h3⟩ := h
 refine ⟨by simp [h1], by simp [h2], fun j' p' v' H' e1 e2 e3 hn => ?_⟩
 by_cases hj : j' < al.length
 ·rw [List.getElem?_append_left (by omega)] at e1 e2 e3
  exact h3 j' p' v' H' e1 e2 e3 hn
 ·have : j' = al.length := by
   have := (List.getElem?_eq_some_iff.1 e1).1;simp at this
   omega
  subst this;rw [List.getElem?_append_right (by omega)] at e1 e2 e3
  simp [h1, h2] at e1 e2 e3
  subst e1 e2 e3;exact ho
theorem AloneR.take {m : Nat} {al : List (Nat × List Nat)} {vs : List Value} {Hs : List Own} (h : AloneR m al vs Hs) :
  ∃ u Hx Hs', (Zt (zipV al vs) (m : Int)).getD (.slice none 0 0) = u ∧ OwnS 3 1 u (alAt al m).length ((alAt al m).flatMap Zd) Hx ∧ AloneR (m + 1) al vs Hs' ∧ (Hx ++ Hs'.flatten).Perm Hs.flatten := by
 obtain ⟨h1, h2, h3⟩ := h
 rcases zipV_at m al vs h1 with ⟨j, xs, v, e1, e2, e3, e4, e5, e6⟩ | ⟨e1, e2, e3, e4⟩
 ·have hjl : j < Hs.length := by have := (List.getElem?_eq_some_iff.1 e1).1; omega
  refine ⟨v, Hs[j], Hs.set j [], by rw [e4]; rfl, ?_, ⟨h1, by simp [h2], fun j' p' v' H' q1 q2 q3 hn => ?_⟩, ?_⟩
  ·have := h3 j (m, xs) v Hs[j] e1 e2 (List.getElem?_eq_getElem hjl) (Nat.le_refl _);have e : alAt al m = xs := by unfold alAt; rw [e3]; rfl
   rw [e];exact this
  ·by_cases hj : j = j'
   ·subst hj;rw [e1] at q1
    cases q1;simp only at hn
    omega
   ·rw [List.getElem?_set_ne hj] at q3
    exact h3 j' p' v' H' q1 q2 q3 (by omega)
  ·refine List.Perm.trans (List.Perm.append_left _ (flat_set Hs j hjl [])) ?_;rw [List.nil_append];exact (flat_front Hs j hjl).symm
 ·have e : alAt al m = [] := by unfold alAt; rw [e1]; rfl
  refine ⟨.slice none 0 0, [], Hs, by rw [e2]; rfl, by rw [e]; exact OwnS.nil _ _, ⟨h1, h2, fun j' p' v' H' q1 q2 q3 hn => h3 j' p' v' H' q1 q2 q3 (by omega)⟩, List.Perm.refl _⟩
theorem rk_ot_mem (ls : List Arrow) (nodes : List Nat) (on : List Bool) (parts : List (List Nat)) : ∀ i, i ≤ parts.length → ∀ c ∈ (Uv ls nodes on (parts.take i)).ot, c ∈ parts := by
 intro i
 induction i with
 | zero => intro _ c hc; simp [Uv] at hc
 | succ i ih =>
  intro hi c hc;rw [Yr (by omega : i < parts.length), rkAll_snoc] at hc
  simp only [rkStep] at hc
  split at hc
  ·exact ih (by omega) c hc
  ·rcases List.mem_append.1 hc with h | h
   ·exact ih (by omega) c h
   ·rw [List.mem_singleton.1 h]; exact List.getElem_mem _
theorem setAll_snoc (m : List (Nat × Nat)) (c : List Nat) (x v : Nat) : setAll m (c ++ [x]) v = sk (setAll m c v) x v := by
 unfold setAll
 rw [List.foldl_append]
 rfl
end
section
open Go.RowKit
section
variable {P : Program} {ro : Option Nat} {Qb : Exit → Act → World → Prop} {N : Nat} {ds : List Deferred} {ops : Array Oper} {rest : List Oper} {s : List Fr} {ρ : Env} {w : World}
variable {d : Nat} {ty : TypeId} {pos : String} {after : Array Edge} {guard : Option (Nat × Bool)}
theorem wl_maxK {x y : Operand} {a b : Int} {argTypes : Array TypeId} (c : Int) (hc : (if a < b then b else a) = c) (hx : ev ρ x = some (.int .i64 a)) (hy : ev ρ y = some (.int .i64 b)) (hn : Nat.blt d N = true) (hw : Xl ops ρ guard = some true)
  (h : WL P ro Qb N ds ops rest s ((d, .int .i64 c) :: ρ) w) :
  WL P ro Qb N ds ops (⟨some d, .call ⟨.builtin .max, #[x, y], argTypes⟩, ty, pos, after, guard⟩ :: rest) s ρ w := by
 subst hc; exact wl_max hx hy hn hw h
end
theorem ranked_spec (g : Ghost) (gp v1 v2 v3 vp : Value) (n : Nat) (ls : List Arrow) (nodes : List Nat) (on : List Bool) (parts : List (List Nat)) (hG : GraphR g gp n ls) (hv : ValidG n ls) (h1 : RS kNat g v1 nodes) (h2 : RS Yt g v2 (inF n nodes)) (h3 : RS Yt g v3 on) (hP : RS (kSl kNat) g vp parts)
  (hlen : on.length = ls.length) (hpn : ∀ c ∈ parts, c ≠ [] ∧ ∀ x ∈ c, x < n) (hpl : parts.length ≤ 20000) (hpf : parts.flatten.length ≤ 20000) :
  Cl PP 93 [gp, .agg #[v1, v2, v3], vp] g [] fun g' L' r => L' = [] ∧ RS (kSl kNat) g' r (Ur ls nodes on parts) := by
 have hG0 := hG
 obtain ⟨gb, al, cl, ao, co, rfl, hG, hA, hO⟩ := hG
 obtain ⟨a1, c1, rfl⟩ := h1.form
 obtain ⟨a2, c2, rfl⟩ := h2.form
 obtain ⟨a3, c3, rfl⟩ := h3.form
 obtain ⟨ap, cp, rfl⟩ := hP.form
 have hl0 := hv.len
 have hpl2 : parts.length ≤ 4611686018427387904 := by omega
 refine Xj Tryz.func93 rfl rfl Tryz.ntmps93 rfl ?_
 intro w F hs
 refine Y2 ?_
 refine Yi hs rfl rfl rfl rfl ?_; clear hs; intro pb w hs
 refine Y7 ?_
 obtain ⟨g1, hg1, hs, hpb⟩ := freezeB hs
 replace hs := (show St g1 w F from hs)
 replace hpb := (show Lies g1 pb 0 [.slice a1 nodes.length c1, .slice a2 (inF n nodes).length c2, .slice a3 on.length c3] from hpb)
 refine Y13 ?_
 refine Vx hs rfl rfl ?_
 clear hs; intro lb lo w olo hs
 refine Y6 ?_
 refine Vx hs rfl rfl ?_
 clear hs; intro ab ao2 w oao hs
 refine Y15 ?_
 refine Y22 ?_
 refine Yw parts.length (fun i (v10 : Value) => [(29, .int .i64 parts.length), (28, (.slice ap parts.length cp)), (0, (.pointer (some ⟨gb, 0, none⟩))), (4, .pointer (some ⟨pb, 0, none⟩)), (7, .slice none 0 0), (8, .map (some lb)), (9, .map (some ab)), (10, v10), (11, .int .i64 (((Uv ls nodes on (parts.take i)).gr : Int) - 1))])
  (fun i (v10 : Value) w => ∃ g' lo ao vs Hs cs10 H10, g1 ≤ g' ∧ Jb (Jh vNat (Uv ls nodes on (parts.take i)).lv) lo ∧ AloneR 0 (Uv ls nodes on (parts.take i)).al vs Hs ∧ Jb (zipV (Uv ls nodes on (parts.take i)).al vs) ao ∧ OwnS 22 1 v10 (Uv ls nodes on (parts.take i)).ot.length cs10 H10 ∧
   (∀ (k : Nat) (v : Value) (c : List Nat), cs10[k]? = some v → (Uv ls nodes on (parts.take i)).ot[k]? = some c → RS kNat g' v c) ∧ St g' w ((lb, lo) :: (ab, ao) :: (Hs.flatten ++ (H10 ++ F)))) (.slice none 0 0) hpl2
  (by repeat (first | exact trivial | refine ⟨rfl, ?_⟩)) ⟨g1, lo, ao2, [], [], [], [], Ghost.rfl', olo, ⟨rfl, rfl, fun j p v H h => by simp [Uv] at h⟩, oao, OwnS.nil _ _, fun k v c h => by simp at h, hs.perm (by classical exact List.perm_iff_count.2 fun x => by simp only [List.append_eq, List.set_cons_succ, List.set_cons_zero, List.eraseIdx_cons_zero, List.eraseIdx_cons_succ, List.count_cons, List.count_append, List.cons_append, List.nil_append, List.append_nil, List.append_assoc] <;> ac_rfl)⟩ (fun _ _ => rfl) rfl rfl rfl ?_ ?_ (fun _ _ => rfl) rfl
 ·rintro i v10 w hi ⟨g2, lo, ao2, vs, Hs, cs10, H10, hg2, olo, hal, oao, ho10, hr10, hs⟩;obtain ⟨k1, k2, k3, k4⟩ := rkOk_all ls nodes on parts i (by omega);have hgr : Uv ls nodes on (parts.take i) = Uv ls nodes on (parts.take i) := rfl
  have hsucc : Uv ls nodes on (parts.take (i + 1)) = rkStep ls nodes on (Uv ls nodes on (parts.take i)) parts[i] := by rw [Yr hi, rkAll_snoc]
  have hlenm : (parts.take (i + 1)).flatten.length = (parts.take i).flatten.length + parts[i].length := by rw [Yr hi, List.flatten_append, List.length_append, List.flatten_cons, List.flatten_nil, List.append_nil]
  have hle2 : (parts.take (i + 1)).flatten.length ≤ 20000 := by
   have e : parts.flatten.length = (parts.take (i + 1)).flatten.length + (parts.drop (i + 1)).flatten.length := by
    rw [← List.length_append, ← List.flatten_append, List.take_append_drop]
   omega
  have hg02 := Ghost.tr hg1 hg2;have hbP := hP.base hi;obtain ⟨ca, cc, hcP, hRC⟩ := (hP.mono hg02).sl hi;obtain ⟨hcne, hcn⟩ := hpn _ (List.getElem_mem hi);generalize parts[i] = c at hcP hRC hcne hcn hsucc hlenm
  generalize Uv ls nodes on (parts.take i) = S at k1 k2 k3 k4 hsucc olo hal oao ho10 hr10
  have hcl : c.length ≤ 20000 := by omega
  have hcl2 : c.length ≤ 4611686018427387904 := by omega
  generalize hf : lvStep ls nodes on S.lv c = f;have hNN : lvN ls nodes on S.lv c = (c.flatMap fun x => Xt ls ls.length x).foldl f 0 := by rw [← hf]; rfl
  have hlvb : ∀ l : List Nat, l.foldl f 0 ≤ i + 1 := fun l => by rw [← hf]; exact lvFold_le k1 l 0 (by omega)
  refine Y2 ?_;refine Yb rfl rfl rfl rfl rfl (by omega) (hbP) rfl rfl ?_;refine Xd hs (hcP) rfl rfl rfl rfl rfl ?_;refine Y7 ?_;refine Y22 ?_
  refine Yw c.length (fun j (_ : Unit) => [(14, .int .i64 ((((c.take j).flatMap fun x => Xt ls ls.length x).foldl f 0 : Nat) : Int)), (35, .int .i64 c.length), (34, .slice ca c.length cc), (13, .slice ca c.length cc), (30, .int .i64 (i : Int)), (29, .int .i64 parts.length), (28, (.slice ap parts.length cp)), (0, (.pointer (some ⟨gb, 0, none⟩))), (4, .pointer (some ⟨pb, 0, none⟩)), (7, .slice none 0 0), (8, .map (some lb)), (9, .map (some ab)), (10, v10), (11, .int .i64 ((S.gr : Int) - 1))])
   (fun j (_ : Unit) w => ∃ g', g2 ≤ g' ∧ St g' w ((lb, lo) :: (ab, ao2) :: (Hs.flatten ++ (H10 ++ F)))) () hcl2 (by repeat (first | exact trivial | refine ⟨rfl, ?_⟩)) ⟨g2, Ghost.rfl', hs⟩ (fun _ _ => rfl) rfl rfl rfl ?_ ?_ (fun _ _ => rfl) rfl
  ·rintro j _ w hj ⟨g3, hg3, hs⟩;have hg03 := Ghost.tr hg02 hg3;have hbC := hRC.base hj;have hcC := (hRC.mono hg3).nat hj;have hx : c[j] < n := hcn _ (List.getElem_mem hj);have hfl : (c.take (j + 1)).flatMap (fun x => Xt ls ls.length x) = (c.take j).flatMap (fun x => Xt ls ls.length x) ++ Xt ls ls.length c[j] := by rw [Yr hj, List.flatMap_append]; simp
   generalize c[j] = x at hcC hx hfl
   generalize hmj : ((c.take j).flatMap fun x => Xt ls ls.length x) = mj at hfl
   have hxl : x < (Zs n ls).length := by simpa [Zs] using hx
   have hol : n = (Zs n ls).length := by simp [Zs]
   have hO' : RS (kSl kNat) g (.slice ao (Zs n ls).length co) (Zs n ls) := by rw [← hol]; exact hO
   have hbO := hO'.base hxl;obtain ⟨sa, sc, hcO, hS⟩ := (hO'.mono hg03).sl hxl;rw [outsF_at hx] at hcO hS
   have hol2 := Vt ls ls.length x;have hl2 : (Xt ls ls.length x).length ≤ 4611686018427387904 := by omega
   refine Y2 ?_;refine Yb rfl rfl rfl rfl rfl (by omega) (hbC) rfl rfl ?_;refine Xd hs (hcC) rfl rfl rfl rfl rfl ?_;refine Y4 ?_;refine Xd hs (hG.mono hg03 2 _ rfl) rfl rfl rfl rfl rfl ?_;refine zP ?_;refine Yb rfl rfl rfl rfl rfl (by omega) hbO rfl rfl ?_;refine Xd hs (hcO) rfl rfl rfl rfl rfl ?_;refine Y7 ?_
   refine Yw (Xt ls ls.length x).length (fun q (_ : Unit) => [(14, .int .i64 (((mj ++ (Xt ls ls.length x).take q).foldl f 0 : Nat) : Int)), (47, .int .i64 (Xt ls ls.length x).length), (46, .slice sa (Xt ls ls.length x).length sc), (36, .int .i64 (j : Int)), (35, .int .i64 c.length), (34, .slice ca c.length cc), (13, .slice ca c.length cc), (30, .int .i64 (i : Int)), (29, .int .i64 parts.length), (28, (.slice ap parts.length cp)), (0, (.pointer (some ⟨gb, 0, none⟩))), (4, .pointer (some ⟨pb, 0, none⟩)), (7, .slice none 0 0), (8, .map (some lb)), (9, .map (some ab)), (10, v10), (11, .int .i64 ((S.gr : Int) - 1))])
    (fun q (_ : Unit) w => ∃ g', g3 ≤ g' ∧ St g' w ((lb, lo) :: (ab, ao2) :: (Hs.flatten ++ (H10 ++ F)))) () hl2 ⟨rfl, (by rw [← hmj, List.take_zero, List.append_nil]; rfl), (by repeat (first | exact trivial | refine ⟨rfl, ?_⟩))⟩ ⟨g3, Ghost.rfl', hs⟩ (fun _ _ => rfl) rfl rfl rfl ?_ ?_ (fun _ _ => rfl) rfl
   ·rintro q _ w hq ⟨g4, hg4, hs⟩;have hg04 := Ghost.tr hg03 hg4;have hg34 := Ghost.tr hg3 hg4;have hbq := hS.base hq;have hcq := (hS.mono hg4).nat hq
    have hstep : (mj ++ (Xt ls ls.length x).take (q + 1)).foldl f 0 = f ((mj ++ (Xt ls ls.length x).take q).foldl f 0) (Xt ls ls.length x)[q] := by
     rw [Yr hq, ← List.append_assoc, List.foldl_append]; rfl
    have hkl : (Xt ls ls.length x)[q] < ls.length := outAt_lt (List.getElem_mem hq);generalize (Xt ls ls.length x)[q] = k at hcq hstep hkl
    have hmb := hlvb (mj ++ (Xt ls ls.length x).take q);generalize (mj ++ (Xt ls ls.length x).take q).foldl f 0 = m at hstep hmb
    have hko : k < on.length := by omega
    have hb3 := h3.base hko;have hc3 := (h3.mono hg04).bool hko;have hgetD : on.getD k false = on[k] := by simp [hko]
    obtain ⟨zb, zo, rfl⟩ := hA.base hkl;have hcA := (hA.mono hg04).enc hkl;have hto : ls[k].to < n := (hv.ok _ (List.getElem_mem hkl)).2.1;have htl : ls[k].to < (inF n nodes).length := by rw [inF_len]; exact hto
    have hb2 := h2.base htl;have hc2 := (h2.mono hg04).bool htl;rw [inF_at hto] at hc2
    have hi2 := inF_len n nodes;have htoOf : Yk ls k = ls[k].to := by simp [Yk, hkl]
    have harr : Uk ls nodes on k = (on[k] && decide (ls[k].to ∈ nodes)) := by
     unfold Uk;rw [hgetD, List.getElem?_eq_getElem hkl]
    have hfk : f m k = if (Uk ls nodes on k && !c.contains ls[k].to) = true then max m (Xg S.lv ls[k].to + 1) else m := by rw [← hf, ← htoOf]; rfl
    rw [hfk, harr] at hstep
    refine Y2 ?_;refine Yb rfl rfl rfl rfl rfl (by omega) hbq rfl rfl ?_;refine Xd hs (hcq) rfl rfl rfl rfl rfl ?_;refine Y4 ?_;refine Xd hs (hG.mono hg04 1 _ rfl) rfl rfl rfl rfl rfl ?_;refine zP ?_;refine Yb rfl rfl rfl rfl rfl (by omega) ⟨zb, zo, rfl⟩ rfl rfl ?_;refine zP ?_;refine Xd hs (hcA 1 _ rfl) rfl rfl rfl rfl rfl ?_;refine Y4 ?_
    refine Xd hs (hpb.mono (Ghost.tr hg2 hg34) 2 _ rfl) rfl rfl rfl rfl rfl ?_;refine zP ?_;refine Yb rfl rfl rfl rfl rfl (by omega) hb3 rfl rfl ?_;refine Xd hs (hc3) rfl rfl rfl rfl rfl ?_;refine zP ?_
    refine Xr 65 rfl (fun q1 => ?_) (fun q1 => ?_)
    ·refine zG ?_;refine Xd hs (hpb.mono (Ghost.tr hg2 hg34) 1 _ rfl) rfl rfl rfl rfl rfl ?_;refine zG ?_;refine Yb rfl rfl rfl rfl rfl (by omega) hb2 rfl rfl ?_;refine Xd hs (hc2) rfl rfl rfl rfl rfl ?_;refine zG ?_
     refine Xr 72 rfl (fun q2 => ?_) (fun q2 => ?_)
     ·refine zG ?_;refine Xf (L := []) rfl rfl rfl hs (contains_spec g4 _ (c.map Int.ofNat) (ls[k].to : Int) ((hRC.ofNat).mono hg34) (by rw [List.length_map]; exact hcl2)) ?_;rintro u g5 L' w hg5 hs ⟨rfl, rfl⟩;rw [contains_nat];refine Y40 ?_;rw [q1, q2] at hstep
      refine Xi rfl (fun q3 => ?_) (fun q3 => ?_)
      ·have q3' : (!c.contains ls[k].to) = true := q3;rw [q3', if_pos (by rfl)] at hstep
       refine Y0 ?_;refine wl_look hs 0 olo rfl rfl rfl rfl rfl rfl rfl rfl (lookV _ _) rfl rfl ?_;refine wl_arK ((Xg S.lv ls[k].to + 1 : Nat) : Int) rfl rfl (by simp [Qn]) (by have := k1 ls[k].to; omega) rfl rfl ?_;refine wl_maxK ((max m (Xg S.lv ls[k].to + 1) : Nat) : Int) (by split <;> omega) rfl rfl rfl rfl ?_;refine zP ?_
       exact Xn (Xh (Xx () hq hl2 ⟨g5, Ghost.tr hg4 hg5, hs⟩ rfl rfl rfl ⟨(by rw [hstep]; rfl), (by repeat (first | exact trivial | refine ⟨rfl, ?_⟩))⟩))
      ·have q3' : (!c.contains ls[k].to) = false := q3;rw [q3', if_neg (by simp)] at hstep
       exact Xq (Xh (Xx () hq hl2 ⟨g5, Ghost.tr hg4 hg5, hs⟩ rfl rfl rfl ⟨(by rw [hstep]; rfl), (by repeat (first | exact trivial | refine ⟨rfl, ?_⟩))⟩))
     ·refine Y40 ?_;rw [q1, q2, if_neg (by simp)] at hstep
      refine Yy rfl rfl (Xq (Xh (Xx () hq hl2 ⟨g4, hg4, hs⟩ rfl rfl rfl ⟨(by rw [hstep]; rfl), (by repeat (first | exact trivial | refine ⟨rfl, ?_⟩))⟩)))
    ·refine Y40 ?_;rw [q1, if_neg (by simp)] at hstep
     refine Yy rfl rfl (Xq (Xh (Xx () hq hl2 ⟨g4, hg4, hs⟩ rfl rfl rfl ⟨(by rw [hstep]; rfl), (by repeat (first | exact trivial | refine ⟨rfl, ?_⟩))⟩)))
   ·rintro _ w ⟨g4, hg4, hs⟩;refine Xh (Xx () hj hcl2 ⟨g4, Ghost.tr hg3 hg4, hs⟩ rfl rfl rfl ⟨(by rw [hfl, List.take_length]; rfl), (by repeat (first | exact trivial | refine ⟨rfl, ?_⟩))⟩)
  ·rintro _ w ⟨g3, hg3, hs⟩;rw [List.take_length, ← hNN];have hnb : lvN ls nodes on S.lv c ≤ i + 1 := by rw [hNN]; exact hlvb _
   clear hNN hlvb hf;have hlv' : (Uv ls nodes on (parts.take (i + 1))).lv = setAll S.lv c (lvN ls nodes on S.lv c) := by rw [hsucc]; rfl
   have hgr' : (Uv ls nodes on (parts.take (i + 1))).gr = max S.gr (lvN ls nodes on S.lv c + 1) := by rw [hsucc]; rfl
   have hal' : (Uv ls nodes on (parts.take (i + 1))).al = if (Xk ls c on).length = 0 then sk S.al (lvN ls nodes on S.lv c) (alAt S.al (lvN ls nodes on S.lv c) ++ c) else S.al := by rw [hsucc]; rfl
   have hot' : (Uv ls nodes on (parts.take (i + 1))).ot = if (Xk ls c on).length = 0 then S.ot else S.ot ++ [c] := by rw [hsucc]; rfl
   clear hsucc;generalize lvN ls nodes on S.lv c = nn at *
   refine Y24 ?_
   refine Yw c.length (fun j (_ : Unit) => [(14, .int .i64 (nn : Int)), (87, .int .i64 c.length), (86, .slice ca c.length cc), (13, .slice ca c.length cc), (30, .int .i64 (i : Int)), (29, .int .i64 parts.length), (28, (.slice ap parts.length cp)), (0, (.pointer (some ⟨gb, 0, none⟩))), (4, .pointer (some ⟨pb, 0, none⟩)), (7, .slice none 0 0), (8, .map (some lb)), (9, .map (some ab)), (10, v10), (11, .int .i64 ((S.gr : Int) - 1))])
    (fun j (_ : Unit) w => ∃ lo', Jb (Jh vNat (setAll S.lv (c.take j) nn)) lo' ∧ St g3 w ((lb, lo') :: (ab, ao2) :: (Hs.flatten ++ (H10 ++ F)))) () hcl2 (by repeat (first | exact trivial | refine ⟨rfl, ?_⟩)) ⟨lo, olo, hs⟩ (fun _ _ => rfl) rfl rfl rfl ?_ ?_ (fun _ _ => rfl) rfl
   ·rintro j _ w hj ⟨lo', olo', hs⟩;have hbC := hRC.base hj;have hcC := (hRC.mono hg3).nat hj;have hsn : setAll S.lv (c.take (j + 1)) nn = sk (setAll S.lv (c.take j) nn) c[j] nn := by rw [Yr hj, setAll_snoc]
    generalize c[j] = x at hcC hsn
    refine Y2 ?_;refine Yb rfl rfl rfl rfl rfl (by omega) (hbC) rfl rfl ?_;refine Xd hs (hcC) rfl rfl rfl rfl rfl ?_;refine Y4 ?_;refine Kw hs 0 olo' rfl rfl rfl rfl rfl rfl rfl rfl rfl ?_;clear hs; intro lo2 w olo2 hs;rw [show Value.int .i64 (nn : Int) = vNat nn from rfl, Ja, ← hsn] at olo2
    exact Xn (Xh (Xx () hj hcl2 ⟨lo2, olo2, hs⟩ rfl rfl rfl (by repeat (first | exact trivial | refine ⟨rfl, ?_⟩))))
   ·rintro _ w ⟨lo', olo', hs⟩;rw [List.take_length, ← hlv'] at olo'
    refine Y23 ?_;refine wl_maxK ((max S.gr (nn + 1) : Nat) - 1 : Int) (by split <;> omega) rfl rfl rfl rfl ?_;refine Y7 ?_;rw [← hgr'];have hg03 := Ghost.tr hg02 hg3;refine Y0 ?_;refine Xd hs (hpb.mono (Ghost.tr hg2 hg3) 2 _ rfl) rfl rfl rfl rfl rfl ?_;refine Xf (L := []) rfl rfl rfl hs (Ka g3 _ _ _ n ls c (hG0.mono hg03) hv (hRC.mono hg3) hcl2 ⟨_, _, _, rfl⟩ hcn) ?_
    rintro pv g4 L' w hg4 hs ⟨rfl, v2', rfl, hr2⟩;refine Xf (L := []) rfl rfl rfl hs (within_spec g4 _ _ n ls c on (hG0.mono (Ghost.tr hg03 hg4)) hv ⟨_, _, _, rfl, hRC.mono (Ghost.tr hg3 hg4), hr2, h3.mono (Ghost.tr hg03 hg4)⟩ hlen hcl hcn) ?_;rintro vw g5 L' w hg5 hs ⟨rfl, hrw⟩;obtain ⟨wa, wc, rfl⟩ := hrw.form;have hg25 := Ghost.tr hg3 (Ghost.tr hg4 hg5)
    have hg05 := Ghost.tr hg02 hg25;replace hs := (show St g5 w ((lb, lo') :: (ab, ao2) :: (Hs.flatten ++ (H10 ++ F))) from hs)
    refine Y7 ?_
    refine Xi rfl (fun qw => ?_) (fun qw => ?_)
    ·have hw0 : (Xk ls c on).length = 0 := by
      have h9 : (((Xk ls c on).length : Int) == 0) = true := qw;simpa using h9
     rw [if_pos hw0] at hal' hot'
     obtain ⟨f1, f2, f3⟩ := RS.flat (hRC.mono hg25);have hbd := k2 nn;refine Y0 ?_
     rcases zipV_at nn S.al vs hal.1 with ⟨j, xs, v, e1, e2, e3, e4, e5, e6⟩ | ⟨e1, e2, e3, e4⟩
     ·refine wl_look (u := v) hs 1 oao rfl rfl rfl rfl rfl rfl rfl rfl (congrArg (fun o => Option.getD o _) e4) rfl rfl ?_;have hjl : j < Hs.length := by have := (List.getElem?_eq_some_iff.1 e1).1; have := hal.2.1; omega
      have own := hal.2.2 j (nn, xs) v Hs[j] e1 e2 (List.getElem?_eq_getElem hjl) (Nat.zero_le _);have hxs : alAt S.al nn = xs := congrArg (fun o => Option.getD o []) e3;rw [hxs] at hbd hal'
      rw [e5] at hal'
      have hs2 : St g5 w ((lb, lo') :: (ab, ao2) :: (Hs[j] ++ ((Hs.eraseIdx j).flatten ++ (H10 ++ F)))) := hs.perm (List.Perm.cons _ (List.Perm.cons _ (by rw [← List.append_assoc]; exact ((flat_front Hs _ hjl).symm.append_right _))))
      replace hs2 := (show St g5 w (Hs[j] ++ ((lb, lo') :: (ab, ao2) :: ((Hs.eraseIdx j).flatten ++ (H10 ++ F)))) from hs2.perm (by classical exact List.perm_iff_count.2 fun x => by simp only [List.append_eq, List.set_cons_succ, List.set_cons_zero, List.eraseIdx_cons_zero, List.eraseIdx_cons_succ, List.count_cons, List.count_append, List.cons_append, List.nil_append, List.append_nil, List.append_assoc] <;> ac_rfl))
      refine zP ?_;refine Ju (ys := c.flatMap Zd) (m := c.length) hs2 own (RS.cellsAt hs2 f3) (by exact f2) rfl rfl rfl rfl rfl rfl rfl rfl rfl (all_one (fun _ => rfl) c) (by simp only; omega) rfl rfl ?_;intro v' w H' ho' hs3
      replace hs3 := (show St g5 w ((lb, lo') :: (ab, ao2) :: (H' ++ ((Hs.eraseIdx j).flatten ++ (H10 ++ F)))) from hs3.perm (by classical exact List.perm_iff_count.2 fun x => by simp only [List.append_eq, List.set_cons_succ, List.set_cons_zero, List.eraseIdx_cons_zero, List.eraseIdx_cons_succ, List.count_cons, List.count_append, List.cons_append, List.nil_append, List.append_nil, List.append_assoc] <;> ac_rfl))
      refine Kw hs3 1 oao rfl rfl rfl rfl rfl rfl rfl rfl rfl ?_;intro ao3 w oao3 hs4;rw [e6 _ (nn, xs ++ c).2] at oao3
      refine Xn (Xh (Xx v10 hi hpl2 ⟨g5, lo', ao3, vs.set j v', Hs.set j H', cs10, H10, Ghost.tr hg2 hg25, olo', ?_, ?_, ?_, ?_, ?_⟩ rfl rfl rfl (by repeat (first | exact trivial | refine ⟨rfl, ?_⟩))))
      ·rw [hal'];refine hal.set j ?_;simp only [List.length_append, List.flatMap_append];exact ho'
      ·rw [hal']; exact oao3
      ·rw [hot']; exact ho10
      ·rw [hot']; exact fun k v c h1 h2 => (hr10 k v c h1 h2).mono hg25
      ·refine St.perm (show St g5 w ((lb, lo') :: (ab, ao3) :: (H' ++ ((Hs.eraseIdx j).flatten ++ (H10 ++ F)))) from hs4) (List.Perm.cons _ (List.Perm.cons _ ?_));rw [← List.append_assoc (H')];exact (flat_set Hs _ hjl H').append_right _
     ·refine wl_look (u := .slice none 0 0) hs 1 oao rfl rfl rfl rfl rfl rfl rfl rfl (congrArg (fun o => Option.getD o _) e2) rfl rfl ?_;have hxs : alAt S.al nn = [] := congrArg (fun o => Option.getD o []) e1;rw [hxs, e3, List.nil_append] at hal'
      refine zP ?_;refine Ju (H := []) (ys := c.flatMap Zd) (m := c.length) hs (OwnS.nil 3 1) (RS.cellsAt hs f3) (by exact f2) rfl rfl rfl rfl rfl rfl rfl rfl rfl (all_one (fun _ => rfl) c) (by omega) rfl rfl ?_;intro v' w H' ho' hs3
      replace hs3 := (show St g5 w ((lb, lo') :: (ab, ao2) :: (H' ++ (Hs.flatten ++ (H10 ++ F)))) from hs3.perm (by classical exact List.perm_iff_count.2 fun x => by simp only [List.append_eq, List.set_cons_succ, List.set_cons_zero, List.eraseIdx_cons_zero, List.eraseIdx_cons_succ, List.count_cons, List.count_append, List.cons_append, List.nil_append, List.append_nil, List.append_assoc] <;> ac_rfl))
      refine Kw hs3 1 oao rfl rfl rfl rfl rfl rfl rfl rfl rfl ?_;intro ao3 w oao3 hs4;rw [e4 _ c] at oao3
      rw [Nat.zero_add, List.nil_append] at ho'
      refine Xn (Xh (Xx v10 hi hpl2 ⟨g5, lo', ao3, vs ++ [v'], Hs ++ [H'], cs10, H10, Ghost.tr hg2 hg25, olo', ?_, ?_, ?_, ?_, ?_⟩ rfl rfl rfl (by repeat (first | exact trivial | refine ⟨rfl, ?_⟩))))
      ·rw [hal'];exact hal.snoc ho'
      ·rw [hal']; exact oao3
      ·rw [hot']; exact ho10
      ·rw [hot']; exact fun k v c h1 h2 => (hr10 k v c h1 h2).mono hg25
      ·refine St.perm (show St g5 w ((lb, lo') :: (ab, ao3) :: (H' ++ (Hs.flatten ++ (H10 ++ F)))) from hs4) ?_;rw [List.flatten_append, List.flatten_cons, List.flatten_nil, List.append_nil]
       exact (by classical exact List.perm_iff_count.2 fun x => by simp only [List.append_eq, List.set_cons_succ, List.set_cons_zero, List.eraseIdx_cons_zero, List.eraseIdx_cons_succ, List.count_cons, List.count_append, List.cons_append, List.nil_append, List.append_nil, List.append_assoc] <;> ac_rfl)
    ·have hw0 : ¬ (Xk ls c on).length = 0 := by
      intro e;have h9 : (((Xk ls c on).length : Int) == 0) = false := qw;rw [e] at h9
      simp at h9
     rw [if_neg hw0] at hal' hot'
     refine Y0 ?_
     replace hs := (show St g5 w (H10 ++ ((lb, lo') :: (ab, ao2) :: (Hs.flatten ++ F))) from hs.perm (by classical exact List.perm_iff_count.2 fun x => by simp only [List.append_eq, List.set_cons_succ, List.set_cons_zero, List.eraseIdx_cons_zero, List.eraseIdx_cons_succ, List.count_cons, List.count_append, List.cons_append, List.nil_append, List.append_nil, List.append_assoc] <;> ac_rfl))
     refine Jj hs ho10 (by omega) rfl rfl rfl rfl rfl rfl rfl rfl rfl rfl rfl rfl rfl rfl ?_;intro v10' w H10' ho10' hs;refine zP ?_
     refine Xn (Xh (Xx v10' hi hpl2 ⟨g5, lo', ao2, vs, Hs, cs10 ++ [.slice ca c.length cc], H10', Ghost.tr hg2 hg25, olo', by rw [hal']; exact hal, by rw [hal']; exact oao, ?_, ?_, hs.perm (by classical exact List.perm_iff_count.2 fun x => by simp only [List.append_eq, List.set_cons_succ, List.set_cons_zero, List.eraseIdx_cons_zero, List.eraseIdx_cons_succ, List.count_cons, List.count_append, List.cons_append, List.nil_append, List.append_nil, List.append_assoc] <;> ac_rfl)⟩ rfl rfl rfl (by repeat (first | exact trivial | refine ⟨rfl, ?_⟩))))
     ·rw [hot', List.length_append]; exact ho10'
     ·rw [hot'];intro k v c' h1 h2;have hcl10 : cs10.length = S.ot.length := by have := ho10.len; simpa using this
      by_cases hk : k < S.ot.length
      ·rw [List.getElem?_append_left (by omega)] at h1 h2
       exact (hr10 k v c' h1 h2).mono hg25
      ·have hk2 : k = S.ot.length := by
        have := (List.getElem?_eq_some_iff.1 h2).1;simp at this
        omega
       subst hk2;rw [List.getElem?_append_right (by omega)] at h1 h2
       simp [hcl10] at h1 h2
       subst h1 h2;exact hRC.mono hg25
 ·rintro v10 w ⟨g2, lo, ao2, vs, Hs, cs10, H10, hg2, olo, hal, oao, ho10, hr10, hs⟩;obtain ⟨k1, k2, k3, k4⟩ := rkOk_all ls nodes on parts parts.length (Nat.le_refl _);have hmem := rk_ot_mem ls nodes on parts parts.length (Nat.le_refl _);rw [List.take_length] at *
  have hRR : Ur ls nodes on parts = (List.range (Uv ls nodes on parts).gr).flatMap (Jv (Uv ls nodes on parts)) := rfl;generalize Uv ls nodes on parts = S at *
  have hg02 := Ghost.tr hg1 hg2;have hcl10 : cs10.length = S.ot.length := by have := ho10.len; simpa using this
  obtain ⟨g3, hg3, hs, hlb⟩ := freezeO hs;obtain ⟨g4, hg4, hs, hab⟩ := freezeO hs
  replace hs := (show St g4 w (H10 ++ (Hs.flatten ++ F)) from hs.perm (by classical exact List.perm_iff_count.2 fun x => by simp only [List.append_eq, List.set_cons_succ, List.set_cons_zero, List.eraseIdx_cons_zero, List.eraseIdx_cons_succ, List.count_cons, List.count_append, List.cons_append, List.nil_append, List.append_nil, List.append_assoc] <;> ac_rfl))
  obtain ⟨g5, hg5, hs, hot⟩ := OwnS.freeze (K := kSl kNat) (xs := S.ot) ho10 hs rfl (fun g' hg' k hk => by
   have hk2 : k < cs10.length := by omega
   refine ⟨cs10[k], ?_, ((hr10 k _ _ (List.getElem?_eq_getElem hk2) (List.getElem?_eq_getElem hk)).mono (Ghost.tr hg3 (Ghost.tr hg4 hg')))⟩;rw [show (kSl kNat).sz = 1 from rfl, Nat.mul_one, List.drop_eq_getElem_cons hk2];rfl)
  have hg05 := Ghost.tr hg02 (Ghost.tr hg3 (Ghost.tr hg4 hg5));replace hlb := hg5.heap _ _ (hg4.heap _ _ hlb);replace hab := hg5.heap _ _ hab;clear ho10 hr10;obtain ⟨a10, c10, rfl⟩ := hot.form;refine Y23 ?_;refine wl_arK ((S.gr : Nat) : Int) rfl rfl (by simp [Qn]) (by omega) rfl rfl ?_;refine Y7 ?_;have hgr2 : S.gr ≤ 4611686018427387904 := by omega
  have hRlen : ∀ m, m ≤ S.gr → ((List.range m).flatMap (Jv S)).length ≤ 20001 * 20001 := fun m hm => by
   have e1 := flat_len (Jv S) 20001 (List.range m) (fun x _ => by
    unfold Jv;rw [List.length_append];have := List.length_filter_le (fun c => decide (Xg S.lv (c.getD 0 0) = x)) S.ot;split <;> simp only [List.length_nil, List.length_cons] <;> omega)
   rw [List.length_range] at e1
   exact Nat.le_trans e1 (Nat.mul_le_mul_right _ (by omega))
  refine Yw S.gr (fun _ (v7 : Value) => [(121, .int .i64 (S.gr : Int)), (7, v7), (8, .map (some lb)), (9, .map (some ab)), (10, .slice a10 S.ot.length c10)])
   (fun m (v7 : Value) w => ∃ g' Hs cs7 H7, g5 ≤ g' ∧ AloneR m S.al vs Hs ∧ OwnS 22 1 v7 ((List.range m).flatMap (Jv S)).length cs7 H7 ∧
    (∀ (k : Nat) (v : Value) (c : List Nat), cs7[k]? = some v → ((List.range m).flatMap (Jv S))[k]? = some c → RS kNat g' v c) ∧ St g' w (Hs.flatten ++ (H7 ++ F))) (.slice none 0 0) hgr2
   (by repeat (first | exact trivial | refine ⟨rfl, ?_⟩)) ⟨g5, Hs, [], [], Ghost.rfl', hal, OwnS.nil _ _, fun k v c h => by simp at h, hs⟩ (fun _ _ => rfl) rfl rfl rfl ?_ ?_ (fun _ _ => rfl) rfl
  ·rintro m v7 w hm ⟨g6, Hs, cs7, H7, hg6, hal, ho7, hr7, hs⟩;have hl1 := hRlen (m + 1) hm;rw [List.range_succ, List.flatMap_append] at hl1
   obtain ⟨u, Hx, Hs', hu, hox, hal', hpm⟩ := hal.take;have hRs : (List.range (m + 1)).flatMap (Jv S) = (List.range m).flatMap (Jv S) ++ Jv S m := by rw [List.range_succ, List.flatMap_append]; simp
   generalize (List.range m).flatMap (Jv S) = R at *
   have hAl : (alAt S.al m).length ≤ 4294967296 := by have := k2 m; omega
   obtain ⟨A, hA⟩ : ∃ A : List (List Nat), A = if (alAt S.al m).length = 0 then [] else [Vj (alAt S.al m)] := ⟨_, rfl⟩
   have hRA : Jv S m = A ++ S.ot.filter fun c => decide (Xg S.lv (c.getD 0 0) = m) := by rw [hA]; rfl
   replace hs := (show St g6 w (Hx ++ (Hs'.flatten ++ (H7 ++ F))) from hs.perm (by rw [← List.append_assoc]; exact hpm.append_right _))
   obtain ⟨ua, uc, rfl⟩ := hox.form;have hcl7 : cs7.length = R.length := by have := ho7.len; simpa using this
   refine Y12 ?_;refine wl_lookG hs ((hg6.heap _ _ hab)) oao rfl rfl rfl rfl rfl rfl rfl hu rfl rfl ?_;refine Y15 ?_
   refine wc_meetK (fun (v7 : Value) => [(122, .int .i64 (m : Int)), (22, .int .i64 (m : Int)), (121, .int .i64 (S.gr : Int)), (7, v7), (8, .map (some lb)), (9, .map (some ab)), (10, .slice a10 S.ot.length c10)])
    (fun (v7 : Value) w => ∃ g' cs7 H7, g6 ≤ g' ∧ OwnS 22 1 v7 (R ++ A).length cs7 H7 ∧ (∀ (k : Nat) (v : Value) (c : List Nat), cs7[k]? = some v → (R ++ A)[k]? = some c → RS kNat g' v c) ∧ St g' w (Hs'.flatten ++ (H7 ++ F))) ?_ ?_
   ·refine Xi rfl (fun q => ?_) (fun q => ?_)
    ·have hq : ¬ (alAt S.al m).length = 0 := by have := of_decide_eq_true q; omega
     rw [if_neg hq] at hA
     refine Y0 ?_;refine Xf rfl rfl rfl hs (sort_spec g6 _ _ Hx hox hAl) ?_;rintro us g7 L' w hg7 hs hox';refine zn ?_;rw [← Zu] at hox'
     obtain ⟨g8, hg8, hs, hrs⟩ := OwnS.freezeE (e := Zd) (h0 := fun _ => rfl) hox' hs
     replace hs := (show St g8 w (H7 ++ (Hs'.flatten ++ F)) from hs.perm (by classical exact List.perm_iff_count.2 fun x => by simp only [List.append_eq, List.set_cons_succ, List.set_cons_zero, List.eraseIdx_cons_zero, List.eraseIdx_cons_succ, List.count_cons, List.count_append, List.cons_append, List.nil_append, List.append_nil, List.append_assoc] <;> ac_rfl))
     refine Y0 ?_;refine Jj hs ho7 (by rw [List.length_append] at hl1; omega) rfl rfl rfl rfl rfl rfl rfl rfl rfl rfl rfl rfl rfl rfl ?_;intro v7' w H7' ho7' hs;refine zP ?_
     refine Xn (Vl v7' (by repeat (first | exact trivial | refine ⟨rfl, ?_⟩)) ⟨g8, cs7 ++ [.slice ua (alAt S.al m).length uc], H7', Ghost.tr hg7 hg8, ?_, ?_, hs.perm (by classical exact List.perm_iff_count.2 fun x => by simp only [List.append_eq, List.set_cons_succ, List.set_cons_zero, List.eraseIdx_cons_zero, List.eraseIdx_cons_succ, List.count_cons, List.count_append, List.cons_append, List.nil_append, List.append_nil, List.append_assoc] <;> ac_rfl)⟩)
     ·rw [hA, List.length_append]; exact ho7'
     ·rw [hA];intro k v c' h1 h2
      by_cases hk : k < R.length
      ·rw [List.getElem?_append_left (by omega)] at h1 h2
       exact (hr7 k v c' h1 h2).mono (Ghost.tr hg7 hg8)
      ·have hk2 : k = R.length := by
        have := (List.getElem?_eq_some_iff.1 h2).1;simp at this
        omega
       subst hk2;rw [List.getElem?_append_right (by omega)] at h1 h2
       simp [hcl7] at h1 h2
       subst h1 h2;rw [Zu] at hrs
       exact hrs
    ·have hq : (alAt S.al m).length = 0 := by have := of_decide_eq_false q; omega
     rw [if_pos hq] at hA
     refine Xq (Vl v7 (by repeat (first | exact trivial | refine ⟨rfl, ?_⟩)) ⟨g6, cs7, H7, Ghost.rfl', by rw [hA, List.append_nil]; exact ho7, by rw [hA, List.append_nil]; exact hr7, hs.dropL⟩)
   ·clear hs ho7 hr7 hcl7;rintro v7 w ⟨g7, cs7, H7, hg7, ho7, hr7, hs⟩;have hcot : S.ot.length ≤ 4611686018427387904 := by omega
    have hg57 := Ghost.tr hg6 hg7;refine Y1 ?_
    refine Yw S.ot.length (fun _ (v7 : Value) => [(138, .int .i64 S.ot.length), (137, .slice a10 S.ot.length c10), (122, .int .i64 (m : Int)), (22, .int .i64 (m : Int)), (121, .int .i64 (S.gr : Int)), (7, v7), (8, .map (some lb)), (9, .map (some ab)), (10, .slice a10 S.ot.length c10)])
     (fun j (v7 : Value) w => ∃ cs7 H7, OwnS 22 1 v7 (R ++ A ++ (S.ot.take j).filter fun c => decide (Xg S.lv (c.getD 0 0) = m)).length cs7 H7 ∧
      (∀ (k : Nat) (v : Value) (c : List Nat), cs7[k]? = some v → (R ++ A ++ (S.ot.take j).filter fun c => decide (Xg S.lv (c.getD 0 0) = m))[k]? = some c → RS kNat g7 v c) ∧ St g7 w (Hs'.flatten ++ (H7 ++ F))) v7 hcot
     (by repeat (first | exact trivial | refine ⟨rfl, ?_⟩)) ⟨cs7, H7, by simpa using ho7, by simpa using hr7, hs⟩ (fun _ _ => rfl) rfl rfl rfl ?_ ?_ (fun _ _ => rfl) rfl
    ·clear hs ho7 hr7;rintro j v7 w hj ⟨cs7, H7, ho7, hr7, hs⟩
     have hflt : (S.ot.take (j + 1)).filter (fun c => decide (Xg S.lv (c.getD 0 0) = m)) = (S.ot.take j).filter (fun c => decide (Xg S.lv (c.getD 0 0) = m)) ++ if Xg S.lv (S.ot[j].getD 0 0) = m then [S.ot[j]] else [] := by
      rw [Yr hj, List.filter_append, List.filter_cons]
      congr 1
      by_cases e : Xg S.lv (S.ot[j].getD 0 0) = m <;> simp [e]
     have hbd : ((S.ot.take j).filter (fun c => decide (Xg S.lv (c.getD 0 0) = m))).length ≤ 20000 := by
      have := List.length_filter_le (fun c => decide (Xg S.lv (c.getD 0 0) = m)) (S.ot.take j);rw [List.length_take] at this
      omega
     have hbA : R.length + A.length ≤ 20001 * 20001 := by
      rw [hRA] at hRs
      have := hRlen (m + 1) hm;rw [List.range_succ, List.flatMap_append] at this
      rw [List.length_append] at hl1
      have h2 : A.length ≤ (List.flatMap (Jv S) [m]).length := by simp [hRA]
      omega
     generalize (S.ot.take j).filter (fun c => decide (Xg S.lv (c.getD 0 0) = m)) = B at *
     have hcl7 : cs7.length = (R ++ A ++ B).length := by have := ho7.len; simpa using this
     have hbO := hot.base hj;obtain ⟨oa, oc, hcO, hRO⟩ := (hot.mono hg57).sl hj;obtain ⟨hone, hon⟩ := hpn _ (hmem _ (List.getElem_mem hj));generalize S.ot[j] = c at hcO hRO hone hon hflt
     have hc0 : 0 < c.length := List.length_pos_iff.2 hone;have hbc0 := hRO.base hc0;have hcc0 := hRO.nat hc0;have hgd : c.getD 0 0 = c[0] := by simp [hc0]
     refine Y2 ?_;refine Yb rfl rfl rfl rfl rfl (by omega) hbO rfl rfl ?_;refine Xd hs (hcO) rfl rfl rfl rfl rfl ?_;refine Y4 ?_;refine Yb rfl rfl rfl rfl rfl (by omega) hbc0 rfl rfl ?_;refine Xd hs (hcc0) rfl rfl rfl rfl rfl ?_;refine wl_lookG hs (hg57.heap _ _ hlb) olo rfl rfl rfl rfl rfl rfl rfl (lookV _ _) rfl rfl ?_;refine Y7 ?_
     refine Xi rfl (fun q => ?_) (fun q => ?_)
     ·have hq : Xg S.lv (c.getD 0 0) = m := by
       have h9 : (((Xg S.lv c[0] : Nat) : Int) == (m : Int)) = true := q;rw [hgd];have := eq_of_beq h9;omega
      rw [if_pos hq] at hflt
      replace hs := (show St g7 w (H7 ++ (Hs'.flatten ++ F)) from hs.perm (by classical exact List.perm_iff_count.2 fun x => by simp only [List.append_eq, List.set_cons_succ, List.set_cons_zero, List.eraseIdx_cons_zero, List.eraseIdx_cons_succ, List.count_cons, List.count_append, List.cons_append, List.nil_append, List.append_nil, List.append_assoc] <;> ac_rfl))
      refine Y0 ?_;refine Jj hs ho7 (by simp only [List.length_append]; omega) rfl rfl rfl rfl rfl rfl rfl rfl rfl rfl rfl rfl rfl rfl ?_;intro v7' w H7' ho7' hs;refine zP ?_
      refine Xn (Xh (Xx v7' hj hcot ⟨cs7 ++ [.slice oa c.length oc], H7', ?_, ?_, hs.perm (by classical exact List.perm_iff_count.2 fun x => by simp only [List.append_eq, List.set_cons_succ, List.set_cons_zero, List.eraseIdx_cons_zero, List.eraseIdx_cons_succ, List.count_cons, List.count_append, List.cons_append, List.nil_append, List.append_nil, List.append_assoc] <;> ac_rfl)⟩ rfl rfl rfl (by repeat (first | exact trivial | refine ⟨rfl, ?_⟩))))
      ·rw [hflt, ← List.append_assoc (R ++ A), List.length_append (bs := [c])]; exact ho7'
      ·rw [hflt, ← List.append_assoc (R ++ A)];intro k v c' h1 h2
       by_cases hk : k < (R ++ A ++ B).length
       ·rw [List.getElem?_append_left (by omega)] at h1 h2
        exact hr7 k v c' h1 h2
       ·have hk2 : k = (R ++ A ++ B).length := by
         have := (List.getElem?_eq_some_iff.1 h2).1;rw [List.length_append (bs := [c])] at this
         simp only [List.length_cons, List.length_nil] at this
         omega
        subst hk2;rw [List.getElem?_append_right (by omega)] at h1 h2
        rw [hcl7, Nat.sub_self] at h1
        rw [Nat.sub_self] at h2
        simp at h1 h2
        subst h1 h2;exact hRO
     ·have hq : ¬ Xg S.lv (c.getD 0 0) = m := by
       intro e;have h9 : (((Xg S.lv c[0] : Nat) : Int) == (m : Int)) = false := q;rw [← hgd, e] at h9
       simp at h9
      rw [if_neg hq, List.append_nil] at hflt
      exact Xq (Xh (Xx v7 hj hcot ⟨cs7, H7, by rw [hflt]; exact ho7, by rw [hflt]; exact hr7, hs⟩ rfl rfl rfl (by repeat (first | exact trivial | refine ⟨rfl, ?_⟩))))
    ·clear hs ho7 hr7;rintro v7 w ⟨cs7, H7, ho7, hr7, hs⟩;rw [List.take_length, List.append_assoc, ← hRA, ← hRs] at ho7 hr7
     exact Xh (Xx v7 hm hgr2 ⟨g7, Hs', cs7, H7, hg57, hal', ho7, hr7, hs⟩ rfl rfl rfl (by repeat (first | exact trivial | refine ⟨rfl, ?_⟩)))
  ·rintro v7 w ⟨g6, Hs, cs7, H7, hg6, hal, ho7, hr7, hs⟩;rw [← hRR] at ho7 hr7
   replace hs := (show St g6 w (H7 ++ (Hs.flatten ++ F)) from hs.perm (by classical exact List.perm_iff_count.2 fun x => by simp only [List.append_eq, List.set_cons_succ, List.set_cons_zero, List.eraseIdx_cons_zero, List.eraseIdx_cons_succ, List.count_cons, List.count_append, List.cons_append, List.nil_append, List.append_nil, List.append_assoc] <;> ac_rfl))
   have hcl7 : cs7.length = (Ur ls nodes on parts).length := by have := ho7.len; simpa using this
   obtain ⟨g7, hg7, hs, hrr⟩ := OwnS.freeze (K := kSl kNat) (xs := Ur ls nodes on parts) ho7 hs rfl (fun g' hg' k hk => by
    have hk2 : k < cs7.length := by omega
    refine ⟨cs7[k], ?_, (hr7 k _ _ (List.getElem?_eq_getElem hk2) (List.getElem?_eq_getElem hk)).mono hg'⟩;rw [show (kSl kNat).sz = 1 from rfl, Nat.mul_one, List.drop_eq_getElem_cons hk2];rfl)
   refine Y24 ?_;exact Xb (Xo rfl rfl) ⟨g7, [], Ghost.tr hg05 (Ghost.tr hg6 hg7), hs.dropL, rfl, hrr⟩
end
end Go.Proofs.YtpmlighdpgbecaaGreatDoor.S
