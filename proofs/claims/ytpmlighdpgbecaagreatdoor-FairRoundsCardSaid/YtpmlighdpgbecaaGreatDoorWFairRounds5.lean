/- What the statement FairRounds is proved with, part 5: walks of the code, each against a pure version of it. -/
import Derived.Test.YtpmlighdpgbecaaGreatDoorWFairRounds4
set_option linter.all false
namespace Go.Proofs.YtpmlighdpgbecaaGreatDoor.S
section
open Go.RowKit
def allO {α : Type} : List (Option α) → Option (List α)
 | [] => some []
 | a :: r => match a, allO r with
  | some x, some y => some (x :: y)
  | _, _ => none
theorem allO_some {α : Type} : ∀ {l : List (Option α)} {xs : List α}, allO l = some xs → xs.length = l.length ∧ ∀ i (h : i < l.length) (h' : i < xs.length), l[i] = some xs[i]
 | [], xs, h => by cases h; exact ⟨rfl, fun i h => by simp at h⟩
 | a :: r, xs, h => by
  simp only [allO] at h
  split at h
  ·rename_i x y q;cases h;obtain ⟨h1, h2⟩ := allO_some q;refine ⟨by simp [h1], fun i h h' => ?_⟩;cases i with
   | zero => rfl
   | succ i => simpa using h2 i (by simpa using h) (by simpa using h')
  ·cases h
def ixIn (nodes : List Nat) (x : Nat) : Nat := nodes.countP fun y => decide (y < x)
def Qe (nodes : List Nat) (rk : List Nat) (r : List Nat) (k : Nat) : List Nat := r.foldl (fun rk x => rk.set (ixIn nodes x) k) rk
def rkTo (nodes : List Nat) (rs : List (List Nat)) (i : Nat) : List Nat := (List.range i).foldl (fun rk k => Qe nodes rk (rs.getD k []) k) (List.replicate nodes.length 0)
def provOk (n : Nat) (nodes : List Nat) (parts rs : List (List Nat)) : Bool :=
 Ky nodes && parts.all (fun c => decide (0 < c.length) && c.all (fun x => decide (x < n))) && decide (parts.length ≤ 20000) && decide (parts.flatten.length ≤ 20000) &&
 rs.all (fun r => r.all (fun x => decide (x < n) && decide (ixIn nodes x < nodes.length)) && decide (r.length ≤ 20000)) && decide (rs.length ≤ 1000000)
section
variable (n : Nat) (ls : List Arrow) (all : List Nat) (pairs : List (Nat × Nat))
def Ki : Nat → List Nat → List Bool → Option Drop
  | 0, _, _ => none
  | f + 1, nodes, on =>
    if (Xk ls nodes on).length = 0 then some (.mk 2 0 (nodes.map Int.ofNat) [] [])
    else if (Xw (Zh ls (Xk ls nodes on)) all pairs).1 = 3 then some (.mk 3 (Xw (Zh ls (Xk ls nodes on)) all pairs).2 (nodes.map Int.ofNat) [] [])
    else match compsR ls nodes on with
      | none => none
      | some parts => if parts.length = 1 then
            (if (Xw (Zh ls (Xk ls nodes on)) all pairs).2 < pairs.length then (Ki f nodes (Ya ls on (pairs.getD (Xw (Zh ls (Xk ls nodes on)) all pairs).2 (0, 0)).1)).map fun e => .mk (Xw (Zh ls (Xk ls nodes on)) all pairs).1 (Xw (Zh ls (Xk ls nodes on)) all pairs).2 (nodes.map Int.ofNat) [] [e] else none)
          else if provOk n nodes parts (Ur ls nodes on parts) = true then
            (allO ((Ur ls nodes on parts).map fun r => Ki f r on)).map fun ds => .mk 1 0 (nodes.map Int.ofNat) ((rkTo nodes (Ur ls nodes on parts) (Ur ls nodes on parts).length).map Int.ofNat) ds
          else none
end
theorem rkTo_succ (nodes : List Nat) (rs : List (List Nat)) (i : Nat) (h : i < rs.length) : rkTo nodes rs (i + 1) = Qe nodes (rkTo nodes rs i) rs[i] i := by
 unfold rkTo
 rw [List.range_succ, List.foldl_append]
 simp [h]
theorem rankRow_length (nodes r : List Nat) (k : Nat) : ∀ (rk : List Nat), (Qe nodes rk r k).length = rk.length := by
 induction r with
 | nil => intro rk; rfl
 | cons x r ih =>
  intro rk
  show (Qe nodes (rk.set (ixIn nodes x) k) r k).length = _
  rw [ih]; simp
theorem rankRow_snoc (nodes rk r : List Nat) (x k : Nat) : Qe nodes rk (r ++ [x]) k = (Qe nodes rk r k).set (ixIn nodes x) k := by
 unfold Qe
 rw [List.foldl_append]; rfl
theorem rkTo_length (nodes : List Nat) (rs : List (List Nat)) : ∀ i, i ≤ rs.length → (rkTo nodes rs i).length = nodes.length := by
 intro i
 induction i with
 | zero => intro _; simp [rkTo]
 | succ i ih => intro h; rw [rkTo_succ _ _ _ (by omega), rankRow_length, ih (by omega)]
structure ProvOk (n : Nat) (nodes : List Nat) (parts rs : List (List Nat)) : Prop where
 sorted : nodes.Pairwise (· ≤ ·)
 parts_ : ∀ c ∈ parts, c ≠ [] ∧ ∀ x ∈ c, x < n
 plen : parts.length ≤ 20000
 pflat : parts.flatten.length ≤ 20000
 rs_ : ∀ r ∈ rs, (∀ x ∈ r, x < n ∧ ixIn nodes x < nodes.length) ∧ r.length ≤ 20000
 rlen : rs.length ≤ 1000000
theorem provOk_iff {n : Nat} {nodes : List Nat} {parts rs : List (List Nat)} (h : provOk n nodes parts rs = true) : ProvOk n nodes parts rs := by
 simp only [provOk, Bool.and_eq_true, List.all_eq_true, decide_eq_true_eq] at h
 obtain ⟨⟨⟨⟨⟨h1, h2⟩, h3⟩, h4⟩, h5⟩, h6⟩ := h
 exact ⟨strictly_sorted h1, fun c hc => ⟨List.length_pos_iff.1 (h2 c hc).1, (h2 c hc).2⟩, h3, h4, fun r hr => ⟨(h5 r hr).1, (h5 r hr).2⟩, h6⟩
theorem DropRn.cells5 {k : Nat} {g : Ghost} {cs : List Value} {d : Drop} (h : DropRn k g cs d) : ∃ a b c e f, cs = [a, b, c, e, f] ∧ cs.all Value.oneCell' = true := by
 cases k with
 | zero => exact h.elim
 | succ k =>
  obtain ⟨vn, vr, vl, rfl, h1, h2, h3⟩ := h.open';refine ⟨_, _, _, _, _, rfl, ?_⟩;simp only [List.all_cons, List.all_nil, h1.one, h2.one, h3.one]; rfl
end
section
open Go.RowKit
def ProvedAt (n : Nat) (ls : List Arrow) (all : List Nat) (pairs : List (Nat × Nat)) (f : Nat) : Prop :=
 ∀ (g : Ghost) (gp va vp v1 v2 v3 : Value) (nodes : List Nat) (on : List Bool) (d : Drop), Ki n ls all pairs f nodes on = some d → GraphR g gp n ls → RS kNat g va all → RS kPair g vp pairs → RS kNat g v1 nodes → RS Yt g v2 (inF n nodes) → RS Yt g v3 on →
  on.length = ls.length → nodes.length ≤ 20000 → (∀ x ∈ nodes, x < n) → Cl PP 49 [gp, .agg #[v1, v2, v3], .agg #[va, vp]] g [] fun g' L' r => L' = [] ∧ ∃ cs : List Value, r = .agg cs.toArray ∧ DropRn f g' cs d
theorem proved_all (n : Nat) (ls : List Arrow) (all : List Nat) (pairs : List (Nat × Nat)) (hv : ValidG n ls) (hw : ValidW all pairs) : ∀ f, ProvedAt n ls all pairs f := by
  intro f
  induction f with
  | zero => intro g gp va vp v1 v2 v3 nodes on d h; cases h
  | succ f ih =>
    intro g gp va vp v1 v2 v3 nodes on d hd hG ha hp h1 h2 h3 hlen hnl hn;obtain ⟨gb, hgp⟩ : ∃ gb, gp = .pointer (some ⟨gb, 0, none⟩) := by obtain ⟨gb, _, _, _, _, rfl, _⟩ := hG; exact ⟨gb, rfl⟩
    subst hgp;obtain ⟨a1, c1, rfl⟩ := h1.form;obtain ⟨a2, c2, rfl⟩ := h2.form;obtain ⟨a3, c3, rfl⟩ := h3.form;obtain ⟨aa, ca, rfl⟩ := ha.form;obtain ⟨ap, cp, rfl⟩ := hp.form;refine cl_introM Tryz.func49 rfl rfl Tryz.ntmps49 rfl ?_;intro w F hs;refine Y2 ?_;refine Yi hs rfl rfl rfl rfl ?_; clear hs; intro pb w hs;refine Yi hs rfl rfl rfl rfl ?_; clear hs; intro wx w hs
    refine Yp hs rfl rfl rfl ?_; clear hs; intro rb w hs;refine zn ?_
    replace hs := (show St g w ((pb, Xa [(.slice a1 nodes.length c1), (.slice a2 (inF n nodes).length c2), (.slice a3 on.length c3)] 94) :: (wx, Xa [(.slice aa all.length ca), (.slice ap pairs.length cp)] 26) :: (rb, Xa [.int .i64 0, .int .i64 0, .slice none 0 0, .slice none 0 0, .slice none 0 0] 62) :: F) from St.perm (show St g w ((rb, Xa [.int .i64 0, .int .i64 0, .slice none 0 0, .slice none 0 0, .slice none 0 0] 62) :: (wx, Xa [(.slice aa all.length ca), (.slice ap pairs.length cp)] 26) :: (pb, Xa [(.slice a1 nodes.length c1), (.slice a2 (inF n nodes).length c2), (.slice a3 on.length c3)] 94) :: F) from hs) (by classical exact List.perm_iff_count.2 fun x => by simp only [List.append_eq, List.set_cons_succ, List.set_cons_zero, List.eraseIdx_cons_zero, List.eraseIdx_cons_succ, List.count_cons, List.count_append, List.cons_append, List.nil_append, List.append_nil, List.append_assoc] <;> ac_rfl))
    obtain ⟨g1, hg1, hs, hpb⟩ := freezeB hs;obtain ⟨g2, hg2, hs, hwx⟩ := freezeB hs;replace hpb := hpb.mono hg2;have hg02 := Ghost.tr hg1 hg2;clear hg1 hg2;refine Y0 ?_;refine Xd hs (hpb 0 _ rfl) rfl rfl rfl rfl rfl ?_;refine Yg (ps := [(2, .tmp 25)]) rfl rfl rfl rfl rfl rfl rfl ?_;refine Yp hs rfl rfl rfl ?_; clear hs; intro db w hs
    refine Yx hs 0 rfl rfl rfl rfl rfl (Nat.le_of_ble_eq_true rfl) rfl rfl ?_; clear hs; intro w hs;refine zn ?_;replace hs := (show St g2 w ((db, Xa [.int .i64 0, .int .i64 0, (.slice a1 nodes.length c1), .slice none 0 0, .slice none 0 0] 62) :: (rb, Xa [.int .i64 0, .int .i64 0, .slice none 0 0, .slice none 0 0, .slice none 0 0] 62) :: F) from hs)
    refine Y0 ?_;refine Yj hs (hpb.at') rfl rfl rfl rfl rfl rfl ?_;refine Xf (L := []) rfl rfl rfl hs (within_spec g2 _ _ n ls nodes on (hG.mono hg02) hv ⟨_, _, _, rfl, h1.mono hg02, h2.mono hg02, h3.mono hg02⟩ hlen hnl hn) ?_;rintro vl g3 L' w hg3 hs ⟨rfl, hrl⟩;have hg03 := Ghost.tr hg02 hg3;obtain ⟨al, cl, rfl⟩ := hrl.form
    replace hs := (show St g3 w ((db, Xa [.int .i64 0, .int .i64 0, (.slice a1 nodes.length c1), .slice none 0 0, .slice none 0 0] 62) :: (rb, Xa [.int .i64 0, .int .i64 0, .slice none 0 0, .slice none 0 0, .slice none 0 0] 62) :: F) from hs)
    refine Y15 ?_;unfold Ki at hd
    refine Xi rfl (fun q1 => ?_) (fun q1 => ?_)
    · have e1 : (Xk ls nodes on).length = 0 := by
        have h9 : (((Xk ls nodes on).length : Int) == 0) = true := q1;simpa using h9
      rw [if_pos e1] at hd
      cases hd;refine Y0 ?_;refine Yh hs 0 rfl rfl rfl rfl rfl rfl rfl rfl ?_; clear hs; intro w hs;refine Y9 ?_;refine Vy hs 0 rfl rfl rfl rfl rfl rfl rfl ?_;refine Yx hs 1 rfl rfl rfl rfl rfl (Nat.le_of_ble_eq_true rfl) rfl rfl ?_; clear hs; intro w hs;refine zn ?_
      refine wc_retV0 (resCN (k := 1) hs rfl rfl rfl rfl rfl rfl) ⟨g3, [], hg03, hs.drop.drop, rfl, _, rfl, DropRn.close (d := .mk 2 0 (nodes.map Int.ofNat) [] []) (h1.ofNat.mono hg03) (RS.nil _ _ _ _) (RS.nil _ _ _ _)⟩
    · have e1 : ¬ (Xk ls nodes on).length = 0 := by
        intro e;have h9 : (((Xk ls nodes on).length : Int) == 0) = false := q1;rw [e] at h9
        simp at h9
      rw [if_neg e1] at hd
      have hml : (Zh ls (Xk ls nodes on)).length = 16 := metF_len _ _;refine zS ?_;refine zQ ?_;refine Yf 10 [] Yd (by kernel_rfl) rfl hs ?_;refine zC ?_;refine Vq [] [] rfl rfl rfl (fun g' hg' => met_spec g' _ _ n ls (Xk ls nodes on) (hG.mono (Ghost.tr hg03 hg')) hv (hrl.mono hg') (withinF_len hv.len hnl) (fun i hi => withinF_lt hi)) (fun _ _ _ h => h) ?_
      refine Vm ((hwx.mono hg3).at') rfl rfl rfl rfl rfl ?_;refine Vq [] [] rfl rfl rfl (fun g' hg' => lacking_spec g' _ _ _ all pairs hml (ha.mono (Ghost.tr hg03 hg')) (hp.mono (Ghost.tr hg03 hg')) hw) (fun _ _ _ h => h) ?_;refine zC ?_;refine Xy ?_;intro g4 w hg4;intro hs;refine zn ?_;have hg04 := Ghost.tr hg03 hg4;refine Y1 ?_
      refine Xi rfl (fun q2 => ?_) (fun q2 => ?_)
      · have e2 : (Xw (Zh ls (Xk ls nodes on)) all pairs).1 = 3 := by
          have h9 : ((((Xw (Zh ls (Xk ls nodes on)) all pairs).1 : Nat) : Int) == 3) = true := q2;have := eq_of_beq h9;omega
        rw [if_pos e2] at hd
        cases hd;refine Y0 ?_;refine Yh hs 0 rfl rfl rfl rfl rfl rfl rfl rfl ?_; clear hs; intro w hs;refine zP ?_;refine Yh hs 0 rfl rfl rfl rfl rfl rfl rfl rfl ?_; clear hs; intro w hs;refine Y9 ?_;refine Vy hs 0 rfl rfl rfl rfl rfl rfl rfl ?_;refine Yx hs 1 rfl rfl rfl rfl rfl (Nat.le_of_ble_eq_true rfl) rfl rfl ?_; clear hs; intro w hs;refine zn ?_
        refine wc_retV0 (resCN (k := 1) hs rfl rfl rfl rfl rfl rfl) ⟨g4, [], hg04, hs.drop.drop, rfl, _, rfl, ?_⟩
        show DropRn (f + 1) g4 [.int .i64 (((Xw (Zh ls (Xk ls nodes on)) all pairs).1 : Nat) : Int), .int .i64 (((Xw (Zh ls (Xk ls nodes on)) all pairs).2 : Nat) : Int), (.slice a1 nodes.length c1), .slice none 0 0, .slice none 0 0] _
        rw [e2];exact DropRn.close (d := .mk 3 (((Xw (Zh ls (Xk ls nodes on)) all pairs).2 : Nat) : Int) (nodes.map Int.ofNat) [] []) (h1.ofNat.mono hg04) (RS.nil _ _ _ _) (RS.nil _ _ _ _)
      · have e2 : ¬ (Xw (Zh ls (Xk ls nodes on)) all pairs).1 = 3 := by
          intro e;have h9 : ((((Xw (Zh ls (Xk ls nodes on)) all pairs).1 : Nat) : Int) == 3) = false := q2;rw [e] at h9
          simp at h9
        rw [if_neg e2] at hd
        obtain ⟨parts, hparts, hd⟩ : ∃ parts, compsR ls nodes on = some parts ∧ (if parts.length = 1 then
            (if (Xw (Zh ls (Xk ls nodes on)) all pairs).2 < pairs.length then (Ki n ls all pairs f nodes (Ya ls on (pairs.getD (Xw (Zh ls (Xk ls nodes on)) all pairs).2 (0, 0)).1)).map fun e => .mk (Xw (Zh ls (Xk ls nodes on)) all pairs).1 (Xw (Zh ls (Xk ls nodes on)) all pairs).2 (nodes.map Int.ofNat) [] [e] else none)
          else if provOk n nodes parts (Ur ls nodes on parts) = true then
            (allO ((Ur ls nodes on parts).map fun r => Ki n ls all pairs f r on)).map fun ds => .mk 1 0 (nodes.map Int.ofNat) ((rkTo nodes (Ur ls nodes on parts) (Ur ls nodes on parts).length).map Int.ofNat) ds
          else none) = some d := by
          split at hd
          · cases hd
          · rename_i parts q; exact ⟨parts, q, hd⟩
        refine Y45 ?_;refine Yp hs rfl rfl rfl ?_; clear hs; intro tb w hs;refine Y8 ?_;refine Yj hs ((hpb.mono (Ghost.tr hg3 hg4)).at') rfl rfl rfl rfl rfl rfl ?_;refine Xf (L := []) rfl rfl rfl hs (components_spec g4 _ _ _ _ n ls nodes on (hG.mono hg04) hv (h1.mono hg04) (h2.mono hg04) (h3.mono hg04) hlen hnl hn parts hparts) ?_;rintro u g5 L' w hg5 hs ⟨rfl, caps, rfl, hit⟩
        have hg05 := Ghost.tr hg04 hg5;have hg25 := Ghost.tr hg3 (Ghost.tr hg4 hg5);refine zn ?_;replace hs := (show St g5 w ([(tb, Xa [.slice none 0 0] 119)] ++ ((db, Xa [.int .i64 0, .int .i64 0, (.slice a1 nodes.length c1), .slice none 0 0, .slice none 0 0] 62) :: (rb, Xa [.int .i64 0, .int .i64 0, .slice none 0 0, .slice none 0 0, .slice none 0 0] 62) :: F)) from hs)
        have hpn2 : parts.length ≤ 4294967296 := by
          split at hd
          · omega
          · split at hd
            · rename_i q; have := (provOk_iff q).plen; omega
            · cases hd
        refine Yc (wc_range (fun pre g' L => ∃ v cs H, L = (tb, Xa [v] 119) :: H ∧ OwnS 22 1 v pre.length cs H ∧ ∀ (k : Nat) (v : Value) (c : List Nat), cs[k]? = some v → pre[k]? = some c → RS kNat g' v c) (fun c g' L => False) rfl hit hs rfl (fun g x vs ⟨v1, e, _⟩ => by rw [e]; rfl)
          (fun pre g g' L hle ⟨v, cs, H, e1, e2, e3⟩ => ⟨v, cs, H, e1, e2, fun k v c q1 q2 => (e3 k v c q1 q2).mono hle⟩) (fun c g g' L hle h => h) ⟨_, [], [], rfl, OwnS.nil _ _, fun k v c h => by simp at h⟩ ?_ ?_ ?_)
        · rintro l2 rc pre x post g6 w L1 F1 vs hready hpre ⟨v, cs, H, rfl, hown, hrd⟩ ⟨w1, rfl, hw1⟩ hg6 hs;obtain ⟨aw, cw, rfl⟩ := hw1.form;have hpl : pre.length + 1 ≤ parts.length := by rw [hpre]; simp
          have hcl : cs.length = pre.length := by have := hown.len; simpa using this
          refine Y5 ?_;refine Xn (wk_begin 0 hs rfl hready ?_);clear hs; intro w hs;replace hs := (show St g6 w ((l2, .loop { rc with state := .busy }) :: (tb, Xa [v] 119) :: (H ++ F1)) from hs)
          refine Yc ?_;refine Y2 ?_;refine zL1 ?_;refine zP ?_
          replace hs := (show St g6 w (H ++ ((l2, .loop { rc with state := .busy }) :: (tb, Xa [v] 119) :: F1)) from hs.perm (by classical exact List.perm_iff_count.2 fun x => by simp only [List.append_eq, List.set_cons_succ, List.set_cons_zero, List.eraseIdx_cons_zero, List.eraseIdx_cons_succ, List.count_cons, List.count_append, List.cons_append, List.nil_append, List.append_nil, List.append_assoc] <;> ac_rfl))
          refine Jj hs hown (by omega) rfl rfl rfl rfl rfl rfl rfl rfl rfl rfl rfl rfl rfl rfl ?_;intro v' w H' hown' hs
          replace hs := (show St g6 w ((l2, .loop { rc with state := .busy }) :: (tb, Xa [v] 119) :: (H' ++ F1)) from hs.perm (by classical exact List.perm_iff_count.2 fun x => by simp only [List.append_eq, List.set_cons_succ, List.set_cons_zero, List.eraseIdx_cons_zero, List.eraseIdx_cons_succ, List.count_cons, List.count_append, List.cons_append, List.nil_append, List.append_nil, List.append_assoc] <;> ac_rfl))
          refine Yh hs 1 rfl rfl rfl rfl rfl rfl hown'.one rfl ?_;clear hs; intro w hs;refine Xn (Xh (wk_nil fun _ _ => ⟨g6, (tb, Xa [v'] 119) :: H', Ghost.rfl', hs, v', cs ++ [.slice aw x.length cw], H', rfl, by rw [List.length_append]; exact hown', ?_⟩));intro k u c q1 q2
          by_cases hk : k < pre.length
          · rw [List.getElem?_append_left (by omega)] at q1 q2
            exact hrd k u c q1 q2
          · have hk2 : k = pre.length := by
              have := (List.getElem?_eq_some_iff.1 q2).1;simp at this
              omega
            subst hk2;rw [List.getElem?_append_right (by omega)] at q1 q2
            simp [hcl] at q1 q2
            subst q1 q2;exact hw1
        · rintro dk g6 w L' hg6 ⟨v, cs, H, rfl, hown, hrd⟩ hs;have hcl : cs.length = parts.length := by have := hown.len; simpa using this
          have hg06 := Ghost.tr hg05 hg6;have hg26 := Ghost.tr hg25 hg6
          replace hs := (show St g6 w (H ++ ((db, Xa [.int .i64 0, .int .i64 0, (.slice a1 nodes.length c1), .slice none 0 0, .slice none 0 0] 62) :: (rb, Xa [.int .i64 0, .int .i64 0, .slice none 0 0, .slice none 0 0, .slice none 0 0] 62) :: (tb, Xa [v] 119) :: (dk, .deferred (some [])) :: F)) from hs.perm (by classical exact List.perm_iff_count.2 fun x => by simp only [List.append_eq, List.set_cons_succ, List.set_cons_zero, List.eraseIdx_cons_zero, List.eraseIdx_cons_succ, List.count_cons, List.count_append, List.cons_append, List.nil_append, List.append_nil, List.append_assoc] <;> ac_rfl))
          obtain ⟨g7, hg7, hs, hrp⟩ := OwnS.freeze (K := kSl kNat) (xs := parts) hown hs rfl (fun g' hg' k hk => by
            have hk2 : k < cs.length := by omega
            refine ⟨cs[k], ?_, (hrd k _ _ (List.getElem?_eq_getElem hk2) (List.getElem?_eq_getElem hk)).mono hg'⟩;rw [show (kSl kNat).sz = 1 from rfl, Nat.mul_one, List.drop_eq_getElem_cons hk2];rfl)
          have hg07 := Ghost.tr hg06 hg7;have hg27 := Ghost.tr hg26 hg7;obtain ⟨av, cv, rfl⟩ := hrp.form;refine Xh (Zl ?_);refine Y2 ?_;refine zL2 ?_;refine Y7 ?_
          refine Xi rfl (fun q3 => ?_) (fun q3 => ?_)
          · have e3 : parts.length = 1 := by
              have h9 : ((parts.length : Int) == 1) = true := q3;have := eq_of_beq h9;omega
            rw [if_pos e3] at hd
            obtain ⟨hk2, e, he, rfl⟩ : (Xw (Zh ls (Xk ls nodes on)) all pairs).2 < pairs.length ∧ ∃ e, Ki n ls all pairs f nodes (Ya ls on (pairs.getD (Xw (Zh ls (Xk ls nodes on)) all pairs).2 (0, 0)).1) = some e ∧ d = .mk (Xw (Zh ls (Xk ls nodes on)) all pairs).1 (Xw (Zh ls (Xk ls nodes on)) all pairs).2 (nodes.map Int.ofNat) [] [e] := by
              split at hd
              · rename_i q;obtain ⟨e, q1, q2⟩ := Option.map_eq_some_iff.1 hd;exact ⟨q, e, q1, q2.symm⟩
              · cases hd
            have hgd : pairs.getD (Xw (Zh ls (Xk ls nodes on)) all pairs).2 (0, 0) = pairs[(Xw (Zh ls (Xk ls nodes on)) all pairs).2] := by simp [hk2]
            rw [hgd] at he
            obtain ⟨pb2, po2, rfl⟩ := hp.base hk2;have hcp := (hp.mono hg07).enc hk2
            replace hs := (show St g7 w ((db, Xa [.int .i64 0, .int .i64 0, (.slice a1 nodes.length c1), .slice none 0 0, .slice none 0 0] 62) :: (rb, Xa [.int .i64 0, .int .i64 0, .slice none 0 0, .slice none 0 0, .slice none 0 0] 62) :: (tb, Xa [.slice av parts.length cv] 119) :: (dk, .deferred (some [])) :: F) by assumption)
            refine zQ ?_;refine Yf 10 [] Yd (by kernel_rfl) rfl hs ?_;refine zC ?_;refine Vq [] [] rfl rfl rfl (fun g' hg' => met_spec g' _ _ n ls (Xk ls nodes on) (hG.mono (Ghost.tr hg07 hg')) hv (hrl.mono (Ghost.tr (Ghost.tr hg4 (Ghost.tr hg5 (Ghost.tr hg6 hg7))) hg')) (withinF_len hv.len hnl) (fun i hi => withinF_lt hi)) (fun _ _ _ h => h) ?_
            refine Vm ((hwx.mono hg27).at') rfl rfl rfl rfl rfl ?_;refine Vq [] [] rfl rfl rfl (fun g' hg' => lacking_spec g' _ _ _ all pairs hml (ha.mono (Ghost.tr hg07 hg')) (hp.mono (Ghost.tr hg07 hg')) hw) (fun _ _ _ h => h) ?_;refine zC ?_;refine Xy ?_;intro g8 w hg8;intro hs;refine zn ?_;have hg08 := Ghost.tr hg07 hg8;have hg28 := Ghost.tr hg27 hg8;refine Y0 ?_
            refine Yh hs 0 rfl rfl rfl rfl rfl rfl rfl rfl ?_; clear hs; intro w hs;refine zP ?_;refine Yh hs 0 rfl rfl rfl rfl rfl rfl rfl rfl ?_; clear hs; intro w hs;refine Y9 ?_;refine Yj hs ((hpb.mono hg28).at') rfl rfl rfl rfl rfl rfl ?_;refine Yp hs rfl rfl rfl ?_; clear hs; intro qb w hs
            refine Yx hs 0 rfl rfl rfl rfl rfl (Nat.le_of_ble_eq_true rfl) rfl rfl ?_; clear hs; intro w hs;refine Y16 ?_;refine Yf 11 [] Yd (by kernel_rfl) rfl hs ?_;refine zC ?_;refine Xp (hpb.mono hg28 2 _ rfl) rfl rfl rfl rfl ?_;refine zC ?_;refine Xp (hwx.mono hg28 1 _ rfl) rfl rfl rfl rfl ?_;refine zC ?_
            refine Uc rfl rfl rfl rfl rfl (by omega) (⟨pb2, po2, rfl⟩) rfl ?_;refine sg_ixA rfl rfl rfl rfl rfl (by omega) rfl ?_;refine Xp (hcp.mono hg8 0 _ rfl) rfl rfl rfl rfl ?_
            refine Uf (post := fun g' L' r => L' = [] ∧ RS Yt g' r (Ya ls on pairs[(Xw (Zh ls (Xk ls nodes on)) all pairs).2].1)) [] [] rfl rfl rfl (fun g' hg' => without_spec g' _ _ n pairs[(Xw (Zh ls (Xk ls nodes on)) all pairs).2].1 ls on (hG.mono (Ghost.tr hg08 hg')) hv (h3.mono (Ghost.tr hg08 hg')) hlen) ?_;refine zC ?_;refine Xy ?_;intro g9 w hg9
            rintro vo L1 ⟨g9', hg9', rfl, hro⟩ hs;replace hro := hro.mono hg9';have hg09 := Ghost.tr hg08 hg9;have hg29 := Ghost.tr hg28 hg9;obtain ⟨avo, cvo, rfl⟩ := hro.form;refine Yh hs 0 rfl rfl rfl rfl rfl rfl rfl rfl ?_; clear hs; intro w hs;refine Y8 ?_;refine Vy hs 0 rfl rfl rfl rfl rfl rfl rfl ?_;refine Yj hs ((hwx.mono hg29).at') rfl rfl rfl rfl rfl rfl ?_
            refine Xf (L := []) rfl rfl rfl hs (ih g9 _ _ _ _ _ _ nodes (Ya ls on pairs[(Xw (Zh ls (Xk ls nodes on)) all pairs).2].1) e he (hG.mono hg09) (ha.mono hg09) (hp.mono hg09) (h1.mono hg09) (h2.mono hg09) hro (by simp [Ya]) hnl hn) ?_;rintro u g10 L' w hg10 hs ⟨rfl, cs5, rfl, hdr⟩;have hg010 := Ghost.tr hg09 hg10
            obtain ⟨b1, b2, b3, b4, b5, rfl, hone⟩ := hdr.cells5;refine Ug (ps := [(0, .tmp 88)]) hs rfl rfl rfl rfl rfl rfl rfl rfl rfl rfl ?_;clear hs; intro xb w hs;refine zP ?_;refine Yh hs 2 rfl rfl rfl rfl rfl rfl rfl rfl ?_; clear hs; intro w hs;obtain ⟨g11, hg11, hs, hxb⟩ := freezeB hs;have hg011 := Ghost.tr hg010 hg11;refine Y9 ?_
            refine Vy hs 1 rfl rfl rfl rfl rfl rfl rfl ?_;refine Yx hs 2 rfl rfl rfl rfl rfl (Nat.le_of_ble_eq_true rfl) rfl rfl ?_; clear hs; intro w hs;refine zn ?_;refine wc_retM 4 hs rfl fun w' hs => ⟨_, resCN (k := 2) hs rfl rfl rfl rfl rfl rfl, g11, [], hg011, hs.drop.drop.drop.drop, rfl, _, rfl, ?_⟩
            refine DropRn.close (d := .mk (((Xw (Zh ls (Xk ls nodes on)) all pairs).1 : Nat) : Int) (((Xw (Zh ls (Xk ls nodes on)) all pairs).2 : Nat) : Int) (nodes.map Int.ofNat) [] [e]) (h1.ofNat.mono hg011) (RS.nil _ _ _ _) (RS.mk' rfl hxb fun i hi => ?_);have : i = 0 := by simp [Drop.l] at hi; omega
            subst this;exact DropRn.mono hg11 hdr
          · have e3 : ¬ parts.length = 1 := by
              intro e;have h9 : ((parts.length : Int) == 1) = false := q3;rw [e] at h9
              simp at h9
            rw [if_neg e3] at hd
            obtain ⟨hpo, ds, hds, rfl⟩ : provOk n nodes parts (Ur ls nodes on parts) = true ∧ ∃ ds, allO ((Ur ls nodes on parts).map fun r => Ki n ls all pairs f r on) = some ds ∧ d = .mk 1 0 (nodes.map Int.ofNat) ((rkTo nodes (Ur ls nodes on parts) (Ur ls nodes on parts).length).map Int.ofNat) ds := by
              split at hd
              · rename_i q;obtain ⟨ds, q1, q2⟩ := Option.map_eq_some_iff.1 hd;exact ⟨q, ds, q1, q2.symm⟩
              · cases hd
            have hPO := provOk_iff hpo;obtain ⟨hdl, hdat⟩ := allO_some hds;rw [List.length_map] at hdl
            replace hs := (show St g7 w ((db, Xa [.int .i64 0, .int .i64 0, (.slice a1 nodes.length c1), .slice none 0 0, .slice none 0 0] 62) :: (rb, Xa [.int .i64 0, .int .i64 0, .slice none 0 0, .slice none 0 0, .slice none 0 0] 62) :: (tb, Xa [.slice av parts.length cv] 119) :: (dk, .deferred (some [])) :: F) from hs)
            refine Y57 ?_;refine Yh hs 0 rfl rfl rfl rfl rfl rfl rfl rfl ?_; clear hs; intro w hs;refine Y8 ?_;refine Yj hs ((hpb.mono hg27).at') rfl rfl rfl rfl rfl rfl ?_;refine zL2 ?_;refine Xf (L := []) rfl rfl rfl hs (ranked_spec g7 _ _ _ _ _ n ls nodes on parts (hG.mono hg07) hv (h1.mono hg07) (h2.mono hg07) (h3.mono hg07) hrp hlen hPO.parts_ hPO.plen hPO.pflat) ?_
            rintro vr g8 L' w hg8 hs ⟨rfl, hrr⟩;have hg08 := Ghost.tr hg07 hg8;have hg28 := Ghost.tr hg27 hg8;have hrs_ := hPO.rs_;have hrlen := hPO.rlen
            have hdat2 : ∀ i (h : i < (Ur ls nodes on parts).length) (h' : i < ds.length), Ki n ls all pairs f (Ur ls nodes on parts)[i] on = some ds[i] := fun i h h' => by
              have := hdat i (by simpa using h) h';simpa using this
            clear hdat hds hd;generalize Ur ls nodes on parts = rs at *
            obtain ⟨ar, cr, rfl⟩ := hrr.form;refine Y4 ?_;refine Xd hs (hpb.mono hg28 0 _ rfl) rfl rfl rfl rfl rfl ?_;refine zP ?_;refine Jk hs rfl (by omega) rfl rfl rfl rfl rfl rfl rfl ?_;clear hs; intro kb w hs
            have hz : (List.replicate ((nodes.length : Nat) : Int).toNat (TE.zcells ⟨.int .i64, [.int .i64], 8⟩)).flatten = (rkTo nodes rs 0).map fun (x : Nat) => Value.int .i64 (x : Int) := by
              rw [zero_ints];simp [rkTo, List.map_const']
            replace hs := (show St g8 w ((kb, Xa ((rkTo nodes rs 0).map fun (x : Nat) => Value.int .i64 (x : Int)) 3) :: (db, Xa [.int .i64 1, .int .i64 0, (.slice a1 nodes.length c1), .slice none 0 0, .slice none 0 0] 62) :: (rb, Xa [.int .i64 0, .int .i64 0, .slice none 0 0, .slice none 0 0, .slice none 0 0] 62) :: (tb, Xa [.slice av parts.length cv] 119) :: (dk, .deferred (some [])) :: F) by rw [← hz]; exact hs)
            refine zP ?_;refine Yh hs 1 rfl rfl rfl rfl rfl rfl rfl rfl ?_; clear hs; intro w hs;refine zn ?_;rw [Int.toNat_natCast] at hs
            refine Y1 ?_;have hrl2 : rs.length ≤ 4611686018427387904 := by omega
            refine Yw rs.length (fun _ (_ : Unit) => [(103, .int .i64 rs.length), (102, .slice ar rs.length cr), (0, (.pointer (some ⟨gb, 0, none⟩))), (4, .pointer (some ⟨pb, 0, none⟩)), (5, .pointer (some ⟨wx, 0, none⟩)), (6, .pointer (some ⟨rb, 0, none⟩)), (7, .pointer (some ⟨db, 0, none⟩))])
              (fun i (_ : Unit) w => ∃ g' vL cL HL, g8 ≤ g' ∧ OwnS 62 5 vL i cL HL ∧ (∀ k (hk : k < i) (hk' : k < ds.length), DropRn f g' ((cL.drop (k * 5)).take 5) ds[k]) ∧ St g' w ((kb, Xa ((rkTo nodes rs i).map fun (x : Nat) => Value.int .i64 (x : Int)) 3) :: (db, Xa [.int .i64 1, .int .i64 0, (.slice a1 nodes.length c1), .slice (some ⟨kb, 0, none⟩) nodes.length nodes.length, vL] 62) :: (rb, Xa [.int .i64 0, .int .i64 0, .slice none 0 0, .slice none 0 0, .slice none 0 0] 62) :: (tb, Xa [.slice av parts.length cv] 119) :: (dk, .deferred (some [])) :: (HL ++ F))) () hrl2 (by repeat (first | exact trivial | refine ⟨rfl, ?_⟩))
              ⟨g8, _, [], [], Ghost.rfl', OwnS.nil _ _, fun k hk => by omega, hs⟩ (fun _ _ => rfl) rfl rfl rfl ?_ ?_ (fun _ _ => rfl) rfl
            · rintro i _ w hi ⟨g9, vL, cL, HL, hg9, hoL, hdL, hs⟩;have hg09 := Ghost.tr hg08 hg9;have hg29 := Ghost.tr hg28 hg9;have hbR := hrr.base hi;obtain ⟨pa, pc, hcR, hRR⟩ := (hrr.mono hg9).sl hi;obtain ⟨hrn, hrl5⟩ := hrs_ _ (List.getElem_mem hi);have hid : i < ds.length := by omega
              have hpr := hdat2 i hi hid;have hrk := rkTo_succ nodes rs i hi;have hrkl := rkTo_length nodes rs i (by omega);generalize rs[i] = r at hcR hRR hrn hrl5 hpr hrk
              generalize rkTo nodes rs i = rk at hs hrk hrkl
              have hrl6 : r.length ≤ 4611686018427387904 := by omega
              refine Y0 ?_;refine Yb rfl rfl rfl rfl rfl (by omega) (hbR) rfl rfl ?_;refine Xd hs (hcR) rfl rfl rfl rfl rfl ?_;refine Y15 ?_
              refine Yw r.length (fun _ (_ : Unit) => [(110, .int .i64 r.length), (109, .slice pa r.length pc), (18, .slice pa r.length pc), (17, .int .i64 (i : Int)), (104, .int .i64 (i : Int)), (103, .int .i64 rs.length), (102, .slice ar rs.length cr), (0, (.pointer (some ⟨gb, 0, none⟩))), (4, .pointer (some ⟨pb, 0, none⟩)), (5, .pointer (some ⟨wx, 0, none⟩)), (6, .pointer (some ⟨rb, 0, none⟩)), (7, .pointer (some ⟨db, 0, none⟩))])
                (fun j (_ : Unit) w => ∃ g', g9 ≤ g' ∧ St g' w ((kb, Xa ((Qe nodes rk (r.take j) i).map fun (x : Nat) => Value.int .i64 (x : Int)) 3) :: (db, Xa [.int .i64 1, .int .i64 0, (.slice a1 nodes.length c1), .slice (some ⟨kb, 0, none⟩) nodes.length nodes.length, vL] 62) :: (rb, Xa [.int .i64 0, .int .i64 0, .slice none 0 0, .slice none 0 0, .slice none 0 0] 62) :: (tb, Xa [.slice av parts.length cv] 119) :: (dk, .deferred (some [])) :: (HL ++ F))) () hrl6 (by repeat (first | exact trivial | refine ⟨rfl, ?_⟩))
                ⟨g9, Ghost.rfl', hs⟩ (fun _ _ => rfl) rfl rfl rfl ?_ ?_ (fun _ _ => rfl) rfl
              · rintro j _ w hj ⟨g10, hg10, hs⟩;have hg010 := Ghost.tr hg09 hg10;have hbj := hRR.base hj;have hcj := (hRR.mono hg10).nat hj;obtain ⟨hx1, hx2⟩ := hrn _ (List.getElem_mem hj);have hsn : Qe nodes rk (r.take (j + 1)) i = (Qe nodes rk (r.take j) i).set (ixIn nodes r[j]) i := by rw [Yr hj, rankRow_snoc]
                have hrrl := rankRow_length nodes (r.take j) i rk;generalize r[j] = x at hcj hx1 hx2 hsn
                generalize Qe nodes rk (r.take j) i = rk2 at hs hsn hrrl
                refine Y2 ?_;refine Yb rfl rfl rfl rfl rfl (by omega) (hbj) rfl rfl ?_;refine Xd hs (hcj) rfl rfl rfl rfl rfl ?_;refine Y4 ?_;refine Xd hs (hpb.mono (Ghost.tr hg29 hg10) 0 _ rfl) rfl rfl rfl rfl rfl ?_;refine zP ?_;refine Xf (L := []) rfl rfl rfl hs (search_spec g10 _ nodes x (h1.mono hg010) (by omega) hPO.sorted) ?_;rintro u g11 L' w hg11 hs ⟨rfl, rfl⟩
                refine Y4 ?_;refine zL1 ?_;refine zP ?_;refine Yv (ixIn nodes x) rfl rfl rfl rfl rfl hx2 rfl rfl rfl ?_;refine Yh (u := .int .i64 ((rk2[ixIn nodes x]'(by omega) : Nat) : Int)) hs 0 rfl rfl rfl (by simp [show ixIn nodes x < rk2.length by omega]) rfl rfl rfl rfl ?_;clear hs; intro w hs
                refine Xn (Xh (Xx () hj hrl6 ⟨g11, Ghost.tr hg10 hg11, ?_⟩ rfl rfl rfl (by repeat (first | exact trivial | refine ⟨rfl, ?_⟩))));rw [hsn, List.map_set];exact hs
              · rintro _ w ⟨g10, hg10, hs⟩;rw [List.take_length, ← hrk] at hs
                have hg010 := Ghost.tr hg09 hg10;refine Y23 ?_;refine Xd hs (hpb.mono (Ghost.tr hg29 hg10) 2 _ rfl) rfl rfl rfl rfl rfl ?_;refine Xf (L := []) rfl rfl rfl hs (Ka g10 _ _ _ n ls r (hG.mono hg010) hv (hRR.mono hg10) hrl6 ⟨_, _, _, rfl⟩ (fun x hx => (hrn x hx).1)) ?_;rintro u g11 L' w hg11 hs ⟨rfl, v2', rfl, hr2⟩;have hg011 := Ghost.tr hg010 hg11
                have hg911 := Ghost.tr hg10 hg11;have hg211 := Ghost.tr hg29 hg911;obtain ⟨a22, c22, rfl⟩ := hr2.form;refine Yp hs rfl rfl rfl ?_; clear hs; intro qb w hs;refine Yx hs 0 rfl rfl rfl rfl rfl (Nat.le_of_ble_eq_true rfl) rfl rfl ?_; clear hs; intro w hs;refine zn ?_
                replace hs := (show St g11 w (HL ++ ((qb, Xa [.slice pa r.length pc, .slice a22 (inF n r).length c22, (.slice a3 on.length c3)] 94) :: (kb, Xa ((rkTo nodes rs (i + 1)).map fun (x : Nat) => Value.int .i64 (x : Int)) 3) :: (db, Xa [.int .i64 1, .int .i64 0, (.slice a1 nodes.length c1), .slice (some ⟨kb, 0, none⟩) nodes.length nodes.length, vL] 62) :: (rb, Xa [.int .i64 0, .int .i64 0, .slice none 0 0, .slice none 0 0, .slice none 0 0] 62) :: (tb, Xa [.slice av parts.length cv] 119) :: (dk, .deferred (some [])) :: F)) from St.perm (show St g11 w ((qb, Xa [.slice pa r.length pc, .slice a22 (inF n r).length c22, (.slice a3 on.length c3)] 94) :: (kb, Xa ((rkTo nodes rs (i + 1)).map fun (x : Nat) => Value.int .i64 (x : Int)) 3) :: (db, Xa [.int .i64 1, .int .i64 0, (.slice a1 nodes.length c1), .slice (some ⟨kb, 0, none⟩) nodes.length nodes.length, vL] 62) :: (rb, Xa [.int .i64 0, .int .i64 0, .slice none 0 0, .slice none 0 0, .slice none 0 0] 62) :: (tb, Xa [.slice av parts.length cv] 119) :: (dk, .deferred (some [])) :: (HL ++ F)) from hs) (by classical exact List.perm_iff_count.2 fun x => by simp only [List.append_eq, List.set_cons_succ, List.set_cons_zero, List.eraseIdx_cons_zero, List.eraseIdx_cons_succ, List.count_cons, List.count_append, List.cons_append, List.nil_append, List.append_nil, List.append_assoc] <;> ac_rfl))
                refine zQ ?_;refine Yf 9 HL Yd (by kernel_rfl) rfl hs ?_;refine zC ?_;refine Xv 2 rfl rfl rfl rfl rfl rfl ?_;refine zC ?_;refine sg_ldW 0 rfl rfl rfl rfl rfl rfl ?_;refine Vm ((hwx.mono hg211).at') rfl rfl rfl rfl rfl ?_
                refine Uf (post := fun g' L' r => L' = [] ∧ ∃ cs : List Value, r = .agg cs.toArray ∧ DropRn f g' cs ds[i]) [] HL rfl rfl rfl (fun g' hg' => ih g' _ _ _ _ _ _ r on ds[i] hpr (hG.mono (Ghost.tr hg011 hg')) (ha.mono (Ghost.tr hg011 hg')) (hp.mono (Ghost.tr hg011 hg')) (hRR.mono (Ghost.tr hg911 hg')) (hr2.mono hg') (h3.mono (Ghost.tr hg011 hg')) hlen hrl5 (fun x hx => (hrn x hx).1)) ?_
                refine sg_oneW (ψ := fun g cs => DropRn f g cs ds[i]) (fun g g' ys hle h => DropRn.mono hle h) rfl rfl (fun g v L' ⟨g1, hle, hL, ys, hv, hdr⟩ => by
                  obtain ⟨b1, b2, b3, b4, b5, rfl, hone⟩ := hdr.cells5;exact ⟨_, hv, hL, DropRn.mono hle hdr, rfl, hone⟩) rfl rfl rfl rfl (fun _ => rfl) ?_
                refine sg_pushW (ψ := fun g cs => DropRn f g cs ds[i]) (fun g g' ys hle h => DropRn.mono hle h) HL [] (List.append_nil _).symm hoL (by omega) rfl rfl rfl rfl rfl rfl rfl rfl rfl rfl (fun _ => rfl) ?_;refine zC ?_;refine Xy ?_;intro g12 w hg12;rintro _ _ ⟨_, _, rfl, _⟩ _ _ ⟨_, _, _, _, rfl, rfl, _⟩ vL' HL' ⟨g13, hg13, ys, hoL', hψ, hl5⟩ hs
                replace hs := (show St g12 w ((qb, Xa [.slice pa r.length pc, .slice a22 (inF n r).length c22, (.slice a3 on.length c3)] 94) :: (kb, Xa ((rkTo nodes rs (i + 1)).map fun (x : Nat) => Value.int .i64 (x : Int)) 3) :: (db, Xa [.int .i64 1, .int .i64 0, (.slice a1 nodes.length c1), .slice (some ⟨kb, 0, none⟩) nodes.length nodes.length, vL] 62) :: (rb, Xa [.int .i64 0, .int .i64 0, .slice none 0 0, .slice none 0 0, .slice none 0 0] 62) :: (tb, Xa [.slice av parts.length cv] 119) :: (dk, .deferred (some [])) :: (HL' ++ F)) from St.perm (show St g12 w (HL' ++ [] ++ ((qb, Xa [.slice pa r.length pc, .slice a22 (inF n r).length c22, (.slice a3 on.length c3)] 94) :: (kb, Xa ((rkTo nodes rs (i + 1)).map fun (x : Nat) => Value.int .i64 (x : Int)) 3) :: (db, Xa [.int .i64 1, .int .i64 0, (.slice a1 nodes.length c1), .slice (some ⟨kb, 0, none⟩) nodes.length nodes.length, vL] 62) :: (rb, Xa [.int .i64 0, .int .i64 0, .slice none 0 0, .slice none 0 0, .slice none 0 0] 62) :: (tb, Xa [.slice av parts.length cv] 119) :: (dk, .deferred (some [])) :: F)) from hs) (by classical exact List.perm_iff_count.2 fun x => by simp only [List.append_eq, List.set_cons_succ, List.set_cons_zero, List.eraseIdx_cons_zero, List.eraseIdx_cons_succ, List.count_cons, List.count_append, List.cons_append, List.nil_append, List.append_nil, List.append_assoc] <;> ac_rfl))
                refine Yh hs 2 rfl rfl rfl rfl rfl rfl hoL'.one rfl ?_;clear hs; intro w hs;have hcl : cL.length = i * 5 := hoL.len;refine Xn (Xh (Xx () hi hrl2 ⟨g12, vL', cL ++ ys, HL', Ghost.tr hg9 (Ghost.tr hg911 hg12), hoL', fun k hk hk' => ?_, hs.drop⟩ rfl rfl rfl (by repeat (first | exact trivial | refine ⟨rfl, ?_⟩))))
                by_cases hki : k < i
                · rw [List.drop_append_of_le_length (by omega), List.take_append_of_le_length (by rw [List.length_drop]; omega)];exact DropRn.mono (Ghost.tr hg911 hg12) (hdL k hki hk')
                · have : k = i := by omega
                  subst this;rw [← hcl, List.drop_left, List.take_of_length_le (by rw [hl5]; exact Nat.le_refl _)];exact DropRn.mono hg13 hψ
            · rintro _ w ⟨g9, vL, cL, HL, hg9, hoL, hdL, hs⟩;have hg09 := Ghost.tr hg08 hg9;have hrkl := rkTo_length nodes rs rs.length (Nat.le_refl _);obtain ⟨g10, hg10, hs, hkb⟩ := freezeB hs
              replace hs := (show St g10 w (HL ++ ((db, Xa [.int .i64 1, .int .i64 0, (.slice a1 nodes.length c1), .slice (some ⟨kb, 0, none⟩) nodes.length nodes.length, vL] 62) :: (rb, Xa [.int .i64 0, .int .i64 0, .slice none 0 0, .slice none 0 0, .slice none 0 0] 62) :: (tb, Xa [.slice av parts.length cv] 119) :: (dk, .deferred (some [])) :: F)) from hs.perm (by classical exact List.perm_iff_count.2 fun x => by simp only [List.append_eq, List.set_cons_succ, List.set_cons_zero, List.eraseIdx_cons_zero, List.eraseIdx_cons_succ, List.count_cons, List.count_append, List.cons_append, List.nil_append, List.append_nil, List.append_assoc] <;> ac_rfl))
              obtain ⟨g11, hg11, hs, hrL⟩ := OwnS.freeze (K := kDrop f) (xs := ds) hoL hs hdl.symm (fun g' hg' k hk => DropRn.mono (Ghost.tr hg10 hg') (hdL k (by omega) hk));have hg011 := Ghost.tr hg09 (Ghost.tr hg10 hg11);obtain ⟨aL, cLL, rfl⟩ := hrL.form;refine Y27 ?_;refine Vy hs 0 rfl rfl rfl rfl rfl rfl rfl ?_
              refine Yx hs 1 rfl rfl rfl rfl rfl (Nat.le_of_ble_eq_true rfl) rfl rfl ?_; clear hs; intro w hs;refine zn ?_;refine wc_retM 3 hs rfl fun w' hs => ⟨_, resCN (k := 1) hs rfl rfl rfl rfl rfl rfl, g11, [], hg011, hs.drop.drop.drop, rfl, _, rfl, ?_⟩
              refine DropRn.close (d := .mk 1 0 (nodes.map Int.ofNat) ((rkTo nodes rs rs.length).map Int.ofNat) ds) (h1.ofNat.mono hg011) ?_ hrL
              have := RS.mk' (K := kNat) (cap := nodes.length) (xs := rkTo nodes rs rs.length) (n := nodes.length) (g := g11) hrkl.symm (hkb.mono hg11) (fun k hk => by
                show _ = [Value.int .i64 _]
                rw [show kNat.sz = 1 from rfl, Nat.mul_one, List.drop_eq_getElem_cons (by simpa using hk)];simp)
              exact this.ofNat
        · rintro dk cd g6 w L' hg6 h hs;exact h.elim
end
section
open Go.RowKit
section
variable {P : Program} [Tabbed P] {ρ : Env} {w : World} {g : Ghost} {L : Own}
theorem resCTT {fn : Func} {t1 t2 t3 : Tmp} {ty1 E1 b1 k1 : Nat} {l1 : List Value} {v2 v3 : Value} {te1 : TE} (hs : St g w L) (h : fn.results = #[.cell t1 ty1, .tmp t2, .tmp t3])
  (h1 : Ye ρ t1 = some (.pointer (some ⟨b1, 0, none⟩))) (h2 : Ye ρ t2 = some v2) (h3 : Ye ρ t3 = some v3)
  (hk1 : L[k1]? = some (b1, Xa l1 E1)) (ht1 : Xc (tb P) ty1 = some te1) (hA1 : te1.td.isAgg = true) (hl : l1.length = te1.zs.length) : ResV P fn ρ w (.tuple #[.agg l1.toArray, v2, v3]) := fun _ _ a ha => by
 have c1 := Qa (P := P) w ht1 hA1 (a := ⟨b1, 0, none⟩) hl (fun j v hv => by rw [Yo]; exact hs.cellL (Za hk1) (by simpa using hv))
 simp only [results, h]; simp [Jx ha h1, Jx ha h2, Jx ha h3, asAddr, c1]
end
def noDrop : Drop := .mk 0 0 [] [] []
def proveI (f : Nat) (n : Int) (init : List Int) (ls : List ArrowI) (all : List Int) (pairs : List (Int × Int)) : Option (Option Drop × Int) :=
 match findI n init ls all pairs with
 | none => none
 | some (r, e) => if (r.isSome || e != 0) = true then some (none, e)
  else match reachR n.toNat (ls.map toA) (init.map Int.toNat) with
   | none => none
   | some reached => (Ki n.toNat (ls.map toA) (all.map Int.toNat) (pairs.map toP) f reached (List.replicate (ls.map toA).length true)).map fun d => (some d, 0)
theorem Prove_spec (f : Nat) (g : Ghost) (n : Int) (vi vl va vp : Value) (init : List Int) (ls : List ArrowI) (all : List Int) (pairs : List (Int × Int)) (hi : RS kInt g vi init) (hl : RS Jl g vl ls) (ha : RS kInt g va all) (hp : RS Vh g vp pairs)
  (hi0 : init.length ≤ 4611686018427387904) (hl0 : ls.length ≤ 4611686018427387904) (ha0 : all.length ≤ 4611686018427387904) (hp0 : pairs.length ≤ 4611686018427387904) (o : Option Drop × Int) (ho : proveI (f + 1) n init ls all pairs = some o) :
  Cl PP 19 [.int .i64 n, vi, vl, .agg #[va, vp]] g [] fun g' L' r => L' = [] ∧ ∃ cs : List Value, r = .tuple #[.agg cs.toArray, .bool o.1.isSome, .int .i64 o.2] ∧ DropRn (f + 1) g' cs (o.1.getD noDrop) := by
 obtain ⟨a1, c1, rfl⟩ := hi.form
 obtain ⟨a2, c2, rfl⟩ := hl.form
 obtain ⟨rr, ee, hfind, ho⟩ : ∃ r e, findI n init ls all pairs = some (r, e) ∧ (if (r.isSome || e != 0) = true then some (none, e)
  else match reachR n.toNat (ls.map toA) (init.map Int.toNat) with
   | none => none
   | some reached => (Ki n.toNat (ls.map toA) (all.map Int.toNat) (pairs.map toP) (f + 1) reached (List.replicate (ls.map toA).length true)).map fun d => (some d, 0)) = some o := by
  unfold proveI at ho
  split at ho
  ·cases ho
  ·rename_i r e q; exact ⟨r, e, q, ho⟩
 refine Xj Tryz.func19 rfl rfl Tryz.ntmps19 rfl ?_
 intro w F hs
 refine Y2 ?_
 refine Yi hs rfl rfl rfl rfl ?_; clear hs; intro wx w hs
 refine Yp hs rfl rfl rfl ?_; clear hs; intro rb w hs
 refine Y7 ?_
 replace hs := (show St g w ((wx, Xa [va, vp] 26) :: (rb, Xa [.int .i64 0, .int .i64 0, .slice none 0 0, .slice none 0 0, .slice none 0 0] 62) :: F) from St.perm (show St g w ((rb, Xa [.int .i64 0, .int .i64 0, .slice none 0 0, .slice none 0 0, .slice none 0 0] 62) :: (wx, Xa [va, vp] 26) :: F) from hs) (by classical exact List.perm_iff_count.2 fun x => by simp only [List.append_eq, List.set_cons_succ, List.set_cons_zero, List.eraseIdx_cons_zero, List.eraseIdx_cons_succ, List.count_cons, List.count_append, List.cons_append, List.nil_append, List.append_nil, List.append_assoc] <;> ac_rfl))
 obtain ⟨g1, hg1, hs, hwx⟩ := freezeB hs
 refine Y0 ?_
 refine Yj hs (hwx.at') rfl rfl rfl rfl rfl rfl ?_
 refine Xf (L := []) rfl rfl rfl hs (Find_spec g1 n _ _ va vp init ls all pairs (hi.mono hg1) (hl.mono hg1) (ha.mono hg1) (hp.mono hg1) hi0 hl0 ha0 hp0 (rr, ee) hfind) ?_
 rintro u g2 L' w hg2 hs ⟨rfl, vs, vlo, rfl, hr1, hr2⟩
 have hg02 := Ghost.tr hg1 hg2
 obtain ⟨as1, cs1, rfl⟩ := hr1.form
 obtain ⟨as2, cs2, rfl⟩ := hr2.form
 refine zP ?_
 refine Yp hs rfl rfl rfl ?_; clear hs; intro fb w hs
 refine Yx hs 0 rfl rfl rfl rfl rfl (Nat.le_of_ble_eq_true rfl) rfl rfl ?_; clear hs; intro w hs
 refine Y4 ?_
 have hre : (rr.isSome || ee != 0) = true → o = (none, ee) := fun h => by rw [if_pos h] at ho; cases ho; rfl
 refine Xr 25 (c := rr.isSome) rfl (fun q1 => ?_) (fun q1 => ?_)
 ·refine Y40 ?_;obtain rfl := hre (by rw [q1]; rfl);refine Y38 ?_;refine Yg (ps := []) rfl rfl rfl rfl rfl rfl rfl ?_;refine zP ?_;refine Yx hs 1 rfl rfl rfl rfl rfl (Nat.le_of_ble_eq_true rfl) rfl rfl ?_; clear hs; intro w hs;refine Y7 ?_
  refine Xb (resCTT (k1 := 1) hs rfl rfl rfl rfl rfl rfl rfl rfl) ⟨g2, [], hg02, hs.drop.drop, rfl, _, rfl, DropRn.close (d := noDrop) (RS.nil _ _ _ _) (RS.nil _ _ _ _) (RS.nil _ _ _ _)⟩
 ·refine Y40 ?_
  refine Xi rfl (fun q2 => ?_) (fun q2 => ?_)
  ·have q2' : (ee != 0) = true := q2;obtain rfl := hre (by rw [q1, q2']; rfl);refine Y2 ?_;refine Yg (ps := []) rfl rfl rfl rfl rfl rfl rfl ?_;refine zP ?_;refine Yx hs 1 rfl rfl rfl rfl rfl (Nat.le_of_ble_eq_true rfl) rfl rfl ?_; clear hs; intro w hs;refine Y7 ?_
   refine Xb (resCTT (k1 := 1) hs rfl rfl rfl rfl rfl rfl rfl rfl) ⟨g2, [], hg02, hs.drop.drop, rfl, _, rfl, DropRn.close (d := noDrop) (RS.nil _ _ _ _) (RS.nil _ _ _ _) (RS.nil _ _ _ _)⟩
  ·have q2' : (ee != 0) = false := q2;rw [if_neg (by rw [q1, q2']; simp)] at ho
   have he0 : ee = 0 := by simpa using q2'
   subst he0
   have hc : Xz n init ls all pairs = 0 := by
    unfold findI at hfind
    split at hfind
    ·assumption
    ·simp only [Option.some.injEq, Prod.mk.injEq] at hfind
     exact hfind.2
   have hC := Jn hc;have hnn : n = (n.toNat : Int) := (Int.toNat_of_nonneg hC.n0).symm
   obtain ⟨reached, hres, d, hd, rfl⟩ : ∃ reached, reachR n.toNat (ls.map toA) (init.map Int.toNat) = some reached ∧ ∃ d, Ki n.toNat (ls.map toA) (all.map Int.toNat) (pairs.map toP) (f + 1) reached (List.replicate (ls.map toA).length true) = some d ∧ o = (some d, 0) := by
    split at ho
    ·cases ho
    ·rename_i reached q;obtain ⟨d, h1, h2⟩ := Option.map_eq_some_iff.1 ho;exact ⟨reached, q, d, h1, h2.symm⟩
   obtain ⟨hreach, hrl, hrn⟩ := reachR_some hres;have hV := hC.validG;have hW := hC.validW;have hA := hC.rsA hl;have hP := hC.rsP hp;have hI := hC.init.rs hi;have hAl := hC.all.rs ha
   have hin : ∀ x ∈ (init.map Int.toNat), x < n.toNat := fun x hx => by
    obtain ⟨y, hy, rfl⟩ := List.mem_map.1 hx;have := hC.init.low y hy;omega
   have hilen : (init.map Int.toNat).length = init.length := by simp
   refine Y57 ?_;refine Xf (vs := [.int .i64 (n.toNat : Int), .slice a2 ls.length c2]) (L := []) (by rw [← hnn]; rfl) rfl rfl hs (Jd g2 n.toNat _ (ls.map toA) (hA.mono hg02) hV.size hV.len (fun a ha => (hV.ok a ha).1)) ?_;rintro gv g6 L' w hg6 hs ⟨rfl, hG⟩
   obtain ⟨gb, hgv⟩ : ∃ gb, gv = .pointer (some ⟨gb, 0, none⟩) := by obtain ⟨gb, _, _, _, _, rfl, _⟩ := hG; exact ⟨gb, rfl⟩
   subst hgv;refine Y7 ?_;have hg06 := Ghost.tr hg02 hg6;have hg16 := Ghost.tr hg2 hg6;refine zQ ?_;refine Yf 10 [] Yd (by kernel_rfl) rfl hs ?_;refine zC ?_
   refine Uf (post := fun g' L' r => L' = [] ∧ RS kNat g' r reached) (vs := [.int .i64 (n.toNat : Int), .slice a1 init.length c1, .func (.func 35) #[.pointer (some ⟨gb, 0, none⟩)] #[]]) [] [] rfl (by rw [← hnn]; rfl) rfl (fun g' hg' => closure_spec g' n.toNat _ (init.map Int.toNat) 35 #[.pointer (some ⟨gb, 0, none⟩)] #[] (nxF (ls.map toA)) reached hV.size (hI.mono (Ghost.tr hg06 hg')) hin (by omega)
    (fun g2 x hg2 hx => next_spec g2 _ n.toNat x (ls.map toA) (hG.mono (Ghost.tr hg' hg2)) hV hx) (fun x hx => ⟨fun y hy => nxF_lt hV hy, by have h1 := nxF_len (ls.map toA) x; have h2 := hV.len; omega⟩) hreach) ?_
   refine sg_callW (post := fun g' L' r => L' = [] ∧ PieceR g' r n.toNat reached (List.replicate (ls.map toA).length true)) 40 [] [] rfl rfl rfl (fun _ => rfl) (fun _ => rfl) (fun g' g1 v L' hg1 ⟨g2, hg2, hL, hr⟩ hg' =>
    whole_spec g' _ v n.toNat (ls.map toA) reached (hG.mono (Ghost.tr hg1 hg')) hV (hr.mono (Ghost.tr hg2 hg')) (by omega) hrn) ?_
   refine Vm ((hwx.mono hg16).at') rfl rfl rfl rfl rfl ?_
   refine sg_callW (post := fun g' L' r => L' = [] ∧ ∃ cs : List Value, r = .agg cs.toArray ∧ DropRn (f + 1) g' cs d) 41 [] [] rfl rfl rfl (fun _ => rfl) (fun _ => rfl) (fun g' g1 v L' hg1 ⟨g2, hg2, hL, hr⟩ hg' => by
    obtain ⟨v1, v2, v3, rfl, q1, q2, q3⟩ := hr;have hgg := Ghost.tr hg06 (Ghost.tr hg1 hg');exact proved_all n.toNat (ls.map toA) (all.map Int.toNat) (pairs.map toP) hV hW (f + 1) g' _ va vp v1 v2 v3 reached _ d hd (hG.mono (Ghost.tr hg1 hg')) (hAl.mono hgg) (hP.mono hgg) (q1.mono (Ghost.tr hg2 hg')) (q2.mono (Ghost.tr hg2 hg')) (q3.mono (Ghost.tr hg2 hg')) (by simp) hrl hrn) ?_
   refine Xy ?_;intro g8 w hg8;have hg08 := Ghost.tr hg06 hg8;rintro _ _ ⟨_, _, rfl, _⟩ _ _ ⟨_, _, rfl, _⟩ u _ ⟨g9, hg9, rfl, cs5, rfl, hdr⟩ hs;obtain ⟨b1, b2, b3, b4, b5, rfl, hone⟩ := hdr.cells5;refine Yx (cs := [b1, b2, b3, b4, b5]) hs 1 rfl rfl rfl rfl rfl (Nat.le_of_ble_eq_true rfl) hone rfl ?_;clear hs; intro w hs;refine Y7 ?_
   exact Xb (resCTT (k1 := 1) hs rfl rfl rfl rfl rfl rfl rfl rfl) ⟨g8, [], hg08, hs.drop.drop, rfl, _, rfl, DropRn.mono hg9 hdr⟩
end
section
open Go.RowKit
theorem isMark_spec (g : Ghost) (m : Int) : Cl PP 43 [.int .i64 m] g [] (Det (.bool (decide (0 ≤ m) && decide (m < 16)))) := by
 refine Xj Tryz.func43 rfl rfl Tryz.ntmps43 rfl ?_
 intro w F hs
 refine Y12 ?_
 refine Xr 5 rfl (fun q1 => ?_) (fun q1 => ?_)
 ·refine Y40 ?_;refine Xb (Xo rfl rfl) ⟨g, [], Ghost.rfl', hs, rfl, ?_⟩;have := of_decide_eq_true q1;rw [decide_eq_true (show 0 ≤ m by omega)];rfl
 ·refine Y40 ?_;refine Xb (Xo rfl rfl) ⟨g, [], Ghost.rfl', hs, rfl, ?_⟩;have := of_decide_eq_false q1;rw [decide_eq_false (show ¬ 0 ≤ m by omega)];rfl
theorem risesTo_bad {below : Int} {xs : List Int} {i : Nat} (hi : i < xs.length) (h : Vd below xs i = false) : rises below xs = false := by
 rw [rises, Kh, List.all_eq_false]
 exact ⟨i, by simp [hi], by simp [h]⟩
theorem risesAt_eq {below : Int} {xs : List Int} {i : Nat} (hi : i < xs.length) : Vd below xs i = (decide (0 ≤ xs[i]) && decide (xs[i] < below) && (decide (i = 0) || decide (xs.getD (i - 1) 0 < xs[i]))) := by
 simp [Vd, hi]
theorem refCheck_spec (g : Ghost) (n : Int) (vi vl va vp : Value) (init : List Int) (ls : List ArrowI) (all : List Int) (pairs : List (Int × Int)) (hi : RS kInt g vi init) (hl : RS Jl g vl ls) (ha : RS kInt g va all) (hp : RS Vh g vp pairs)
  (hi0 : init.length ≤ 4611686018427387904) (hl0 : ls.length ≤ 4611686018427387904) (ha0 : all.length ≤ 4611686018427387904) (hp0 : pairs.length ≤ 4611686018427387904) :
  Cl PP 14 [.int .i64 n, vi, vl, .agg #[va, vp]] g [] (Det (.int .i64 (Xz n init ls all pairs))) := by
 obtain ⟨ai, ci, rfl⟩ := hi.form
 obtain ⟨al, cl, rfl⟩ := hl.form
 obtain ⟨aa, ca, rfl⟩ := ha.form
 obtain ⟨ap, cp, rfl⟩ := hp.form
 refine Xj Tryz.func14 rfl rfl Tryz.ntmps14 rfl ?_
 intro w F hs
 refine Y2 ?_
 refine Yi hs rfl rfl rfl rfl ?_; clear hs; intro b w hs
 refine Y7 ?_
 obtain ⟨g1, hg1, hs, hb⟩ := freezeB hs
 replace hs := (show St g1 w F from hs)
 replace hb := (show Lies g1 b 0 [.slice aa all.length ca, .slice ap pairs.length cp] from hb)
 refine Y0 ?_
 refine Xr 15 rfl (fun c1 => ?_) (fun c1 => ?_)
 ·refine Y35 ?_;exact Xb (Xo rfl rfl) ⟨g1, [], hg1, hs, rfl, by simp only [Xz, c1, Bool.true_or, if_true]⟩
 ·refine Y40 ?_
  refine Xi rfl (fun c2 => ?_) (fun c2 => ?_)
  ·refine Y1 ?_;have c2' : decide (n > 20000) = true := c2;exact Xb (Xo rfl rfl) ⟨g1, [], hg1, hs, rfl, by simp only [Xz, c2', Bool.true_or, Bool.or_true, if_true]⟩
  ·have c2' : decide (n > 20000) = false := c2;have n0 := of_decide_eq_false c1;refine zS ?_;refine Y1 ?_
   refine Ub init.length (fun _ (_ : Unit) => [(0, .int .i64 n), (2, .slice al ls.length cl), (7, .pointer (some ⟨b, 0, none⟩)), (1, .slice ai init.length ci)]) (fun i (_ : Unit) w => ∃ g', g1 ≤ g' ∧ St g' w F ∧ Kh n init i = true) () (by repeat (first | exact trivial | refine ⟨rfl, ?_⟩)) ⟨g1, Ghost.rfl', hs, rfl⟩ ?_ ?_ ?_
   ·intro i _ w s' hi ⟨g2, hg2, hs, hr⟩ hk;refine zP ?_;exact Xn (Ua (by repeat (first | exact trivial | refine ⟨rfl, ?_⟩)) hk)
   ·rintro i _ w hii ⟨g2, hg2, hs, hr⟩;have hg02 := Ghost.tr hg1 hg2;have hlen : init.length ≤ 4611686018427387904 := hi0
    have bad : Vd n init i = false → Xz n init ls all pairs = 1 := fun h => by
     simp only [Xz, risesTo_bad hii h, Bool.not_false, Bool.or_true, if_true]
    rw [risesAt_eq hii] at bad
    have hrs := risesAt_eq (below := n) hii;have hi_ := hi;have hbi := hi.base hii;have hci := (hi.mono hg02).int hii;refine zQ ?_;refine Yf 29 [] Yd (by kernel_rfl) rfl hs ?_;refine zC ?_;refine Uc rfl rfl rfl rfl rfl (by omega) (hbi) rfl ?_;refine Xp (hci) rfl rfl rfl rfl ?_;refine zC ?_;have hi := hii
    refine sg_case (fun q1 => ?_) (fun q1 => ?_)
    ·have := of_decide_eq_true q1;refine zC ?_;refine Xy ?_;intro g3 w hg3;intro hs;refine Y29 ?_;exact Xb (Xo rfl rfl) ⟨g3, [], Ghost.tr hg02 hg3, hs, rfl, by rw [bad (by rw [decide_eq_false (show ¬ 0 ≤ init[i] by omega)]; rfl)]⟩
    ·have k1 := of_decide_eq_false q1;refine zC ?_;refine Uc rfl rfl rfl rfl rfl (by omega) hbi rfl ?_;refine Xp (hci) rfl rfl rfl rfl ?_;refine zC ?_
     refine sg_case (fun q2 => ?_) (fun q2 => ?_)
     ·have := of_decide_eq_true q2;refine zC ?_;refine Xy ?_;intro g3 w hg3;intro hs;refine Y29 ?_;exact Xb (Xo rfl rfl) ⟨g3, [], Ghost.tr hg02 hg3, hs, rfl, by rw [bad (by rw [decide_eq_false (show ¬ init[i] < n by omega)]; simp)]⟩
     ·have k2 := of_decide_eq_false q2;refine zC ?_
      refine sg_case (fun q3 => ?_) (fun q3 => ?_)
      ·have k3 := of_decide_eq_true q3;have hi1 : i - 1 < init.length := by omega
       have hbp := hi_.base hi1;have hcp := (hi_.mono hg02).int hi1;have hgd : init.getD (i - 1) 0 = init[i - 1] := by simp [hi1]
       rw [hgd] at bad hrs
       refine zC ?_;refine Uc rfl rfl rfl rfl rfl (by omega) hbi rfl ?_;refine Xp (hci) rfl rfl rfl rfl ?_;refine zC ?_;refine sg_arK ((i - 1 : Nat) : Int) rfl rfl (pred_ar (by omega)) (by omega) rfl ?_;refine Uc rfl rfl rfl rfl rfl (by omega) hbp rfl ?_;refine Xp (hcp) rfl rfl rfl rfl ?_;refine zC ?_;refine Xy ?_;intro g3 w hg3;intro hs;refine zn ?_
       refine Xi rfl (fun q4 => ?_) (fun q4 => ?_)
       ·have := of_decide_eq_true q4;refine Y1 ?_;exact Xb (Xo rfl rfl) ⟨g3, [], Ghost.tr hg02 hg3, hs, rfl, by rw [bad (by rw [decide_eq_false (show ¬ i = 0 by omega), decide_eq_false (show ¬ init[i - 1] < init[i] by omega)]; simp)]⟩
       ·have := of_decide_eq_false q4;refine Xq (Xh (Xs () hi hlen (⟨g3, Ghost.tr hg2 hg3, hs, ?_⟩) rfl rfl rfl rfl (by repeat (first | exact trivial | refine ⟨rfl, ?_⟩))));rw [Qc, hr, hrs, decide_eq_true (show 0 ≤ init[i] by omega), decide_eq_true (show init[i] < n by omega), decide_eq_true (show init[i - 1] < init[i] by omega)]; simp
      ·have k3 := of_decide_eq_false q3;refine zC ?_;refine Xy ?_;intro g3 w hg3;intro hs;refine zn ?_;refine Yy rfl rfl (Xq (Xh (Xs () hi hlen (⟨g3, Ghost.tr hg2 hg3, hs, ?_⟩) rfl rfl rfl rfl (by repeat (first | exact trivial | refine ⟨rfl, ?_⟩)))))
       rw [Qc, hr, hrs, decide_eq_true (show 0 ≤ init[i] by omega), decide_eq_true (show init[i] < n by omega), decide_eq_true (show i = 0 by omega)]; rfl
   ·rintro _ w ⟨g2, hg2, hs, hr⟩;have k1 : (decide (n < 0) || decide (n > 20000) || !rises n init) = false := by simp only [c1, c2', rises, hr, Bool.or_false, Bool.not_true]
    have hg02 := Ghost.tr hg1 hg2;refine Y24 ?_
    refine Xi rfl (fun c3 => ?_) (fun c3 => ?_)
    ·have : ls.length > 200000 := by have := of_decide_eq_true c3; omega
     refine Y1 ?_;exact Xb (Xo rfl rfl) ⟨g2, [], hg02, hs, rfl, by simp only [Xz, k1, this, if_true, Bool.false_eq_true, if_false]⟩
    ·have k2 : ¬ ls.length > 200000 := by have := of_decide_eq_false c3; omega
     refine zS ?_;refine Y1 ?_
     refine Ub ls.length (fun _ (_ : Unit) => [(0, .int .i64 n), (2, .slice al ls.length cl), (7, .pointer (some ⟨b, 0, none⟩))]) (fun i (_ : Unit) w => ∃ g', g2 ≤ g' ∧ St g' w F ∧ (ls.take i).all (Uu n) = true) () (by repeat (first | exact trivial | refine ⟨rfl, ?_⟩)) ⟨g2, Ghost.rfl', hs, rfl⟩ ?_ ?_ ?_
     ·intro i _ w s' hi ⟨g3, hg3, hs, hr⟩ hk;refine zP ?_;exact Xn (Ua (by repeat (first | exact trivial | refine ⟨rfl, ?_⟩)) hk)
     ·rintro i _ w hii ⟨g3, hg3, hs, hr⟩;have hg03 := Ghost.tr hg02 hg3
      have bad : Uu n ls[i] = false → Xz n init ls all pairs = 310 := fun h => by
       have : ls.all (Uu n) = false := by
        rw [List.all_eq_false];exact ⟨ls[i], List.getElem_mem hii, by simp [h]⟩
       simp only [Xz, k1, k2, this, if_true, Bool.false_eq_true, if_false]
      have hbA := hl.base hii;have hcE := Lies.of_eaddr ((hl.mono hg03).enc hii);have hsn : (ls.take (i + 1)).all (Uu n) = ((ls.take i).all (Uu n) && Uu n ls[i]) := by rw [Yr hii, List.all_append]; simp
      generalize ls[i] = a at hcE bad hsn
      have hok : Uu n a = !(decide (a.fr < 0) || decide (a.fr ≥ n) || decide (a.to < 0) || decide (a.to ≥ n) || decide ((a.ms : Int) ≥ 65536)) := rfl;rw [hok] at bad hsn
      refine Y0 ?_;refine Yb rfl rfl rfl rfl rfl (by omega) hbA rfl rfl ?_;refine zP ?_;refine Xd hs (hcE 0 _ rfl) rfl rfl rfl rfl rfl ?_;refine zP ?_
      refine Xr 69 rfl (fun q1 => ?_) (fun q1 => ?_)
      ·refine Y35 ?_;exact Xb (Xo rfl rfl) ⟨g3, [], hg03, hs, rfl, by rw [bad (by rw [q1]; rfl)]⟩
      ·refine zG ?_;refine Yb rfl rfl rfl rfl rfl (by omega) hbA rfl rfl ?_;refine zG ?_;refine Xd hs (hcE 0 _ rfl) rfl rfl rfl rfl rfl ?_;refine zG ?_
       refine Xr 78 rfl (fun q2 => ?_) (fun q2 => ?_)
       ·refine Y35 ?_;exact Xb (Xo rfl rfl) ⟨g3, [], hg03, hs, rfl, by rw [bad (by rw [q1, q2]; rfl)]⟩
       ·refine zG ?_;refine Yb rfl rfl rfl rfl rfl (by omega) hbA rfl rfl ?_;refine zG ?_;refine Xd hs (hcE 1 _ rfl) rfl rfl rfl rfl rfl ?_;refine zG ?_
        refine Xr 86 rfl (fun q3 => ?_) (fun q3 => ?_)
        ·refine Y35 ?_;exact Xb (Xo rfl rfl) ⟨g3, [], hg03, hs, rfl, by rw [bad (by rw [q1, q2, q3]; rfl)]⟩
        ·refine zG ?_;refine Yb rfl rfl rfl rfl rfl (by omega) hbA rfl rfl ?_;refine zG ?_;refine Xd hs (hcE 1 _ rfl) rfl rfl rfl rfl rfl ?_;refine zG ?_
         refine Xr 95 rfl (fun q4 => ?_) (fun q4 => ?_)
         ·refine Y35 ?_;exact Xb (Xo rfl rfl) ⟨g3, [], hg03, hs, rfl, by rw [bad (by rw [q1, q2, q3, q4]; rfl)]⟩
         ·refine zG ?_;refine Yb rfl rfl rfl rfl rfl (by omega) hbA rfl rfl ?_;refine zG ?_;refine Xd hs (hcE 2 _ rfl) rfl rfl rfl rfl rfl ?_;refine Y40 ?_
          refine Xi rfl (fun q5 => ?_) (fun q5 => ?_)
          ·have q5' : decide ((a.ms : Int) ≥ 65536) = true := q5;refine Y1 ?_;exact Xb (Xo rfl rfl) ⟨g3, [], hg03, hs, rfl, by rw [bad (by rw [q1, q2, q3, q4, q5']; rfl)]⟩
          ·have q5' : decide ((a.ms : Int) ≥ 65536) = false := q5;refine Xq (Xh (Xs () hii hl0 (⟨g3, hg3, hs, ?_⟩) rfl rfl rfl rfl (by repeat (first | exact trivial | refine ⟨rfl, ?_⟩))));rw [hsn, hr, q1, q2, q3, q4, q5']; rfl
     ·rintro _ w ⟨g3, hg3, hs, hr⟩;rw [List.take_length] at hr
      have k3 : (ls.all (Uu n) = false) = False := by rw [hr]; simp
      have hg03 := Ghost.tr hg02 hg3;have hb3 := hb.mono (Ghost.tr hg2 hg3);refine Y23 ?_;refine Xd hs (hb3 1 _ rfl) rfl rfl rfl rfl rfl ?_;refine Y7 ?_
      refine Xi rfl (fun c4 => ?_) (fun c4 => ?_)
      ·have : decide (pairs.length > 16) = true := by have := of_decide_eq_true c4; exact decide_eq_true (by omega)
       refine Y1 ?_;exact Xb (Xo rfl rfl) ⟨g3, [], hg03, hs, rfl, by simp only [Xz, k1, k2, k3, this, if_true, Bool.false_eq_true, if_false, Bool.or_true, Bool.true_or]⟩
      ·have k4 : decide (pairs.length > 16) = false := by have := of_decide_eq_false c4; exact decide_eq_false (by omega)
       refine zS ?_;refine Y1 ?_
       refine Ub all.length (fun _ (_ : Unit) => [(7, .pointer (some ⟨b, 0, none⟩))]) (fun i (_ : Unit) w => ∃ g', g3 ≤ g' ∧ St g' w F ∧ Kh 16 all i = true) () (by repeat (first | exact trivial | refine ⟨rfl, ?_⟩)) ⟨g3, Ghost.rfl', hs, rfl⟩ ?_ ?_ ?_
       ·intro i _ w s' hi ⟨g4, hg4, hs, hr⟩ hk;refine zP ?_;refine Xd hs (hb3.mono hg4 0 _ rfl) rfl rfl rfl rfl rfl ?_;refine zP ?_;exact Xn (Ua (by repeat (first | exact trivial | refine ⟨rfl, ?_⟩)) hk)
       ·rintro i _ w hii ⟨g4, hg4, hs, hr⟩;have hg04 := Ghost.tr hg03 hg4;have hb4 := hb3.mono hg4
        have bad : Vd 16 all i = false → Xz n init ls all pairs = 311 := fun h => by
         simp only [Xz, k1, k2, k3, risesTo_bad hii h, Bool.not_false, Bool.true_or, if_true, Bool.false_eq_true, if_false]
        rw [risesAt_eq hii] at bad
        have hrs := risesAt_eq (below := 16) hii;have hbi := ha.base hii;have hci := (ha.mono hg04).int hii;refine zQ ?_;refine Yf 25 [] Yd (by kernel_rfl) rfl hs ?_;refine zC ?_;refine Xp (hb4 0 _ rfl) rfl rfl rfl rfl ?_;refine zC ?_;refine Uc rfl rfl rfl rfl rfl (by omega) (hbi) rfl ?_;refine Xp (hci) rfl rfl rfl rfl ?_
        refine Vq (post := Det (.bool (decide (0 ≤ all[i]) && decide (all[i] < 16)))) [] [] rfl rfl rfl (fun g' hg' => isMark_spec g' _) (fun _ _ _ h => h) ?_;refine zC ?_
        refine sg_case (fun q1 => ?_) (fun q1 => ?_)
        ·have q1' : (decide (0 ≤ all[i]) && decide (all[i] < 16)) = false := by simpa only [Bool.not_eq_true'] using q1
         refine zC ?_;refine Xy ?_;intro g5 w hg5;intro hs;refine Y29 ?_;exact Xb (Xo rfl rfl) ⟨g5, [], Ghost.tr hg04 hg5, hs, rfl, by rw [bad (by rw [q1']; rfl)]⟩
        ·have q1' : (decide (0 ≤ all[i]) && decide (all[i] < 16)) = true := by simpa only [Bool.not_eq_false'] using q1
         refine zC ?_
         refine sg_case (fun q3 => ?_) (fun q3 => ?_)
         ·have k6 := of_decide_eq_true q3;have hi1 : i - 1 < all.length := by omega
          have hbp := ha.base hi1;have hcp := (ha.mono hg04).int hi1;have hgd : all.getD (i - 1) 0 = all[i - 1] := by simp [hi1]
          rw [hgd] at bad hrs
          refine zC ?_;refine Xp (hb4 0 _ rfl) rfl rfl rfl rfl ?_;refine zC ?_;refine Uc rfl rfl rfl rfl rfl (by omega) (hbi) rfl ?_;refine Xp (hci) rfl rfl rfl rfl ?_;refine zC ?_;refine Xp (hb4 0 _ rfl) rfl rfl rfl rfl ?_;refine zC ?_;refine sg_arK ((i - 1 : Nat) : Int) rfl rfl (pred_ar (by omega)) (by omega) rfl ?_;refine Uc rfl rfl rfl rfl rfl (by omega) hbp rfl ?_
          refine Xp (hcp) rfl rfl rfl rfl ?_;refine zC ?_;refine Xy ?_;intro g5 w hg5;intro hs;refine zn ?_
          refine Xi rfl (fun q4 => ?_) (fun q4 => ?_)
          ·have := of_decide_eq_true q4;refine Y1 ?_;exact Xb (Xo rfl rfl) ⟨g5, [], Ghost.tr hg04 hg5, hs, rfl, by rw [bad (by rw [decide_eq_false (show ¬ i = 0 by omega), decide_eq_false (show ¬ all[i - 1] < all[i] by omega)]; simp)]⟩
          ·have := of_decide_eq_false q4;refine Xq (Xh (Xs () hii ha0 (⟨g5, Ghost.tr hg4 hg5, hs, ?_⟩) rfl rfl rfl rfl (by repeat (first | exact trivial | refine ⟨rfl, ?_⟩))));rw [Qc, hr, hrs, q1', decide_eq_true (show all[i - 1] < all[i] by omega)]; simp
         ·have k6 := of_decide_eq_false q3;refine zC ?_;refine Xy ?_;intro g5 w hg5;intro hs;refine zn ?_;refine Yy rfl rfl (Xq (Xh (Xs () hii ha0 (⟨g5, Ghost.tr hg4 hg5, hs, ?_⟩) rfl rfl rfl rfl (by repeat (first | exact trivial | refine ⟨rfl, ?_⟩)))));rw [Qc, hr, hrs, q1', decide_eq_true (show i = 0 by omega)]; rfl
       ·rintro _ w ⟨g4, hg4, hs, hr⟩;have k5 : rises 16 all = true := hr;have hg04 := Ghost.tr hg03 hg4;have hb4 := hb3.mono hg4;refine Y24 ?_
        refine Ub pairs.length (fun _ (_ : Unit) => [(7, .pointer (some ⟨b, 0, none⟩))]) (fun i (_ : Unit) w => ∃ g', g4 ≤ g' ∧ St g' w F ∧ (pairs.take i).any Vn = false) () (by repeat (first | exact trivial | refine ⟨rfl, ?_⟩)) ⟨g4, Ghost.rfl', hs, rfl⟩ ?_ ?_ ?_
        ·intro i _ w s' hi ⟨g5, hg5, hs, hr⟩ hk;refine zP ?_;refine Xd hs (hb4.mono hg5 1 _ rfl) rfl rfl rfl rfl rfl ?_;refine zP ?_;exact Xn (Ua (by repeat (first | exact trivial | refine ⟨rfl, ?_⟩)) hk)
        ·rintro i _ w hii ⟨g5, hg5, hs, hr⟩;have hg05 := Ghost.tr hg04 hg5;have hb5 := hb4.mono hg5
         have bad : Vn pairs[i] = true → Xz n init ls all pairs = 311 := fun h => by
          have : pairs.any Vn = true := List.any_eq_true.2 ⟨pairs[i], List.getElem_mem hii, h⟩;simp only [Xz, k1, k2, k3, this, Bool.or_true, if_true, Bool.false_eq_true, if_false]
         have hsn : (pairs.take (i + 1)).any Vn = ((pairs.take i).any Vn || Vn pairs[i]) := by rw [Yr hii, List.any_append]; simp
         obtain ⟨pb, po, rfl⟩ := hp.base hii;have hcp := (hp.mono hg05).enc hii;generalize pairs[i] = p at hcp bad hsn
         have hpb : Vn p = (!(decide (0 ≤ p.1) && decide (p.1 < 16)) || !(decide (0 ≤ p.2) && decide (p.2 < 16))) := by
          unfold Vn;rw [Bool.eq_iff_iff];simp;omega
         rw [hpb] at bad hsn
         have hs5 : St g5 w F := by assumption
         refine Y0 ?_;refine Xd hs5 (hb5 1 _ rfl) rfl rfl rfl rfl rfl ?_;refine zP ?_;refine Yb rfl rfl rfl rfl rfl (by omega) ⟨pb, po, rfl⟩ rfl rfl ?_;refine wl_ixA rfl rfl rfl rfl rfl (by omega) rfl rfl ?_;refine Xd hs5 (hcp 0 _ rfl) rfl rfl rfl rfl rfl ?_;refine Xf (L := []) rfl rfl rfl hs5 (isMark_spec g5 p.1) ?_;rintro u g6 L' w hg6 hs ⟨rfl, rfl⟩
         have hg06 := Ghost.tr hg05 hg6;refine zP ?_
         refine Xr 154 rfl (fun q1 => ?_) (fun q1 => ?_)
         ·refine Y35 ?_;exact Xb (Xo rfl rfl) ⟨g6, [], hg06, hs, rfl, by rw [bad (by rw [q1]; rfl)]⟩
         ·refine zG ?_;refine Xd hs (hb5.mono hg6 1 _ rfl) rfl rfl rfl rfl rfl ?_;refine zG ?_;refine Yb rfl rfl rfl rfl rfl (by omega) ⟨pb, po, rfl⟩ rfl rfl ?_;refine wl_ixA rfl rfl rfl rfl rfl (by omega) rfl rfl ?_;refine Xd hs (hcp.mono hg6 1 _ rfl) rfl rfl rfl rfl rfl ?_;refine Xf (L := []) rfl rfl rfl hs (isMark_spec g6 p.2) ?_;rintro u g7 L' w hg7 hs ⟨rfl, rfl⟩
          have hg07 := Ghost.tr hg06 hg7;refine Y40 ?_
          refine Xi rfl (fun q2 => ?_) (fun q2 => ?_)
          ·have q2' : (!(decide (0 ≤ p.2) && decide (p.2 < 16))) = true := q2;refine Y1 ?_;exact Xb (Xo rfl rfl) ⟨g7, [], hg07, hs, rfl, by rw [bad (by rw [q1, q2']; rfl)]⟩
          ·have q2' : (!(decide (0 ≤ p.2) && decide (p.2 < 16))) = false := q2;refine Xq (Xh (Xs () hii hp0 (⟨g7, Ghost.tr hg5 (Ghost.tr hg6 hg7), hs, ?_⟩) rfl rfl rfl rfl (by repeat (first | exact trivial | refine ⟨rfl, ?_⟩))));rw [hsn, hr, q1, q2']; rfl
        ·rintro _ w ⟨g5, hg5, hs, hr⟩;rw [List.take_length] at hr
         refine Y24 ?_;exact Xb (Xo rfl rfl) ⟨g5, [], Ghost.tr hg04 hg5, hs, rfl, by simp only [Xz, k1, k2, k3, k4, k5, hr, Bool.not_true, Bool.or_false, Bool.false_eq_true, if_false]⟩
end
section
open Go.RowKit
inductive Rc (E : Nat → Nat → Prop) : Nat → Nat → Prop
 | refl (x : Nat) : Rc E x x
 | tail {x y z : Nat} : Rc E x y → E y z → Rc E x z
theorem Rc.trans {E : Nat → Nat → Prop} {x y z : Nat} (h : Rc E x y) (k : Rc E y z) : Rc E x z := by
 induction k with
 | refl => exact h
 | tail _ e ih => exact .tail ih e
theorem Rc.one {E : Nat → Nat → Prop} {x y : Nat} (h : E x y) : Rc E x y := .tail (.refl x) h
theorem sk_new {α : Type} : ∀ (m : List (Nat × α)) (k : Nat) (v : α), lk m k = none → (sk m k v).length = m.length + 1
 | [], _, _, _ => rfl
 | (k', u) :: r, k, v, h => by
  simp only [lk] at h
  split at h
  ·cases h
  ·rename_i hne;simp only [sk, if_neg hne, List.length_cons, sk_new r k v h]
theorem lowOf_sk (m : List (Nat × Nat)) (k v x : Nat) : Xg (sk m k v) x = if x = k then v else Xg m x := by
 unfold Xg
 rw [lk_sk]
 split <;> rfl
section
variable (ls : List Arrow) (nodes : List Nat) (on : List Bool)
def EdgeP (x y : Nat) : Prop := ∃ k, k ∈ Xt ls ls.length x ∧ Uk ls nodes on k = true ∧ Yk ls k = y
def Ex (s : Tj) (y k : Nat) : Prop := (k ∈ Xt ls ls.length y ∧ y ∉ s.path.map (·.1)) ∨ ∃ a, (y, a) ∈ s.path ∧ k ∈ (Xt ls ls.length y).take a
structure Inv (s : Tj) : Prop where
 vis : ∀ x, (lk s.idx x).isSome = true ↔ x ∈ s.st ∨ x ∈ s.out.flatten
 on_ : ∀ x, (lk s.on x).getD false = true ↔ x ∈ s.st
 nodup : (s.st ++ s.out.flatten).Nodup
 inc : s.st.Pairwise fun x y => Xg s.idx x < Xg s.idx y
 lt : ∀ x, (lk s.idx x).isSome = true → Xg s.idx x < s.idx.length
 pinc : (s.path.map (·.1)).Pairwise fun x y => Xg s.idx x < Xg s.idx y
 pst : ∀ g ∈ s.path.map (·.1), g ∈ s.st
 r1 : ∀ g ∈ s.path.map (·.1), ∀ y ∈ s.st, Xg s.idx g ≤ Xg s.idx y → Rc (EdgeP ls nodes on) g y
 lw : ∀ y ∈ s.st, Xg s.low y ≤ Xg s.idx y ∧ ∃ z ∈ s.st, Xg s.idx z = Xg s.low y ∧ Rc (EdgeP ls nodes on) y z
 lws : ∀ y ∈ s.st, y ∉ s.path.map (·.1) → Xg s.low y < Xg s.idx y
 near : ∀ y ∈ s.st, ∀ g ∈ s.path.map (·.1), Xg s.idx g ≤ Xg s.idx y → (∀ g' ∈ s.path.map (·.1), Xg s.idx g' ≤ Xg s.idx y → Xg s.idx g' ≤ Xg s.idx g) → Xg s.low g ≤ Xg s.low y
 ex : ∀ y ∈ s.st, ∀ k, Ex ls s y k → Uk ls nodes on k = true → (lk s.idx (Yk ls k)).isSome = true ∧ (Yk ls k ∈ s.st → Xg s.low y ≤ Xg s.idx (Yk ls k))
 mem : ∀ x, (lk s.idx x).isSome = true → x ∈ nodes
 scc : ∀ c ∈ s.out, c ≠ [] ∧ c.Pairwise (· ≤ ·) ∧ ∀ x ∈ c, ∀ y ∈ c, Rc (EdgeP ls nodes on) x y
 ord : ∀ i (h : i < s.out.length), ∀ y ∈ s.out[i], ∀ z, EdgeP ls nodes on y z → ∃ j, ∃ h : j < s.out.length, j ≤ i ∧ z ∈ s.out[j]
end
section
variable {ls : List Arrow} {nodes : List Nat} {on : List Bool} {s : Tj}
theorem Inv.init : Inv ls nodes on Tj.init := by
 refine ⟨fun x => by simp [Tj.init, lk], fun x => by simp [Tj.init, lk], by simp [Tj.init], by simp [Tj.init], fun x h => by simp [Tj.init, lk] at h, by simp [Tj.init], by simp [Tj.init], by simp [Tj.init], by simp [Tj.init], by simp [Tj.init], by simp [Tj.init], by simp [Tj.init],
  fun x h => by simp [Tj.init, lk] at h, by simp [Tj.init], fun i h => by simp [Tj.init] at h⟩
theorem pw_inj {l : List Nat} {f : Nat → Nat} (h : l.Pairwise fun x y => f x < f y) : ∀ x ∈ l, ∀ y ∈ l, f x = f y → x = y := by
 induction l with
 | nil => intro x hx; cases hx
 | cons a l ih =>
  obtain ⟨h1, h2⟩ := List.pairwise_cons.1 h;intro x hx y hy e
  rcases List.mem_cons.1 hx with ex | hx' <;> rcases List.mem_cons.1 hy with ey | hy'
  ·rw [ex, ey]
  ·have := h1 y hy'; rw [ex] at e; omega
  ·have := h1 x hx'; rw [ey] at e; omega
  ·exact ih h2 x hx' y hy' e
theorem pw_last {p : List Nat} {x : Nat} {f : Nat → Nat} (h : (p ++ [x]).Pairwise fun a b => f a < f b) : ∀ g ∈ p, f g < f x := fun g hg =>
 (List.pairwise_append.1 h).2.2 g hg x (by simp)
theorem Inv.step {p : List (Nat × Nat)} {x a k : Nat} (hI : Inv ls nodes on s) (hp : s.path = p ++ [(x, a)]) (hk : (Xt ls ls.length x)[a]? = some k)
  (hok : Uk ls nodes on k = true → (lk s.idx (Yk ls k)).isSome = true ∧ Yk ls k ∉ s.st) : Inv ls nodes on { s with path := p ++ [(x, a + 1)] } := by
 have hg : (p ++ [(x, a + 1)]).map (·.1) = s.path.map (·.1) := by rw [hp]; simp
 refine ⟨hI.vis, hI.on_, hI.nodup, hI.inc, hI.lt, by rw [hg]; exact hI.pinc, by rw [hg]; exact hI.pst, by rw [hg]; exact hI.r1, hI.lw, by rw [hg]; exact hI.lws, by rw [hg]; exact hI.near, ?_, hI.mem, hI.scc, hI.ord⟩
 intro y hy k' hex harr
 have key : Ex ls s y k' ∨ k' = k := by
  rcases hex with ⟨h1, h2⟩ | ⟨b, h1, h2⟩
  ·rw [hg] at h2; exact .inl (.inl ⟨h1, h2⟩)
  ·rcases List.mem_append.1 h1 with h1 | h1
   ·exact .inl (.inr ⟨b, by rw [hp]; exact List.mem_append_left _ h1, h2⟩)
   ·simp only [List.mem_singleton, Prod.mk.injEq] at h1
    obtain ⟨rfl, rfl⟩ := h1;have hlt : a < (Xt ls ls.length y).length := (List.getElem?_eq_some_iff.1 hk).1;rw [List.take_succ_eq_append_getElem hlt] at h2
    rcases List.mem_append.1 h2 with h2 | h2
    ·exact .inl (.inr ⟨a, by rw [hp]; simp, h2⟩)
    ·right;rw [List.getElem?_eq_getElem hlt, Option.some.injEq] at hk
     rw [List.mem_singleton.1 h2, hk]
 rcases key with h | rfl
 ·exact hI.ex y hy k' h harr
 ·obtain ⟨h1, h2⟩ := hok harr;exact ⟨h1, fun h => absurd h h2⟩
theorem Inv.lower {p : List (Nat × Nat)} {x a k : Nat} (hI : Inv ls nodes on s) (hp : s.path = p ++ [(x, a)]) (hk : (Xt ls ls.length x)[a]? = some k) (harr : Uk ls nodes on k = true) (hst : Yk ls k ∈ s.st) :
  Inv ls nodes on { s with path := p ++ [(x, a + 1)], low := sk s.low x (min (Xg s.low x) (Xg s.idx (Yk ls k))) } := by
 have hg : (p ++ [(x, a + 1)]).map (·.1) = s.path.map (·.1) := by rw [hp]; simp
 have hxg : x ∈ s.path.map (·.1) := by rw [hp]; simp
 have hxs := hI.pst x hxg
 have hlw : ∀ y, Xg (sk s.low x (min (Xg s.low x) (Xg s.idx (Yk ls k)))) y = if y = x then min (Xg s.low x) (Xg s.idx (Yk ls k)) else Xg s.low y := fun y => lowOf_sk _ _ _ _
 have hle : ∀ y, Xg (sk s.low x (min (Xg s.low x) (Xg s.idx (Yk ls k)))) y ≤ Xg s.low y := fun y => by
  rw [hlw]; split
  ·rename_i e; subst e; omega
  ·exact Nat.le_refl _
 have hkm : k ∈ Xt ls ls.length x := List.mem_of_getElem? hk
 refine ⟨hI.vis, hI.on_, hI.nodup, hI.inc, hI.lt, by rw [hg]; exact hI.pinc, by rw [hg]; exact hI.pst, by rw [hg]; exact hI.r1, ?_, ?_, ?_, ?_, hI.mem, hI.scc, hI.ord⟩
 ·intro y hy;obtain ⟨h1, z, hz, h2, h3⟩ := hI.lw y hy;refine ⟨Nat.le_trans (hle y) h1, ?_⟩;simp only [hlw]
  split
  ·rename_i e;subst e
   by_cases hm : Xg s.low y ≤ Xg s.idx (Yk ls k)
   ·exact ⟨z, hz, by rw [h2]; omega, h3⟩
   ·exact ⟨_, hst, by omega, .one ⟨k, hkm, harr, rfl⟩⟩
  ·exact ⟨z, hz, h2, h3⟩
 ·intro y hy hny;rw [hg] at hny
  exact Nat.lt_of_le_of_lt (hle y) (hI.lws y hy hny)
 ·rw [hg];intro y hy g hgg (h1 : Xg s.idx g ≤ Xg s.idx y) (h2 : ∀ g' ∈ s.path.map (·.1), Xg s.idx g' ≤ Xg s.idx y → Xg s.idx g' ≤ Xg s.idx g);simp only [hlw]
  by_cases hyx : y = x
  ·subst hyx;have := h2 y hxg (Nat.le_refl _);have hgy : g = y := pw_inj hI.pinc g hgg y hxg (by omega);subst hgy;exact Nat.le_refl _
  ·rw [if_neg hyx];have := hI.near y hy g hgg h1 h2
   split
   ·rename_i e; subst e; omega
   ·exact this
 ·intro y hy k' hex hk'
  have key : Ex ls s y k' ∨ (y = x ∧ k' = k) := by
   rcases hex with ⟨h1, h2⟩ | ⟨b, h1, h2⟩
   ·rw [hg] at h2; exact .inl (.inl ⟨h1, h2⟩)
   ·rcases List.mem_append.1 h1 with h1 | h1
    ·exact .inl (.inr ⟨b, by rw [hp]; exact List.mem_append_left _ h1, h2⟩)
    ·simp only [List.mem_singleton, Prod.mk.injEq] at h1
     obtain ⟨rfl, rfl⟩ := h1;have hlt : a < (Xt ls ls.length y).length := (List.getElem?_eq_some_iff.1 hk).1;rw [List.take_succ_eq_append_getElem hlt] at h2
     rcases List.mem_append.1 h2 with h2 | h2
     ·exact .inl (.inr ⟨a, by rw [hp]; simp, h2⟩)
     ·right;rw [List.getElem?_eq_getElem hlt, Option.some.injEq] at hk
      exact ⟨rfl, by rw [List.mem_singleton.1 h2, hk]⟩
  rcases key with h | ⟨rfl, rfl⟩
  ·obtain ⟨h1, h2⟩ := hI.ex y hy k' h hk';exact ⟨h1, fun h => Nat.le_trans (hle y) (h2 h)⟩
  ·refine ⟨(hI.vis _).2 (.inl hst), fun _ => ?_⟩;rw [hlw, if_pos rfl];exact Nat.min_le_right _ _
theorem Inv.enter {y : Nat} (hI : Inv ls nodes on s) (hy : lk s.idx y = none) (hyn : y ∈ nodes) (p1 : List (Nat × Nat)) (hg : p1.map (·.1) = s.path.map (·.1))
  (hreach : ∀ g ∈ s.path.map (·.1), Rc (EdgeP ls nodes on) g y)
  (hex : ∀ z, ∀ k, (∃ a, (z, a) ∈ p1 ∧ k ∈ (Xt ls ls.length z).take a) → Ex ls s z k ∨ Yk ls k = y) : Inv ls nodes on ({ s with path := p1 }.enter y) := by
 have hyv : ¬ (lk s.idx y).isSome = true := by rw [hy]; simp
 have hyst : y ∉ s.st := fun h => hyv ((hI.vis y).2 (.inl h))
 have hyout : y ∉ s.out.flatten := fun h => hyv ((hI.vis y).2 (.inr h))
 have hix : ∀ x, Xg (sk s.idx y s.idx.length) x = if x = y then s.idx.length else Xg s.idx x := fun x => lowOf_sk _ _ _ _
 have hgl : (lk (sk s.idx y s.idx.length) y).getD 0 = s.idx.length := by rw [lk_sk, if_pos rfl]; rfl
 have hlw : ∀ x, Xg (sk s.low y ((lk (sk s.idx y s.idx.length) y).getD 0)) x = if x = y then s.idx.length else Xg s.low x := fun x => by rw [hgl]; exact lowOf_sk _ _ _ _
 have hne : ∀ x ∈ s.st, x ≠ y := fun x hx e => hyst (e ▸ hx)
 have hlt : ∀ x ∈ s.st, Xg s.idx x < s.idx.length := fun x hx => hI.lt x ((hI.vis x).2 (.inl hx))
 have hvis' : ∀ x, (lk (sk s.idx y s.idx.length) x).isSome = true ↔ x = y ∨ (lk s.idx x).isSome = true := fun x => by
  rw [lk_sk]
  by_cases e : x = y
  ·simp [e]
  ·simp [e]
 have hgm : ∀ g, g ∈ (p1 ++ [((y, 0) : Nat × Nat)]).map Prod.fst ↔ g ∈ s.path.map (·.1) ∨ g = y := fun g => by
  rw [List.map_append, hg, List.mem_append]; simp
 have hgs : ∀ g ∈ s.path.map (·.1), g ≠ y := fun g h => hne g (hI.pst g h)
 have e : ({ s with path := p1 }.enter y) = { s with idx := sk s.idx y s.idx.length, low := sk s.low y ((lk (sk s.idx y s.idx.length) y).getD 0), on := sk s.on y true, st := s.st ++ [y], path := p1 ++ [(y, 0)] } := rfl
 rw [e]
 refine ⟨fun x => ?_, fun x => ?_, ?_, ?_, fun x hx => ?_, ?_, fun g h => ?_, fun g h z hz hle => ?_, fun z hz => ?_, fun z hz hnz => ?_, fun z hz g h h1 h2 => ?_, fun z hz k hexk harr => ?_, fun x hx => ?_, hI.scc, hI.ord⟩
 ·rw [hvis', hI.vis];simp only [List.mem_append, List.mem_singleton]
  constructor
  ·rintro (h | h | h)
   ·exact .inl (.inr h)
   ·exact .inl (.inl h)
   ·exact .inr h
  ·rintro ((h | h) | h)
   ·exact .inr (.inl h)
   ·exact .inl h
   ·exact .inr (.inr h)
 ·rw [lk_sk]
  by_cases e : x = y
  ·simp [e]
  ·simp [e, hI.on_]
 ·have hn := hI.nodup;rw [List.append_assoc];have hp : (s.st ++ ([y] ++ s.out.flatten)).Perm (y :: (s.st ++ s.out.flatten)) := List.perm_middle;rw [hp.nodup_iff];exact List.nodup_cons.2 ⟨fun h => (List.mem_append.1 h).elim hyst hyout, hn⟩
 ·refine List.pairwise_append.2 ⟨hI.inc.imp_of_mem fun ha hb h => ?_, by simp, fun a ha b hb => ?_⟩
  ·simp only [hix];rw [if_neg (hne _ ha), if_neg (hne _ hb)];exact h
  ·rw [List.mem_singleton.1 hb];simp only [hix, if_true];rw [if_neg (hne _ ha)];exact hlt a ha
 ·simp only [hix];rw [sk_new _ _ _ hy]
  rcases (hvis' x).1 hx with e | h
  ·rw [if_pos e]; omega
  ·have := hI.lt x h;split <;> omega
 ·rw [List.map_append, hg]
  refine List.pairwise_append.2 ⟨hI.pinc.imp_of_mem fun ha hb h => ?_, by simp, fun a ha b hb => ?_⟩
  ·simp only [hix];rw [if_neg (hgs _ ha), if_neg (hgs _ hb)];exact h
  ·have : b = y := by simpa using hb
   rw [this];simp only [hix, if_true];rw [if_neg (hgs _ ha)];exact hlt a (hI.pst a ha)
 ·rcases (hgm g).1 h with h | h
  ·exact List.mem_append_left _ (hI.pst g h)
  ·rw [h]; simp
 ·simp only [hix] at hle
  rcases List.mem_append.1 hz with hz | hz
  ·rw [if_neg (hne z hz)] at hle
   rcases (hgm g).1 h with h | h
   ·rw [if_neg (hgs g h)] at hle
    exact hI.r1 g h z hz hle
   ·rw [if_pos h] at hle
    have := hlt z hz;omega
  ·rw [List.mem_singleton.1 hz]
   rcases (hgm g).1 h with h | h
   ·exact hreach g h
   ·rw [h]; exact .refl _
 ·simp only [hix, hlw]
  rcases List.mem_append.1 hz with hz | hz
  ·rw [if_neg (hne z hz), if_neg (hne z hz)];obtain ⟨h1, u, hu, h2, h3⟩ := hI.lw z hz;exact ⟨h1, u, List.mem_append_left _ hu, by rw [if_neg (hne u hu)]; exact h2, h3⟩
  ·rw [List.mem_singleton.1 hz];simp only [if_true];exact ⟨Nat.le_refl _, y, by simp, by simp, .refl _⟩
 ·simp only [hix, hlw]
  rcases List.mem_append.1 hz with hz | hz
  ·rw [if_neg (hne z hz), if_neg (hne z hz)];exact hI.lws z hz fun h => hnz ((hgm z).2 (.inl h))
  ·exact absurd ((hgm z).2 (.inr (List.mem_singleton.1 hz))) hnz
 ·simp only [hix, hlw] at h1 h2 ⊢
  rcases List.mem_append.1 hz with hz | hz
  ·rw [if_neg (hne z hz)] at h1 h2 ⊢
   rcases (hgm g).1 h with h | h
   ·rw [if_neg (hgs g h)] at h1 ⊢
    refine hI.near z hz g h h1 fun g' hg' hle => ?_
    have := h2 g' ((hgm g').2 (.inl hg'));rw [if_neg (hgs g' hg'), if_neg (hgs g h)] at this
    exact this hle
   ·rw [if_pos h] at h1
    have := hlt z hz;omega
  ·have hzy := List.mem_singleton.1 hz;rw [if_pos hzy] at h1 h2 ⊢
   rcases (hgm g).1 h with h | h
   ·have := h2 y ((hgm y).2 (.inr rfl));rw [if_pos rfl, if_neg (hgs g h)] at this
    have h3 := this (Nat.le_refl _);have := hlt g (hI.pst g h);omega
   ·rw [if_pos h]; exact Nat.le_refl _
 ·have hvis2 : (lk s.idx (Yk ls k)).isSome = true → (lk (sk s.idx y s.idx.length) (Yk ls k)).isSome = true := fun h => (hvis' _).2 (.inr h)
  rcases List.mem_append.1 hz with hz | hz
  ·have key : Ex ls s z k ∨ Yk ls k = y := by
    rcases hexk with ⟨h1, h2⟩ | ⟨b, h1, h2⟩
    ·exact .inl (.inl ⟨h1, fun h => h2 ((hgm z).2 (.inl h))⟩)
    ·rcases List.mem_append.1 h1 with h1 | h1
     ·exact hex z k ⟨b, h1, h2⟩
     ·simp only [List.mem_singleton, Prod.mk.injEq] at h1
      exact absurd h1.1 (hne z hz)
   simp only [hix, hlw];rw [if_neg (hne z hz)]
   rcases key with h | h
   ·obtain ⟨h3, h4⟩ := hI.ex z hz k h harr;refine ⟨hvis2 h3, fun hm => ?_⟩
    rcases List.mem_append.1 hm with hm | hm
    ·rw [if_neg (hne _ hm)]; exact h4 hm
    ·rw [if_pos (List.mem_singleton.1 hm)];have := (hI.lw z hz).1;have := hlt z hz;omega
   ·refine ⟨(hvis' _).2 (.inl h), fun _ => ?_⟩;rw [if_pos h];have := (hI.lw z hz).1;have := hlt z hz;omega
  ·exfalso;have hzy := List.mem_singleton.1 hz
   rcases hexk with ⟨h1, h2⟩ | ⟨b, h1, h2⟩
   ·exact h2 ((hgm z).2 (.inr hzy))
   ·rcases List.mem_append.1 h1 with h1 | h1
    ·have : z ∈ p1.map (·.1) := List.mem_map.2 ⟨_, h1, rfl⟩;rw [hg] at this
     exact hgs z this hzy
    ·simp only [List.mem_singleton, Prod.mk.injEq] at h1
     rw [h1.2] at h2
     cases h2
 ·rcases (hvis' x).1 hx with e | h
  ·rw [e]; exact hyn
  ·exact hI.mem x h
end
end
section
open Go.RowKit
section
variable {ls : List Arrow} {nodes : List Nat} {on : List Bool} {s : Tj}
theorem up_low (s : Tj) (p : List (Nat × Nat)) (x y : Nat) : Xg (s.up p x).low y = match p.getLast? with
  | none => Xg s.low y
  | some (z, _) => if y = z then min (Xg s.low z) (Xg s.low x) else Xg s.low y := by
 unfold Tj.up
 rcases p.getLast? with _ | ⟨z, b⟩
 ·rfl
 ·exact lowOf_sk _ _ _ _
theorem up_eq (s : Tj) (p : List (Nat × Nat)) (x : Nat) : s.up p x = { s with path := p, low := (s.up p x).low } := by
 unfold Tj.up
 split <;> rfl
theorem Inv.least (hI : Inv ls nodes on s) (h : s.st ≠ []) : ∃ y ∈ s.st, y ∈ s.path.map (·.1) ∧ Xg s.low y = Xg s.idx y ∧ ∀ z ∈ s.st, Xg s.idx y ≤ Xg s.idx z := by
 rcases hst : s.st with _ | ⟨y, r⟩
 ·exact absurd hst h
 ·have hy : y ∈ s.st := by rw [hst]; simp
  have hinc := hI.inc;rw [hst] at hinc
  have h1 := (List.pairwise_cons.1 hinc).1
  have h2 : ∀ z ∈ s.st, Xg s.idx y ≤ Xg s.idx z := fun z hz => by
   rw [hst] at hz
   rcases List.mem_cons.1 hz with e | hz
   ·rw [e]; exact Nat.le_refl _
   ·exact Nat.le_of_lt (h1 z hz)
  obtain ⟨h3, z, hz, h4, _⟩ := hI.lw y hy;have h5 := h2 z hz;have h6 : Xg s.low y = Xg s.idx y := by omega
  refine ⟨y, by simp, ?_, h6, fun z hz => h2 z (by rw [hst]; exact hz)⟩
  by_cases hg : y ∈ s.path.map (·.1)
  ·exact hg
  ·have := hI.lws y hy hg;omega
theorem Inv.empty (hI : Inv ls nodes on s) (h : s.path = []) : s.st = [] := by
 by_cases hst : s.st = []
 ·exact hst
 ·obtain ⟨y, _, hy, _⟩ := hI.least hst;rw [h] at hy
  cases hy
theorem Inv.leave {p : List (Nat × Nat)} {x a : Nat} (hI : Inv ls nodes on s) (hp : s.path = p ++ [(x, a)]) (ha : (Xt ls ls.length x).length ≤ a) (hne : Xg (s.up p x).low x ≠ Xg (s.up p x).idx x) : Inv ls nodes on (s.up p x) := by
 have hxg : x ∈ s.path.map (·.1) := by rw [hp]; simp
 have hxs := hI.pst x hxg
 have hpg : s.path.map (·.1) = p.map (·.1) ++ [x] := by rw [hp]; simp
 have hlast : ∀ g ∈ p.map (·.1), Xg s.idx g < Xg s.idx x := pw_last (by rw [← hpg]; exact hI.pinc)
 have hgm : ∀ g, g ∈ s.path.map (·.1) ↔ g ∈ p.map (·.1) ∨ g = x := fun g => by rw [hpg, List.mem_append]; simp
 rw [up_eq] at hne ⊢
 simp only at hne
 rcases hpl : p.getLast? with _ | ⟨z, b⟩
 ·exfalso;have hp0 : p = [] := by simpa using hpl
  rw [up_low, hpl] at hne
  simp only at hne
  obtain ⟨y, hy, hyg, h1, _⟩ := hI.least (List.ne_nil_of_mem hxs);rw [hpg, hp0] at hyg
  have : y = x := by simpa using hyg
  rw [this] at h1
  exact hne h1
 ·have hzp : (z, b) ∈ p := List.mem_of_getLast? hpl;have hzg : z ∈ p.map (·.1) := List.mem_map.2 ⟨_, hzp, rfl⟩;have hzs := hI.pst z ((hgm z).2 (.inl hzg));have hzx : Xg s.idx z < Xg s.idx x := hlast z hzg;have hxz : x ≠ z := fun e => by rw [e] at hzx; omega
  have hlw : ∀ y, Xg (s.up p x).low y = if y = z then min (Xg s.low z) (Xg s.low x) else Xg s.low y := fun y => by rw [up_low, hpl]
  have hle : ∀ y, Xg (s.up p x).low y ≤ Xg s.low y := fun y => by
   rw [hlw]; split
   ·rename_i e; subst e; omega
   ·exact Nat.le_refl _
  have hzmax : ∀ g ∈ p.map (·.1), Xg s.idx g ≤ Xg s.idx z := fun g hg => by
   obtain ⟨q, hq⟩ : ∃ q, p = q ++ [(z, b)] := by
    rcases List.eq_nil_or_concat p with e | ⟨q, e, h⟩
    ·rw [e] at hzp; cases hzp
    ·refine ⟨q, ?_⟩;rw [List.concat_eq_append] at h
     rw [h] at hpl ⊢
     simp at hpl
     rw [hpl]
   have hpi : (p.map (·.1)).Pairwise fun x y => Xg s.idx x < Xg s.idx y := by
    have := hI.pinc;rw [hpg] at this
    exact (List.pairwise_append.1 this).1
   rw [hq, List.map_append] at hpi hg
   rcases List.mem_append.1 hg with hg | hg
   ·exact Nat.le_of_lt (pw_last hpi g hg)
   ·have : g = z := by simpa using hg
    rw [this]; exact Nat.le_refl _
  rw [hlw, if_neg hxz] at hne
  refine ⟨hI.vis, hI.on_, hI.nodup, hI.inc, hI.lt, ?_, fun g h => hI.pst g ((hgm g).2 (.inl h)), fun g h => hI.r1 g ((hgm g).2 (.inl h)), ?_, ?_, ?_, ?_, hI.mem, hI.scc, hI.ord⟩
  ·have := hI.pinc;rw [hpg] at this
   exact (List.pairwise_append.1 this).1
  ·intro y hy;obtain ⟨h1, u, hu, h2, h3⟩ := hI.lw y hy;refine ⟨Nat.le_trans (hle y) h1, ?_⟩;simp only [hlw]
   split
   ·rename_i e;subst e
    by_cases hm : Xg s.low y ≤ Xg s.low x
    ·exact ⟨u, hu, by rw [h2]; omega, h3⟩
    ·obtain ⟨_, v, hv, h4, h5⟩ := hI.lw x hxs;exact ⟨v, hv, by omega, (hI.r1 y ((hgm y).2 (.inl hzg)) x hxs (Nat.le_of_lt hzx)).trans h5⟩
   ·exact ⟨u, hu, h2, h3⟩
  ·intro y hy hny
   by_cases hyx : y = x
   ·rw [hyx];have := (hI.lw x hxs).1
    show Xg (s.up p x).low x < Xg s.idx x
    rw [hlw, if_neg hxz];omega
   ·refine Nat.lt_of_le_of_lt (hle y) (hI.lws y hy fun h => ?_)
    rcases (hgm y).1 h with h | h
    ·exact hny h
    ·exact hyx h
  ·intro y hy g hg (h1 : Xg s.idx g ≤ Xg s.idx y) (h2 : ∀ g' ∈ p.map (·.1), Xg s.idx g' ≤ Xg s.idx y → Xg s.idx g' ≤ Xg s.idx g)
   show Xg (s.up p x).low g ≤ Xg (s.up p x).low y
   by_cases hxy : Xg s.idx x ≤ Xg s.idx y
   ·have hyz : y ≠ z := fun e => by rw [e] at hxy; omega
    have hgz : g = z := by
     have h3 := h2 z hzg (by omega);have h4 := hzmax g hg;have hpi := hI.pinc;exact pw_inj hpi g ((hgm g).2 (.inl hg)) z ((hgm z).2 (.inl hzg)) (by omega)
    rw [hgz, hlw, hlw, if_pos rfl, if_neg hyz]
    have := hI.near y hy x hxg hxy fun g' hg' _ => by
     rcases (hgm g').1 hg' with h | h
     ·exact Nat.le_of_lt (hlast g' h)
     ·rw [h]; exact Nat.le_refl _
    omega
   ·have hn := hI.near y hy g ((hgm g).2 (.inl hg)) h1 fun g' hg' hle' => by
     rcases (hgm g').1 hg' with h | h
     ·exact h2 g' h hle'
     ·rw [h] at hle'; omega
    by_cases hyz : y = z
    ·have : g = y := by
      have h3 := h2 z hzg (by rw [hyz]; exact Nat.le_refl _);exact pw_inj hI.pinc g ((hgm g).2 (.inl hg)) y ((hgm y).2 (.inl (by rw [hyz]; exact hzg))) (by rw [hyz] at h1 ⊢; omega)
     rw [this]; exact Nat.le_refl _
    ·rw [hlw y, if_neg hyz];exact Nat.le_trans (hle g) hn
  ·intro y hy k hex harr
   have key : Ex ls s y k := by
    rcases hex with ⟨h1, h2⟩ | ⟨b', h1, h2⟩
    ·by_cases hyx : y = x
     ·subst hyx;exact .inr ⟨a, by rw [hp]; simp, by rw [List.take_of_length_le ha]; exact h1⟩
     ·exact .inl ⟨h1, fun h => by
       rcases (hgm y).1 h with h | h
       ·exact h2 h
       ·exact hyx h⟩
    ·exact .inr ⟨b', by rw [hp]; exact List.mem_append_left _ h1, h2⟩
   obtain ⟨h3, h4⟩ := hI.ex y hy k key harr;exact ⟨h3, fun h => Nat.le_trans (hle y) (h4 h)⟩
theorem popU_eq (x : Nat) : ∀ (b a : List Nat), x ∉ b → popU x (b ++ x :: a) = some (a, b ++ [x])
 | [], a, _ => by simp [popU]
 | y :: b, a, h => by
  have h1 : y ≠ x := fun e => h (by simp [e])
  have h2 : x ∉ b := fun e => h (by simp [e])
  simp [popU, h1, popU_eq x b a h2]
theorem offAll_lk : ∀ (c : List Nat) (m : List (Nat × Bool)) (y : Nat), lk (offAll m c) y = if y ∈ c then some false else lk m y
 | [], m, y => by simp [offAll]
 | x :: c, m, y => by
  have : offAll m (x :: c) = offAll (sk m x false) c := rfl;rw [this, offAll_lk c, lk_sk]
  by_cases h1 : y ∈ c
  ·simp [h1]
  ·by_cases h2 : y = x
   ·simp [h2]
   ·simp [h1, h2]
theorem Inv.pop {p : List (Nat × Nat)} {x a : Nat} (hI : Inv ls nodes on s) (hp : s.path = p ++ [(x, a)]) (ha : (Xt ls ls.length x).length ≤ a) (heq : Xg (s.up p x).low x = Xg (s.up p x).idx x) :
  ∃ s', (s.up p x).comp x = some s' ∧ Inv ls nodes on s' ∧ s'.path = p ∧ s'.idx = s.idx := by
 have hxg : x ∈ s.path.map (·.1) := by rw [hp]; simp
 have hxs := hI.pst x hxg
 have hpg : s.path.map (·.1) = p.map (·.1) ++ [x] := by rw [hp]; simp
 have hlast : ∀ g ∈ p.map (·.1), Xg s.idx g < Xg s.idx x := pw_last (by rw [← hpg]; exact hI.pinc)
 have hgm : ∀ g, g ∈ s.path.map (·.1) ↔ g ∈ p.map (·.1) ∨ g = x := fun g => by rw [hpg, List.mem_append]; simp
 have hgmax : ∀ g' ∈ s.path.map (·.1), Xg s.idx g' ≤ Xg s.idx x := fun g' hg' => by
  rcases (hgm g').1 hg' with h | h
  ·exact Nat.le_of_lt (hlast g' h)
  ·rw [h]; exact Nat.le_refl _
 have hxe : Xg s.low x = Xg s.idx x := by
  rw [up_eq] at heq
  simp only at heq
  rw [up_low] at heq
  split at heq
  ·exact heq
  ·rename_i z b hpl;have hzg : z ∈ p.map (·.1) := List.mem_map.2 ⟨_, List.mem_of_getLast? hpl, rfl⟩;have hxz : x ≠ z := fun e => by have := hlast z hzg; rw [e] at this; omega
   rw [if_neg hxz] at heq
   exact heq
 have hlw : ∀ y, Xg (s.up p x).low y = Xg s.low y := fun y => by
  rw [up_low]
  split
  ·rfl
  ·rename_i z b hpl;have hzg : z ∈ p.map (·.1) := List.mem_map.2 ⟨_, List.mem_of_getLast? hpl, rfl⟩;have h1 := hlast z hzg;have h2 := (hI.lw z (hI.pst z ((hgm z).2 (.inl hzg)))).1
   split
   ·rename_i e; rw [e]; omega
   ·rfl
 obtain ⟨A, B, hAB⟩ := List.append_of_mem hxs
 have hinc := hI.inc
 rw [hAB] at hinc
 obtain ⟨hA, hxB, hAxB⟩ := List.pairwise_append.1 hinc
 obtain ⟨hxB1, hB⟩ := List.pairwise_cons.1 hxB
 have hAx : ∀ y ∈ A, Xg s.idx y < Xg s.idx x := fun y hy => hAxB y hy x (by simp)
 have hCx : ∀ y ∈ x :: B, Xg s.idx x ≤ Xg s.idx y := fun y hy => by
  rcases List.mem_cons.1 hy with e | h
  ·rw [e]; exact Nat.le_refl _
  ·exact Nat.le_of_lt (hxB1 y h)
 have hst : ∀ y, y ∈ s.st ↔ y ∈ A ∨ y ∈ x :: B := fun y => by rw [hAB, List.mem_append]
 have hsplit : ∀ y ∈ s.st, Xg s.idx x ≤ Xg s.idx y → y ∈ x :: B := fun y hy h => by
  rcases (hst y).1 hy with h1 | h1
  ·have := hAx y h1; omega
  ·exact h1
 have hsplit2 : ∀ y ∈ s.st, Xg s.idx y < Xg s.idx x → y ∈ A := fun y hy h => by
  rcases (hst y).1 hy with h1 | h1
  ·exact h1
  ·have := hCx y h1; omega
 have hxB0 : x ∉ B := fun h => by have := hxB1 x h; omega
 have hpop : popU x s.st.reverse = some (A.reverse, B.reverse ++ [x]) := by
  rw [hAB, List.reverse_append, List.reverse_cons, List.append_assoc];exact popU_eq x B.reverse A.reverse (by simpa using hxB0)
 have hupst : (s.up p x).st = s.st := by rw [up_eq]
 have hupix : (s.up p x).idx = s.idx := by rw [up_eq]
 have hupon : (s.up p x).on = s.on := by rw [up_eq]
 have hupout : (s.up p x).out = s.out := up_out s p x
 have hupp : (s.up p x).path = p := by rw [up_eq]
 have hc : ∀ y, y ∈ Vj (B.reverse ++ [x]) ↔ y ∈ x :: B := fun y => by rw [(Uy _).mem_iff]; simp [or_comm]
 have hcB : ∀ y, y ∈ B.reverse ++ [x] ↔ y ∈ x :: B := fun y => by simp [or_comm]
 have hgray : ∀ y ∈ B, y ∉ s.path.map (·.1) := fun y hy h => by
  have := hgmax y h;have := hxB1 y hy;omega
 have hlowx : ∀ y ∈ x :: B, Xg s.idx x ≤ Xg s.low y := fun y hy => by
  have := hI.near y ((hst y).2 (.inr hy)) x hxg (hCx y hy) fun g' hg' _ => hgmax g' hg'
  omega
 refine ⟨{ idx := s.idx, low := (s.up p x).low, on := offAll s.on (B.reverse ++ [x]), st := A, path := p, out := s.out ++ [Vj (B.reverse ++ [x])] }, by unfold Tj.comp; rw [hupst, hpop]; simp only [hupix, hupon, hupout, hupp, List.reverse_reverse], ?_, rfl, rfl⟩
 have hto : ∀ y ∈ x :: B, Rc (EdgeP ls nodes on) x y := fun y hy => hI.r1 x hxg y ((hst y).2 (.inr hy)) (hCx y hy)
 have hback : ∀ (m y : Nat), Xg s.idx y ≤ m → y ∈ x :: B → Rc (EdgeP ls nodes on) y x := by
  intro m
  induction m with
  | zero =>
   intro y hm hy;have h1 := hCx y hy
   rcases List.mem_cons.1 hy with e | h
   ·rw [e]; exact .refl _
   ·have := hxB1 y h; omega
  | succ m ih =>
   intro y hm hy
   rcases List.mem_cons.1 hy with e | h
   ·rw [e]; exact .refl _
   ·have hys := (hst y).2 (.inr hy);have h1 := hI.lws y hys (hgray y h);obtain ⟨_, z, hz, h2, h3⟩ := hI.lw y hys;have h4 := hlowx y hy;exact h3.trans (ih z (by omega) (hsplit z hz (by omega)))
 have hex : ∀ y ∈ x :: B, ∀ k, k ∈ Xt ls ls.length y → Ex ls s y k := fun y hy k hk => by
  rcases List.mem_cons.1 hy with e | h
  ·subst e;exact .inr ⟨a, by rw [hp]; simp, by rw [List.take_of_length_le ha]; exact hk⟩
  ·exact .inl ⟨hk, hgray y h⟩
 have hperm : (A ++ (s.out ++ [Vj (B.reverse ++ [x])]).flatten).Perm (s.st ++ s.out.flatten) := by
  rw [List.flatten_append, hAB];simp only [List.flatten_cons, List.flatten_nil, List.append_nil];rw [List.append_assoc];refine List.Perm.append_left A ?_
  have h1 : (Vj (B.reverse ++ [x])).Perm (x :: B) := (Uy _).trans (by
   refine List.perm_append_comm.trans ?_;exact (List.reverse_perm B).cons x)
  exact (List.perm_append_comm).trans (h1.append_right _)
 have hmemp : ∀ y, (y ∈ A ∨ y ∈ (s.out ++ [Vj (B.reverse ++ [x])]).flatten) ↔ (y ∈ s.st ∨ y ∈ s.out.flatten) := fun y => by
  rw [← List.mem_append, ← List.mem_append]; exact hperm.mem_iff
 refine ⟨fun y => ?_, fun y => ?_, ?_, hA, hI.lt, ?_, fun g h => ?_, fun g h z hz => ?_, fun y hy => ?_, fun y hy hny => ?_, fun y hy g hg h1 h2 => ?_, fun y hy k hexk harr => ?_, hI.mem, fun c hcm => ?_, fun i hi y hy z hyz => ?_⟩
 ·rw [hI.vis]; exact (hmemp y).symm
 ·rw [offAll_lk]
  split
  ·rename_i h;have hyB := (hcB y).1 h
   constructor
   ·intro h; cases h
   ·intro hyA;have h1 := hAx y hyA;have h2 := hCx y hyB;omega
  ·rename_i h;rw [hI.on_, hst]
   constructor
   ·rintro (h1 | h1)
    ·exact h1
    ·exact absurd ((hcB y).2 h1) h
   ·exact .inl
 ·exact hperm.nodup_iff.2 hI.nodup
 ·have := hI.pinc;rw [hpg] at this
  exact (List.pairwise_append.1 this).1
 ·exact hsplit2 g (hI.pst g ((hgm g).2 (.inl h))) (hlast g h)
 ·exact hI.r1 g ((hgm g).2 (.inl h)) z ((hst z).2 (.inl hz))
 ·obtain ⟨h1, z, hz, h2, h3⟩ := hI.lw y ((hst y).2 (.inl hy));have := hAx y hy;rw [hlw];exact ⟨h1, z, hsplit2 z hz (by omega), h2, h3⟩
 ·have := hAx y hy;rw [hlw];refine hI.lws y ((hst y).2 (.inl hy)) fun h => ?_
  rcases (hgm y).1 h with h | h
  ·exact hny h
  ·rw [h] at this; omega
 ·rw [hlw, hlw];refine hI.near y ((hst y).2 (.inl hy)) g ((hgm g).2 (.inl hg)) h1 fun g' hg' hle => ?_
  rcases (hgm g').1 hg' with h | h
  ·exact h2 g' h hle
  ·have := hAx y hy;rw [h] at hle
   omega
 ·have hyx := hAx y hy
  have key : Ex ls s y k := by
   rcases hexk with ⟨h1, h2⟩ | ⟨b', h1, h2⟩
   ·exact .inl ⟨h1, fun h => by
     rcases (hgm y).1 h with h | h
     ·exact h2 h
     ·rw [h] at hyx; omega⟩
   ·exact .inr ⟨b', by rw [hp]; exact List.mem_append_left _ h1, h2⟩
  obtain ⟨h3, h4⟩ := hI.ex y ((hst y).2 (.inl hy)) k key harr;rw [hlw];exact ⟨h3, fun h => h4 ((hst _).2 (.inl h))⟩
 ·rcases List.mem_append.1 hcm with hcm | hcm
  ·exact hI.scc c hcm
  ·rw [List.mem_singleton.1 hcm]
   refine ⟨fun h => ?_, Kz _, fun u hu v hv => ?_⟩
   ·have := (hc x).2 (by simp);rw [h] at this
    cases this
   ·exact (hback _ u (Nat.le_refl _) ((hc u).1 hu)).trans (hto v ((hc v).1 hv))
 ·rw [List.length_append] at hi
  by_cases hi2 : i < s.out.length
  ·rw [List.getElem_append_left hi2] at hy
   obtain ⟨j, hj, h1, h2⟩ := hI.ord i hi2 y hy z hyz;exact ⟨j, by rw [List.length_append]; omega, h1, by rw [List.getElem_append_left hj]; exact h2⟩
  ·have hie : i = s.out.length := by simp at hi; omega
   subst hie;rw [List.getElem_append_right (Nat.le_refl _)] at hy
   simp only [Nat.sub_self, List.getElem_cons_zero] at hy
   have hyB := (hc y).1 hy;obtain ⟨k, hk, harr, hkz⟩ := hyz;obtain ⟨h3, h4⟩ := hI.ex y ((hst y).2 (.inr hyB)) k (hex y hyB k hk) harr;rw [hkz] at h3 h4
   rcases (hI.vis z).1 h3 with h | h
   ·have h5 := h4 h;have h6 := hlowx y hyB;have hzB := hsplit z h (by omega);exact ⟨s.out.length, by simp, Nat.le_refl _, by rw [List.getElem_append_right (Nat.le_refl _)]; simp only [Nat.sub_self, List.getElem_cons_zero]; exact (hc z).2 hzB⟩
   ·obtain ⟨c, hcm, hzc⟩ := List.mem_flatten.1 h;obtain ⟨j, hj, hjc⟩ := List.getElem_of_mem hcm;exact ⟨j, by rw [List.length_append]; omega, by omega, by rw [List.getElem_append_left hj, hjc]; exact hzc⟩
end
end
section
open Go.RowKit
def degR (ls : List Arrow) (x : Nat) : Nat := (Xt ls ls.length x).length
def unvis (ls : List Arrow) (m : List (Nat × Nat)) : List Nat → Nat
 | [] => 0
 | x :: r => (if (lk m x).isSome = true then 0 else degR ls x + 3) + unvis ls m r
def Je (ls : List Arrow) : List (Nat × Nat) → Nat
 | [] => 0
 | (x, a) :: r => (degR ls x + 1 - a) + Je ls r
theorem onPath_app (ls : List Arrow) : ∀ p q, Je ls (p ++ q) = Je ls p + Je ls q
 | [], q => by simp [Je]
 | (x, a) :: p, q => by simp only [List.cons_append, Je, onPath_app ls p q]; omega
def phi (ls : List Arrow) (nodes : List Nat) (s : Tj) : Nat := unvis ls s.idx nodes + Je ls s.path
theorem unvis_le (ls : List Arrow) (m : List (Nat × Nat)) (y v : Nat) : ∀ nodes, unvis ls (sk m y v) nodes ≤ unvis ls m nodes
 | [] => Nat.le_refl _
 | x :: r => by
  have := unvis_le ls m y v r;simp only [unvis, lk_sk]
  by_cases h : x = y
  ·rw [if_pos h]; simp only [Option.isSome_some, if_true]; omega
  ·rw [if_neg h]; omega
theorem unvis_new (ls : List Arrow) (m : List (Nat × Nat)) (y v : Nat) (hy : lk m y = none) : ∀ nodes, y ∈ nodes → unvis ls (sk m y v) nodes + (degR ls y + 3) ≤ unvis ls m nodes
 | [], h => by cases h
 | x :: r, h => by
  simp only [unvis, lk_sk]
  by_cases e : x = y
  ·have := unvis_le ls m y v r;subst e;simp only [if_true, Option.isSome_some, hy, Option.isSome_none, Bool.false_eq_true, if_false];omega
  ·have := unvis_new ls m y v hy r (by rcases List.mem_cons.1 h with h | h; exact absurd h.symm e; exact h);rw [if_neg e];omega
theorem arrIn_to {ls : List Arrow} {nodes : List Nat} {on : List Bool} {k : Nat} (h : Uk ls nodes on k = true) : Yk ls k ∈ nodes := by
 unfold Uk at h
 unfold Yk
 rw [Bool.and_eq_true] at h
 have h2 := h.2
 rcases hk : ls[k]? with _ | b
 ·rw [hk] at h2; cases h2
 ·rw [hk] at h2
  simpa using h2
structure Inv2 (ls : List Arrow) (nodes : List Nat) (on : List Bool) (s : Tj) : Prop where
 inv : Inv ls nodes on s
 pa : ∀ q ∈ s.path, q.2 ≤ degR ls q.1
section
variable {ls : List Arrow} {nodes : List Nat} {on : List Bool} {s : Tj}
theorem Inv2.scan {p : List (Nat × Nat)} {x a : Nat} (h : Inv2 ls nodes on s) (hp : s.path = p ++ [(x, a)]) (ha : a < (Xt ls ls.length x).length) :
  Inv2 ls nodes on (s.scan ls nodes on p x a).1 ∧ phi ls nodes (s.scan ls nodes on p x a).1 + 1 ≤ phi ls nodes s := by
 have hI := h.inv
 obtain ⟨k, hk⟩ : ∃ k, (Xt ls ls.length x)[a]? = some k := ⟨_, List.getElem?_eq_getElem ha⟩
 have hkd : (Xt ls ls.length x).getD a 0 = k := by rw [List.getD_eq_getElem?_getD, hk]; rfl
 have hkm : k ∈ Xt ls ls.length x := List.mem_of_getElem? hk
 have hpa : ∀ q ∈ p, q.2 ≤ degR ls q.1 := fun q hq => h.pa q (by rw [hp]; exact List.mem_append_left _ hq)
 have hpa1 : ∀ q ∈ p ++ [(x, a + 1)], q.2 ≤ degR ls q.1 := fun q hq => by
  rcases List.mem_append.1 hq with hq | hq
  ·exact hpa q hq
  ·rw [List.mem_singleton.1 hq]; exact ha
 have hph : Je ls (p ++ [(x, a + 1)]) + 1 = Je ls s.path := by
  rw [hp, onPath_app, onPath_app];simp only [Je];have : a < degR ls x := ha;omega
 have hxg : x ∈ s.path.map (·.1) := by rw [hp]; simp
 have hgeq : (p ++ [(x, a + 1)]).map (·.1) = s.path.map (·.1) := by rw [hp]; simp
 unfold Tj.scan Tj.arrow
 simp only [hkd]
 split
 ·rename_i h1;refine ⟨⟨hI.step hp hk (fun h2 => by rw [h1] at h2; cases h2), hpa1⟩, ?_⟩;unfold phi;simp only;omega
 ·rename_i h1;have harr : Uk ls nodes on k = true := by simpa using h1
  have hyn := arrIn_to harr
  split
  ·rename_i h2
   refine ⟨⟨hI.enter h2 hyn (p ++ [(x, a + 1)]) hgeq (fun g hg => ?_) (fun z k' hz => ?_), fun q hq => ?_⟩, ?_⟩
   ·refine .tail (hI.r1 g hg x (hI.pst x hxg) ?_) ⟨k, hkm, harr, rfl⟩;have hpg : s.path.map (·.1) = p.map (·.1) ++ [x] := by rw [hp]; simp
    have hg2 := hg;rw [hpg] at hg2
    rcases List.mem_append.1 hg2 with hg2 | hg2
    ·exact Nat.le_of_lt (pw_last (by rw [← hpg]; exact hI.pinc) g hg2)
    ·rw [List.mem_singleton.1 hg2]; exact Nat.le_refl _
   ·obtain ⟨b, hb, hkb⟩ := hz
    rcases List.mem_append.1 hb with hb | hb
    ·exact .inl (.inr ⟨b, by rw [hp]; exact List.mem_append_left _ hb, hkb⟩)
    ·simp only [List.mem_singleton, Prod.mk.injEq] at hb
     obtain ⟨rfl, rfl⟩ := hb;rw [List.take_succ_eq_append_getElem ha] at hkb
     rcases List.mem_append.1 hkb with hkb | hkb
     ·exact .inl (.inr ⟨a, by rw [hp]; simp, hkb⟩)
     ·right;rw [List.getElem?_eq_getElem ha, Option.some.injEq] at hk
      rw [List.mem_singleton.1 hkb, hk]
   ·rcases List.mem_append.1 hq with hq | hq
    ·exact hpa1 q hq
    ·rw [List.mem_singleton.1 hq]; exact Nat.zero_le _
   ·have := unvis_new ls s.idx (Yk ls k) s.idx.length h2 nodes hyn
    show unvis ls (sk s.idx (Yk ls k) s.idx.length) nodes + Je ls ((p ++ [(x, a + 1)]) ++ [(Yk ls k, 0)]) + 1 ≤ unvis ls s.idx nodes + Je ls s.path
    rw [onPath_app];simp only [Je];omega
  ·rename_i h2
   split
   ·rename_i h3;refine ⟨⟨hI.lower hp hk harr ((hI.on_ _).1 h3), hpa1⟩, ?_⟩;unfold phi;simp only;omega
   ·rename_i h3
    refine ⟨⟨hI.step hp hk (fun _ => ⟨(by
     rcases hq : lk s.idx (Yk ls k) with _ | v
     ·exact absurd hq h2
     ·rfl), fun hm => h3 ((hI.on_ _).2 hm)⟩), hpa1⟩, ?_⟩
    unfold phi;simp only;omega
theorem Inv2.done {p : List (Nat × Nat)} {x a : Nat} (h : Inv2 ls nodes on s) (hp : s.path = p ++ [(x, a)]) (ha : ¬ a < (Xt ls ls.length x).length) :
  ∃ s', s.done p x = some s' ∧ Inv2 ls nodes on s' ∧ phi ls nodes s' + 1 ≤ phi ls nodes s := by
 have hI := h.inv
 have hpa : ∀ q ∈ p, q.2 ≤ degR ls q.1 := fun q hq => h.pa q (by rw [hp]; exact List.mem_append_left _ hq)
 have hax : a ≤ degR ls x := h.pa (x, a) (by rw [hp]; simp)
 have hph : ∀ s' : Tj, s'.idx = s.idx → s'.path = p → phi ls nodes s' + 1 ≤ phi ls nodes s := fun s' e1 e2 => by
  unfold phi;rw [e1, e2, hp, onPath_app];simp only [Je];omega
 unfold Tj.done
 split
 ·rename_i heq;obtain ⟨s', e, hI', e1, e2⟩ := hI.pop hp (Nat.le_of_not_lt ha) heq;exact ⟨s', e, ⟨hI', by rw [e1]; exact hpa⟩, hph s' e2 e1⟩
 ·rename_i hne;exact ⟨_, rfl, ⟨hI.leave hp (Nat.le_of_not_lt ha) hne, by rw [up_eq]; exact hpa⟩, hph _ (by rw [up_eq]) (by rw [up_eq])⟩
theorem runT_total : ∀ (f : Nat) (s : Tj), Inv2 ls nodes on s → phi ls nodes s + 1 ≤ f → ∃ f' s', runT ls nodes on f s = some (f', s') ∧ Inv2 ls nodes on s' ∧ s'.path = [] ∧ f + phi ls nodes s' ≤ f' + phi ls nodes s + 1 ∧ ∀ y, (lk s.idx y).isSome = true → (lk s'.idx y).isSome = true
 | 0, s, _, h => by omega
 | f + 1, s, hI, hf => by
  rcases List.eq_nil_or_concat s.path with hp | ⟨p, ⟨x, a⟩, hp⟩
  ·exact ⟨f, s, runT_end hp, hI, hp, by omega, fun _ h => h⟩
  ·rw [List.concat_eq_append] at hp
   by_cases ha : a < (Xt ls ls.length x).length
   ·obtain ⟨h1, h2⟩ := hI.scan hp ha;obtain ⟨f', s', e, h3, h4, h5, h6⟩ := runT_total f _ h1 (by omega);refine ⟨f', s', by rw [runT_scan hp ha]; exact e, h3, h4, by omega, fun y hy => h6 y ?_⟩;unfold Tj.scan Tj.arrow;simp only
    split
    ·exact hy
    ·split
     ·show (lk (sk s.idx _ _) y).isSome = true
      rw [lk_sk]
      split
      ·rfl
      ·exact hy
     ·split <;> exact hy
   ·obtain ⟨s1, e1, h1, h2⟩ := hI.done hp ha;obtain ⟨f', s', e, h3, h4, h5, h6⟩ := runT_total f _ h1 (by omega);have g1 : s.path.getLast? = some (x, a) := by rw [hp]; simp
    have g2 : s.path.dropLast = p := by rw [hp]; simp
    refine ⟨f', s', by simp only [runT, g1, g2, ha, if_false, e1]; exact e, h3, h4, by omega, fun y hy => h6 y ?_⟩
    have : s1.idx = s.idx := by
     unfold Tj.done at e1
     split at e1
     ·unfold Tj.comp at e1
      split at e1
      ·cases e1; rw [up_eq]
      ·cases e1
     ·cases e1; rw [up_eq]
    rw [this]; exact hy
theorem rootsT_total : ∀ (rs : List Nat) (f : Nat) (s : Tj), (∀ r ∈ rs, r ∈ nodes) → Inv2 ls nodes on s → s.path = [] → phi ls nodes s ≤ f → ∃ s', Qw ls nodes on rs f s = some s' ∧ Inv2 ls nodes on s' ∧ s'.path = [] ∧ (∀ y, (lk s.idx y).isSome = true → (lk s'.idx y).isSome = true) ∧ ∀ r ∈ rs, (lk s'.idx r).isSome = true
 | [], f, s, _, hI, hp, _ => ⟨s, rfl, hI, hp, fun _ h => h, fun r h => by cases h⟩
 | r :: rs, f, s, hrs, hI, hp, hf => by
  unfold Qw
  by_cases hv : (lk s.idx r).isSome = true
  ·rw [if_pos hv];obtain ⟨s', e, h1, h2, h3, h4⟩ := rootsT_total rs f s (fun q hq => hrs q (by simp [hq])) hI hp hf
   exact ⟨s', e, h1, h2, h3, fun q hq => by
    rcases List.mem_cons.1 hq with e | hq
    ·rw [e]; exact h3 r hv
    ·exact h4 q hq⟩
  ·rw [if_neg hv]
   have hn : lk s.idx r = none := by
    rcases hq : lk s.idx r with _ | v
    ·rfl
    ·rw [hq] at hv; exact absurd rfl hv
   have hrn := hrs r (by simp);have hu := unvis_new ls s.idx r s.idx.length hn nodes hrn;have hphi : phi ls nodes s = unvis ls s.idx nodes := by unfold phi; rw [hp]; rfl
   rcases f with _ | f
   ·omega
   ·have hE : Inv2 ls nodes on ({ s with path := [] }.enter r) := by
     refine ⟨hI.inv.enter hn hrn [] (by rw [hp]) (fun g hg => by rw [hp] at hg; cases hg) (fun z k ⟨b, hb, _⟩ => by cases hb), fun q hq => ?_⟩;have : q = (r, 0) := by simpa [Tj.enter] using hq
     rw [this]; exact Nat.zero_le _
    have hpE : phi ls nodes ({ s with path := [] }.enter r) + 2 ≤ phi ls nodes s := by
     show unvis ls (sk s.idx r s.idx.length) nodes + Je ls [(r, 0)] + 2 ≤ phi ls nodes s
     simp only [Je];omega
    obtain ⟨f', s1, e1, h1, h2, h3, h4⟩ := runT_total f _ hE (by omega);obtain ⟨s', e, h5, h6, h7, h8⟩ := rootsT_total rs f' s1 (fun q hq => hrs q (by simp [hq])) h1 h2 (by omega)
    have hgr : ∀ y, (lk s.idx y).isSome = true → (lk s'.idx y).isSome = true := fun y hy => h7 y (h4 y (by
     show (lk (sk s.idx r s.idx.length) y).isSome = true
     rw [lk_sk]
     split
     ·rfl
     ·exact hy))
    refine ⟨s', by simpa only [e1] using e, h5, h6, hgr, fun q hq => ?_⟩
    rcases List.mem_cons.1 hq with eq | hq
    ·rw [eq];refine h7 r (h4 r ?_)
     show (lk (sk s.idx r s.idx.length) r).isSome = true
     rw [lk_sk, if_pos rfl]; rfl
    ·exact h8 q hq
structure CompsOk (ls : List Arrow) (nodes : List Nat) (on : List Bool) (cs : List (List Nat)) : Prop where
 mem : ∀ x, x ∈ cs.flatten ↔ x ∈ nodes
 nodup : cs.flatten.Nodup
 scc : ∀ c ∈ cs, c ≠ [] ∧ c.Pairwise (· ≤ ·) ∧ ∀ x ∈ c, ∀ y ∈ c, Rc (EdgeP ls nodes on) x y
 ord : ∀ i (h : i < cs.length), ∀ y ∈ cs[i], ∀ z, EdgeP ls nodes on y z → ∃ j, ∃ h : j < cs.length, j ≤ i ∧ z ∈ cs[j]
theorem unvis_all (ls : List Arrow) : ∀ nodes : List Nat, unvis ls [] nodes ≤ nodes.length * (ls.length + 3)
 | [] => by simp [unvis]
 | x :: r => by
  have h1 := unvis_all ls r;have h2 : degR ls x ≤ ls.length := Vt _ _ _;simp only [unvis, lk, Option.isSome_none, Bool.false_eq_true, if_false, List.length_cons, Nat.add_mul, Nat.one_mul];omega
theorem comps_total (ls : List Arrow) (nodes : List Nat) (on : List Bool) (hb : nodes.length * (ls.length + 3) ≤ 1000000) : ∃ cs, compsR ls nodes on = some cs ∧ CompsOk ls nodes on cs := by
 have h0 : phi ls nodes Tj.init ≤ 1000000 := by
  have := unvis_all ls nodes
  show unvis ls [] nodes + Je ls [] ≤ 1000000
  simp only [Je];omega
 obtain ⟨s', e, hI, hp, _, hv⟩ := rootsT_total (on := on) nodes 1000000 Tj.init (fun _ h => h) ⟨Inv.init, fun q hq => by cases hq⟩ rfl h0
 have hst := hI.inv.empty hp
 refine ⟨s'.out, by unfold compsR; rw [e]; rfl, fun x => ⟨fun h => hI.inv.mem x ((hI.inv.vis x).2 (.inr h)), fun h => ?_⟩, ?_, hI.inv.scc, hI.inv.ord⟩
 ·rcases (hI.inv.vis x).1 (hv x h) with h1 | h1
  ·rw [hst] at h1; cases h1
  ·exact h1
 ·have := hI.inv.nodup;rw [hst] at this
  exact this
end
end
section
open Go.RowKit
inductive Wk (ls : List Arrow) (P : Nat → Prop) : Nat → List Nat → Nat → Prop
 | nil (x : Nat) : Wk ls P x [] x
 | cons {k y : Nat} {w : List Nat} : k < ls.length → P k → Wk ls P (Yk ls k) w y → Wk ls P (Vf ls k) (k :: w) y
section
variable {ls : List Arrow} {P Q : Nat → Prop}
theorem Wk.mono {x y : Nat} {w : List Nat} (h : Wk ls P x w y) (hPQ : ∀ k ∈ w, P k → Q k) : Wk ls Q x w y := by
 induction h with
 | nil x => exact .nil x
 | cons hk hp _ ih => exact .cons hk (hPQ _ (by simp) hp) (ih fun k hk h => hPQ k (by simp [hk]) h)
theorem Wk.all {x y : Nat} {w : List Nat} (h : Wk ls P x w y) : ∀ k ∈ w, k < ls.length ∧ P k := by
 induction h with
 | nil x => intro k hk; cases hk
 | cons hk hp _ ih =>
  intro k hk2
  rcases List.mem_cons.1 hk2 with e | h
  ·rw [e]; exact ⟨hk, hp⟩
  ·exact ih k h
theorem Wk.app {x y z : Nat} {w v : List Nat} (h : Wk ls P x w y) (k : Wk ls P y v z) : Wk ls P x (w ++ v) z := by
 induction h with
 | nil x => exact k
 | cons hk hp _ ih => exact .cons hk hp (ih k)
theorem Wk.one {k : Nat} (hk : k < ls.length) (hp : P k) : Wk ls P (Vf ls k) [k] (Yk ls k) := .cons hk hp (.nil _)
theorem frOf_at {k : Nat} (h : k < ls.length) : Vf ls k = (ls[k]).fr := by unfold Vf; rw [List.getElem?_eq_getElem h]
theorem toOf_at {k : Nat} (h : k < ls.length) : Yk ls k = (ls[k]).to := by unfold Yk; rw [List.getElem?_eq_getElem h]
theorem mem_outAt {x k : Nat} : k ∈ Xt ls ls.length x ↔ k < ls.length ∧ Vf ls k = x := by
 unfold Xt
 rw [List.mem_filter, List.mem_range]
 constructor
 ·rintro ⟨h1, h2⟩;rw [List.getElem?_eq_getElem h1] at h2
  exact ⟨h1, by rw [frOf_at h1]; simpa using h2⟩
 ·rintro ⟨h1, h2⟩;rw [frOf_at h1] at h2
  exact ⟨h1, by rw [List.getElem?_eq_getElem h1]; simpa using h2⟩
theorem arrIn_iff {nodes : List Nat} {on : List Bool} {k : Nat} (hk : k < ls.length) : Uk ls nodes on k = true ↔ on.getD k false = true ∧ Yk ls k ∈ nodes := by
 unfold Uk
 rw [toOf_at hk, List.getElem?_eq_getElem hk]
 simp
theorem mem_withinF {nodes : List Nat} {on : List Bool} {k : Nat} : k ∈ Xk ls nodes on ↔ k < ls.length ∧ Vf ls k ∈ nodes ∧ on.getD k false = true ∧ Yk ls k ∈ nodes := by
 unfold Xk
 rw [List.mem_flatMap]
 constructor
 ·rintro ⟨x, hx, h⟩;obtain ⟨h1, h2⟩ := List.mem_filter.1 h;obtain ⟨h3, h4⟩ := mem_outAt.1 h1;exact ⟨h3, h4 ▸ hx, (arrIn_iff h3).1 h2⟩
 ·rintro ⟨h1, h2, h3⟩;exact ⟨_, h2, List.mem_filter.2 ⟨mem_outAt.2 ⟨h1, rfl⟩, (arrIn_iff h1).2 h3⟩⟩
theorem edge_iff {nodes : List Nat} {on : List Bool} {x y : Nat} : EdgeP ls nodes on x y ↔ ∃ k, k < ls.length ∧ Vf ls k = x ∧ Yk ls k = y ∧ on.getD k false = true ∧ y ∈ nodes := by
 unfold EdgeP
 constructor
 ·rintro ⟨k, h1, h2, rfl⟩;obtain ⟨h3, h4⟩ := mem_outAt.1 h1;obtain ⟨h5, h6⟩ := (arrIn_iff h3).1 h2;exact ⟨k, h3, h4, rfl, h5, h6⟩
 ·rintro ⟨k, h1, h2, rfl, h3, h4⟩;exact ⟨k, mem_outAt.2 ⟨h1, h2⟩, (arrIn_iff h1).2 ⟨h3, h4⟩, rfl⟩
theorem rc_wk {nodes : List Nat} {on : List Bool} {x y : Nat} (h : Rc (EdgeP ls nodes on) x y) : ∃ w, Wk ls (fun k => on.getD k false = true ∧ Yk ls k ∈ nodes) x w y := by
 induction h with
 | refl => exact ⟨[], .nil _⟩
 | tail _ e ih =>
  obtain ⟨w, hw⟩ := ih;obtain ⟨k, h1, rfl, rfl, h2, h3⟩ := edge_iff.1 e;exact ⟨_, hw.app (.one h1 ⟨h2, h3⟩)⟩
end
def Sats (ls : List Arrow) (all : List Nat) (pairs : List (Nat × Nat)) (l : List Nat) : Prop :=
 (∀ m ∈ all, ∃ k ∈ l, Zv ls k m = true) ∧ ∀ p ∈ pairs, (∃ k ∈ l, Zv ls k p.1 = true) → ∃ k ∈ l, Zv ls k p.2 = true
theorem metF_at (ls : List Arrow) (l : List Nat) {m : Nat} (h : m < 16) : (Zh ls l).getD m false = l.any fun k => Zv ls k m := by
 unfold Zh
 rw [List.getD_eq_getElem?_getD, List.getElem?_map, List.getElem?_range h]
 rfl
section
variable {ls : List Arrow} {all : List Nat} {pairs : List (Nat × Nat)} {l : List Nat}
theorem met_yes {m : Nat} (h : m < 16) : (Zh ls l).getD m false = true ↔ ∃ k ∈ l, Zv ls k m = true := by rw [metF_at _ _ h]; simp
theorem met_no {m : Nat} (h : m < 16) : (Zh ls l).getD m false = false ↔ ∀ k ∈ l, Zv ls k m = false := by rw [metF_at _ _ h]; simp
theorem lack_cases (hw : ValidW all pairs) :
  (∃ i, Xw (Zh ls l) all pairs = (3, i) ∧ ∃ m ∈ all, ∀ k ∈ l, Zv ls k m = false) ∨
  (∃ i, ∃ h : i < pairs.length, Xw (Zh ls l) all pairs = (4, i) ∧ (∃ k ∈ l, Zv ls k pairs[i].1 = true) ∧ ∀ k ∈ l, Zv ls k pairs[i].2 = false) ∨
  (Xw (Zh ls l) all pairs = (0, 0) ∧ Sats ls all pairs l) := by
 unfold Xw
 split
 ·rename_i i h;obtain ⟨h1, h2, _⟩ := List.findIdx?_eq_some_iff_getElem.1 h;refine .inl ⟨i, rfl, all[i], List.getElem_mem h1, ?_⟩;exact (met_no (hw.all_ok _ (List.getElem_mem h1))).1 (by simpa using h2)
 ·rename_i h;have hall := List.findIdx?_eq_none_iff.1 h
  split
  ·rename_i i h;obtain ⟨h1, h2, _⟩ := List.findIdx?_eq_some_iff_getElem.1 h;have hp := hw.pairs_ok _ (List.getElem_mem h1);simp only [Bool.and_eq_true, Bool.not_eq_true'] at h2
   exact .inr (.inl ⟨i, h1, rfl, (met_yes hp.1).1 h2.1, (met_no hp.2).1 h2.2⟩)
  ·rename_i h;have hprs := List.findIdx?_eq_none_iff.1 h;refine .inr (.inr ⟨rfl, fun m hm => (met_yes (hw.all_ok m hm)).1 (by simpa using hall m hm), fun p hp h1 => ?_⟩);have h2 := hprs p hp;have hpo := hw.pairs_ok p hp;rw [(met_yes hpo.1).2 h1] at h2
   exact (met_yes hpo.2).1 (by simpa using h2)
theorem satF_iff (hw : ValidW all pairs) : satF (Zh ls l) all pairs = true ↔ Sats ls all pairs l := by
 unfold satF
 rcases lack_cases (ls := ls) (l := l) hw with ⟨i, e, m, hm, h⟩ | ⟨i, hi, e, h1, h2⟩ | ⟨e, h⟩
 ·rw [e];refine ⟨fun h => by simp at h, fun hs => ?_⟩;obtain ⟨k, hk, h3⟩ := hs.1 m hm;rw [h k hk] at h3; cases h3
 ·rw [e];refine ⟨fun h => by simp at h, fun hs => ?_⟩;obtain ⟨k, hk, h3⟩ := hs.2 _ (List.getElem_mem hi) h1;rw [h2 k hk] at h3; cases h3
 ·rw [e];exact ⟨fun _ => h, fun _ => rfl⟩
end
theorem comp_uniq {cs : List (List Nat)} (h : cs.flatten.Nodup) {i j : Nat} (hi : i < cs.length) (hj : j < cs.length) {x : Nat} (h1 : x ∈ cs[i]) (h2 : x ∈ cs[j]) : i = j := by
 have hp := (List.pairwise_flatten.1 h).2
 rcases Nat.lt_trichotomy i j with hlt | e | hlt
 ·exact absurd rfl (List.pairwise_iff_getElem.1 hp i j hi hj hlt x h1 x h2)
 ·exact e
 ·exact absurd rfl (List.pairwise_iff_getElem.1 hp j i hj hi hlt x h2 x h1)
section
variable {ls : List Arrow} {nodes : List Nat} {on : List Bool} {cs : List (List Nat)}
theorem wk_ord (hc : CompsOk ls nodes on cs) {x y : Nat} {w : List Nat} (h : Wk ls (fun k => on.getD k false = true ∧ Yk ls k ∈ nodes) x w y) : ∀ a (ha : a < cs.length), x ∈ cs[a] →
  ∃ b, ∃ hb : b < cs.length, b ≤ a ∧ y ∈ cs[b] ∧ ∀ k ∈ w, ∃ j, ∃ hj : j < cs.length, ∃ j', ∃ hj' : j' < cs.length, b ≤ j' ∧ j' ≤ j ∧ j ≤ a ∧ Vf ls k ∈ cs[j] ∧ Yk ls k ∈ cs[j'] := by
 induction h with
 | nil x => intro a ha hx; exact ⟨a, ha, Nat.le_refl _, hx, fun k hk => by cases hk⟩
 | @cons k y w hk hp _ ih =>
  intro a ha hx;obtain ⟨c, hc1, hc2, hc3⟩ := hc.ord a ha _ hx (Yk ls k) (edge_iff.2 ⟨k, hk, rfl, rfl, hp.1, hp.2⟩);obtain ⟨b, hb, h1, h2, h3⟩ := ih c hc1 hc3;refine ⟨b, hb, by omega, h2, fun q hq => ?_⟩
  rcases List.mem_cons.1 hq with e | hq
  ·rw [e]; exact ⟨a, ha, c, hc1, h1, hc2, Nat.le_refl _, hx, hc3⟩
  ·obtain ⟨j, hj, j', hj', h4, h5, h6, h7⟩ := h3 q hq;exact ⟨j, hj, j', hj', h4, h5, by omega, h7⟩
theorem wk_stays (hc : CompsOk ls nodes on cs) {x y : Nat} {w : List Nat} (h : Wk ls (fun k => on.getD k false = true ∧ Yk ls k ∈ nodes) x w y) {c : List Nat} (hcm : c ∈ cs) (hx : x ∈ c) (hy : y ∈ c) : ∀ k ∈ w, k ∈ Xk ls c on := by
 obtain ⟨i, hi, rfl⟩ := List.getElem_of_mem hcm
 obtain ⟨b, hb, h1, h2, h3⟩ := wk_ord hc h i hi hx
 have e := comp_uniq hc.nodup hb hi h2 hy
 subst e
 intro k hk
 obtain ⟨j, hj, j', hj', h4, h5, h6, h7, h8⟩ := h3 k hk
 have e1 : j = b := by omega
 have e2 : j' = b := by omega
 subst e1; subst e2
 have := h.all k hk
 exact mem_withinF.2 ⟨this.1, h7, this.2.1, h8⟩
theorem comp_conn (hc : CompsOk ls nodes on cs) {c : List Nat} (hcm : c ∈ cs) {x y : Nat} (hx : x ∈ c) (hy : y ∈ c) : ∃ w, Wk ls (· ∈ Xk ls c on) x w y := by
 obtain ⟨w, hw⟩ := rc_wk ((hc.scc c hcm).2.2 x hx y hy)
 exact ⟨w, hw.mono fun k hk _ => wk_stays hc hw hcm hx hy k hk⟩
end
structure GoodOk (ls : List Arrow) (all : List Nat) (pairs : List (Nat × Nat)) (nodes : List Nat) (on : List Bool) (xs : GL) : Prop where
 sub : ∀ p ∈ xs, ∀ x ∈ p.1, x ∈ nodes
 ne : ∀ p ∈ xs, p.1 ≠ []
 sorted : ∀ p ∈ xs, p.1.Pairwise (· ≤ ·)
 conn : ∀ p ∈ xs, ∀ x ∈ p.1, ∀ y ∈ p.1, ∃ w, Wk ls (· ∈ p.2) x w y
 arrow : ∀ p ∈ xs, p.2 ≠ []
 len : ∀ p ∈ xs, p.2.length ≤ p.1.length * ls.length
 within : ∀ p ∈ xs, ∀ k ∈ p.2, k < ls.length ∧ on.getD k false = true ∧ Vf ls k ∈ p.1 ∧ Yk ls k ∈ p.1
 sats : ∀ p ∈ xs, Sats ls all pairs p.2
 nodup : (xs.flatMap (·.1)).Nodup
 full : ∀ x w, x ∈ nodes → w ≠ [] → Wk ls (fun k => on.getD k false = true ∧ Yk ls k ∈ nodes) x w x → Sats ls all pairs w → ∃ p ∈ xs, ∀ k ∈ w, k ∈ p.2
def Qf (ls : List Arrow) (on : List Bool) : Nat := (List.range ls.length).countP fun k => on.getD k false
theorem Jp {ls : List Arrow} {on : List Bool} {m k : Nat} (h : k < ls.length) : (Ya ls on m).getD k false = (on.getD k false && !Zv ls k m) := by
 unfold Ya
 rw [List.getD_eq_getElem?_getD, List.getElem?_map, List.getElem?_range h]
 rfl
theorem countP_lt {α : Type} {p q : α → Bool} : ∀ {l : List α}, (∀ x ∈ l, p x = true → q x = true) → (∃ x ∈ l, q x = true ∧ p x = false) → l.countP p < l.countP q
 | [], _, ⟨_, h, _⟩ => by cases h
 | a :: l, h, ⟨x, hx, h1, h2⟩ => by
  have hle : l.countP p ≤ l.countP q := List.countP_mono_left fun x hx => h x (by simp [hx])
  rw [List.countP_cons, List.countP_cons]
  rcases List.mem_cons.1 hx with e | hx
  ·subst e;rw [h1, h2];simp only [Bool.false_eq_true, if_false, if_true];omega
  ·have ih := countP_lt (fun x hx => h x (by simp [hx])) ⟨x, hx, h1, h2⟩;have := h a (by simp)
   by_cases hp : p a = true
   ·rw [hp, this hp]; omega
   ·rw [if_neg hp]; omega
theorem onCnt_without {ls : List Arrow} {on : List Bool} {m k : Nat} (hk : k < ls.length) (h1 : on.getD k false = true) (h2 : Zv ls k m = true) : Qf ls (Ya ls on m) < Qf ls on := by
 refine countP_lt (fun j hj h => ?_) ⟨k, List.mem_range.2 hk, h1, by rw [Jp hk, h2]; simp⟩
 rw [Jp (List.mem_range.1 hj)] at h
 exact (Bool.and_eq_true _ _ ▸ h).1
theorem seqO_ok {α β : Type} {f : α → Option (List β)} : ∀ {cs : List α}, (∀ c ∈ cs, ∃ x, f c = some x) → seqO (cs.map f) = some (cs.flatMap fun c => (f c).getD [])
 | [], _ => rfl
 | c :: cs, h => by
  obtain ⟨x, hx⟩ := h c (by simp);have ih := seqO_ok (f := f) (cs := cs) fun d hd => h d (List.mem_cons_of_mem _ hd)
  simp only [List.map_cons, seqO, hx, ih, List.flatMap_cons, Option.getD_some]
end
section
open Go.RowKit
theorem asc_len : ∀ (l : List Nat) (n b : Nat), l.Pairwise (· < ·) → (∀ x ∈ l, b ≤ x ∧ x < n) → l.length ≤ n - b
 | [], _, _, _, _ => Nat.zero_le _
 | x :: r, n, b, h, hb => by
  obtain ⟨h1, h2⟩ := List.pairwise_cons.1 h;have hx := hb x (by simp)
  have ih := asc_len r n (b + 1) h2 fun y hy => by
   have := h1 y hy;have := (hb y (by simp [hy])).2;omega
  simp only [List.length_cons];omega
theorem asc_of {l : List Nat} (h : l.Pairwise (· ≤ ·)) (hn : l.Nodup) : l.Pairwise (· < ·) := (List.pairwise_and_iff.2 ⟨h, hn⟩).imp fun ⟨h1, h2⟩ => Nat.lt_of_le_of_ne h1 h2
theorem ndLen {l : List Nat} {n : Nat} (hn : l.Nodup) (hb : ∀ x ∈ l, x < n) : l.length ≤ n := by
 have h := asc_len (Vj l) n 0 (asc_of (Kz l) ((Uy l).nodup_iff.2 hn)) fun x hx => ⟨Nat.zero_le _, hb x ((Uy l).mem_iff.1 hx)⟩
 rw [Zu] at h
 omega
section
variable {ls : List Arrow} {all : List Nat} {pairs : List (Nat × Nat)}
theorem wk_within {c : List Nat} {on : List Bool} {x y : Nat} {w : List Nat} (h : Wk ls (fun k => on.getD k false = true ∧ Yk ls k ∈ c) x w y) : x ∈ c → ∀ k ∈ w, k ∈ Xk ls c on := by
 induction h with
 | nil x => intro _ k hk; cases hk
 | cons hk hp _ ih =>
  intro hx k hk2
  rcases List.mem_cons.1 hk2 with e | h
  ·rw [e]; exact mem_withinF.2 ⟨hk, hx, hp.1, hp.2⟩
  ·exact ih hp.2 k h
theorem good_none {c : List Nat} {on : List Bool} (h : ∀ x w, x ∈ c → w ≠ [] → Wk ls (fun k => on.getD k false = true ∧ Yk ls k ∈ c) x w x → ¬ Sats ls all pairs w) : GoodOk ls all pairs c on [] :=
 ⟨fun p h => by (cases h), fun p h => by (cases h), fun p h => by (cases h), fun p h => by (cases h), fun p h => by (cases h), fun p h => by (cases h), fun p h => by (cases h), fun p h => by (cases h), by simp, fun x w h1 h2 h3 h4 => absurd h4 (h x w h1 h2 h3)⟩
theorem comp_nodup {cs : List (List Nat)} (h : cs.flatten.Nodup) {c : List Nat} (hc : c ∈ cs) : c.Nodup := (List.pairwise_flatten.1 h).1 c hc
theorem goodC_ok {n f : Nat} {nodes : List Nat} {on : List Bool} {cs : List (List Nat)} (hw : ValidW all pairs) (hn : n ≤ 20000) (hc : CompsOk ls nodes on cs) {c : List Nat} (hcm : c ∈ cs) (hcn : ∀ x ∈ c, x < n) (hf : Qf ls on < f + 1)
  (ih : ∀ on', Qf ls on' < f → ∃ xs, Kb n ls all pairs f c on' = some xs ∧ GoodOk ls all pairs c on' xs) : ∃ xs, goodC n ls all pairs (Kb n ls all pairs f) on c = some xs ∧ GoodOk ls all pairs c on xs := by
 have hlen := ndLen (comp_nodup hc.nodup hcm) hcn
 have h0 : (c.all (fun x => decide (x < n)) && decide (c.length ≤ 20000)) = true := by
  simp only [Bool.and_eq_true, List.all_eq_true, decide_eq_true_eq];exact ⟨hcn, by omega⟩
 unfold goodC
 rw [if_pos h0]
 by_cases hwi : (Xk ls c on).length = 0
 ·rw [if_pos hwi];refine ⟨_, rfl, good_none fun x w hx hne hwk _ => ?_⟩;obtain ⟨k, r, rfl⟩ := List.exists_cons_of_ne_nil hne;have := wk_within hwk hx k (by simp);rw [List.length_eq_zero_iff.1 hwi] at this
  cases this
 ·rw [if_neg hwi]
  rcases lack_cases (ls := ls) (l := Xk ls c on) hw with ⟨i, e, m, hm, h⟩ | ⟨i, hi, e, h1, h2⟩ | ⟨e, h⟩
  ·rw [e];refine ⟨_, rfl, good_none fun x w hx hne hwk hs => ?_⟩;obtain ⟨k, hk, h3⟩ := hs.1 m hm;rw [h k (wk_within hwk hx k hk)] at h3
   cases h3
  ·rw [e];simp only;obtain ⟨k0, hk0, hm0⟩ := h1;have hk1 := mem_withinF.1 hk0;have hpd : pairs.getD i (0, 0) = pairs[i] := by rw [List.getD_eq_getElem?_getD, List.getElem?_eq_getElem hi]; rfl
   rw [hpd];have hlt := onCnt_without hk1.1 hk1.2.2.1 hm0;obtain ⟨xs, hx1, hx2⟩ := ih (Ya ls on pairs[i].1) (by omega)
   refine ⟨xs, hx1, hx2.sub, hx2.ne, hx2.sorted, hx2.conn, hx2.arrow, hx2.len, fun p hp k hk => ?_, hx2.sats, hx2.nodup, fun x w hx hne hwk hs => ?_⟩
   ·obtain ⟨h3, h4, h5⟩ := hx2.within p hp k hk;rw [Jp h3] at h4
    exact ⟨h3, (Bool.and_eq_true _ _ ▸ h4).1, h5⟩
   ·refine hx2.full x w hx hne (hwk.mono fun k hk hp => ⟨?_, hp.2⟩) hs;have hkl := (hwk.all k hk).1;rw [Jp hkl, hp.1]
    by_cases hm : Zv ls k pairs[i].1 = true
    ·exfalso;obtain ⟨j, hj, h3⟩ := hs.2 _ (List.getElem_mem hi) ⟨k, hk, hm⟩;rw [h2 j (wk_within hwk hx j hj)] at h3
     cases h3
    ·simpa using hm
  ·rw [e];simp only
   refine ⟨_, rfl, fun p hp => ?_, fun p hp => ?_, fun p hp => ?_, fun p hp => ?_, fun p hp => ?_, fun p hp => ?_, fun p hp => ?_, fun p hp => ?_, ?_, fun x w hx hne hwk hs => ?_⟩
   ·rw [List.mem_singleton.1 hp]; exact fun x h => h
   ·rw [List.mem_singleton.1 hp]; exact (hc.scc c hcm).1
   ·rw [List.mem_singleton.1 hp]; exact (hc.scc c hcm).2.1
   ·rw [List.mem_singleton.1 hp]; exact fun x hx y hy => comp_conn hc hcm hx hy
   ·rw [List.mem_singleton.1 hp]; exact fun e => hwi (by rw [show Xk ls c on = [] from e]; rfl)
   ·rw [List.mem_singleton.1 hp]; exact flat_len (fun x => (Xt ls ls.length x).filter (Uk ls c on)) ls.length c (fun x _ => Nat.le_trans (List.length_filter_le _ _) (Vt _ _ _))
   ·rw [List.mem_singleton.1 hp];intro k hk;obtain ⟨h1, h2, h3, h4⟩ := mem_withinF.1 hk;exact ⟨h1, h3, h2, h4⟩
   ·rw [List.mem_singleton.1 hp]; exact h
   ·simpa using comp_nodup hc.nodup hcm
   ·exact ⟨(c, Xk ls c on), by simp, fun k hk => wk_within hwk hx k hk⟩
theorem nodup_flatMap_of {α : Type} {f : List Nat → List α} {fn : α → List Nat} {cs : List (List Nat)} (h : cs.flatten.Nodup) (h1 : ∀ c ∈ cs, ((f c).flatMap fn).Nodup) (h2 : ∀ c ∈ cs, ∀ p ∈ f c, ∀ x ∈ fn p, x ∈ c) : ((cs.flatMap f).flatMap fn).Nodup := by
 rw [List.flatMap_assoc, List.flatMap_def]
 refine List.pairwise_flatten.2 ⟨fun l hl => ?_, ?_⟩
 ·obtain ⟨c, hc, rfl⟩ := List.mem_map.1 hl;exact h1 c hc
 ·rw [List.pairwise_map];refine (List.pairwise_flatten.1 h).2.imp_of_mem fun {a b} ha hb hab x hx y hy => ?_
  obtain ⟨p, hp, hxp⟩ := List.mem_flatMap.1 hx;obtain ⟨q, hq, hyq⟩ := List.mem_flatMap.1 hy;exact hab x (h2 a ha p hp x hxp) y (h2 b hb q hq y hyq)
theorem good_total {n : Nat} (hw : ValidW all pairs) (hn : n ≤ 20000) (hb : n * (ls.length + 3) ≤ 1000000) : ∀ (f : Nat) (nodes : List Nat) (on : List Bool), Qf ls on < f → (∀ x ∈ nodes, x < n) → nodes.length ≤ n →
  ∃ xs, Kb n ls all pairs f nodes on = some xs ∧ GoodOk ls all pairs nodes on xs
 | 0, _, _, h, _, _ => by omega
 | f + 1, nodes, on, hf, hnn, hnl => by
  obtain ⟨cs, e, hc⟩ := comps_total ls nodes on (Nat.le_trans (Nat.mul_le_mul_right _ hnl) hb);have hcn : ∀ c ∈ cs, ∀ x ∈ c, x < n := fun c hcm x hx => hnn x ((hc.mem x).1 (List.mem_flatten.2 ⟨c, hcm, hx⟩))
  have hg : ∀ c ∈ cs, ∃ xs, goodC n ls all pairs (Kb n ls all pairs f) on c = some xs ∧ GoodOk ls all pairs c on xs := fun c hcm =>
   goodC_ok hw hn hc hcm (hcn c hcm) hf fun on' ho => good_total hw hn hb f c on' ho (hcn c hcm) (ndLen (comp_nodup hc.nodup hcm) (hcn c hcm))
  have hG : ∀ c ∈ cs, GoodOk ls all pairs c on ((goodC n ls all pairs (Kb n ls all pairs f) on c).getD []) := fun c hcm => by
   obtain ⟨xs, h1, h2⟩ := hg c hcm;rw [h1]; exact h2
  have hm : ∀ p ∈ cs.flatMap fun c => (goodC n ls all pairs (Kb n ls all pairs f) on c).getD [], ∃ c ∈ cs, p ∈ (goodC n ls all pairs (Kb n ls all pairs f) on c).getD [] := fun p hp => List.mem_flatMap.1 hp
  refine ⟨_, by simp only [Kb, e]; exact seqO_ok fun c hcm => (hg c hcm).imp fun _ h => h.1, fun p hp => ?_, fun p hp => ?_, fun p hp => ?_, fun p hp => ?_, fun p hp => ?_, fun p hp => ?_, fun p hp => ?_, fun p hp => ?_, ?_, fun x w hx hne hwk hs => ?_⟩
  ·obtain ⟨c, hcm, h⟩ := hm p hp;exact fun x hx => (hc.mem x).1 (List.mem_flatten.2 ⟨c, hcm, (hG c hcm).sub p h x hx⟩)
  ·obtain ⟨c, hcm, h⟩ := hm p hp; exact (hG c hcm).ne p h
  ·obtain ⟨c, hcm, h⟩ := hm p hp; exact (hG c hcm).sorted p h
  ·obtain ⟨c, hcm, h⟩ := hm p hp; exact (hG c hcm).conn p h
  ·obtain ⟨c, hcm, h⟩ := hm p hp; exact (hG c hcm).arrow p h
  ·obtain ⟨c, hcm, h⟩ := hm p hp; exact (hG c hcm).len p h
  ·obtain ⟨c, hcm, h⟩ := hm p hp; exact (hG c hcm).within p h
  ·obtain ⟨c, hcm, h⟩ := hm p hp; exact (hG c hcm).sats p h
  ·exact nodup_flatMap_of hc.nodup (fun c hcm => (hG c hcm).nodup) fun c hcm p hp x hx => (hG c hcm).sub p hp x hx
  ·obtain ⟨c, hcm, hxc⟩ := List.mem_flatten.1 ((hc.mem x).2 hx);have hst := wk_stays hc hwk hcm hxc hxc;obtain ⟨p, hp, h⟩ := (hG c hcm).full x w hxc hne (hwk.mono fun k hk hp => ⟨hp.1, (mem_withinF.1 (hst k hk)).2.2.2⟩) hs;exact ⟨p, List.mem_flatMap.2 ⟨c, hcm, hp⟩, h⟩
def Uz (ls : List Arrow) (all : List Nat) (pairs : List (Nat × Nat)) (P : Nat → Prop) (x : Nat) : Prop := ∃ w, w ≠ [] ∧ Wk ls P x w x ∧ Sats ls all pairs w
theorem wk_tour {c l : List Nat} (hconn : ∀ x ∈ c, ∀ y ∈ c, ∃ w, Wk ls (· ∈ l) x w y) (hin : ∀ k ∈ l, k < ls.length ∧ Vf ls k ∈ c ∧ Yk ls k ∈ c) {x : Nat} (hx : x ∈ c) :
  ∀ l' : List Nat, (∀ k ∈ l', k ∈ l) → ∃ w, Wk ls (· ∈ l) x w x ∧ ∀ k ∈ l', k ∈ w
 | [], _ => ⟨[], .nil x, fun k h => by cases h⟩
 | k :: r, h => by
  obtain ⟨w, h1, h2⟩ := wk_tour hconn hin hx r fun j hj => h j (by simp [hj])
  have hk := h k (by simp);obtain ⟨h3, h4, h5⟩ := hin k hk;obtain ⟨u, hu⟩ := hconn x hx _ h4;obtain ⟨v, hv⟩ := hconn _ h5 x hx;refine ⟨u ++ ([k] ++ (v ++ w)), hu.app ((Wk.one h3 hk).app (hv.app h1)), fun j hj => ?_⟩
  rcases List.mem_cons.1 hj with e | hj
  ·rw [e]; simp
  ·have := h2 j hj; simp [this]
theorem Wk.head {P : Nat → Prop} {x y k : Nat} {w : List Nat} (h : Wk ls P x (k :: w) y) : Vf ls k = x := by cases h; rfl
theorem strictly_of {c : List Nat} (h : c.Pairwise (· < ·)) : Ky c = true := by
 unfold Ky
 rw [List.all_eq_true]
 intro i hi
 have hi' := List.mem_range.1 hi
 have h1 : i < c.length := by omega
 have h2 : i + 1 < c.length := by omega
 have := List.pairwise_iff_getElem.1 h i (i + 1) h1 h2 (by omega)
 simpa [h1, h2] using this
theorem whole_on {k : Nat} (h : k < ls.length) : (List.replicate ls.length true).getD k false = true := by simp [List.getD_eq_getElem?_getD, h]
theorem onCnt_le (on : List Bool) : Qf ls on ≤ ls.length := by
 have := List.countP_le_length (p := fun k => on.getD k false) (l := List.range ls.length)
 simpa [Qf] using this
def AllA (_ : Nat) : Prop := True
end
end
section
open Go.RowKit
theorem Qh {x : Nat} : ∀ (l seen : List Nat), x ∈ Uq seen l ↔ x ∈ seen ∨ x ∈ l
 | [], seen => by simp [Uq]
 | y :: l, seen => by
  have e : Uq seen (y :: l) = Uq (if y ∈ seen then seen else seen ++ [y]) l := rfl;rw [e, Qh l]
  split
  ·rename_i h
   constructor
   ·rintro (h1 | h1)
    ·exact .inl h1
    ·exact .inr (List.mem_cons_of_mem _ h1)
   ·rintro (h1 | h1)
    ·exact .inl h1
    ·rcases List.mem_cons.1 h1 with e | h1
     ·rw [e]; exact .inl h
     ·exact .inr h1
  ·rw [List.mem_append, List.mem_singleton, List.mem_cons]
   constructor
   ·rintro ((h1 | h1) | h1)
    ·exact .inl h1
    ·exact .inr (.inl h1)
    ·exact .inr (.inr h1)
   ·rintro (h1 | h1 | h1)
    ·exact .inl (.inl h1)
    ·exact .inl (.inr h1)
    ·exact .inr h1
section
variable {nx : Nat → List Nat} {n : Nat} {from_ : List Nat}
abbrev RcN (nx : Nat → List Nat) : Nat → Nat → Prop := Rc fun x y => y ∈ nx x
theorem closR_total (hnx : ∀ x, x < n → ∀ y ∈ nx x, y < n) : ∀ (f : Nat) (seen : List Nat) (i : Nat), seen.Nodup → (∀ x ∈ seen, x < n) → (∀ x ∈ from_, x ∈ seen) → (∀ x ∈ seen, ∃ s ∈ from_, RcN nx s x) →
  (∀ j (h : j < seen.length), j < i → ∀ y ∈ nx seen[j], y ∈ seen) → i ≤ seen.length → n + 1 - i ≤ f → ∃ r, closR nx f seen i = some r ∧ r.Nodup ∧ (∀ x ∈ r, x < n) ∧ ∀ x, x ∈ r ↔ ∃ s ∈ from_, RcN nx s x
 | 0, seen, i, h1, h2, _, _, _, h6, h7 => by
  have := Jc n seen h1 h2;omega
 | f + 1, seen, i, h1, h2, h3, h4, h5, h6, h7 => by
  have hlen := Jc n seen h1 h2;unfold closR
  by_cases hi : i < seen.length
  ·rw [List.getElem?_eq_getElem hi];simp only;obtain ⟨t, ht⟩ := addS_pre (nx seen[i]) seen;have hx := h2 _ (List.getElem_mem hi)
   refine closR_total hnx f _ (i + 1) (Qz _ _ h1) (fun x hx' => ?_) (fun x hx' => (Qh _ _).2 (.inl (h3 x hx'))) (fun x hx' => ?_) (fun j hj hji y hy => ?_) (by rw [ht, List.length_append]; omega) (by omega)
   ·rcases (Qh _ _).1 hx' with h | h
    ·exact h2 x h
    ·exact hnx _ hx x h
   ·rcases (Qh _ _).1 hx' with h | h
    ·exact h4 x h
    ·obtain ⟨s, hs, hr⟩ := h4 _ (List.getElem_mem hi);exact ⟨s, hs, .tail hr h⟩
   ·have hj2 : j < seen.length := by omega
    have e : (Uq seen (nx seen[i]))[j] = seen[j] := by
     simp only [ht];exact List.getElem_append_left hj2
    rw [e] at hy
    by_cases hje : j = i
    ·subst hje; exact (Qh _ _).2 (.inr hy)
    ·exact (Qh _ _).2 (.inl (h5 j hj2 (by omega) y hy))
  ·have hie : i = seen.length := by omega
   rw [List.getElem?_eq_none (by omega)];refine ⟨seen, rfl, h1, h2, fun x => ⟨h4 x, ?_⟩⟩;rintro ⟨s, hs, hr⟩
   induction hr with
   | refl => exact h3 s hs
   | tail _ e ih =>
    obtain ⟨j, hj, rfl⟩ := List.getElem_of_mem ih;exact h5 j hj (by omega) _ e
theorem addS_sub (hn : ∀ x ∈ from_, x < n) : ∀ x ∈ Uq [] from_, x < n := fun x hx => by
 rcases (Qh _ _).1 hx with h | h
 ·cases h
 ·exact hn x h
theorem closure_total (hnx : ∀ x, x < n → ∀ y ∈ nx x, y < n) (hn : n ≤ 20000) (hf : ∀ x ∈ from_, x < n) : ∃ r, Ql nx from_ = some r ∧ r.Pairwise (· < ·) ∧ (∀ x ∈ r, x < n) ∧ ∀ x, x ∈ r ↔ ∃ s ∈ from_, RcN nx s x := by
 obtain ⟨r, e, h1, h2, h3⟩ := closR_total (from_ := from_) hnx 30000 (Uq [] from_) 0 (Qz _ _ List.nodup_nil) (addS_sub hf) (fun x hx => (Qh _ _).2 (.inr hx)) (fun x hx => by
  rcases (Qh _ _).1 hx with h | h
  ·cases h
  ·exact ⟨x, h, .refl x⟩) (fun j _ h => by omega) (Nat.zero_le _) (by omega)
 refine ⟨Vj r, by unfold Ql; rw [e]; rfl, asc_of (Kz r) ((Uy r).nodup_iff.2 h1), fun x hx => h2 x ((Uy r).mem_iff.1 hx), fun x => by rw [(Uy r).mem_iff, h3]⟩
end
section
variable {ls : List Arrow} {n : Nat}
theorem mem_nxF {x y : Nat} : y ∈ nxF ls x ↔ ∃ k, k < ls.length ∧ Vf ls k = x ∧ Yk ls k = y := by
 unfold nxF
 rw [List.mem_map]
 constructor
 ·rintro ⟨k, hk, rfl⟩;obtain ⟨h1, h2⟩ := mem_outAt.1 hk;exact ⟨k, h1, h2, rfl⟩
 ·rintro ⟨k, h1, h2, rfl⟩;exact ⟨k, mem_outAt.2 ⟨h1, h2⟩, rfl⟩
theorem rcN_wk {x y : Nat} : RcN (nxF ls) x y ↔ ∃ w, Wk ls AllA x w y := by
 constructor
 ·intro h
  induction h with
  | refl => exact ⟨[], .nil _⟩
  | tail _ e ih =>
   obtain ⟨w, hw⟩ := ih;obtain ⟨k, h1, rfl, rfl⟩ := mem_nxF.1 e;exact ⟨_, hw.app (.one h1 trivial)⟩
 ·rintro ⟨w, hw⟩
  induction hw with
  | nil x => exact .refl x
  | @cons k y w hk _ _ ih => exact (Rc.one (mem_nxF.2 ⟨k, hk, rfl, rfl⟩)).trans ih
theorem nxF_lt' (hv : ValidG n ls) (x : Nat) : ∀ y ∈ nxF ls x, y < n := fun y hy => by
 obtain ⟨k, h1, _, rfl⟩ := mem_nxF.1 hy
 rw [toOf_at h1]
 exact (hv.ok _ (List.getElem_mem h1)).2.1
structure ReachOk (ls : List Arrow) (n : Nat) (init r : List Nat) : Prop where
 asc : r.Pairwise (· < ·)
 lt : ∀ x ∈ r, x < n
 mem : ∀ x, x ∈ r ↔ ∃ s ∈ init, ∃ w, Wk ls AllA s w x
theorem reach_closure (hv : ValidG n ls) {init : List Nat} (hi : ∀ x ∈ init, x < n) : ∃ r, Ql (nxF ls) init = some r ∧ ReachOk ls n init r := by
 obtain ⟨r, h1, h2, h3, h4⟩ := closure_total (nx := nxF ls) (fun x _ => nxF_lt' hv x) hv.size hi
 exact ⟨r, h1, h2, h3, fun x => by rw [h4]; exact exists_congr fun s => and_congr_right fun _ => rcN_wk⟩
theorem ReachOk.len {init r : List Nat} (h : ReachOk ls n init r) : r.length ≤ n := Jc n r (h.asc.imp fun h => Nat.ne_of_lt h) h.lt
theorem ReachOk.walk {init r : List Nat} (h : ReachOk ls n init r) {x y : Nat} {w : List Nat} (hw : Wk ls AllA x w y) : x ∈ r → Wk ls (fun k => (List.replicate ls.length true).getD k false = true ∧ Yk ls k ∈ r) x w y := by
 induction hw with
 | nil x => intro _; exact .nil x
 | @cons k y w hk _ _ ih =>
  intro hx
  have : Yk ls k ∈ r := by
   obtain ⟨s, hs, u, hu⟩ := (h.mem _).1 hx;exact (h.mem _).2 ⟨s, hs, _, hu.app (.one hk trivial)⟩
  exact .cons hk ⟨whole_on hk, this⟩ (ih this)
end
end
section
open Go.RowKit
section
variable {ls : List Arrow} {inn en : Nat → Bool} {fr n : Nat}
abbrev InW (ls : List Arrow) (inn : Nat → Bool) := Wk ls fun k => inn k = true
structure Bf (ls : List Arrow) (inn : Nat → Bool) (fr n : Nat) (s : PS) : Prop where
 nodup : s.1.Nodup
 lt : ∀ x ∈ s.1, x < n
 head : s.1[0]? = some fr
 seen : ∀ y, (lk s.2.2 y).getD false = true ↔ y ∈ s.1
 by_ : ∀ j (h : j < s.1.length), 0 < j → Xg s.2.1 s.1[j] < ls.length ∧ inn (Xg s.2.1 s.1[j]) = true ∧ Yk ls (Xg s.2.1 s.1[j]) = s.1[j] ∧ ∃ j', ∃ h' : j' < s.1.length, j' < j ∧ s.1[j'] = Vf ls (Xg s.2.1 s.1[j])
theorem Bf.init (h : fr < n) : Bf ls inn fr n ([fr], [], [(fr, true)]) := by
 refine ⟨by simp, fun x hx => by simp at hx; omega, rfl, fun y => ?_, fun j hj h0 => by simp at hj; omega⟩
 simp only [lk, List.mem_singleton]
 by_cases e : y = fr
 ·simp [e]
 ·simp [e]
theorem Bf.step (hto : ∀ k, k < ls.length → Yk ls k < n) {s : PS} (h : Bf ls inn fr n s) {k : Nat} (hk : k < ls.length) (hfr : Vf ls k ∈ s.1) : Bf ls inn fr n (Zi ls inn s k) ∧ (inn k = true → Yk ls k ∈ (Zi ls inn s k).1) := by
 unfold Zi
 split
 ·rename_i hc;simp only [Bool.and_eq_true, Bool.not_eq_true'] at hc
  have hny : Yk ls k ∉ s.1 := fun hm => by
   have := (h.seen _).2 hm;rw [hc.2] at this
   cases this
  refine ⟨⟨?_, fun x hx => ?_, ?_, fun y => ?_, fun j hj h0 => ?_⟩, fun _ => by simp⟩
  ·exact List.nodup_append.2 ⟨h.nodup, by simp, fun a ha b hb => by rw [List.mem_singleton.1 hb]; exact fun e => hny (e ▸ ha)⟩
  ·rcases List.mem_append.1 hx with hx | hx
   ·exact h.lt x hx
   ·rw [List.mem_singleton.1 hx]; exact hto k hk
  ·have : 0 < s.1.length := by
    have := h.head;exact (List.getElem?_eq_some_iff.1 this).1
   simp only;rw [List.getElem?_append_left this]; exact h.head
  ·simp only;rw [lk_sk]
   by_cases e : y = Yk ls k
   ·simp [e]
   ·rw [if_neg e, h.seen, List.mem_append, List.mem_singleton];exact ⟨.inl, fun h => h.resolve_right e⟩
  ·simp only at hj ⊢
   by_cases hjl : j < s.1.length
   ·have hne : s.1[j] ≠ Yk ls k := fun e => hny (e ▸ List.getElem_mem hjl)
    have hlow : Xg (sk s.2.1 (Yk ls k) k) s.1[j] = Xg s.2.1 s.1[j] := by rw [lowOf_sk, if_neg hne]
    rw [List.getElem_append_left hjl, hlow];obtain ⟨h1, h2, h3, j', hj', h4, h5⟩ := h.by_ j hjl h0;exact ⟨h1, h2, h3, j', by rw [List.length_append]; omega, h4, by rw [List.getElem_append_left hj']; exact h5⟩
   ·have hje : j = s.1.length := by rw [List.length_append, List.length_singleton] at hj; omega
    subst hje;have e : (s.1 ++ [Yk ls k])[s.1.length] = Yk ls k := by simp
    rw [e, lowOf_sk, if_pos rfl];obtain ⟨j', hj', e'⟩ := List.getElem_of_mem hfr;exact ⟨hk, hc.1, rfl, j', by rw [List.length_append]; omega, hj', by rw [List.getElem_append_left hj']; exact e'⟩
 ·rename_i hc;refine ⟨h, fun hi => ?_⟩;simp only [Bool.and_eq_true, Bool.not_eq_true', not_and, Bool.not_eq_false] at hc
  exact (h.seen _).1 (hc hi)
theorem Bf.fold (hto : ∀ k, k < ls.length → Yk ls k < n) : ∀ (ks : List Nat) {s : PS}, Bf ls inn fr n s → (∀ k ∈ ks, k < ls.length ∧ Vf ls k ∈ s.1) →
  Bf ls inn fr n (ks.foldl (Zi ls inn) s) ∧ (∃ t, (ks.foldl (Zi ls inn) s).1 = s.1 ++ t) ∧ ∀ k ∈ ks, inn k = true → Yk ls k ∈ (ks.foldl (Zi ls inn) s).1
 | [], s, h, _ => ⟨h, ⟨[], by simp⟩, fun k hk => by cases hk⟩
 | k :: ks, s, h, hks => by
  obtain ⟨hk, hfr⟩ := hks k (by simp);obtain ⟨h1, h2⟩ := h.step hto hk hfr
  obtain ⟨t0, ht0⟩ : ∃ t, (Zi ls inn s k).1 = s.1 ++ t := by
   unfold Zi
   split
   ·exact ⟨_, rfl⟩
   ·exact ⟨[], by simp⟩
  obtain ⟨h3, ⟨t, ht⟩, h4⟩ := Bf.fold hto ks h1 fun j hj => ⟨(hks j (by simp [hj])).1, by rw [ht0]; exact List.mem_append_left _ (hks j (by simp [hj])).2⟩
  rw [List.foldl_cons];refine ⟨h3, ⟨t0 ++ t, by rw [ht, ht0, List.append_assoc]⟩, fun j hj hi => ?_⟩
  rcases List.mem_cons.1 hj with e | hj
  ·rw [e] at hi ⊢
   rw [ht];exact List.mem_append_left _ (h2 hi)
  ·exact h4 j hj hi
theorem back_total {s : PS} (h : Bf ls inn fr n s) : ∀ (j f : Nat) (hj : j < s.1.length), j < f → ∃ out, backR ls fr s.2.1 f s.1[j] = some out ∧ InW ls inn fr out.reverse s.1[j] ∧ out.length ≤ j
 | j, 0, _, hf => by omega
 | j, f + 1, hj, hf => by
  unfold backR
  by_cases e : s.1[j] = fr
  ·rw [if_pos e];exact ⟨[], rfl, by rw [e]; exact .nil _, Nat.zero_le _⟩
  ·rw [if_neg e]
   have h0 : 0 < j := by
    rcases Nat.eq_zero_or_pos j with e0 | h0
    ·subst e0;have := h.head;rw [List.getElem?_eq_getElem hj, Option.some.injEq] at this
     exact absurd this e
    ·exact h0
   obtain ⟨h1, h2, h3, j', hj', h4, h5⟩ := h.by_ j hj h0;rw [if_pos h1, ← h5];obtain ⟨out, e1, e2, e3⟩ := back_total h j' f hj' (by omega);rw [e1];refine ⟨_, rfl, ?_, by simp only [List.length_cons]; omega⟩;rw [List.reverse_cons];refine e2.app ?_;rw [h5, ← h3];rw [h3];have := Wk.one (P := fun k => inn k = true) h1 h2;rw [h3] at this
   exact this
theorem bf_closed {s : PS} (hcl : ∀ x ∈ s.1, ∀ k, k < ls.length → Vf ls k = x → inn k = true → Yk ls k ∈ s.1) {x y : Nat} {w : List Nat} (hw : InW ls inn x w y) : x ∈ s.1 → y ∈ s.1 := by
 induction hw with
 | nil x => exact fun h => h
 | cons hk hp _ ih => exact fun h => ih (hcl _ h _ hk rfl hp)
theorem pathR_total (hto : ∀ k, k < ls.length → Yk ls k < n) (hn : n ≤ 20000) : ∀ (f : Nat) (s : PS) (i : Nat), Bf ls inn fr n s → i ≤ s.1.length → (∀ j (h : j < s.1.length), j < i → en s.1[j] = false ∧ ∀ k, k < ls.length → Vf ls k = s.1[j] → inn k = true → Yk ls k ∈ s.1) → n + 1 - i ≤ f →
  ∃ way b, pathR ls inn en fr f s i = some (way, b) ∧ (b = true → ∃ y, en y = true ∧ InW ls inn fr way y ∧ way.length < n) ∧ (b = false → way = [] ∧ ∀ w y, InW ls inn fr w y → en y = false)
 | 0, s, i, h, hi, _, hf => by
  have := Jc n s.1 h.nodup h.lt;omega
 | f + 1, s, i, h, hi, hcl, hf => by
  have hlen := Jc n s.1 h.nodup h.lt;unfold pathR
  by_cases hil : i < s.1.length
  ·rw [List.getElem?_eq_getElem hil];simp only
   split
   ·rename_i he;obtain ⟨out, e1, e2, e3⟩ := back_total h i 100000 hil (by omega);rw [e1];exact ⟨_, _, rfl, fun _ => ⟨_, he, e2, by rw [List.length_reverse]; omega⟩, fun h => by cases h⟩
   ·rename_i he
    obtain ⟨h1, ⟨t, ht⟩, h3⟩ := h.fold hto (Xt ls ls.length s.1[i]) fun k hk => by
     obtain ⟨q1, q2⟩ := mem_outAt.1 hk;exact ⟨q1, by rw [q2]; exact List.getElem_mem hil⟩
    refine pathR_total hto hn f _ (i + 1) h1 (by rw [ht, List.length_append]; omega) (fun j hj hji => ?_) (by omega);have hj2 : j < s.1.length := by omega
    have ej : (List.foldl (Zi ls inn) s (Xt ls ls.length s.1[i])).1[j] = s.1[j] := by
     simp only [ht]; exact List.getElem_append_left hj2
    rw [ej]
    by_cases hje : j = i
    ·subst hje;exact ⟨by simpa using he, fun k hk hfr hin => h3 k (mem_outAt.2 ⟨hk, hfr⟩) hin⟩
    ·obtain ⟨q1, q2⟩ := hcl j hj2 (by omega);exact ⟨q1, fun k hk hfr hin => by rw [ht]; exact List.mem_append_left _ (q2 k hk hfr hin)⟩
  ·have hie : i = s.1.length := by omega
   rw [List.getElem?_eq_none (by omega)];refine ⟨[], false, rfl, (fun h => by cases h), fun _ => ⟨rfl, fun w y hw => ?_⟩⟩;have h0 : fr ∈ s.1 := List.mem_of_getElem? h.head
   have hm := bf_closed (s := s) (fun x hx k hk hfr hin => by
    obtain ⟨j, hj, rfl⟩ := List.getElem_of_mem hx;exact (hcl j hj (by omega)).2 k hk hfr hin) hw h0
   obtain ⟨j, hj, rfl⟩ := List.getElem_of_mem hm;exact (hcl j hj (by omega)).1
theorem path_total (hto : ∀ k, k < ls.length → Yk ls k < n) (hn : n ≤ 20000) (hfr : fr < n) : ∃ way b, pathF ls inn en fr = some (way, b) ∧ (b = true → ∃ y, en y = true ∧ InW ls inn fr way y ∧ way.length < n) ∧ (b = false → way = [] ∧ ∀ w y, InW ls inn fr w y → en y = false) :=
 pathR_total hto hn 20002 _ 0 (Bf.init hfr) (Nat.zero_le _) (fun j _ h => by omega) (by omega)
end
end
section
open Go.RowKit
section
variable {ls : List Arrow} {n : Nat} {all : List Nat} {pairs : List (Nat × Nat)}
abbrev InL (ls : List Arrow) (l : List Nat) := Wk ls fun k => k ∈ l
theorem inL_iff {l : List Nat} {x y : Nat} {w : List Nat} : InW ls (fun k => decide (k ∈ l)) x w y ↔ InL ls l x w y :=
 ⟨fun h => h.mono fun _ _ h => of_decide_eq_true h, fun h => h.mono fun _ _ h => decide_eq_true h⟩
structure Pc (ls : List Arrow) (n : Nat) (c l : List Nat) : Prop where
 conn : ∀ x ∈ c, ∀ y ∈ c, ∃ w, InL ls l x w y
 arr : ∀ k ∈ l, k < ls.length ∧ Vf ls k ∈ c ∧ Yk ls k ∈ c
 lt : ∀ x ∈ c, x < n
 ne : l ≠ []
theorem to_lt (hv : ValidG n ls) (k : Nat) (hk : k < ls.length) : Yk ls k < n := by
 rw [toOf_at hk]
 exact (hv.ok _ (List.getElem_mem hk)).2.1
structure Ar (ls : List Arrow) (c l : List Nat) (x : Nat) (s : Nat × List Nat) : Prop where
 at_ : s.1 ∈ c
 walk : InL ls l x s.2 s.1
theorem visit_total (hv : ValidG n ls) {c l : List Nat} (hp : Pc ls n c l) {x : Nat} {s : Nat × List Nat} (hs : Ar ls c l x s) {i : Nat} (hi : i ∈ l) (hb : s.2.length ≤ 1000000) :
  ∃ s', visitR ls (fun k => decide (k ∈ l)) s i = some s' ∧ Ar ls c l x s' ∧ s'.2.length ≤ s.2.length + n ∧ (∃ t, s'.2 = s.2 ++ t) ∧ i ∈ s'.2 := by
 obtain ⟨h1, h2, h3⟩ := hp.arr i hi
 have hsz := hv.size
 obtain ⟨way, b, e, h4, h5⟩ := path_total (inn := fun k => decide (k ∈ l)) (en := fun y => decide (y = Vf ls i)) (to_lt hv) hv.size (hp.lt _ hs.at_)
 obtain ⟨u, hu⟩ := hp.conn _ hs.at_ _ h2
 have hb' : b = true := by
  cases b with
  | true => rfl
  | false => have := (h5 rfl).2 u _ (inL_iff.2 hu); simp at this
 obtain ⟨y, hy, hw, hl⟩ := h4 hb'
 have hye : y = Vf ls i := of_decide_eq_true hy
 unfold visitR
 rw [e]
 simp only
 rw [if_pos (by omega)]
 refine ⟨_, rfl, ⟨h3, ?_⟩, by simp only [List.length_append, List.length_singleton]; omega, ⟨way ++ [i], by simp⟩, by simp⟩
 rw [List.append_assoc]
 refine hs.walk.app ((inL_iff.1 hw).app ?_)
 rw [hye]
 exact .one h1 hi
theorem through_total (hv : ValidG n ls) {c l : List Nat} (hp : Pc ls n c l) {x : Nat} : ∀ (ms : List Nat) (s : Nat × List Nat), Ar ls c l x s → s.2.length + ms.length * n ≤ 1000000 →
  ∃ s', foldO (Vp ls (fun k => decide (k ∈ l)) l) ms s = some s' ∧ Ar ls c l x s' ∧ s'.2.length ≤ s.2.length + ms.length * n ∧ (∃ t, s'.2 = s.2 ++ t) ∧ ∀ m ∈ ms, (∃ k ∈ l, Zv ls k m = true) → ∃ k ∈ s'.2, Zv ls k m = true
 | [], s, hs, hb => ⟨s, rfl, hs, by simp, ⟨[], by simp⟩, fun m hm => by cases hm⟩
 | m :: ms, s, hs, hb => by
  rw [List.length_cons, Nat.add_mul, Nat.one_mul] at hb
  obtain ⟨s1, e1, hs1, hl1, ⟨t1, ht1⟩, hm1⟩ : ∃ s1, Vp ls (fun k => decide (k ∈ l)) l s m = some s1 ∧ Ar ls c l x s1 ∧ s1.2.length ≤ s.2.length + n ∧ (∃ t, s1.2 = s.2 ++ t) ∧ ((∃ k ∈ l, Zv ls k m = true) → ∃ k ∈ s1.2, Zv ls k m = true) := by
   unfold Vp
   rcases hf : l.find? (fun i => Zv ls i m) with _ | i
   ·refine ⟨s, rfl, hs, by omega, ⟨[], by simp⟩, fun ⟨k, hk, hm⟩ => ?_⟩;have := List.find?_eq_none.1 hf k hk;exact absurd hm this
   ·obtain ⟨s1, e1, h2, h3, h4, h5⟩ := visit_total hv hp hs (List.mem_of_find?_eq_some hf) (by omega);have hfm : Zv ls i m = true := List.find?_some (p := fun i => Zv ls i m) hf;exact ⟨s1, e1, h2, h3, h4, fun _ => ⟨i, h5, hfm⟩⟩
  obtain ⟨s', e2, hs', hl2, ⟨t2, ht2⟩, hm2⟩ := through_total hv hp ms s1 hs1 (by omega);refine ⟨s', by simp only [foldO, e1]; exact e2, hs', by rw [List.length_cons, Nat.add_mul, Nat.one_mul]; omega, ⟨t1 ++ t2, by rw [ht2, ht1, List.append_assoc]⟩, fun q hq hex => ?_⟩
  rcases List.mem_cons.1 hq with e | hq
  ·rw [e] at hex ⊢
   obtain ⟨k, hk, hm⟩ := hm1 hex;exact ⟨k, by rw [ht2]; exact List.mem_append_left _ hk, hm⟩
  ·exact hm2 q hq hex
theorem metF_none {l : List Nat} (h : Zh ls l = List.replicate 16 false) {m : Nat} (hm : m < 16) : ∀ k ∈ l, Zv ls k m = false := by
 refine (met_no hm).1 ?_
 rw [h]
 have : ∀ m, m < 16 → (List.replicate 16 false).getD m false = false := by decide
 exact this m hm
theorem around_total (hv : ValidG n ls) (hw : ValidW all pairs) {c l : List Nat} (hp : Pc ls n c l) (hs : Sats ls all pairs l) {x : Nat} (hx : x ∈ c) :
  ∃ w, aroundR ls x l all pairs = some w ∧ w ≠ [] ∧ InL ls l x w x ∧ Sats ls all pairs w ∧ w.length ≤ (n + 1) * 33 := by
 have hsz := hv.size
 have hml : (marksOf all pairs).length ≤ 32 := by
  unfold marksOf;rw [List.length_append, List.length_map];have := hw.all_len;have := hw.pairs_len;omega
 have hm32 : (marksOf all pairs).length * n ≤ 32 * n := Nat.mul_le_mul_right _ hml
 obtain ⟨s1, e1, h1, hl1, hm1⟩ : ∃ s1, (if Zh ls l = List.replicate 16 false then some (x, []) else foldO (Vp ls (fun k => decide (k ∈ l)) l) (marksOf all pairs) (x, [])) = some s1 ∧ Ar ls c l x s1 ∧ s1.2.length ≤ 32 * n ∧ ∀ m ∈ marksOf all pairs, m < 16 → (∃ k ∈ l, Zv ls k m = true) → ∃ k ∈ s1.2, Zv ls k m = true := by
  split
  ·rename_i h0;exact ⟨_, rfl, ⟨hx, .nil x⟩, Nat.zero_le _, fun m _ hm16 ⟨k, hk, hm⟩ => by rw [metF_none h0 hm16 k hk] at hm; cases hm⟩
  ·obtain ⟨s1, q1, q2, q3, _, q4⟩ := through_total hv hp (marksOf all pairs) (x, []) ⟨hx, .nil x⟩ (by simp; omega);exact ⟨s1, q1, q2, by simp at q3; omega, fun m hm _ hex => q4 m hm hex⟩
 have hl0 : l.getD 0 0 ∈ l := by
  obtain ⟨k, r, e⟩ := List.exists_cons_of_ne_nil hp.ne;rw [e]; simp
 obtain ⟨s2, e2, h2, hl2, ⟨t2, ht2⟩, hne2⟩ : ∃ s2, (if s1.2.length = 0 then visitR ls (fun k => decide (k ∈ l)) s1 (l.getD 0 0) else some s1) = some s2 ∧ Ar ls c l x s2 ∧ s2.2.length ≤ 32 * n ∧ (∃ t, s2.2 = s1.2 ++ t) ∧ s2.2 ≠ [] := by
  split
  ·obtain ⟨s2, q1, q2, q3, q4, q5⟩ := visit_total hv hp h1 hl0 (by omega);exact ⟨s2, q1, q2, by omega, q4, List.ne_nil_of_mem q5⟩
  ·rename_i h0;exact ⟨s1, rfl, h1, by omega, ⟨[], by simp⟩, fun e => h0 (by rw [e]; rfl)⟩
 obtain ⟨way, b, e3, h4, h5⟩ := path_total (inn := fun k => decide (k ∈ l)) (en := fun y => decide (y = x)) (to_lt hv) hv.size (hp.lt _ h2.at_)
 obtain ⟨u, hu⟩ := hp.conn _ h2.at_ _ hx
 have hb' : b = true := by
  cases b with
  | true => rfl
  | false => have := (h5 rfl).2 u _ (inL_iff.2 hu); simp at this
 obtain ⟨y, hy, hwy, hwl⟩ := h4 hb'
 have hye : y = x := of_decide_eq_true hy
 subst hye
 have hwalk := h2.walk.app (inL_iff.1 hwy)
 have hmark : ∀ m ∈ marksOf all pairs, m < 16 → (∃ k ∈ l, Zv ls k m = true) → ∃ k ∈ s2.2 ++ way, Zv ls k m = true := fun m hm hm16 hex => by
  obtain ⟨k, hk, hmm⟩ := hm1 m hm hm16 hex;exact ⟨k, List.mem_append_left _ (by rw [ht2]; exact List.mem_append_left _ hk), hmm⟩
 refine ⟨s2.2 ++ way, ?_, fun e => hne2 (List.append_eq_nil_iff.1 e).1, hwalk, ⟨fun m hm => ?_, fun p hpm ⟨k, hk, hmm⟩ => ?_⟩, ?_⟩
 ·unfold aroundR;rw [e1];simp only;rw [e2];simp only;rw [e3];simp only;rw [if_pos (by omega)]
 ·exact hmark m (List.mem_append_left _ hm) (hw.all_ok m hm) (hs.1 m hm)
 ·exact hmark p.2 (List.mem_append_right _ (List.mem_map.2 ⟨p, hpm, rfl⟩)) (hw.pairs_ok p hpm).2 (hs.2 p hpm ⟨k, (hwalk.all k hk).2, hmm⟩)
 ·rw [List.length_append, Nat.add_mul, Nat.mul_comm n 33];omega
end
end
section
open Go.RowKit
section
variable {ls : List Arrow} {n : Nat} {all : List Nat} {pairs : List (Nat × Nat)}
theorem wk_last {P : Nat → Prop} {x y : Nat} {w : List Nat} (h : Wk ls P x w y) : endOf ls w x = y := by
 induction h with
 | nil x => simp [endOf]
 | @cons k y w hk hp hw ih =>
  unfold endOf at ih ⊢
  rw [if_pos (by simp)]
  rcases w with _ | ⟨j, w⟩
  ·simpa using ih
  ·rw [if_pos (by simp)] at ih
   rw [← ih];have e : (k :: j :: w).length - 1 = (j :: w).length - 1 + 1 := by simp
   rw [e];rfl
structure RdOk (ls : List Arrow) (n : Nat) (all : List Nat) (pairs : List (Nat × Nat)) (init : List Nat) (r : Rd) : Prop where
 start : r.1 ∈ init
 round : ∃ y, Wk ls AllA r.1 r.2.1 y ∧ Wk ls AllA y r.2.2 y
 ne : r.2.2 ≠ []
 sats : Sats ls all pairs r.2.2
 stem : r.2.1.length ≤ n
 loop : r.2.2.length ≤ (n + 1) * 33
theorem any_all {x y : Nat} {w : List Nat} : InW ls (fun _ => true) x w y ↔ Wk ls AllA x w y := ⟨fun h => h.mono fun _ _ _ => trivial, fun h => h.mono fun _ _ _ => rfl⟩
theorem GoodOk.pc {nodes : List Nat} {on : List Bool} {xs : GL} (h : GoodOk ls all pairs nodes on xs) (hn : ∀ x ∈ nodes, x < n) {p : List Nat × List Nat} (hp : p ∈ xs) : Pc ls n p.1 p.2 :=
 ⟨h.conn p hp, fun k hk => ⟨(h.within p hp k hk).1, (h.within p hp k hk).2.2⟩, fun x hx => hn x (h.sub p hp x hx), h.arrow p hp⟩
theorem findC_total (hv : ValidG n ls) (hw : ValidW all pairs) {p : List Nat × List Nat} (hp : Pc ls n p.1 p.2) (hs : Sats ls all pairs p.2) : ∀ (xs : List Nat), (∀ x ∈ xs, x < n) → (∃ x ∈ xs, ∃ w y, Wk ls AllA x w y ∧ y ∈ p.1) → ∃ r, findC ls all pairs p xs = some (some r) ∧ RdOk ls n all pairs xs r
 | [], _, ⟨x, hx, _⟩ => by cases hx
 | x :: xs, hx, hex => by
  have hsz := hv.size;obtain ⟨way, b, e, h1, h2⟩ := path_total (inn := fun _ => true) (en := fun y => p.1.contains y) (to_lt hv) hv.size (hx x (by simp));unfold findC;rw [e];cases b with
  | true =>
   obtain ⟨y, hy, hwy, hl⟩ := h1 rfl;have hyc : y ∈ p.1 := by simpa using hy
   simp only
   rw [if_pos (by
    simp only [Bool.and_eq_true, List.all_eq_true, decide_eq_true_eq];exact ⟨fun k hk => (hwy.all k hk).1, by omega⟩), wk_last hwy]
   obtain ⟨lo, e2, h3, h4, h5, h6⟩ := around_total hv hw hp hs hyc;rw [e2];exact ⟨_, rfl, by simp, ⟨y, any_all.1 hwy, h4.mono fun _ _ _ => trivial⟩, h3, h5, by show way.length ≤ n; omega, h6⟩
  | false =>
   simp only
   obtain ⟨r, e2, h3⟩ := findC_total hv hw hp hs xs (fun y hy => hx y (by simp [hy])) (by
    obtain ⟨z, hz, w, y, hwy, hy⟩ := hex
    rcases List.mem_cons.1 hz with e | hz
    ·subst e;have := (h2 rfl).2 w y (any_all.2 hwy);simp [hy] at this
    ·exact ⟨z, hz, w, y, hwy, hy⟩)
   exact ⟨r, e2, by simp [h3.start], h3.round, h3.ne, h3.sats, h3.stem, h3.loop⟩
def NoCore (ls : List Arrow) (all : List Nat) (pairs : List (Nat × Nat)) (init : List Nat) : Prop := ∀ x ∈ init, ∀ w y, Wk ls AllA x w y → ¬ Uz ls all pairs AllA y
theorem find_total (hv : ValidG n ls) (hw : ValidW all pairs) (hl : ls.length < 400) (hb : n * (ls.length + 3) ≤ 1000000) {init : List Nat} (hi : ∀ x ∈ init, x < n) :
  (∃ r, findR n ls all pairs init = some (some r) ∧ RdOk ls n all pairs init r) ∨ (findR n ls all pairs init = some none ∧ NoCore ls all pairs init) := by
 obtain ⟨reached, e1, hR⟩ := reach_closure hv hi
 have hsz := hv.size
 have hRl := hR.len
 obtain ⟨xs, e2, hG⟩ := good_total hw hv.size hb 400 reached (List.replicate ls.length true) (Nat.lt_of_le_of_lt (onCnt_le _) hl) hR.lt hRl
 have hstart : findR n ls all pairs init = findG ls all pairs init xs := by
  unfold findR;rw [e1];simp only
  rw [if_pos (by
   simp only [Bool.and_eq_true, List.all_eq_true, decide_eq_true_eq];exact ⟨hR.lt, by omega⟩), e2]
 rw [hstart]
 rcases xs with _ | ⟨p, ps⟩
 ·refine .inr ⟨rfl, fun x hx w y hwy ⟨v, hne, hv', hs⟩ => ?_⟩;have hyr : y ∈ reached := (hR.mem y).2 ⟨x, hx, w, hwy⟩;obtain ⟨p, hp, _⟩ := hG.full y v hyr hne (hR.walk hv' hyr) hs;cases hp
 ·have hp : p ∈ p :: ps := by simp
  have hpc := hG.pc hR.lt hp
  have hasc := asc_of (hG.sorted p hp) (by
   have := hG.nodup;rw [List.flatMap_cons] at this
   exact (List.nodup_append.1 this).1)
  have hlen := Jc n p.1 (hasc.imp fun h => Nat.ne_of_lt h) hpc.lt
  have hok : okG ls p = true := by
   unfold okG;simp only [Bool.and_eq_true, List.all_eq_true, decide_eq_true_eq];refine ⟨⟨⟨⟨strictly_of hasc, by omega⟩, fun k hk => (hpc.arr k hk).1⟩, List.length_pos_iff.2 hpc.ne⟩, ?_⟩;have h1 := hG.len p hp;have h2 := Nat.mul_le_mul (Nat.le_trans hlen hv.size) (show ls.length ≤ 200000 from hv.len);omega
  obtain ⟨y, yr, hy⟩ := List.exists_cons_of_ne_nil (hG.ne p hp);have hyp : y ∈ p.1 := by rw [hy]; simp
  obtain ⟨s, hs, u, hu⟩ := (hR.mem y).1 (hG.sub p hp y hyp);obtain ⟨r, e3, h3⟩ := findC_total hv hw hpc (hG.sats p hp) init hi ⟨s, hs, u, y, hu, hyp⟩;refine .inl ⟨r, ?_, h3⟩;unfold findG;rw [if_pos hok, e3]
end
end
section
open Go.RowKit
theorem lenB {n k : Nat} {b : Bool} (h : decide ((n : Int) ≤ (k : Int)) = b) : decide (n ≤ k) = b := by
 rw [← h, decide_eq_decide]; omega
theorem lenB2 (n k : Nat) : decide ((n : Int) ≤ (k : Int)) = decide (n ≤ k) := by rw [decide_eq_decide]; omega
def smallB (n : Int) (init : List Int) (ls : List ArrowI) (all : List Int) (pairs : List (Int × Int)) : Bool :=
 (decide (n ≤ 12) || decide (n > 20000)) && decide (init.length ≤ 40) && decide (ls.length ≤ 40) && decide (all.length ≤ 40) && decide (pairs.length ≤ 40)
theorem small_spec (g : Ghost) (n : Int) (vi vl va vp : Value) (init : List Int) (ls : List ArrowI) (all : List Int) (pairs : List (Int × Int)) (hi : RS kInt g vi init) (hl : RS Jl g vl ls) (ha : RS kInt g va all) (hp : RS Vh g vp pairs) :
  Cl PP 5 [.agg #[.int .i64 n, vi, vl, va, vp]] g [] (Det (.bool (smallB n init ls all pairs))) := by
 obtain ⟨ai, ci, rfl⟩ := hi.form
 obtain ⟨al, cl, rfl⟩ := hl.form
 obtain ⟨aa, ca, rfl⟩ := ha.form
 obtain ⟨ap, cp, rfl⟩ := hp.form
 have hB : smallB n init ls all pairs = ((decide (n ≤ 12) || decide (n > 20000)) && decide (init.length ≤ 40) && decide (ls.length ≤ 40) && decide (all.length ≤ 40) && decide (pairs.length ≤ 40)) := rfl
 refine Xj Tryz.func5 rfl rfl Tryz.ntmps5 rfl ?_
 intro w F hs
 refine Y2 ?_
 refine Yi hs rfl rfl rfl rfl ?_; clear hs; intro nb w hs
 refine Y4 ?_
 refine zL0 ?_
 refine zP ?_
 refine Xr 6 rfl (fun q1 => ?_) (fun q1 => ?_)
 ·have q1' : decide (n ≤ 12) = true := q1;have hq : (decide (n ≤ 12) || decide (n > 20000)) = true := by rw [q1']; rfl
  refine zG ?_;refine zL0 ?_;refine zG ?_
  refine Xr 17 rfl (fun e2 => ?_) (fun e2 => ?_)
  ·have e2' := lenB e2;refine zG ?_;refine zL0 ?_;refine zG ?_
   refine Xr 23 rfl (fun e3 => ?_) (fun e3 => ?_)
   ·have e3' := lenB e3;refine zG ?_;refine zL0 ?_;refine zG ?_
    refine Xr 30 rfl (fun e4 => ?_) (fun e4 => ?_)
    ·have e4' := lenB e4;refine zG ?_;refine zL0 ?_;refine Y40 ?_;refine Xb (Xo rfl rfl) ⟨g, [], Ghost.rfl', hs.drop, rfl, ?_⟩;rw [hB, hq, e2', e3', e4'];exact congrArg Value.bool (lenB2 pairs.length 40)
    ·have e4' := lenB e4;refine Y40 ?_;exact Xb (Xo rfl rfl) ⟨g, [], Ghost.rfl', hs.drop, rfl, by rw [hB, hq, e2', e3', e4']; rfl⟩
   ·have e3' := lenB e3;refine Y40 ?_;exact Xb (Xo rfl rfl) ⟨g, [], Ghost.rfl', hs.drop, rfl, by rw [hB, hq, e2', e3']; rfl⟩
  ·have e2' := lenB e2;refine Y40 ?_;exact Xb (Xo rfl rfl) ⟨g, [], Ghost.rfl', hs.drop, rfl, by rw [hB, hq, e2']; rfl⟩
 ·have q1' : decide (n ≤ 12) = false := q1;refine zG ?_;refine zL0 ?_;refine zG ?_
  refine Xr 11 rfl (fun q2 => ?_) (fun q2 => ?_)
  ·have q2' : decide (n > 20000) = true := q2;have hq : (decide (n ≤ 12) || decide (n > 20000)) = true := by rw [q1', q2']; rfl
   refine zG ?_;refine zL0 ?_;refine zG ?_
   refine Xr 17 rfl (fun e2 => ?_) (fun e2 => ?_)
   ·have e2' := lenB e2;refine zG ?_;refine zL0 ?_;refine zG ?_
    refine Xr 23 rfl (fun e3 => ?_) (fun e3 => ?_)
    ·have e3' := lenB e3;refine zG ?_;refine zL0 ?_;refine zG ?_
     refine Xr 30 rfl (fun e4 => ?_) (fun e4 => ?_)
     ·have e4' := lenB e4;refine zG ?_;refine zL0 ?_;refine Y40 ?_;refine Xb (Xo rfl rfl) ⟨g, [], Ghost.rfl', hs.drop, rfl, ?_⟩;rw [hB, hq, e2', e3', e4'];exact congrArg Value.bool (lenB2 pairs.length 40)
     ·have e4' := lenB e4;refine Y40 ?_;exact Xb (Xo rfl rfl) ⟨g, [], Ghost.rfl', hs.drop, rfl, by rw [hB, hq, e2', e3', e4']; rfl⟩
    ·have e3' := lenB e3;refine Y40 ?_;exact Xb (Xo rfl rfl) ⟨g, [], Ghost.rfl', hs.drop, rfl, by rw [hB, hq, e2', e3']; rfl⟩
   ·have e2' := lenB e2;refine Y40 ?_;exact Xb (Xo rfl rfl) ⟨g, [], Ghost.rfl', hs.drop, rfl, by rw [hB, hq, e2']; rfl⟩
  ·have q2' : decide (n > 20000) = false := q2;have hq : (decide (n ≤ 12) || decide (n > 20000)) = false := by rw [q1', q2']; rfl
   refine Y40 ?_;exact Xb (Xo rfl rfl) ⟨g, [], Ghost.rfl', hs.drop, rfl, by rw [hB, hq]; rfl⟩
def briefB (stem loop : List Int) : Bool := decide (stem.length ≤ 60) && decide (loop.length ≤ 200)
theorem brief_spec (g : Ghost) (start : Value) (vs vl : Value) (stem loop : List Int) (h1 : RS kInt g vs stem) (h2 : RS kInt g vl loop) : Cl PP 7 [.agg #[start, vs, vl]] g [] (Det (.bool (briefB stem loop))) := by
 obtain ⟨a1, c1, rfl⟩ := h1.form
 obtain ⟨a2, c2, rfl⟩ := h2.form
 refine Xj Tryz.func7 rfl rfl Tryz.ntmps7 rfl ?_
 intro w F hs
 refine Y2 ?_
 refine Yi hs rfl rfl rfl rfl ?_; clear hs; intro b w hs
 refine Y4 ?_
 refine zL0 ?_
 refine zP ?_
 refine Xr 7 rfl (fun q1 => ?_) (fun q1 => ?_)
 ·have q1' := lenB q1;refine zG ?_;refine zL0 ?_;refine Y40 ?_;refine Xb (Xo rfl rfl) ⟨g, [], Ghost.rfl', hs.drop, rfl, ?_⟩;unfold briefB;rw [q1'];exact congrArg Value.bool (lenB2 loop.length 200)
 ·have q1' := lenB q1;refine Y40 ?_;refine Xb (Xo rfl rfl) ⟨g, [], Ghost.rfl', hs.drop, rfl, ?_⟩;unfold briefB;rw [q1']; rfl
def sampleL : List ArrowI := [⟨0, 1, 0⟩, ⟨1, 0, 1⟩, ⟨1, 2, 2⟩, ⟨2, 2, 0⟩]
theorem sample_spec (g : Ghost) (va vp : Value) (h1 : va.oneCell' = true) (h2 : vp.oneCell' = true) : Cl PP 17 [.agg #[va, vp]] g [] fun g' L' r => L' = [] ∧ ∃ vi vl, r = .agg #[.int .i64 3, vi, vl, va, vp] ∧ RS kInt g' vi [0] ∧ RS Jl g' vl sampleL := by
 refine Xj Tryz.func17 rfl rfl Tryz.ntmps17 rfl ?_
 intro w F hs
 refine Y2 ?_
 refine Yi hs rfl rfl rfl rfl ?_; clear hs; intro wb w hs
 refine Yp hs rfl rfl rfl ?_; clear hs; intro rb w hs
 refine Y9 ?_
 refine Ug (ps := [(0, .const (.int .i64 0))]) hs rfl rfl rfl rfl rfl rfl rfl rfl rfl rfl ?_
 clear hs; intro ib w hs
 refine Yg (ps := [(0, .const (.int .i64 0)), (1, .const (.int .i64 1))]) rfl rfl rfl rfl rfl rfl rfl ?_
 refine Yg (ps := [(0, .const (.int .i64 1)), (1, .const (.int .i64 0)), (2, .const (.int .u32 1))]) rfl rfl rfl rfl rfl rfl rfl ?_
 refine Yg (ps := [(0, .const (.int .i64 1)), (1, .const (.int .i64 2)), (2, .const (.int .u32 2))]) rfl rfl rfl rfl rfl rfl rfl ?_
 refine Yg (ps := [(0, .const (.int .i64 2)), (1, .const (.int .i64 2))]) rfl rfl rfl rfl rfl rfl rfl ?_
 refine Ug (ps := [(0, .tmp 4), (1, .tmp 5), (2, .tmp 6), (3, .tmp 7)]) hs rfl rfl rfl rfl rfl rfl rfl rfl rfl rfl ?_
 clear hs; intro lb w hs
 refine Vy hs 3 rfl rfl rfl rfl rfl rfl rfl ?_
 refine Yg (ps := [(0, .const (.int .i64 3)), (1, .tmp 3), (2, .tmp 8), (3, .tmp 9)]) rfl rfl rfl rfl rfl rfl rfl ?_
 refine Yx (cs := [.int .i64 3, .slice (some ⟨ib, 0, none⟩) 1 1, .slice (some ⟨lb, 0, none⟩) 4 4, va, vp]) hs 2 rfl rfl rfl rfl rfl (Nat.le_of_ble_eq_true rfl) (by simp only [List.all_cons, List.all_nil, h1, h2]; rfl) rfl ?_
 clear hs; intro w hs
 refine zn ?_
 obtain ⟨g1, hg1, hs, hlb⟩ := freezeB hs
 obtain ⟨g2, hg2, hs, hib⟩ := freezeB hs
 refine Xb (resCN (k := 0) hs rfl rfl rfl rfl rfl rfl) ⟨g2, [], Ghost.tr hg1 hg2, hs.drop.drop, rfl, _, _, rfl, RS.mk' rfl hib fun i hi => ?_, RS.mk' rfl (hlb.mono hg2) fun i hi => ?_⟩
 ·rcases i with _ | i
  ·rfl
  ·simp at hi
 ·simp only [sampleL, List.length_cons, List.length_nil] at hi
  rcases i with _ | _ | _ | _ | i
  ·rfl
  ·rfl
  ·rfl
  ·rfl
  ·omega
end
section
open Go.RowKit
structure Row where
 all : List Int
 pairs : List (Int × Int)
 want : List Int
def saneRows : List Row := [⟨[], [], [0, 1, 2]⟩, ⟨[0], [], [0, 1]⟩, ⟨[0, 1], [], []⟩, ⟨[], [(0, 1)], [2]⟩, ⟨[0], [(0, 1)], []⟩]
def DF : Nat := 200
def rowOk (r : Row) : Bool :=
 (coresI 3 sampleL r.all r.pairs == some (r.want.map Int.toNat, 0)) && r.want.all (fun x => decide (0 ≤ x)) &&
 (match findI 3 [0] sampleL r.all r.pairs with | some (o, e) => (o.isSome == decide (0 < r.want.length)) && e == 0 | none => false) &&
 (match proveI (DF + 1) 3 [0] sampleL r.all r.pairs with | some (o, e) => (o.isSome == !decide (0 < r.want.length)) && e == 0 | none => false)
theorem rows_ok : saneRows.all rowOk = true := by decide +kernel
def dTwo : Drop := .mk 3 0 [2] [] []
def dBoth : Drop := .mk 3 1 [0, 1] [] []
def dAll : Drop := .mk 1 0 [0, 1, 2] [1, 1, 0] [dTwo, dBoth]
theorem sane_rest : (Vw 3 [0] sampleL [] [(0, 1)] 0 [] [0, 1] == (false, 0) && Vw 3 [0] sampleL [] [(1, 0)] 0 [] [0, 1] == (true, 0) &&
 verifyI (DF + 1) 3 [0] sampleL [0, 1] [] dAll == some 0 && verifyI (DF + 1) 3 [0] sampleL [0, 1] [] dTwo == some 312) = true := by decide +kernel
end
section
open Go.RowKit
def kRow : Kd Row := ⟨3, fun g cs r => ∃ va vp vw, cs = [va, vp, vw] ∧ RS kInt g va r.all ∧ RS Vh g vp r.pairs ∧ RS kInt g vw r.want, fun ⟨_, _, _, e, _⟩ => by rw [e]; rfl, fun hg ⟨va, vp, vw, e, h1, h2, h3⟩ => ⟨va, vp, vw, e, h1.mono hg, h2.mono hg, h3.mono hg⟩⟩
structure RowOk (r : Row) : Prop where
 cores : coresI 3 sampleL r.all r.pairs = some (r.want.map Int.toNat, 0)
 nonneg : (r.want.map Int.toNat).map Int.ofNat = r.want
 find : ∃ o, findI 3 [0] sampleL r.all r.pairs = some (o, 0) ∧ o.isSome = decide (0 < r.want.length)
 prove : ∃ o, proveI (DF + 1) 3 [0] sampleL r.all r.pairs = some (o, 0) ∧ o.isSome = !decide (0 < r.want.length)
theorem rowOk_iff {r : Row} (h : rowOk r = true) : RowOk r := by
 simp only [rowOk, Bool.and_eq_true] at h
 obtain ⟨⟨⟨h1, h2⟩, h3⟩, h4⟩ := h
 refine ⟨eq_of_beq h1, ?_, ?_, ?_⟩
 ·rw [List.map_map];refine (List.map_congr_left (g := id) fun x hx => ?_).trans (List.map_id _);have := of_decide_eq_true (List.all_eq_true.1 h2 x hx)
  show Int.ofNat x.toNat = x
  exact Int.toNat_of_nonneg this
 ·split at h3
  ·rename_i o e q;simp only [Bool.and_eq_true] at h3
   have := eq_of_beq h3.2;subst this;exact ⟨o, q, eq_of_beq h3.1⟩
  ·cases h3
 ·split at h4
  ·rename_i o e q;simp only [Bool.and_eq_true] at h4
   have := eq_of_beq h4.2;subst this;exact ⟨o, q, eq_of_beq h4.1⟩
  ·cases h4
theorem sane_acc : Vw 3 [0] sampleL [] [(0, 1)] 0 [] [0, 1] = (false, 0) ∧ Vw 3 [0] sampleL [] [(1, 0)] 0 [] [0, 1] = (true, 0) ∧ verifyI (DF + 1) 3 [0] sampleL [0, 1] [] dAll = some 0 ∧ verifyI (DF + 1) 3 [0] sampleL [0, 1] [] dTwo = some 312 := by
 have h := sane_rest
 simp only [Bool.and_eq_true] at h
 exact ⟨eq_of_beq h.1.1.1, eq_of_beq h.1.1.2, eq_of_beq h.1.2, eq_of_beq h.2⟩
theorem dTwo_ok (k : Nat) : DropOk (k + 1) dTwo := ⟨by simp [dTwo, Drop.l], by simp [dTwo, Drop.nodes], by simp [dTwo, Drop.rank], fun i h => by simp [dTwo, Drop.l] at h⟩
theorem dBoth_ok (k : Nat) : DropOk (k + 1) dBoth := ⟨by simp [dBoth, Drop.l], by simp [dBoth, Drop.nodes], by simp [dBoth, Drop.rank], fun i h => by simp [dBoth, Drop.l] at h⟩
theorem dAll_ok (k : Nat) : DropOk (k + 1 + 1) dAll := ⟨by simp [dAll, Drop.l], by simp [dAll, Drop.nodes], by simp [dAll, Drop.rank], fun i h => by
 simp only [dAll, Drop.l, List.length_cons, List.length_nil] at h
 rcases i with _ | _ | i
 ·exact dTwo_ok k
 ·exact dBoth_ok k
 ·omega⟩
theorem sane_spec (g : Ghost) : Cl PP 4 [] g [] (Det (.bool true)) := by
 obtain ⟨acc1, acc2, ver1, ver2⟩ := sane_acc
 refine Xj Tryz.func4 rfl rfl Tryz.ntmps4 rfl ?_
 intro w F hs
 refine Y13 ?_
 refine Yg (ps := []) rfl rfl rfl rfl rfl rfl rfl ?_
 refine Ug (ps := [(0, .const (.int .i64 0)), (1, .const (.int .i64 1)), (2, .const (.int .i64 2))]) hs rfl rfl rfl rfl rfl rfl rfl rfl rfl rfl ?_
 clear hs; intro b22 w hs
 refine Yg (ps := [(0, .tmp 21), (1, .tmp 22)]) rfl rfl rfl rfl rfl rfl rfl ?_
 refine Ug (ps := [(0, .const (.int .i64 0))]) hs rfl rfl rfl rfl rfl rfl rfl rfl rfl rfl ?_
 clear hs; intro b24 w hs
 refine Yg (ps := [(0, .tmp 24)]) rfl rfl rfl rfl rfl rfl rfl ?_
 refine Ug (ps := [(0, .const (.int .i64 0)), (1, .const (.int .i64 1))]) hs rfl rfl rfl rfl rfl rfl rfl rfl rfl rfl ?_
 clear hs; intro b26 w hs
 refine Yg (ps := [(0, .tmp 25), (1, .tmp 26)]) rfl rfl rfl rfl rfl rfl rfl ?_
 refine Ug (ps := [(0, .const (.int .i64 0)), (1, .const (.int .i64 1))]) hs rfl rfl rfl rfl rfl rfl rfl rfl rfl rfl ?_
 clear hs; intro b28 w hs
 refine Yg (ps := [(0, .tmp 28)]) rfl rfl rfl rfl rfl rfl rfl ?_
 refine Yg (ps := [(0, .tmp 29), (1, .const (.slice none 0 0))]) rfl rfl rfl rfl rfl rfl rfl ?_
 refine wl_buildA (ps := [(0, .const (.int .i64 0)), (1, .const (.int .i64 1))]) rfl rfl rfl rfl rfl rfl rfl rfl rfl ?_
 refine Ug (ps := [(0, .tmp 31)]) hs rfl rfl rfl rfl rfl rfl rfl rfl rfl rfl ?_
 clear hs; intro b32 w hs
 refine Yg (ps := [(1, .tmp 32)]) rfl rfl rfl rfl rfl rfl rfl ?_
 refine Ug (ps := [(0, .const (.int .i64 2))]) hs rfl rfl rfl rfl rfl rfl rfl rfl rfl rfl ?_
 clear hs; intro b34 w hs
 refine Yg (ps := [(0, .tmp 33), (1, .tmp 34)]) rfl rfl rfl rfl rfl rfl rfl ?_
 refine Ug (ps := [(0, .const (.int .i64 0))]) hs rfl rfl rfl rfl rfl rfl rfl rfl rfl rfl ?_
 clear hs; intro b36 w hs
 refine wl_buildA (ps := [(0, .const (.int .i64 0)), (1, .const (.int .i64 1))]) rfl rfl rfl rfl rfl rfl rfl rfl rfl ?_
 refine Ug (ps := [(0, .tmp 37)]) hs rfl rfl rfl rfl rfl rfl rfl rfl rfl rfl ?_
 clear hs; intro b38 w hs
 refine Yg (ps := [(0, .tmp 36), (1, .tmp 38)]) rfl rfl rfl rfl rfl rfl rfl ?_
 refine Yg (ps := [(0, .tmp 39), (1, .const (.slice none 0 0))]) rfl rfl rfl rfl rfl rfl rfl ?_
 refine Ug (ps := [(0, .tmp 23), (1, .tmp 27), (2, .tmp 30), (3, .tmp 35), (4, .tmp 40)]) hs rfl rfl rfl rfl rfl rfl rfl rfl rfl rfl ?_
 clear hs; intro b41 w hs
 refine Y7 ?_
 obtain ⟨g1, hg1, hs, hb41⟩ := freezeB hs
 obtain ⟨g2, hg2, hs, hb38⟩ := freezeB hs
 obtain ⟨g3, hg3, hs, hb36⟩ := freezeB hs
 obtain ⟨g4, hg4, hs, hb34⟩ := freezeB hs
 obtain ⟨g5, hg5, hs, hb32⟩ := freezeB hs
 obtain ⟨g6, hg6, hs, hb28⟩ := freezeB hs
 obtain ⟨g7, hg7, hs, hb26⟩ := freezeB hs
 obtain ⟨g8, hg8, hs, hb24⟩ := freezeB hs
 obtain ⟨g9, hg9, hs, hb22⟩ := freezeB hs
 replace hs := (show St g9 w F from hs)
 replace hb41 := hb41.mono (Ghost.tr hg2 (Ghost.tr hg3 (Ghost.tr hg4 (Ghost.tr hg5 (Ghost.tr hg6 (Ghost.tr hg7 (Ghost.tr hg8 (hg9))))))))
 replace hb38 := hb38.mono (Ghost.tr hg3 (Ghost.tr hg4 (Ghost.tr hg5 (Ghost.tr hg6 (Ghost.tr hg7 (Ghost.tr hg8 (hg9)))))))
 replace hb36 := hb36.mono (Ghost.tr hg4 (Ghost.tr hg5 (Ghost.tr hg6 (Ghost.tr hg7 (Ghost.tr hg8 (hg9))))))
 replace hb34 := hb34.mono (Ghost.tr hg5 (Ghost.tr hg6 (Ghost.tr hg7 (Ghost.tr hg8 (hg9)))))
 replace hb32 := hb32.mono (Ghost.tr hg6 (Ghost.tr hg7 (Ghost.tr hg8 (hg9))))
 replace hb28 := hb28.mono (Ghost.tr hg7 (Ghost.tr hg8 (hg9)))
 replace hb26 := hb26.mono (Ghost.tr hg8 (hg9))
 replace hb24 := hb24.mono (hg9)
 replace hb22 := hb22.mono (Ghost.rfl')
 have hg09 : g ≤ g9 := Ghost.tr hg1 (Ghost.tr hg2 (Ghost.tr hg3 (Ghost.tr hg4 (Ghost.tr hg5 (Ghost.tr hg6 (Ghost.tr hg7 (Ghost.tr hg8 (hg9))))))))
 have hrows : RS kRow g9 (.slice (some ⟨b41, 0, none⟩) 5 5) saneRows := RS.mk' rfl hb41 fun i hi => by
  simp only [saneRows, List.length_cons, List.length_nil] at hi
  rcases i with _ | _ | _ | _ | _ | i
  ·exact ⟨_, _, _, rfl, RS.nil _ _ _ _, RS.nil _ _ _ _, RS.ofFlat [0, 1, 2] rfl hb22⟩
  ·exact ⟨_, _, _, rfl, RS.ofFlat [0] rfl hb24, RS.nil _ _ _ _, RS.ofFlat [0, 1] rfl hb26⟩
  ·exact ⟨_, _, _, rfl, RS.ofFlat [0, 1] rfl hb28, RS.nil _ _ _ _, RS.nil _ _ _ _⟩
  ·exact ⟨_, _, _, rfl, RS.nil _ _ _ _, RS.ofFlat [(0, 1)] rfl hb32, RS.ofFlat [2] rfl hb34⟩
  ·exact ⟨_, _, _, rfl, RS.ofFlat [0] rfl hb36, RS.ofFlat [(0, 1)] rfl hb38, RS.nil _ _ _ _⟩
  ·omega
 clear hb41
 clear hb38
 clear hb36
 clear hb34
 clear hb32
 clear hb28
 clear hb26
 clear hb24
 clear hb22
 have hall := rows_ok
 rw [List.all_eq_true] at hall
 refine Yw 5 (fun _ (_ : Unit) => [(42, .int .i64 5), (41, .slice (some ⟨b41, 0, none⟩) 5 5)]) (fun _ (_ : Unit) w => ∃ g', g9 ≤ g' ∧ St g' w F) () (by omega) (by repeat (first | exact trivial | refine ⟨rfl, ?_⟩)) ⟨g9, Ghost.rfl', hs⟩ (fun _ _ => rfl) rfl rfl rfl ?_ ?_ (fun _ _ => rfl) rfl
 ·rintro i _ w hi ⟨g10, hg10, hs⟩;have hg010 := Ghost.tr hg09 hg10;have hR := hrows.mono hg10;have hi5 : i < saneRows.length := hi;obtain ⟨cs, ⟨va, vp, vw, rfl, ra, rp, rw_⟩, hl⟩ := hR.get hi5;have hO := rowOk_iff (hall _ (List.getElem_mem hi5));generalize saneRows[i] = r at ra rp rw_ hO
  refine Y2 ?_;refine Yb rfl rfl rfl rfl rfl (by omega) (hR.base hi5) rfl rfl ?_;refine Yj (cs := [va, vp, vw]) hs (Lies.of_eaddr hl) rfl rfl rfl rfl rfl rfl ?_;refine Yp hs rfl rfl rfl ?_; clear hs; intro rwb w hs;refine Yx (cs := [va, vp, vw]) hs 0 rfl rfl rfl rfl rfl (Nat.le_of_ble_eq_true rfl) (by simp only [List.all_cons, List.all_nil, ra.one, rp.one, rw_.one]; rfl) rfl ?_
  clear hs; intro w hs;refine zn ?_;replace hs := (show St g10 w ((rwb, Xa [va, vp, vw] 54) :: F) from hs)
  obtain ⟨g11, hg11, hs, hrw⟩ := freezeB hs;replace hrw := (show Lies g11 rwb 0 [va, vp, vw] from hrw)
  refine Y0 ?_;refine Yj (cs := [va, vp]) hs hrw.at0 rfl rfl rfl rfl rfl rfl ?_;refine Xf (L := []) rfl rfl rfl hs (sample_spec g11 va vp ra.one rp.one) ?_;rintro u g12 L' w hg12 hs ⟨rfl, vi, vl, rfl, ri, rl⟩;refine Yp hs rfl rfl rfl ?_; clear hs; intro nb w hs
  refine Yx (cs := [.int .i64 3, vi, vl, va, vp]) hs 0 rfl rfl rfl rfl rfl (Nat.le_of_ble_eq_true rfl) (by simp only [List.all_cons, List.all_nil, ra.one, rp.one, ri.one, rl.one]; rfl) rfl ?_;clear hs; intro w hs;refine zn ?_;replace hs := (show St g12 w ((nb, Xa [.int .i64 3, vi, vl, va, vp] 28) :: F) from hs)
  obtain ⟨g13, hg13, hs, hnb⟩ := freezeB hs;replace hnb := (show Lies g13 nb 0 [.int .i64 3, vi, vl, va, vp] from hnb)
  replace hs := (show St g13 w F from hs)
  have hg1013 := Ghost.tr hg11 (Ghost.tr hg12 hg13);replace ra := ra.mono hg1013;replace rp := rp.mono hg1013;replace rw_ := rw_.mono hg1013;replace ri := ri.mono hg13;replace rl := rl.mono hg13;have hrw13 := hrw.mono (Ghost.tr hg12 hg13);have hl4 : sampleL.length ≤ 4611686018427387904 := by simp [sampleL]
  have hi1 : ([0] : List Int).length ≤ 4611686018427387904 := by simp
  have hC := Xz 3 [0] sampleL r.all r.pairs
  obtain ⟨hlen_a, hlen_p⟩ : r.all.length ≤ 4611686018427387904 ∧ r.pairs.length ≤ 4611686018427387904 := by
   have hc : Xz 3 [] sampleL r.all r.pairs = 0 := by
    have := hO.cores;unfold coresI at this
    split at this
    ·assumption
    ·simp only [Option.some.injEq, Prod.mk.injEq] at this
     exact this.2
   have h1 := (Jn hc).all.len (by omega);have h2 := (Jn hc).plen;omega
  refine Y0 ?_;refine Xd hs (hnb 0 _ rfl) rfl rfl rfl rfl rfl ?_;refine zP ?_;refine Xd hs (hnb 2 _ rfl) rfl rfl rfl rfl rfl ?_;refine zP ?_;refine Yj (cs := [va, vp]) hs hnb.at3 rfl rfl rfl rfl rfl rfl ?_;refine Xf (L := []) rfl rfl rfl hs (Cores_spec g13 3 _ _ _ sampleL r.all r.pairs rl ra rp hl4 hlen_a hlen_p _ hO.cores) ?_;rintro u g14 L' w hg14 hs ⟨rfl, vc, rfl, rc⟩
  obtain ⟨ac, cc, rfl⟩ := rc.form;refine Y7 ?_;obtain ⟨of, hof, hofs⟩ := hO.find;obtain ⟨op, hop, hops⟩ := hO.prove;refine Y0 ?_;refine Xd hs (hnb.mono hg14 0 _ rfl) rfl rfl rfl rfl rfl ?_;refine zP ?_;refine Xd hs (hnb.mono hg14 1 _ rfl) rfl rfl rfl rfl rfl ?_;refine zP ?_;refine Xd hs (hnb.mono hg14 2 _ rfl) rfl rfl rfl rfl rfl ?_;refine zP ?_
  refine Yj (cs := [va, vp]) hs (hnb.mono hg14).at3 rfl rfl rfl rfl rfl rfl ?_;refine Xf (L := []) rfl rfl rfl hs (Find_spec g14 3 _ _ _ _ [0] sampleL r.all r.pairs (ri.mono hg14) (rl.mono hg14) (ra.mono hg14) (rp.mono hg14) hi1 hl4 hlen_a hlen_p _ hof) ?_;rintro u g15 L' w hg15 hs ⟨rfl, vs, vlo, rfl, rs1, rs2⟩;have hg1315 := Ghost.tr hg14 hg15;refine zP ?_
  refine Yp hs rfl rfl rfl ?_; clear hs; intro fb w hs;refine Yx (cs := [.int .i64 (((of, (0 : Int)).1.getD (0, [], [])).1 : Int), vs, vlo]) hs 0 rfl rfl rfl rfl rfl (Nat.le_of_ble_eq_true rfl) (by simp only [List.all_cons, List.all_nil, rs1.one, rs2.one]; rfl) rfl ?_;clear hs; intro w hs;refine Y7 ?_;replace hs := hs.drop;refine Y0 ?_
  refine Xd hs (hnb.mono hg1315 0 _ rfl) rfl rfl rfl rfl rfl ?_;refine zP ?_;refine Xd hs (hnb.mono hg1315 1 _ rfl) rfl rfl rfl rfl rfl ?_;refine zP ?_;refine Xd hs (hnb.mono hg1315 2 _ rfl) rfl rfl rfl rfl rfl ?_;refine zP ?_;refine Yj (cs := [va, vp]) hs (hnb.mono hg1315).at3 rfl rfl rfl rfl rfl rfl ?_
  refine Xf (L := []) rfl rfl rfl hs (Prove_spec DF g15 3 _ _ _ _ [0] sampleL r.all r.pairs (ri.mono hg1315) (rl.mono hg1315) (ra.mono hg1315) (rp.mono hg1315) hi1 hl4 hlen_a hlen_p _ hop) ?_;rintro u g16 L' w hg16 hs ⟨rfl, cd, rfl, hdr⟩;have hg1316 := Ghost.tr hg1315 hg16;obtain ⟨d1, d2, d3, d4, d5, rfl, hone⟩ := hdr.cells5;refine zP ?_
  refine Yp hs rfl rfl rfl ?_; clear hs; intro pb w hs;refine Yx (cs := [d1, d2, d3, d4, d5]) hs 0 rfl rfl rfl rfl rfl (Nat.le_of_ble_eq_true rfl) hone rfl ?_;clear hs; intro w hs;refine Y7 ?_;have hs16 : St g16 w F := hs.drop;have hofs' : (of, (0 : Int)).1.isSome = decide (0 < r.want.length) := hofs;have hops' : (op, (0 : Int)).1.isSome = !decide (0 < r.want.length) := hops
  rw [hofs', hops'];obtain ⟨aw, cw, hvw⟩ := rw_.form;subst hvw;have hs : St g16 w F := by assumption
  have hw2 : decide (((r.want.length : Nat) : Int) > 0) = decide (0 < r.want.length) := by rw [decide_eq_decide]; omega
  have hwl : r.want.length ≤ 4611686018427387904 := by
   have h1 := hO.cores;unfold coresI at h1
   split at h1
   ·obtain ⟨c, hc1, hc2⟩ := Option.map_eq_some_iff.1 h1;have := (coresR_lt hc1).2;simp only [Prod.mk.injEq] at hc2
    rw [hc2.1, List.length_map] at this
    omega
   ·simp only [Option.some.injEq, Prod.mk.injEq] at h1
    have : r.want.length = 0 := by have := congrArg List.length h1.1; simpa using this.symm
    omega
  refine Y2 ?_;refine zG ?_;refine Xd hs (hrw13.mono hg1316 2 _ rfl) rfl rfl rfl rfl rfl ?_;refine Xf (L := []) rfl rfl rfl hs (equal_spec g16 _ _ _ r.want ((rc.mono (Ghost.tr hg15 hg16)).ofNat) (rw_.mono hg1316) (by rw [hO.nonneg]; exact hwl)) ?_;rintro u g17 L' w hg17 hs ⟨rfl, rfl⟩;rw [decide_eq_true hO.nonneg];have hg1317 := Ghost.tr hg1316 hg17;refine zG ?_
  refine Xd hs (hrw13.mono hg1317 2 _ rfl) rfl rfl rfl rfl rfl ?_;refine zG ?_;refine wl_neqB false (by rw [hw2]; cases decide (0 < r.want.length) <;> rfl) rfl rfl rfl rfl rfl rfl ?_;refine zG ?_;refine wl_eqB false (by cases decide (0 < r.want.length) <;> rfl) rfl rfl rfl rfl rfl rfl ?_;refine Y40 ?_
  refine Yy rfl rfl (Xq (Xh (Xx () hi (by omega) ⟨g17, Ghost.tr hg10 (Ghost.tr hg1013 hg1317), hs⟩ rfl rfl rfl (by repeat (first | exact trivial | refine ⟨rfl, ?_⟩)))))
 ·rintro _ w ⟨g10, hg10, hs⟩;have hg010 := Ghost.tr hg09 hg10;refine Y27 ?_;refine wl_buildA (ps := [(0, .const (.int .i64 0)), (1, .const (.int .i64 1))]) rfl rfl rfl rfl rfl rfl rfl rfl rfl ?_;refine Ug (ps := [(0, .tmp 117)]) hs rfl rfl rfl rfl rfl rfl rfl rfl rfl rfl ?_;clear hs; intro pb w hs;refine Yg (ps := [(1, .tmp 118)]) rfl rfl rfl rfl rfl rfl rfl ?_
  refine Xf (L := []) rfl rfl rfl hs (sample_spec g10 (.slice none 0 0) (.slice (some ⟨pb, 0, none⟩) 1 1) rfl rfl) ?_;rintro u g11 L' w hg11 hs ⟨rfl, vi, vl, rfl, ri, rl⟩;refine Yp hs rfl rfl rfl ?_; clear hs; intro nb w hs
  refine Yx (cs := [.int .i64 3, vi, vl, .slice none 0 0, .slice (some ⟨pb, 0, none⟩) 1 1]) hs 0 rfl rfl rfl rfl rfl (Nat.le_of_ble_eq_true rfl) (by simp only [List.all_cons, List.all_nil, ri.one, rl.one]; rfl) rfl ?_;clear hs; intro w hs;refine Y9 ?_;refine Ug (ps := [(0, .const (.int .i64 0)), (1, .const (.int .i64 1))]) hs rfl rfl rfl rfl rfl rfl rfl rfl rfl rfl ?_
  clear hs; intro lb w hs;refine Yg (ps := [(2, .tmp 121)]) rfl rfl rfl rfl rfl rfl rfl ?_;refine Yp hs rfl rfl rfl ?_; clear hs; intro rb w hs;refine Yx hs 0 rfl rfl rfl rfl rfl (Nat.le_of_ble_eq_true rfl) rfl rfl ?_; clear hs; intro w hs;refine zn ?_
  replace hs := (show St g11 w ((lb, Xa [.int .i64 0, .int .i64 1] 3) :: (rb, Xa [.int .i64 0, .slice none 0 0, .slice (some ⟨lb, 0, none⟩) 2 2] 34) :: (nb, Xa [.int .i64 3, vi, vl, .slice none 0 0, .slice (some ⟨pb, 0, none⟩) 1 1] 28) :: (pb, Xa [.int .i64 0, .int .i64 1] 55) :: F) from hs.perm (by classical exact List.perm_iff_count.2 fun x => by simp only [List.append_eq, List.set_cons_succ, List.set_cons_zero, List.eraseIdx_cons_zero, List.eraseIdx_cons_succ, List.count_cons, List.count_append, List.cons_append, List.nil_append, List.append_nil, List.append_assoc] <;> ac_rfl))
  obtain ⟨g12, hg12, hs, hlb⟩ := freezeB hs;obtain ⟨g13, hg13, hs, hrb⟩ := freezeB hs;have hg1013 := Ghost.tr hg11 (Ghost.tr hg12 hg13);have hg013 := Ghost.tr hg010 hg1013;replace hlb := hlb.mono hg13;replace ri := ri.mono (Ghost.tr hg12 hg13);replace rl := rl.mono (Ghost.tr hg12 hg13);have rlo : RS kInt g13 (.slice (some ⟨lb, 0, none⟩) 2 2) [0, 1] := RS.ofFlat [0, 1] rfl hlb
  replace hs := (show St g13 w ((pb, Xa [.int .i64 0, .int .i64 1] 55) :: (nb, Xa [.int .i64 3, vi, vl, .slice none 0 0, .slice (some ⟨pb, 0, none⟩) 1 1] 28) :: F) from hs.perm (by classical exact List.perm_iff_count.2 fun x => by simp only [List.append_eq, List.set_cons_succ, List.set_cons_zero, List.eraseIdx_cons_zero, List.eraseIdx_cons_succ, List.count_cons, List.count_append, List.cons_append, List.nil_append, List.append_nil, List.append_assoc] <;> ac_rfl))
  have hsA := hs;obtain ⟨g14, hg14, hs, hpb, hpH⟩ := freezeH hs;have rp : RS Vh g14 (.slice (some ⟨pb, 0, none⟩) 1 1) [(0, 1)] := RS.ofFlat [(0, 1)] rfl hpb;refine Y0 ?_;refine zL0 ?_;refine zP ?_;refine zL0 ?_;refine zP ?_;refine zL0 ?_;refine zP ?_;refine wl_ldON hs 0 rfl rfl rfl rfl rfl rfl rfl ?_
  refine Yj (cs := [.int .i64 0, .slice none 0 0, .slice (some ⟨lb, 0, none⟩) 2 2]) hs (hrb.mono hg14).at' rfl rfl rfl rfl rfl rfl ?_
  refine Xf (L := []) rfl rfl rfl hs (accepts_spec g14 3 _ _ _ _ _ _ [0] sampleL [] [(0, 1)] 0 [] [0, 1] (ri.mono hg14) (rl.mono hg14) (RS.nil _ _ _ _) rp (RS.nil _ _ _ _) (rlo.mono hg14) (by simp) (by simp [sampleL]) (by simp) (by simp) (by simp) (by simp)) ?_;rintro u g15 L' w hg15 hs15 ⟨rfl, rfl⟩;rw [acc1];have hs := hsA.thaw hg14 hpH hg15 hs15;refine Y4 ?_;refine zL1 ?_
  refine wl_buildA (ps := [(0, .const (.int .i64 1)), (1, .const (.int .i64 0))]) rfl rfl rfl rfl rfl rfl rfl rfl rfl ?_;refine wl_ixO rfl rfl rfl rfl rfl (by omega) rfl rfl ?_;refine Yx hs 0 rfl rfl rfl rfl rfl (Nat.le_of_ble_eq_true rfl) rfl rfl ?_; clear hs; intro w hs;refine zn ?_
  replace hs := (show St g13 w ((pb, Xa [.int .i64 1, .int .i64 0] 55) :: (nb, Xa [.int .i64 3, vi, vl, .slice none 0 0, .slice (some ⟨pb, 0, none⟩) 1 1] 28) :: F) from hs)
  obtain ⟨g16, hg16, hs, hpb⟩ := freezeB hs;have rp : RS Vh g16 (.slice (some ⟨pb, 0, none⟩) 1 1) [(1, 0)] := RS.ofFlat [(1, 0)] rfl hpb;refine Y0 ?_;refine zL0 ?_;refine zP ?_;refine zL0 ?_;refine zP ?_;refine zL0 ?_;refine zP ?_;refine wl_ldON hs 0 rfl rfl rfl rfl rfl rfl rfl ?_
  refine Yj (cs := [.int .i64 0, .slice none 0 0, .slice (some ⟨lb, 0, none⟩) 2 2]) hs (hrb.mono hg16).at' rfl rfl rfl rfl rfl rfl ?_
  refine Xf (L := []) rfl rfl rfl hs (accepts_spec g16 3 _ _ _ _ _ _ [0] sampleL [] [(1, 0)] 0 [] [0, 1] (ri.mono hg16) (rl.mono hg16) (RS.nil _ _ _ _) rp (RS.nil _ _ _ _) (rlo.mono hg16) (by simp) (by simp [sampleL]) (by simp) (by simp) (by simp) (by simp)) ?_;rintro u g17 L' w hg17 hs ⟨rfl, rfl⟩;rw [acc2];have hg1317 := Ghost.tr hg16 hg17;refine Y6 ?_
  refine Ug (ps := [(0, .const (.int .i64 0)), (1, .const (.int .i64 1))]) hs rfl rfl rfl rfl rfl rfl rfl rfl rfl rfl ?_;clear hs; intro ab w hs;refine Yg (ps := [(0, .tmp 154)]) rfl rfl rfl rfl rfl rfl rfl ?_;refine zP ?_;refine Yx hs 1 rfl rfl rfl rfl rfl (Nat.le_of_ble_eq_true rfl) rfl rfl ?_; clear hs; intro w hs;refine Y9 ?_
  refine Ug (ps := [(0, .const (.int .i64 2))]) hs rfl rfl rfl rfl rfl rfl rfl rfl rfl rfl ?_;clear hs; intro e1 w hs;refine Yg (ps := [(0, .const (.int .i64 3)), (2, .tmp 157)]) rfl rfl rfl rfl rfl rfl rfl ?_;refine Yp hs rfl rfl rfl ?_; clear hs; intro d1 w hs;refine Yx hs 0 rfl rfl rfl rfl rfl (Nat.le_of_ble_eq_true rfl) rfl rfl ?_; clear hs; intro w hs;refine Y9 ?_
  refine Ug (ps := [(0, .const (.int .i64 0)), (1, .const (.int .i64 1))]) hs rfl rfl rfl rfl rfl rfl rfl rfl rfl rfl ?_;clear hs; intro e2 w hs;refine Yg (ps := [(0, .const (.int .i64 3)), (1, .const (.int .i64 1)), (2, .tmp 159)]) rfl rfl rfl rfl rfl rfl rfl ?_;refine Yp hs rfl rfl rfl ?_; clear hs; intro d2 w hs
  refine Yx hs 0 rfl rfl rfl rfl rfl (Nat.le_of_ble_eq_true rfl) rfl rfl ?_; clear hs; intro w hs;refine Y9 ?_;refine Ug (ps := [(0, .const (.int .i64 0)), (1, .const (.int .i64 1)), (2, .const (.int .i64 2))]) hs rfl rfl rfl rfl rfl rfl rfl rfl rfl rfl ?_;clear hs; intro e3 w hs
  refine Ug (ps := [(0, .const (.int .i64 1)), (1, .const (.int .i64 1)), (2, .const (.int .i64 0))]) hs rfl rfl rfl rfl rfl rfl rfl rfl rfl rfl ?_;clear hs; intro e4 w hs;refine Vy hs 4 rfl rfl rfl rfl rfl rfl rfl ?_;refine Vy hs 2 rfl rfl rfl rfl rfl rfl rfl ?_;refine Ug (ps := [(0, .tmp 163), (1, .tmp 164)]) hs rfl rfl rfl rfl rfl rfl rfl rfl rfl rfl ?_;clear hs; intro e5 w hs
  refine Yg (ps := [(0, .const (.int .i64 1)), (2, .tmp 161), (3, .tmp 162), (4, .tmp 165)]) rfl rfl rfl rfl rfl rfl rfl ?_;refine Yp hs rfl rfl rfl ?_; clear hs; intro d3 w hs;refine Yx hs 0 rfl rfl rfl rfl rfl (Nat.le_of_ble_eq_true rfl) rfl rfl ?_; clear hs; intro w hs;refine zn ?_
  replace hs := (show St g17 w ((d3, Xa [.int .i64 1, .int .i64 0, .slice (some ⟨e3, 0, none⟩) 3 3, .slice (some ⟨e4, 0, none⟩) 3 3, .slice (some ⟨e5, 0, none⟩) 2 2] 62) :: (e5, Xa [.int .i64 3, .int .i64 0, .slice (some ⟨e1, 0, none⟩) 1 1, .slice none 0 0, .slice none 0 0, .int .i64 3, .int .i64 1, .slice (some ⟨e2, 0, none⟩) 2 2, .slice none 0 0, .slice none 0 0] 62) :: (e4, Xa [.int .i64 1, .int .i64 1, .int .i64 0] 3) :: (e3, Xa [.int .i64 0, .int .i64 1, .int .i64 2] 3) ::
   (d2, Xa [.int .i64 3, .int .i64 1, .slice (some ⟨e2, 0, none⟩) 2 2, .slice none 0 0, .slice none 0 0] 62) :: (e2, Xa [.int .i64 0, .int .i64 1] 3) :: (d1, Xa [.int .i64 3, .int .i64 0, .slice (some ⟨e1, 0, none⟩) 1 1, .slice none 0 0, .slice none 0 0] 62) :: (e1, Xa [.int .i64 2] 3) :: (ab, Xa [.int .i64 0, .int .i64 1] 3) :: (nb, Xa [.int .i64 3, vi, vl, .slice (some ⟨ab, 0, none⟩) 2 2, .slice none 0 0] 28) :: F) from hs)
  obtain ⟨g18, hg18, hs, hd3⟩ := freezeB hs;obtain ⟨g19, hg19, hs, he5⟩ := freezeB hs;obtain ⟨g20, hg20, hs, he4⟩ := freezeB hs;obtain ⟨g21, hg21, hs, he3⟩ := freezeB hs;obtain ⟨g22, hg22, hs, hd2⟩ := freezeB hs;obtain ⟨g23, hg23, hs, he2⟩ := freezeB hs;obtain ⟨g24, hg24, hs, hd1⟩ := freezeB hs;obtain ⟨g25, hg25, hs, he1⟩ := freezeB hs
  obtain ⟨g26, hg26, hs, hab⟩ := freezeB hs;obtain ⟨g27, hg27, hs, hnb⟩ := freezeB hs;replace hd3 := hd3.mono (Ghost.tr hg19 (Ghost.tr hg20 (Ghost.tr hg21 (Ghost.tr hg22 (Ghost.tr hg23 (Ghost.tr hg24 (Ghost.tr hg25 (Ghost.tr hg26 (hg27)))))))));replace he5 := he5.mono (Ghost.tr hg20 (Ghost.tr hg21 (Ghost.tr hg22 (Ghost.tr hg23 (Ghost.tr hg24 (Ghost.tr hg25 (Ghost.tr hg26 (hg27))))))))
  replace he4 := he4.mono (Ghost.tr hg21 (Ghost.tr hg22 (Ghost.tr hg23 (Ghost.tr hg24 (Ghost.tr hg25 (Ghost.tr hg26 (hg27)))))));replace he3 := he3.mono (Ghost.tr hg22 (Ghost.tr hg23 (Ghost.tr hg24 (Ghost.tr hg25 (Ghost.tr hg26 (hg27))))));replace hd2 := hd2.mono (Ghost.tr hg23 (Ghost.tr hg24 (Ghost.tr hg25 (Ghost.tr hg26 (hg27)))))
  replace he2 := he2.mono (Ghost.tr hg24 (Ghost.tr hg25 (Ghost.tr hg26 (hg27))));replace hd1 := hd1.mono (Ghost.tr hg25 (Ghost.tr hg26 (hg27)));replace he1 := he1.mono (Ghost.tr hg26 (hg27));replace hab := hab.mono (hg27);replace hnb := hnb.mono (Ghost.rfl')
  have hg1727 := Ghost.tr hg18 (Ghost.tr hg19 (Ghost.tr hg20 (Ghost.tr hg21 (Ghost.tr hg22 (Ghost.tr hg23 (Ghost.tr hg24 (Ghost.tr hg25 (Ghost.tr hg26 (hg27)))))))));have hg1327 := Ghost.tr hg1317 hg1727;have hg027 := Ghost.tr hg013 hg1327;replace ri := ri.mono hg1327;replace rl := rl.mono hg1327;have rall : RS kInt g27 (.slice (some ⟨ab, 0, none⟩) 2 2) [0, 1] := RS.ofFlat [0, 1] rfl hab
  have rTwo : ∀ k, DropRn (k + 1) g27 [.int .i64 3, .int .i64 0, .slice (some ⟨e1, 0, none⟩) 1 1, .slice none 0 0, .slice none 0 0] dTwo := fun k => DropRn.close (d := dTwo) (RS.ofFlat [2] rfl he1) (RS.nil _ _ _ _) (RS.nil _ _ _ _)
  have rBoth : ∀ k, DropRn (k + 1) g27 [.int .i64 3, .int .i64 1, .slice (some ⟨e2, 0, none⟩) 2 2, .slice none 0 0, .slice none 0 0] dBoth := fun k => DropRn.close (d := dBoth) (RS.ofFlat [0, 1] rfl he2) (RS.nil _ _ _ _) (RS.nil _ _ _ _)
  have rAll : DropRn (DF + 1) g27 [.int .i64 1, .int .i64 0, .slice (some ⟨e3, 0, none⟩) 3 3, .slice (some ⟨e4, 0, none⟩) 3 3, .slice (some ⟨e5, 0, none⟩) 2 2] dAll := DropRn.close (d := dAll) (RS.ofFlat [0, 1, 2] rfl he3) (RS.ofFlat [1, 1, 0] rfl he4) (RS.mk' rfl he5 fun i hi => by
   simp only [dAll, Drop.l, List.length_cons, List.length_nil] at hi
   rcases i with _ | _ | i
   ·exact rTwo 199
   ·exact rBoth 199
   ·omega)
  refine Y2 ?_;refine zG ?_;refine Xd hs (hnb 0 _ rfl) rfl rfl rfl rfl rfl ?_;refine zG ?_;refine Xd hs (hnb 1 _ rfl) rfl rfl rfl rfl rfl ?_;refine zG ?_;refine Xd hs (hnb 2 _ rfl) rfl rfl rfl rfl rfl ?_;refine zG ?_;refine Yj (cs := [.slice (some ⟨ab, 0, none⟩) 2 2, .slice none 0 0]) hs hnb.at3 rfl rfl rfl rfl rfl rfl ?_;refine Yj hs hd3.at' rfl rfl rfl rfl rfl rfl ?_
  refine Xf (L := []) rfl rfl rfl hs (Verify_spec (DF + 1) g27 3 _ _ _ _ _ [0] sampleL [0, 1] [] dAll ri rl rall (RS.nil _ _ _ _) rAll (dAll_ok 199) (by simp) (by simp [sampleL]) (by simp) (by simp) _ ver1) ?_;rintro u g28 L' w hg28 hs ⟨rfl, rfl⟩;refine zG ?_;refine Xd hs (hnb.mono hg28 0 _ rfl) rfl rfl rfl rfl rfl ?_;refine zG ?_
  refine Xd hs (hnb.mono hg28 1 _ rfl) rfl rfl rfl rfl rfl ?_;refine zG ?_;refine Xd hs (hnb.mono hg28 2 _ rfl) rfl rfl rfl rfl rfl ?_;refine zG ?_;refine Yj (cs := [.slice (some ⟨ab, 0, none⟩) 2 2, .slice none 0 0]) hs (hnb.mono hg28).at3 rfl rfl rfl rfl rfl rfl ?_;refine Yj hs (hd1.mono hg28).at' rfl rfl rfl rfl rfl rfl ?_
  refine Xf (L := []) rfl rfl rfl hs (Verify_spec (DF + 1) g28 3 _ _ _ _ _ [0] sampleL [0, 1] [] dTwo (ri.mono hg28) (rl.mono hg28) (rall.mono hg28) (RS.nil _ _ _ _) ((rTwo DF).mono hg28) (dTwo_ok DF) (by simp) (by simp [sampleL]) (by simp) (by simp) _ ver2) ?_;rintro u g29 L' w hg29 hs ⟨rfl, rfl⟩;refine Y40 ?_
  exact Xb (Xo rfl rfl) ⟨g29, [], Ghost.tr hg027 (Ghost.tr hg28 hg29), hs, rfl, rfl⟩
end
section
open Go.RowKit
section
variable {P : Program} [Tabbed P] {ρ : Env} {w : World} {g : Ghost} {L : Own}
theorem resCT {fn : Func} {t1 t2 : Tmp} {ty1 E1 b1 k1 : Nat} {l1 : List Value} {v2 : Value} {te1 : TE} (hs : St g w L) (h : fn.results = #[.cell t1 ty1, .tmp t2])
  (h1 : Ye ρ t1 = some (.pointer (some ⟨b1, 0, none⟩))) (h2 : Ye ρ t2 = some v2)
  (hk1 : L[k1]? = some (b1, Xa l1 E1)) (ht1 : Xc (tb P) ty1 = some te1) (hA1 : te1.td.isAgg = true) (hl : l1.length = te1.zs.length) : ResV P fn ρ w (.tuple #[.agg l1.toArray, v2]) := fun _ _ a ha => by
 have c1 := Qa (P := P) w ht1 hA1 (a := ⟨b1, 0, none⟩) hl (fun j v hv => by rw [Yo]; exact hs.cellL (Za hk1) (by simpa using hv))
 simp only [results, h]; simp [Jx ha h1, Jx ha h2, asAddr, c1]
end
end
section
open Go.RowKit
section
variable {n : Int} {init : List Int} {ls : List ArrowI} {all : List Int} {pairs : List (Int × Int)} {start : Int} {stem loop : List Int}
theorem accepts_of (h : Xz n init ls all pairs = 0) : Vw n init ls all pairs start stem loop = if Yz init (ls.map toA) start stem loop = true then (satF (Zh (ls.map toA) (loop.map Int.toNat)) (all.map Int.toNat) (pairs.map toP), 0) else (false, 322) := by
 unfold Vw
 rw [if_pos h]
end
end
section
open Go.RowKit
end
section
open Go.RowKit
theorem small_bound {n l : Nat} (hn : n ≤ 12) (hl : l ≤ 41) : n * (l + 3) ≤ 1000000 := by
 have := Nat.mul_le_mul hn (show l + 3 ≤ 44 by omega)
 omega
theorem hasM_at {ls : List Arrow} {k m : Nat} (h : k < ls.length) : Zv ls k m = (ls[k]).ms.testBit m := by unfold Zv; rw [List.getElem?_eq_getElem h]
end
section
open Go.RowKit
section
variable {ls : List Arrow}
theorem follow_of {P : Nat → Prop} {x y : Nat} {w : List Nat} (h : Wk ls P x w y) : Yl ls (w.map Int.ofNat) (x : Int) = some (y : Int) := by
 induction h with
 | nil x => rfl
 | @cons k y w hk _ _ ih =>
  rw [List.map_cons];unfold Yl
  have e1 : Jz ls (Int.ofNat k) (Vf ls k : Int) = true := by
   unfold Jz;rw [show (Int.ofNat k).toNat = k from rfl, List.getElem?_eq_getElem hk, frOf_at hk];simp
  have e2 : stepTo ls (Int.ofNat k) = (Yk ls k : Int) := by
   unfold stepTo;rw [show (Int.ofNat k).toNat = k from rfl, List.getElem?_eq_getElem hk, toOf_at hk]
  rw [if_pos e1, e2];exact ih
end
section
variable {n : Int} {init : List Int} {ls : List ArrowI} {all : List Int} {pairs : List (Int × Int)}
theorem findI_small (hC : Xz n init ls all pairs = 0) (hn : n ≤ 12) (hl : ls.length ≤ 41) :
  (∃ r, findI n init ls all pairs = some (some r, 0) ∧ RdOk (ls.map toA) n.toNat (all.map Int.toNat) (pairs.map toP) (init.map Int.toNat) r) ∨
  (findI n init ls all pairs = some (none, 0) ∧ NoCore (ls.map toA) (all.map Int.toNat) (pairs.map toP) (init.map Int.toNat)) := by
 have hk := Jn hC
 have hi : ∀ x ∈ init.map Int.toNat, x < n.toNat := fun x hx => by
  obtain ⟨y, hy, rfl⟩ := List.mem_map.1 hx;have := hk.init.low y hy;omega
 unfold findI
 rw [if_pos hC]
 rcases find_total hk.validG hk.validW (by simpa using Nat.lt_of_le_of_lt hl (by decide)) (by simpa using small_bound (n := n.toNat) (by omega) hl) hi with ⟨r, e, h⟩ | ⟨e, h⟩
 ·exact .inl ⟨r, by rw [e]; rfl, h⟩
 ·exact .inr ⟨by rw [e]; rfl, h⟩
theorem accepts_found (hC : Xz n init ls all pairs = 0) {r : Rd} (h : RdOk (ls.map toA) n.toNat (all.map Int.toNat) (pairs.map toP) (init.map Int.toNat) r) : Vw n init ls all pairs (r.1 : Int) (r.2.1.map Int.ofNat) (r.2.2.map Int.ofNat) = (true, 0) := by
 have hk := Jn hC
 obtain ⟨y, h1, h2⟩ := h.round
 rw [accepts_of hC, if_pos]
 ·have e : (r.2.2.map Int.ofNat).map Int.toNat = r.2.2 := by rw [List.map_map]; exact (List.map_congr_left (g := id) (fun x _ => rfl)).trans (List.map_id _)
  rw [e, (satF_iff hk.validW).2 h.sats]
 ·unfold Yz;rw [follow_of h1];simp only;rw [follow_of h2]
  have hst : (init.any fun y => ((r.1 : Nat) : Int) == y) = true := by
   obtain ⟨z, hz, e⟩ := List.mem_map.1 h.start;have := hk.init.low z hz;refine List.any_eq_true.2 ⟨z, hz, ?_⟩;rw [beq_iff_eq];omega
  rw [hst];have := h.ne;simp [this]
end
end
section
open Go.RowKit
section
variable {ls : List Arrow} {n : Nat}
theorem wk_split {P : Nat → Prop} {x y k : Nat} {B : List Nat} : ∀ {A : List Nat}, Wk ls P x (A ++ k :: B) y → Wk ls P x A (Vf ls k) ∧ Wk ls P (Vf ls k) (k :: B) y := by
 intro A
 induction A generalizing x with
 | nil =>
  intro h;have := h.head;rw [this];exact ⟨.nil x, h⟩
 | cons j A ih =>
  intro h;rw [List.cons_append] at h
  cases h with
  | cons hk hp hw =>
   obtain ⟨h1, h2⟩ := ih hw;exact ⟨.cons hk hp h1, h2⟩
end
section
variable {n : Int} {init : List Int} {ls : List ArrowI} {all : List Int} {pairs : List (Int × Int)}
end
end
section
open Go.RowKit
section
variable (ls : List Arrow)
def Zp (inn : List Bool) (m : Nat) : Bool := (List.range ls.length).any fun i => inn.getD i false && Zv ls i m
def satR (all : List Nat) (pairs : List (Nat × Nat)) (inn : List Bool) : Bool := all.all (fun m => Zp ls inn m) && pairs.all fun p => !(Zp ls inn p.1 && !Zp ls inn p.2)
def srcR (back : Bool) (i : Nat) : Nat := if back = true then Yk ls i else Vf ls i
def dstR (back : Bool) (i : Nat) : Nat := if back = true then Vf ls i else Yk ls i
def rCond (inn : List Bool) (back : Bool) (out : List Bool) (i : Nat) : Bool := inn.getD i false && out.getD (srcR ls back i) false && !out.getD (dstR ls back i) false
def rStep (inn : List Bool) (back : Bool) (s : List Bool × Bool) (i : Nat) : List Bool × Bool :=
 if rCond ls inn back s.1 i = true then (s.1.set (dstR ls back i) true, true) else s
def rTo (inn : List Bool) (back : Bool) (out : List Bool) (k : Nat) : List Bool × Bool := (List.range k).foldl (rStep ls inn back) (out, false)
def rchR (inn : List Bool) (back : Bool) : Nat → List Bool → List Bool
 | 0, out => out
 | k + 1, out => if (rTo ls inn back out ls.length).2 = true then rchR inn back k (rTo ls inn back out ls.length).1 else (rTo ls inn back out ls.length).1
end
def ER (ls : List Arrow) (inn : List Bool) (back : Bool) (x y : Nat) : Prop := ∃ i, i < ls.length ∧ inn.getD i false = true ∧ srcR ls back i = x ∧ dstR ls back i = y
def cntB (n : Nat) (out : List Bool) : Nat := (List.range n).countP fun x => out.getD x false
theorem Kr {l : List Bool} {k j : Nat} (hk : k < l.length) : (l.set k true).getD j false = if j = k then true else l.getD j false := by
 rw [List.getD_eq_getElem?_getD, List.getD_eq_getElem?_getD, List.getElem?_set]
 by_cases h : k = j
 ·subst h; simp [hk]
 ·rw [if_neg h, if_neg (fun e => h e.symm)]
section
variable {ls : List Arrow} {n : Nat} {inn : List Bool} {back : Bool}
theorem dst_lt (hv : ValidG n ls) {i : Nat} (hi : i < ls.length) : dstR ls back i < n := by
 have := hv.ok _ (List.getElem_mem hi)
 unfold dstR
 split
 ·rw [frOf_at hi]; exact this.1
 ·rw [toOf_at hi]; exact this.2.1
theorem src_lt (hv : ValidG n ls) {i : Nat} (hi : i < ls.length) : srcR ls back i < n := by
 have := hv.ok _ (List.getElem_mem hi)
 unfold srcR
 split
 ·rw [toOf_at hi]; exact this.2.1
 ·rw [frOf_at hi]; exact this.1
theorem cnt_set {out : List Bool} (hl : out.length = n) {k : Nat} (hk : k < n) (h : out.getD k false = false) : cntB n out < cntB n (out.set k true) :=
 countP_lt (fun x _ hx => by rw [Kr (by omega)]; split <;> simp_all) ⟨k, List.mem_range.2 hk, by rw [Kr (by omega), if_pos rfl], h⟩
theorem rTo_inv (hv : ValidG n ls) {out : List Bool} (hl : out.length = n) (P : Nat → Prop) (hP : ∀ i, i < ls.length → inn.getD i false = true → P (srcR ls back i) → P (dstR ls back i)) (h0 : ∀ x, out.getD x false = true → P x) : ∀ k, k ≤ ls.length →
  (rTo ls inn back out k).1.length = n ∧ (∀ x, out.getD x false = true → (rTo ls inn back out k).1.getD x false = true) ∧ (∀ x, (rTo ls inn back out k).1.getD x false = true → P x) ∧
  ((rTo ls inn back out k).2 = false → (rTo ls inn back out k).1 = out ∧ ∀ i, i < k → rCond ls inn back out i = false) ∧ ((rTo ls inn back out k).2 = true → cntB n out < cntB n (rTo ls inn back out k).1) ∧ cntB n out ≤ cntB n (rTo ls inn back out k).1
 | 0, _ => ⟨hl, fun _ h => h, h0, fun _ => ⟨rfl, fun i hi => by omega⟩, (by intro h; cases h), Nat.le_refl _⟩
 | k + 1, hk => by
  obtain ⟨h1, h2, h3, h4, h5, h6⟩ := rTo_inv hv hl P hP h0 k (by omega);have e : rTo ls inn back out (k + 1) = rStep ls inn back (rTo ls inn back out k) k := by unfold rTo; rw [List.range_succ, List.foldl_append]; rfl
  rw [e];generalize rTo ls inn back out k = s at *
  obtain ⟨o, c⟩ := s;unfold rStep
  by_cases hc : rCond ls inn back o k = true
  ·rw [if_pos hc];have hc' := hc;simp only [rCond, Bool.and_eq_true, Bool.not_eq_true'] at hc'
   obtain ⟨⟨q1, q2⟩, q3⟩ := hc';have hd := dst_lt (back := back) hv (show k < ls.length by omega);have hcn := cnt_set h1 hd q3;simp only at h1 h2 h3 h5 h6 hcn ⊢
   refine ⟨by simpa using h1, fun x hx => ?_, fun x hx => ?_, (by intro h; cases h), fun _ => by omega, by omega⟩
   ·rw [Kr (by omega)]
    split
    ·rfl
    ·exact h2 x hx
   ·rw [Kr (by omega)] at hx
    split at hx
    ·rename_i e; subst e; exact hP k (by omega) q1 (h3 _ q2)
    ·exact h3 x hx
  ·rw [if_neg hc];refine ⟨h1, h2, h3, fun h => ?_, h5, h6⟩;obtain ⟨a, b⟩ := h4 h;refine ⟨a, fun i hi => ?_⟩
   by_cases hik : i = k
   ·subst hik;have a' : o = out := a;rw [a'] at hc
    simpa using hc
   ·exact b i (by omega)
theorem rchR_inv (hv : ValidG n ls) (P : Nat → Prop) (hP : ∀ i, i < ls.length → inn.getD i false = true → P (srcR ls back i) → P (dstR ls back i)) : ∀ (k : Nat) (out : List Bool), out.length = n → (∀ x, out.getD x false = true → P x) →
    (rchR ls inn back k out).length = n ∧ (∀ x, out.getD x false = true → (rchR ls inn back k out).getD x false = true) ∧ (∀ x, (rchR ls inn back k out).getD x false = true → P x) ∧
    (n + 1 ≤ cntB n out + k → ∀ i, i < ls.length → inn.getD i false = true → (rchR ls inn back k out).getD (srcR ls back i) false = true → (rchR ls inn back k out).getD (dstR ls back i) false = true)
  | 0, out, hl, h0 => ⟨hl, fun _ h => h, h0, fun h => by
      have : cntB n out ≤ n := by have := List.countP_le_length (p := fun x => out.getD x false) (l := List.range n); simpa [cntB] using this
      omega⟩
  | k + 1, out, hl, h0 => by
    obtain ⟨h1, h2, h3, h4, h5, _⟩ := rTo_inv (inn := inn) (back := back) hv hl P hP h0 ls.length (Nat.le_refl _);unfold rchR
    split
    · rename_i hc;obtain ⟨a, b, c, d⟩ := rchR_inv hv P hP k _ h1 h3;have := h5 hc;exact ⟨a, fun x hx => b x (h2 x hx), c, fun hk => d (by omega)⟩
    · rename_i hc;obtain ⟨a, b⟩ := h4 (by simpa using hc);refine ⟨h1, h2, h3, fun _ i hi hin hs => ?_⟩;rw [a] at hs ⊢
      have := b i hi;unfold rCond at this
      rw [hin, hs] at this
      simpa using this
theorem cnt_pos {out : List Bool} {s : Nat} (hs : s < n) (h : out.getD s false = true) : 1 ≤ cntB n out := by
 have : 0 < cntB n out := List.countP_pos_iff.2 ⟨s, List.mem_range.2 hs, h⟩
 omega
theorem rchR_iff (hv : ValidG n ls) {out : List Bool} (hl : out.length = n) (x : Nat) : (rchR ls inn back n out).getD x false = true ↔ ∃ s, out.getD s false = true ∧ Rc (ER ls inn back) s x := by
 obtain ⟨h1, h2, h3, h4⟩ := rchR_inv (inn := inn) (back := back) hv (fun x => ∃ s, out.getD s false = true ∧ Rc (ER ls inn back) s x) (fun i hi hin ⟨s, hs, hr⟩ => ⟨s, hs, .tail hr ⟨i, hi, hin, rfl, rfl⟩⟩) n out hl (fun x hx => ⟨x, hx, .refl x⟩)
 refine ⟨h3 x, ?_⟩
 rintro ⟨s, hs, hr⟩
 have hsn : s < n := by
  rw [← hl]
  rcases Nat.lt_or_ge s out.length with h | h
  ·exact h
  ·rw [List.getD_eq_getElem?_getD, List.getElem?_eq_none h] at hs; cases hs
 have hcl := h4 (by have := cnt_pos hsn hs; omega)
 induction hr with
 | refl => exact h2 s hs
 | tail _ e ih =>
  obtain ⟨i, hi, hin, rfl, rfl⟩ := e;exact hcl i hi hin ih
theorem rchR_len (hv : ValidG n ls) {out : List Bool} (hl : out.length = n) (k : Nat) : (rchR ls inn back k out).length = n := (rchR_inv (inn := inn) (back := back) hv (fun _ => True) (fun _ _ _ _ => trivial) k out hl (fun _ _ => trivial)).1
abbrev On (inn : List Bool) : Nat → Prop := fun k => inn.getD k false = true
theorem rc_fwd {x y : Nat} : Rc (ER ls inn false) x y ↔ ∃ w, Wk ls (On inn) x w y := by
 constructor
 ·intro h
  induction h with
  | refl => exact ⟨[], .nil _⟩
  | tail _ e ih =>
   obtain ⟨w, hw⟩ := ih;obtain ⟨k, h1, h2, rfl, rfl⟩ := e;exact ⟨_, hw.app (.one h1 h2)⟩
 ·rintro ⟨w, hw⟩
  induction hw with
  | nil x => exact .refl x
  | @cons k y w hk hp _ ih => exact (Rc.one ⟨k, hk, hp, rfl, rfl⟩).trans ih
theorem rc_bwd {x y : Nat} : Rc (ER ls inn true) x y ↔ ∃ w, Wk ls (On inn) y w x := by
 constructor
 ·intro h
  induction h with
  | refl => exact ⟨[], .nil _⟩
  | tail _ e ih =>
   obtain ⟨w, hw⟩ := ih;obtain ⟨k, h1, h2, rfl, rfl⟩ := e;exact ⟨k :: w, .cons h1 h2 hw⟩
 ·rintro ⟨w, hw⟩
  induction hw with
  | nil x => exact .refl x
  | @cons k y w hk hp _ ih => exact .tail ih ⟨k, hk, hp, rfl, rfl⟩
end
def oneR (n k : Nat) : List Bool := (List.replicate n false).set k true
def andB (n : Nat) (a b : List Bool) : List Bool := (List.range n).map fun i => a.getD i false && b.getD i false
def orB (n : Nat) (a b : List Bool) : List Bool := (List.range n).map fun i => a.getD i false || b.getD i false
theorem Ve {n : Nat} {f : Nat → Bool} {x : Nat} : ((List.range n).map f).getD x false = (decide (x < n) && f x) := by
 rw [List.getD_eq_getElem?_getD, List.getElem?_map]
 by_cases h : x < n
 ·rw [List.getElem?_range h, decide_eq_true h]; simp
 ·rw [List.getElem?_eq_none (by simpa using h), decide_eq_false h]; rfl
section
variable (n : Nat) (ls : List Arrow) (all : List Nat) (pairs : List (Nat × Nat))
def Zk (inn : List Bool) (k : Nat) : List Bool := andB n (rchR ls inn false n (oneR n k)) (rchR ls inn true n (oneR n k))
def Ze (inn nodes : List Bool) : List Bool := (List.range ls.length).map fun i => inn.getD i false && nodes.getD (Vf ls i) false && nodes.getD (Yk ls i) false
def Uj (inn : List Bool) (p : Nat × Nat) : List Bool := if (Zp ls inn p.1 && !Zp ls inn p.2) = true then Ya ls inn p.1 else inn
def pairsR (inn : List Bool) : List Bool := pairs.foldl (Uj ls) inn
def cStep (rec : List Bool → List Bool) (inn : List Bool) (s : List Bool × List Bool) (k : Nat) : List Bool × List Bool :=
 if s.2.getD k false = true then s
 else if (Ze ls inn (Zk n ls inn k)).any id = false then (s.1, orB n s.2 (Zk n ls inn k))
 else if all.any (fun m => !Zp ls (Ze ls inn (Zk n ls inn k)) m) = true then (s.1, orB n s.2 (Zk n ls inn k))
 else if satR ls all pairs (Ze ls inn (Zk n ls inn k)) = true then (orB n s.1 (Zk n ls inn k), orB n s.2 (Zk n ls inn k))
 else (orB n s.1 (andB n (Zk n ls inn k) (rec (pairsR ls pairs (Ze ls inn (Zk n ls inn k))))), orB n s.2 (Zk n ls inn k))
def cTo (rec : List Bool → List Bool) (inn : List Bool) (k : Nat) : List Bool × List Bool := (List.range k).foldl (cStep n ls all pairs rec inn) (List.replicate n false, List.replicate n false)
def coresS : Nat → List Bool → List Bool
 | 0, _ => List.replicate n false
 | f + 1, inn => (cTo n ls all pairs (coresS f) inn n).1
end
section
variable {n : Nat} {ls : List Arrow} {all : List Nat} {pairs : List (Nat × Nat)} {inn : List Bool}
theorem oneR_at {k x : Nat} (hk : k < n) : (oneR n k).getD x false = true ↔ x = k := by
 unfold oneR
 rw [Kr (by simpa using hk)]
 split
 ·simp_all
 ·rename_i h;simp only [h, iff_false];rw [List.getD_eq_getElem?_getD, List.getElem?_replicate];split <;> simp
theorem andB_at {a b : List Bool} {x : Nat} : (andB n a b).getD x false = true ↔ x < n ∧ a.getD x false = true ∧ b.getD x false = true := by unfold andB; rw [Ve]; simp
theorem orB_at {a b : List Bool} {x : Nat} : (orB n a b).getD x false = true ↔ x < n ∧ (a.getD x false = true ∨ b.getD x false = true) := by unfold orB; rw [Ve]; simp
theorem Qk (hv : ValidG n ls) {k x : Nat} (hk : k < n) : (Zk n ls inn k).getD x false = true ↔ x < n ∧ (∃ w, Wk ls (On inn) k w x) ∧ ∃ w, Wk ls (On inn) x w k := by
 unfold Zk
 rw [andB_at, rchR_iff hv (by simp [oneR]), rchR_iff hv (by simp [oneR])]
 simp only [oneR_at hk, exists_eq_left, rc_fwd, rc_bwd]
theorem withinR_at {nodes : List Bool} {i : Nat} : (Ze ls inn nodes).getD i false = true ↔ i < ls.length ∧ inn.getD i false = true ∧ nodes.getD (Vf ls i) false = true ∧ nodes.getD (Yk ls i) false = true := by unfold Ze; rw [Ve]; simp [and_assoc]
theorem someR_iff {m : Nat} : Zp ls inn m = true ↔ ∃ k, k < ls.length ∧ inn.getD k false = true ∧ Zv ls k m = true := by
 unfold Zp
 rw [List.any_eq_true]
 constructor
 ·rintro ⟨k, h1, h2⟩;rw [Bool.and_eq_true] at h2
  exact ⟨k, List.mem_range.1 h1, h2⟩
 ·rintro ⟨k, h1, h2⟩;exact ⟨k, List.mem_range.2 h1, by rw [Bool.and_eq_true]; exact h2⟩
theorem Wk.next {P : Nat → Prop} {x y k : Nat} {w : List Nat} (h : Wk ls P x (k :: w) y) : Wk ls P (Yk ls k) w y := by cases h; assumption
theorem walk_inner (hv : ValidG n ls) {k x y : Nat} (hk : k < n) (hx : (Zk n ls inn k).getD x false = true) (hy : (Zk n ls inn k).getD y false = true) {w : List Nat} (hw : Wk ls (On inn) x w y) : Wk ls (On (Ze ls inn (Zk n ls inn k))) x w y := by
 refine hw.mono fun j hj hp => ?_
 obtain ⟨hxn, ⟨a, ha⟩, b, hb⟩ := (Qk hv hk).1 hx
 obtain ⟨hyn, ⟨c, hc⟩, d, hd⟩ := (Qk hv hk).1 hy
 obtain ⟨A, B, rfl⟩ := List.append_of_mem hj
 obtain ⟨h1, h2⟩ := wk_split hw
 have hjl := (hw.all j hj).1
 obtain ⟨hv1, hv2, _⟩ := hv.ok _ (List.getElem_mem hjl)
 rw [← frOf_at hjl] at hv1
 rw [← toOf_at hjl] at hv2
 refine withinR_at.2 ⟨hjl, hp, (Qk hv hk).2 ⟨hv1, ⟨_, ha.app h1⟩, _, h2.app hd⟩, (Qk hv hk).2 ⟨hv2, ⟨_, (ha.app h1).app (.one hjl hp)⟩, ?_⟩⟩
 exact ⟨_, h2.next.app hd⟩
theorem core_mono {P Q : Nat → Prop} (h : ∀ k, P k → Q k) {x : Nat} (hc : Uz ls all pairs P x) : Uz ls all pairs Q x := by
 obtain ⟨w, h1, h2, h3⟩ := hc
 exact ⟨w, h1, h2.mono fun k _ => h k, h3⟩
theorem core_inner (hv : ValidG n ls) {k x : Nat} (hk : k < n) (hx : (Zk n ls inn k).getD x false = true) : Uz ls all pairs (On inn) x ↔ Uz ls all pairs (On (Ze ls inn (Zk n ls inn k))) x := by
 constructor
 ·rintro ⟨w, h1, h2, h3⟩;exact ⟨w, h1, walk_inner hv hk hx hx h2, h3⟩
 ·exact core_mono fun j hj => (withinR_at.1 hj).2.1
theorem pairStep_core {p : Nat × Nat} (hp : p ∈ pairs) {x : Nat} : Uz ls all pairs (On inn) x ↔ Uz ls all pairs (On (Uj ls inn p)) x := by
 unfold Uj
 split
 ·rename_i h;simp only [Bool.and_eq_true, Bool.not_eq_true'] at h
  constructor
  ·rintro ⟨w, h1, h2, h3⟩;refine ⟨w, h1, h2.mono fun k hk hp' => ?_, h3⟩
   show (Ya ls inn p.1).getD k false = true
   rw [Jp (h2.all k hk).1, show inn.getD k false = true from hp']
   by_cases hm : Zv ls k p.1 = true
   ·obtain ⟨j, hj, hm2⟩ := h3.2 p hp ⟨k, hk, hm⟩;have := h2.all j hj;have h9 := someR_iff.2 ⟨j, this.1, this.2, hm2⟩;rw [h.2] at h9; cases h9
   ·simpa using hm
  ·refine core_mono fun k hk => ?_
   by_cases hkl : k < ls.length
   ·have hk' : (Ya ls inn p.1).getD k false = true := hk;rw [Jp hkl, Bool.and_eq_true] at hk'
    exact hk'.1
   ·exfalso;have hk' : (Ya ls inn p.1).getD k false = true := hk;unfold Ya at hk'
    rw [List.getD_eq_getElem?_getD, List.getElem?_eq_none (by simpa using hkl)] at hk'
    cases hk'
 ·exact Iff.rfl
theorem pairsR_core {x : Nat} : ∀ (ps : List (Nat × Nat)) (inn : List Bool), (∀ p ∈ ps, p ∈ pairs) → (Uz ls all pairs (On inn) x ↔ Uz ls all pairs (On (ps.foldl (Uj ls) inn)) x)
 | [], _, _ => Iff.rfl
 | p :: ps, inn, h => (pairStep_core (h p (by simp))).trans (pairsR_core ps _ fun q hq => h q (by simp [hq]))
theorem pairStep_cnt (inn : List Bool) (p : Nat × Nat) : Qf ls (Uj ls inn p) < Qf ls inn ∨ Uj ls inn p = inn ∧ (Zp ls inn p.1 && !Zp ls inn p.2) = false := by
 unfold Uj
 split
 ·rename_i h;rw [Bool.and_eq_true] at h
  obtain ⟨k, h1, h2, h3⟩ := someR_iff.1 h.1;exact .inl (onCnt_without h1 h2 h3)
 ·rename_i h;exact .inr ⟨rfl, by simpa using h⟩
theorem pairsR_cnt : ∀ (ps : List (Nat × Nat)) (inn : List Bool), Qf ls (ps.foldl (Uj ls) inn) < Qf ls inn ∨ ps.foldl (Uj ls) inn = inn ∧ ∀ p ∈ ps, (Zp ls inn p.1 && !Zp ls inn p.2) = false
 | [], _ => .inr ⟨rfl, fun _ h => by cases h⟩
 | p :: ps, inn => by
  rw [List.foldl_cons]
  rcases pairsR_cnt ps (Uj ls inn p) with h | ⟨h, h'⟩ <;> rcases pairStep_cnt (ls := ls) inn p with q | ⟨q, q'⟩
  ·exact .inl (by omega)
  ·rw [q] at h ⊢; exact .inl h
  ·rw [h]; exact .inl q
  ·rw [h];rw [q] at h'
   exact .inr ⟨q, fun r hr => by
    rcases List.mem_cons.1 hr with e | hr
    ·rw [e]; exact q'
    ·exact h' r hr⟩
theorem onCnt_within (nodes : List Bool) : Qf ls (Ze ls inn nodes) ≤ Qf ls inn := List.countP_mono_left fun x _ h => (withinR_at.1 h).2.1
theorem pairs_less {nodes : List Bool} (h1 : all.any (fun m => !Zp ls (Ze ls inn nodes) m) = false) (h2 : satR ls all pairs (Ze ls inn nodes) = false) : Qf ls (pairsR ls pairs (Ze ls inn nodes)) < Qf ls inn := by
 have h3 := onCnt_within (ls := ls) (inn := inn) nodes
 rcases pairsR_cnt (ls := ls) pairs (Ze ls inn nodes) with h | ⟨_, h⟩
 ·exact Nat.lt_of_lt_of_le h h3
 ·exfalso
  have : satR ls all pairs (Ze ls inn nodes) = true := by
   unfold satR;rw [Bool.and_eq_true, List.all_eq_true, List.all_eq_true];refine ⟨fun m hm => ?_, fun p hp => by rw [h p hp]; rfl⟩;have := List.any_eq_false.1 h1 m hm;simpa using this
  rw [h2] at this; cases this
theorem satR_sats {inn : List Bool} (h : satR ls all pairs inn = true) {w : List Nat} (hw : ∀ k, k ∈ w ↔ k < ls.length ∧ inn.getD k false = true) : Sats ls all pairs w := by
 simp only [satR, Bool.and_eq_true, List.all_eq_true] at h
 have e : ∀ m, (∃ k ∈ w, Zv ls k m = true) ↔ Zp ls inn m = true := fun m => by
  rw [someR_iff]
  constructor
  ·rintro ⟨k, hk, hm⟩; obtain ⟨a, b⟩ := (hw k).1 hk; exact ⟨k, a, b, hm⟩
  ·rintro ⟨k, a, b, hm⟩; exact ⟨k, (hw k).2 ⟨a, b⟩, hm⟩
 refine ⟨fun m hm => (e m).2 (h.1 m hm), fun p hp h1 => (e _).2 ?_⟩
 have := h.2 p hp
 rw [(e _).1 h1] at this
 simpa using this
theorem core_all (hv : ValidG n ls) {k x : Nat} (hk : k < n) (hx : (Zk n ls inn k).getD x false = true) (hne : (Ze ls inn (Zk n ls inn k)).any id = true) (hs : satR ls all pairs (Ze ls inn (Zk n ls inn k)) = true) : Uz ls all pairs (On inn) x := by
 rw [core_inner hv hk hx]
 obtain ⟨I, hI⟩ : ∃ I, I = Ze ls inn (Zk n ls inn k) := ⟨_, rfl⟩
 rw [← hI] at hne hs ⊢
 have hIa : ∀ j, I.getD j false = true → j < ls.length ∧ inn.getD j false = true ∧ (Zk n ls inn k).getD (Vf ls j) false = true ∧ (Zk n ls inn k).getD (Yk ls j) false = true := fun j hj => by rw [hI] at hj; exact withinR_at.1 hj
 have hm : ∀ j, j ∈ (List.range ls.length).filter (fun j => I.getD j false) ↔ j < ls.length ∧ I.getD j false = true := fun j => by rw [List.mem_filter, List.mem_range]
 have hcm : ∀ y, y ∈ (List.range n).filter (fun y => (Zk n ls inn k).getD y false) ↔ (Zk n ls inn k).getD y false = true := fun y => by
  rw [List.mem_filter, List.mem_range];exact ⟨fun h => h.2, fun h => ⟨((Qk hv hk).1 h).1, h⟩⟩
 obtain ⟨w, hw1, hw2⟩ := wk_tour (ls := ls) (c := (List.range n).filter fun y => (Zk n ls inn k).getD y false) (l := (List.range ls.length).filter fun j => I.getD j false) (fun a ha b hb => by
  have ha' := (hcm a).1 ha;have hb' := (hcm b).1 hb;obtain ⟨_, _, u, hu⟩ := (Qk hv hk).1 ha';obtain ⟨_, ⟨v, hv2⟩, _⟩ := (Qk hv hk).1 hb';have hwk := walk_inner hv hk ha' hb' (hu.app hv2);rw [← hI] at hwk
  exact ⟨_, hwk.mono fun j hj hp => (hm j).2 ⟨(hwk.all j hj).1, hp⟩⟩) (fun j hj => by
   obtain ⟨h1, h2⟩ := (hm j).1 hj;obtain ⟨_, _, h3, h4⟩ := hIa j h2;exact ⟨h1, (hcm _).2 h3, (hcm _).2 h4⟩) ((hcm x).2 hx) ((List.range ls.length).filter fun j => I.getD j false) (fun j hj => hj)
 refine ⟨w, fun e => ?_, hw1.mono fun j _ hp => ((hm j).1 hp).2, satR_sats hs fun j => ⟨fun hj => (hm j).1 (hw1.all j hj).2, fun hj => hw2 j ((hm j).2 hj)⟩⟩
 rw [List.any_eq_true] at hne
 obtain ⟨b, hb, hbt⟩ := hne
 obtain ⟨j, hj, rfl⟩ := List.getElem_of_mem hb
 have hjt : I.getD j false = true := by rw [List.getD_eq_getElem?_getD, List.getElem?_eq_getElem hj]; exact hbt
 have := hw2 j ((hm j).2 ⟨(hIa j hjt).1, hjt⟩)
 rw [e] at this
 cases this
theorem any_id {l : List Bool} {j : Nat} (h : l.getD j false = true) : l.any id = true := by
 rw [List.any_eq_true]
 have hj : j < l.length := by
  rcases Nat.lt_or_ge j l.length with h' | h'
  ·exact h'
  ·rw [List.getD_eq_getElem?_getD, List.getElem?_eq_none h'] at h; cases h
 rw [List.getD_eq_getElem?_getD, List.getElem?_eq_getElem hj] at h
 exact ⟨_, List.getElem_mem hj, h⟩
theorem cTo_inv (hv : ValidG n ls) {rec : List Bool → List Bool} (hrec : ∀ inn', Qf ls inn' < Qf ls inn → ∀ x, (rec inn').getD x false = true ↔ x < n ∧ Uz ls all pairs (On inn') x) : ∀ k, k ≤ n →
  (∀ x, (cTo n ls all pairs rec inn k).1.getD x false = true ↔ (cTo n ls all pairs rec inn k).2.getD x false = true ∧ Uz ls all pairs (On inn) x) ∧ (∀ x, x < k → (cTo n ls all pairs rec inn k).2.getD x false = true) ∧ (∀ x, (cTo n ls all pairs rec inn k).2.getD x false = true → x < n)
 | 0, _ => by
  have hz : ∀ x, (List.replicate n false).getD x false = false := fun x => by
   rw [List.getD_eq_getElem?_getD, List.getElem?_replicate];split <;> simp
  refine ⟨fun x => ?_, fun x h => by omega, fun x h => ?_⟩
  ·show (List.replicate n false).getD x false = true ↔ (List.replicate n false).getD x false = true ∧ _
   rw [hz]; simp
  ·have h' : (List.replicate n false).getD x false = true := h;rw [hz] at h'; cases h'
 | k + 1, hk => by
  obtain ⟨h1, h2, h3⟩ := cTo_inv hv hrec k (by omega);have hkn : k < n := by omega
  have e : cTo n ls all pairs rec inn (k + 1) = cStep n ls all pairs rec inn (cTo n ls all pairs rec inn k) k := by unfold cTo; rw [List.range_succ, List.foldl_append]; rfl
  rw [e];generalize cTo n ls all pairs rec inn k = s at *
  obtain ⟨out, done⟩ := s;simp only at h1 h2 h3
  have hck : (Zk n ls inn k).getD k false = true := (Qk hv hkn).2 ⟨hkn, ⟨[], .nil k⟩, [], .nil k⟩;have hcn : ∀ x, (Zk n ls inn k).getD x false = true → x < n := fun x hx => ((Qk hv hkn).1 hx).1
  have hd2 : ∀ x, x < k + 1 → (orB n done (Zk n ls inn k)).getD x false = true := fun x hx => by
   rw [orB_at];refine ⟨by omega, ?_⟩
   by_cases hxk : x = k
   ·subst hxk; exact .inr hck
   ·exact .inl (h2 x (by omega))
  have hd3 : ∀ x, (orB n done (Zk n ls inn k)).getD x false = true → x < n := fun x hx => (orB_at.1 hx).1

  have key : ∀ out' : List Bool, (∀ x, (out'.getD x false = true ↔ x < n ∧ (out.getD x false = true ∨ (Zk n ls inn k).getD x false = true ∧ Uz ls all pairs (On inn) x))) → ∀ x, out'.getD x false = true ↔ (orB n done (Zk n ls inn k)).getD x false = true ∧ Uz ls all pairs (On inn) x := fun out' h x => by
   rw [h, orB_at, h1]
   constructor
   ·rintro ⟨a, ⟨b, c⟩ | ⟨b, c⟩⟩
    ·exact ⟨⟨a, .inl b⟩, c⟩
    ·exact ⟨⟨a, .inr b⟩, c⟩
   ·rintro ⟨⟨a, b | b⟩, c⟩
    ·exact ⟨a, .inl ⟨b, c⟩⟩
    ·exact ⟨a, .inr ⟨b, c⟩⟩
  have keep : (∀ x, (Zk n ls inn k).getD x false = true → ¬ Uz ls all pairs (On inn) x) → ∀ x, out.getD x false = true ↔ (orB n done (Zk n ls inn k)).getD x false = true ∧ Uz ls all pairs (On inn) x := fun h => key out fun x => by
   constructor
   ·intro hx;exact ⟨h3 x ((h1 x).1 hx).1, .inl hx⟩
   ·rintro ⟨_, a | ⟨a, b⟩⟩
    ·exact a
    ·exact absurd b (h x a)
  unfold cStep
  split
  ·rename_i hdk;refine ⟨h1, fun x hx => ?_, h3⟩
   by_cases hxk : x = k
   ·subst hxk; exact hdk
   ·exact h2 x (by omega)
  ·split
   ·rename_i _ hany;refine ⟨keep fun x hx hc => ?_, hd2, hd3⟩;rw [core_inner hv hkn hx] at hc
    obtain ⟨w, hne, hw, _⟩ := hc;obtain ⟨j, r, rfl⟩ := List.exists_cons_of_ne_nil hne;have := any_id (hw.all j (by simp)).2;rw [hany] at this; cases this
   ·split
    ·rename_i _ hany hall;refine ⟨keep fun x hx hc => ?_, hd2, hd3⟩;rw [core_inner hv hkn hx] at hc
     obtain ⟨w, hne, hw, hs⟩ := hc;rw [List.any_eq_true] at hall
     obtain ⟨m, hm, hno⟩ := hall;obtain ⟨j, hj, hjm⟩ := hs.1 m hm;have := someR_iff.2 ⟨j, (hw.all j hj).1, (hw.all j hj).2, hjm⟩;rw [this] at hno; cases hno
    ·split
     ·rename_i _ hany hall hsat;refine ⟨key _ fun x => ?_, hd2, hd3⟩;rw [orB_at]
      constructor
      ·rintro ⟨a, b | b⟩
       ·exact ⟨a, .inl b⟩
       ·exact ⟨a, .inr ⟨b, core_all hv hkn b (by simpa using hany) hsat⟩⟩
      ·rintro ⟨a, b | b⟩
       ·exact ⟨a, .inl b⟩
       ·exact ⟨a, .inr b.1⟩
     ·rename_i _ hany hall hsat;have hlt := pairs_less (ls := ls) (all := all) (pairs := pairs) (inn := inn) (nodes := Zk n ls inn k) (by simpa using hall) (by simpa using hsat);have hr := hrec _ hlt;refine ⟨key _ fun x => ?_, hd2, hd3⟩;rw [orB_at, andB_at, hr]
      have hcx : ∀ x, (Zk n ls inn k).getD x false = true → (Uz ls all pairs (On (pairsR ls pairs (Ze ls inn (Zk n ls inn k)))) x ↔ Uz ls all pairs (On inn) x) := fun x hx => by
       rw [core_inner hv hkn hx];exact (pairsR_core pairs _ fun p hp => hp).symm
      constructor
      ·rintro ⟨a, b | ⟨_, b, _, c⟩⟩
       ·exact ⟨a, .inl b⟩
       ·exact ⟨a, .inr ⟨b, (hcx x b).1 c⟩⟩
      ·rintro ⟨a, b | ⟨b, c⟩⟩
       ·exact ⟨a, .inl b⟩
       ·exact ⟨a, .inr ⟨a, b, a, (hcx x b).2 c⟩⟩
theorem coresS_iff (hv : ValidG n ls) : ∀ (f : Nat) (inn : List Bool), Qf ls inn < f → ∀ x, (coresS n ls all pairs f inn).getD x false = true ↔ x < n ∧ Uz ls all pairs (On inn) x
 | 0, _, h => by omega
 | f + 1, inn, h => fun x => by
  obtain ⟨h1, h2, h3⟩ := cTo_inv (inn := inn) (all := all) (pairs := pairs) hv (rec := coresS n ls all pairs f) (fun inn' hlt => coresS_iff hv f inn' (by omega)) n (Nat.le_refl _)
  show (cTo n ls all pairs (coresS n ls all pairs f) inn n).1.getD x false = true ↔ _
  rw [h1];exact ⟨fun ⟨a, b⟩ => ⟨h3 x a, b⟩, fun ⟨a, b⟩ => ⟨h2 x a, b⟩⟩
end
end
section
open Go.RowKit
section
variable {ls : List Arrow} {all : List Nat} {pairs : List (Nat × Nat)}
end
end
section
open Go.RowKit
section
variable {ls : List Arrow} {nodes : List Nat} {on : List Bool}
end
end
section
open Go.RowKit
theorem asc_ext : ∀ {l1 l2 : List Nat}, l1.Pairwise (· < ·) → l2.Pairwise (· < ·) → (∀ x, x ∈ l1 ↔ x ∈ l2) → l1 = l2
 | [], [], _, _, _ => rfl
 | [], y :: l2, _, _, h => by have := (h y).2 (by simp); cases this
 | x :: l1, [], _, _, h => by have := (h x).1 (by simp); cases this
 | x :: l1, y :: l2, h1, h2, h => by
  obtain ⟨a1, a2⟩ := List.pairwise_cons.1 h1;obtain ⟨b1, b2⟩ := List.pairwise_cons.1 h2
  have e : x = y := by
   have q1 := (h x).1 (by simp);have q2 := (h y).2 (by simp)
   rcases List.mem_cons.1 q1 with e | q1
   ·exact e
   ·rcases List.mem_cons.1 q2 with e | q2
    ·exact e.symm
    ·have := a1 y q2; have := b1 x q1; omega
  subst e
  rw [asc_ext a2 b2 fun z => ⟨fun hz => by
   have := (h z).1 (by simp [hz])
   rcases List.mem_cons.1 this with e | this
   ·have := a1 z hz; omega
   ·exact this, fun hz => by
   have := (h z).2 (by simp [hz])
   rcases List.mem_cons.1 this with e | this
   ·have := b1 z hz; omega
   ·exact this⟩]
section
variable (n : Nat) (ls : List Arrow) (all : List Nat) (pairs : List (Nat × Nat))
end
end
section
open Go.RowKit
section
variable {n : Nat} {ls : List Arrow} {all : List Nat} {pairs : List (Nat × Nat)}
end
end
section
open Go.RowKit
section
variable {n : Nat} {ls : List Arrow} {all : List Nat} {pairs : List (Nat × Nat)}
end
end
section
open Go.RowKit
section
variable {n : Int} {init : List Int} {ls : List ArrowI} {all : List Int} {pairs : List (Int × Int)}
theorem init_lt (hC : Xz n init ls all pairs = 0) : ∀ x ∈ init.map Int.toNat, x < n.toNat := fun x hx => by
 obtain ⟨y, hy, rfl⟩ := List.mem_map.1 hx
 have := (Jn hC).init.low y hy
 omega
end
end
section
open Go.RowKit
def numsR (l : List Bool) : List Nat := (List.range l.length).filter fun i => l.getD i false
theorem nums_asc (l : List Bool) : (numsR l).Pairwise (· < ·) := List.pairwise_lt_range.filter _
theorem getD_lt {l : List Bool} {j : Nat} (h : l.getD j false = true) : j < l.length := by
 rcases Nat.lt_or_ge j l.length with h' | h'
 ·exact h'
 ·rw [List.getD_eq_getElem?_getD, List.getElem?_eq_none h'] at h; cases h
theorem mem_numsR {l : List Bool} {x : Nat} : x ∈ numsR l ↔ l.getD x false = true := by
 unfold numsR
 rw [List.mem_filter, List.mem_range]
 exact ⟨fun h => h.2, fun h => ⟨getD_lt h, h⟩⟩
def Jg (ls : List Arrow) : List Bool := List.replicate ls.length true
def coresM (n : Nat) (ls : List Arrow) (all : List Nat) (pairs : List (Nat × Nat)) : List Bool := coresS n ls all pairs (ls.length + 1) (Jg ls)
theorem orB_len (n : Nat) (a b : List Bool) : (orB n a b).length = n := by simp [orB]
theorem cTo_len {n : Nat} {ls : List Arrow} {all : List Nat} {pairs : List (Nat × Nat)} {rec : List Bool → List Bool} {inn : List Bool} : ∀ k, (cTo n ls all pairs rec inn k).1.length = n ∧ (cTo n ls all pairs rec inn k).2.length = n
 | 0 => ⟨by simp [cTo], by simp [cTo]⟩
 | k + 1 => by
  obtain ⟨h1, h2⟩ := cTo_len (n := n) (ls := ls) (all := all) (pairs := pairs) (rec := rec) (inn := inn) k;have e : cTo n ls all pairs rec inn (k + 1) = cStep n ls all pairs rec inn (cTo n ls all pairs rec inn k) k := by unfold cTo; rw [List.range_succ, List.foldl_append]; rfl
  rw [e];unfold cStep
  split
  ·exact ⟨h1, h2⟩
  ·split
   ·exact ⟨h1, orB_len _ _ _⟩
   ·split
    ·exact ⟨h1, orB_len _ _ _⟩
    ·split
     ·exact ⟨orB_len _ _ _, orB_len _ _ _⟩
     ·exact ⟨orB_len _ _ _, orB_len _ _ _⟩
theorem coresS_len (n : Nat) (ls : List Arrow) (all : List Nat) (pairs : List (Nat × Nat)) : ∀ (f : Nat) (inn : List Bool), (coresS n ls all pairs f inn).length = n
 | 0, _ => by simp [coresS]
 | f + 1, inn => (cTo_len n).1
section
variable {n : Nat} {ls : List Arrow} {all : List Nat} {pairs : List (Nat × Nat)}
theorem on_every {k : Nat} : On (Jg ls) k ↔ k < ls.length := by
 unfold On Jg
 rw [List.getD_eq_getElem?_getD, List.getElem?_replicate]
 split <;> simp_all
theorem wk_every {x y : Nat} {w : List Nat} : Wk ls (On (Jg ls)) x w y ↔ Wk ls AllA x w y := ⟨fun h => h.mono fun _ _ _ => trivial, fun h => h.mono fun k hk _ => on_every.2 (h.all k hk).1⟩
theorem core_every {x : Nat} : Uz ls all pairs (On (Jg ls)) x ↔ Uz ls all pairs AllA x := by unfold Uz; simp only [wk_every]
theorem coresM_iff (hv : ValidG n ls) {x : Nat} : (coresM n ls all pairs).getD x false = true ↔ x < n ∧ Uz ls all pairs AllA x := by
 unfold coresM
 rw [coresS_iff hv _ _ (Nat.lt_succ_of_le (onCnt_le _)), core_every]
theorem coresM_len : (coresM n ls all pairs).length = n := coresS_len _ _ _ _ _ _
def initTo (n : Nat) (init : List Nat) (k : Nat) : List Bool := (init.take k).foldl (fun s x => s.set x true) (List.replicate n false)
def initR (n : Nat) (init : List Nat) : List Bool := initTo n init init.length
theorem fold_set : ∀ (xs : List Nat) (s : List Bool), (∀ x ∈ xs, x < s.length) → (xs.foldl (fun s x => s.set x true) s).length = s.length ∧ ∀ y, (xs.foldl (fun s x => s.set x true) s).getD y false = true ↔ y ∈ xs ∨ s.getD y false = true
 | [], s, _ => ⟨rfl, fun y => by simp⟩
 | x :: xs, s, h => by
  obtain ⟨h1, h2⟩ := fold_set xs (s.set x true) fun y hy => by rw [List.length_set]; exact h y (by simp [hy])
  rw [List.foldl_cons];refine ⟨by rw [h1, List.length_set], fun y => ?_⟩;rw [h2, Kr (h x (by simp)), List.mem_cons]
  by_cases e : y = x
  ·subst e; simp
  ·rw [if_neg e]; simp [e]
theorem initR_iff {init : List Nat} (hi : ∀ x ∈ init, x < n) : (initR n init).length = n ∧ ∀ y, (initR n init).getD y false = true ↔ y ∈ init := by
 unfold initR initTo
 rw [List.take_length]
 obtain ⟨h1, h2⟩ := fold_set init (List.replicate n false) (by simpa using hi)
 refine ⟨by rw [h1]; simp, fun y => ?_⟩
 rw [h2, List.getD_eq_getElem?_getD, List.getElem?_replicate]
 split <;> simp
def Qd (n : Nat) (ls : List Arrow) (init : List Nat) : List Nat := numsR (rchR ls (Jg ls) false n (initR n init))
theorem reached_eq (hv : ValidG n ls) {init r : List Nat} (hi : ∀ x ∈ init, x < n) (hR : ReachOk ls n init r) : Qd n ls init = r := by
 obtain ⟨h1, h2⟩ := initR_iff hi
 refine asc_ext (nums_asc _) hR.asc fun x => ?_
 unfold Qd
 rw [mem_numsR, rchR_iff hv h1, hR.mem]
 simp only [h2, rc_fwd, wk_every]
def isR (n : Nat) (ls : List Arrow) (all : List Nat) (pairs : List (Nat × Nat)) (init : List Nat) : Bool := (Qd n ls init).any fun k => (coresM n ls all pairs).getD k false
theorem isR_iff (hv : ValidG n ls) {init : List Nat} (hi : ∀ x ∈ init, x < n) : isR n ls all pairs init = true ↔ ¬ NoCore ls all pairs init := by
 obtain ⟨r, _, hR⟩ := reach_closure hv hi
 unfold isR
 rw [reached_eq hv hi hR, List.any_eq_true]
 constructor
 ·rintro ⟨k, hk, hc⟩ hno;obtain ⟨s, hs, w, hw⟩ := (hR.mem k).1 hk;exact hno s hs w k hw (coresM_iff hv |>.1 hc).2
 ·intro h;obtain ⟨s, h⟩ := Classical.not_forall.1 h;obtain ⟨hs, h⟩ := Classical.not_forall.1 h;obtain ⟨w, h⟩ := Classical.not_forall.1 h;obtain ⟨y, h⟩ := Classical.not_forall.1 h;obtain ⟨hw, h⟩ := Classical.not_forall.1 h;have hm := (hR.mem y).2 ⟨s, hs, w, hw⟩;exact ⟨y, hm, (coresM_iff hv).2 ⟨hR.lt y hm, Classical.not_not.1 h⟩⟩
end
section
variable {n : Int} {init : List Int} {ls : List ArrowI} {all : List Int} {pairs : List (Int × Int)}
end
end
section
open Go.RowKit
section
variable (n : Nat) (ls : List Arrow) (all : List Nat) (pairs : List (Nat × Nat))
end
section
variable {n : Nat} {ls : List Arrow} {all : List Nat} {pairs : List (Nat × Nat)}
end
section
variable {n : Int} {init : List Int} {ls : List ArrowI} {all : List Int} {pairs : List (Int × Int)}
end
end
section
open Go.RowKit
def OwnB (v : Value) (l : List Bool) (H : Own) : Prop := OwnS 4 1 v l.length (l.map .bool) H
theorem OwnB.open' {v : Value} {l : List Bool} {H : Own} (h : OwnB v l H) (hl : 0 < l.length) : ∃ b cap cs, v = .slice (some ⟨b, 0, none⟩) l.length cap ∧ H = [(b, Xa cs 4)] ∧ (∀ i (h : i < l.length), cs[i]? = some (.bool l[i])) ∧
  ∀ i c, i < l.length → OwnB (.slice (some ⟨b, 0, none⟩) l.length cap) (l.set i c) [(b, Xa (cs.set i (.bool c)) 4)] := by
 obtain ⟨b, cap, pad, rfl, h1, h2, h3, rfl⟩ := h.pos hl
 refine ⟨b, cap, _, rfl, rfl, fun i hi => ?_, fun i c hi => ?_⟩
 ·rw [List.getElem?_append_left (by simpa using hi)]; simp [hi]
 ·refine .inr ⟨b, cap, pad, by rw [List.length_set], by simp, ?_, by rw [List.length_set]; exact h3, ?_⟩
  ·simpa using h2
  ·rw [List.map_set, List.set_append_left _ _ (by simpa using hi)]
theorem OwnB.form {v : Value} {l : List Bool} {H : Own} (h : OwnB v l H) : ∃ a cap, v = .slice a l.length cap := OwnS.form h
theorem OwnB.lendB {v : Value} {l : List Bool} {H L : Own} {g : Ghost} {w : World} (h : OwnB v l H) (hs : St g w (H ++ L)) : ∃ g', g ≤ g' ∧ St g' w L ∧ RS Yt g' v l ∧ ∀ gc w' L', g' ≤ gc → St gc w' L' → ∃ ga, g ≤ ga ∧ ga ≤ gc ∧ St ga w' (H ++ L') :=
 OwnS.lend (e := eBool) (h0 := fun _ => rfl) (by rw [Qy]; exact h) hs
theorem OwnB.freezeB {v : Value} {l : List Bool} {H L : Own} {g : Ghost} {w : World} (h : OwnB v l H) (hs : St g w (H ++ L)) : ∃ g', g ≤ g' ∧ St g' w L ∧ RS Yt g' v l :=
 OwnS.freezeE (e := eBool) (h0 := fun _ => rfl) (by rw [Qy]; exact h) hs
theorem Zw {l : List Bool} {i : Nat} (h : i < l.length) : l.getD i false = l[i] := by rw [List.getD_eq_getElem?_getD, List.getElem?_eq_getElem h]; rfl
theorem refHas_spec (g : Ghost) (f t : Value) (x m : Nat) (hx : x < 4294967296) (hf : f.oneCell' = true) (ht : t.oneCell' = true) :
  Cl PP 88 [.agg #[f, t, .int .u32 x], .int .i64 m] g [] (Det (.bool (x.testBit m))) := by
 refine Xj Tryz.func88 rfl rfl Tryz.ntmps88 rfl ?_
 intro w F hs
 refine Y2 ?_
 refine Yi hs rfl rfl rfl rfl ?_; clear hs; intro b w hs
 refine Y4 ?_
 refine zL0 ?_
 refine zP ?_
 refine wl_shr rfl rfl (by omega) rfl rfl ?_
 refine wl_and rfl rfl rfl rfl ?_
 refine Y7 ?_
 exact Xb (Xo rfl rfl) ⟨g, [], Ghost.rfl', hs.drop, rfl, congrArg Value.bool (bit_eq x m hx)⟩
theorem hasM_arr {ls : List Arrow} {i : Nat} (h : i < ls.length) (m : Nat) : Zv ls i m = (ls[i]).ms.testBit m := hasM_at h
theorem any_to {f : Nat → Bool} {n i : Nat} (hi : i < n) (h : f i = true) : (List.range n).any f = true := List.any_eq_true.2 ⟨i, List.mem_range.2 hi, h⟩
theorem any_none {f : Nat → Bool} {n : Nat} (h : ∀ j, j < n → f j = false) : (List.range n).any f = false := List.any_eq_false.2 fun j hj => by rw [h j (List.mem_range.1 hj)]; simp
theorem Jw (g : Ghost) (vl vin : Value) (n m : Nat) (ls : List Arrow) (inn : List Bool) (hl : RS kArr g vl ls) (hv : ValidG n ls) (hin : RS Yt g vin inn) (hlen : inn.length = ls.length) :
  Cl PP 87 [vl, vin, .int .i64 (m : Int)] g [] (Det (.bool (Zp ls inn m))) := by
 obtain ⟨al, cl, rfl⟩ := hl.form
 obtain ⟨ai, ci, rfl⟩ := hin.form
 have hl0 := hv.len
 refine Xj Tryz.func87 rfl rfl Tryz.ntmps87 rfl ?_
 intro w F hs
 refine zQ ?_
 refine Y46 ?_
 refine Ub ls.length (fun _ (_ : Unit) => [(0, .slice al ls.length cl), (1, .slice ai inn.length ci), (2, .int .i64 (m : Int))]) (fun i (_ : Unit) w => ∃ g', g ≤ g' ∧ St g' w F ∧ ∀ j, j < i → (inn.getD j false && Zv ls j m) = false) () (by repeat (first | exact trivial | refine ⟨rfl, ?_⟩)) ⟨g, Ghost.rfl', hs, fun j h => by omega⟩ ?_ ?_ ?_
 ·intro i _ w s' hi hJ hk;refine zP ?_;exact Xn (Ua (by repeat (first | exact trivial | refine ⟨rfl, ?_⟩)) hk)
 ·rintro i _ w hi ⟨g1, hg1, hs, hj⟩;have hi2 : i < inn.length := by omega
  have hb := hl.base hi;have hc := (hl.mono hg1).enc hi;have hb2 := hin.base hi2;have hc2 := (hin.mono hg1).bool hi2;have hgd := Zw hi2;generalize inn[i] = q at hc2 hgd
  refine Y0 ?_;refine Yb rfl rfl rfl rfl rfl (by omega) (hb2) rfl rfl ?_;refine Xd hs (hc2) rfl rfl rfl rfl rfl ?_;refine zP ?_;cases q with
  | true =>
   refine zG ?_;refine Yb rfl rfl rfl rfl rfl (by omega) hb rfl rfl ?_;refine Yj hs (hc.of_eaddr) rfl rfl rfl rfl rfl rfl ?_;refine zG ?_;refine Xf rfl rfl rfl (L := []) hs (refHas_spec g1 _ _ ls[i].ms m (by have := (hv.ok _ (List.getElem_mem hi)).2.2; omega) rfl rfl) ?_;rintro u g2 L' w hg2 hs ⟨rfl, rfl⟩;refine Y40 ?_
   refine Xi rfl (fun h => ?_) (fun h => ?_)
   ·refine Y1 ?_;refine Xb (Xo rfl rfl) ⟨g2, [], Ghost.tr hg1 hg2, hs, rfl, ?_⟩;have h' : (ls[i]).ms.testBit m = true := h;unfold Zp;rw [any_to hi (by rw [hgd, hasM_arr hi, h']; rfl)]
   ·have h' : (ls[i]).ms.testBit m = false := h;refine Xq (Xh (Xs () hi (by omega) ⟨g2, Ghost.tr hg1 hg2, hs, fun j h => ?_⟩ rfl rfl rfl rfl (by repeat (first | exact trivial | refine ⟨rfl, ?_⟩))))
    by_cases e : j = i
    ·subst e; rw [hgd, hasM_arr hi, h']; rfl
    ·exact hj j (by omega)
  | false =>
   refine Y40 ?_;refine Yy rfl rfl (Xq (Xh (Xs () hi (by omega) ⟨g1, hg1, hs, fun j h => ?_⟩ rfl rfl rfl rfl (by repeat (first | exact trivial | refine ⟨rfl, ?_⟩)))))
   by_cases e : j = i
   ·subst e; rw [hgd]; rfl
   ·exact hj j (by omega)
 ·rintro _ w ⟨g1, hg1, hs, hj⟩;refine Y24 ?_;exact Xb (Xo rfl rfl) ⟨g1, [], hg1, hs, rfl, by unfold Zp; rw [any_none hj]⟩
theorem every_spec (g : Ghost) (vl : Value) (ls : List Arrow) (hl : RS kArr g vl ls) (hl0 : ls.length ≤ 200000) : Cl PP 45 [vl] g [] fun g' L' r => L' = [] ∧ RS Yt g' r (Jg ls) := by
 obtain ⟨al, cl, rfl⟩ := hl.form
 refine Xj Tryz.func45 rfl rfl Tryz.ntmps45 rfl ?_
 intro w F hs
 refine Y12 ?_
 refine Jk hs rfl (by omega) rfl rfl rfl rfl rfl rfl rfl ?_
 clear hs; intro ob w hs
 rw [Jo] at hs
 refine Y26 ?_
 refine Ub ls.length (fun _ (_ : List Bool) => [(0, .slice al ls.length cl), (3, .slice (some ⟨ob, 0, none⟩) ls.length ls.length)]) (fun i (x : List Bool) w => x.length = ls.length ∧ (∀ j, j < i → x.getD j false = true) ∧ St g w ((ob, Xa (x.map .bool) 4) :: F)) (List.replicate ls.length false) (by repeat (first | exact trivial | refine ⟨rfl, ?_⟩)) ⟨by simp, fun j h => by omega, hs⟩ ?_ ?_ ?_
 ·intro i _ w s' hi hJ hk;refine zP ?_;exact Xn (Ua (by repeat (first | exact trivial | refine ⟨rfl, ?_⟩)) hk)
 ·rintro i x w hi ⟨hx, hj, hs⟩;refine Y0 ?_;refine Yv _ rfl rfl rfl rfl rfl (hi) rfl rfl rfl ?_;refine Yh (u := .bool (x[i]'(by omega))) hs 0 rfl rfl rfl (by simp [hx, hi]) rfl rfl rfl rfl ?_;clear hs; intro w hs
  refine Xn (Xh (Xs (x.set i true) hi (by omega) ⟨by rw [List.length_set]; exact hx, fun j h => ?_, ?_⟩ rfl rfl rfl rfl (by repeat (first | exact trivial | refine ⟨rfl, ?_⟩))))
  ·rw [Kr (by omega)]
   split
   ·rfl
   ·exact hj j (by omega)
  ·rw [List.map_set]; exact hs
 ·rintro x w ⟨hx, hj, hs⟩;refine Y24 ?_
  have e : x = Jg ls := by
   apply List.ext_getElem
   ·simp [Jg, hx]
   ·intro i h1 h2;have := hj i (by omega);rw [Zw h1] at this
    simp [Jg, this]
  subst e;obtain ⟨g2, hg2, hs1, hr3⟩ := OwnS.freezeE (e := eBool) (h0 := fun _ => rfl) (xs := Jg ls) (own_bools hx) hs;exact Xb (Xo rfl rfl) ⟨g2, [], hg2, hs1, rfl, hr3⟩
theorem refOne_spec (g : Ghost) (n k : Nat) (hn : n ≤ 20000) (hk : k < n) : Cl PP 115 [.int .i64 (n : Int), .int .i64 (k : Int)] g [] fun g' L' r => L' = [] ∧ RS Yt g' r (oneR n k) := by
 refine Xj Tryz.func115 rfl rfl Tryz.ntmps115 rfl ?_
 intro w F hs
 refine Y12 ?_
 refine Jk hs rfl (by omega) rfl rfl rfl rfl rfl rfl rfl ?_
 clear hs; intro ob w hs
 rw [Jo] at hs
 refine Y4 ?_
 refine Yv _ rfl rfl rfl rfl rfl (hk) rfl rfl rfl ?_
 refine Yh (u := .bool false) hs 0 rfl rfl rfl (by simp [hk]) rfl rfl rfl rfl ?_
 clear hs; intro w hs
 refine Y18 ?_
 obtain ⟨g2, hg2, hs1, hr3⟩ := OwnS.freezeE (e := eBool) (h0 := fun _ => rfl) (xs := oneR n k) (own_bools (n := n) (by simp [oneR])) (by rw [oneR, List.map_set]; exact hs)
 exact Xb (Xo rfl rfl) ⟨g2, [], hg2, hs1, rfl, hr3⟩
theorem nums_snoc {l : List Bool} {i : Nat} (hi : i < l.length) : (List.range (i + 1)).filter (fun j => l.getD j false) = (List.range i).filter (fun j => l.getD j false) ++ if l[i] = true then [i] else [] := by
 rw [List.range_succ, List.filter_append, List.filter_cons, Zw hi]
 rfl
theorem refNumbers_spec (g : Ghost) (vl : Value) (l : List Bool) (hl : RS Yt g vl l) (hl0 : l.length ≤ 4000000000) : Cl PP 89 [vl] g [] fun g' L' r => L' = [] ∧ RS kNat g' r (numsR l) := by
 obtain ⟨al, cl, rfl⟩ := hl.form
 refine Xj Tryz.func89 rfl rfl Tryz.ntmps89 rfl ?_
 intro w F hs
 refine Y11 ?_
 refine Y46 ?_
 refine Ub l.length (fun _ (x : Value × Own) => [(0, .slice al l.length cl), (3, x.1)]) (fun i (x : Value × Own) w => OwnS 3 1 x.1 ((List.range i).filter fun j => l.getD j false).length (((List.range i).filter fun j => l.getD j false).flatMap Zd) x.2 ∧ St g w (x.2 ++ F)) (.slice none 0 0, []) (by repeat (first | exact trivial | refine ⟨rfl, ?_⟩)) ⟨OwnS.nil _ _, hs⟩ ?_ ?_ ?_
 ·rintro i ⟨v, H⟩ w s' hi hJ hk;refine zP ?_;exact Xn (Ua (by repeat (first | exact trivial | refine ⟨rfl, ?_⟩)) hk)
 ·rintro i ⟨v, H⟩ w hi ⟨hown, hs⟩;simp only at hown hs
  have hb := hl.base hi;have hc := hl.bool hi;have hsn := nums_snoc hi
  have hcnt : ((List.range i).filter fun j => l.getD j false).length ≤ i := by
   have := List.length_filter_le (fun j => l.getD j false) (List.range i);simpa using this
  generalize l[i] = q at hc hsn
  refine Y0 ?_;refine Yb rfl rfl rfl rfl rfl (by omega) (hb) rfl rfl ?_;refine Xd hs (hc) rfl rfl rfl rfl rfl ?_;refine zn ?_;cases q with
  | true =>
   refine Y37 ?_;refine Jj hs hown (by omega) rfl rfl rfl rfl rfl rfl rfl rfl rfl rfl rfl rfl rfl rfl ?_;clear hs; rintro v' w H' hown' hs;refine zP ?_;refine Xn (Xh (Xs (v', H') hi (by omega) ⟨?_, hs⟩ rfl rfl rfl rfl (by repeat (first | exact trivial | refine ⟨rfl, ?_⟩))));simp only [hsn, if_true, List.length_append, List.length_singleton, List.flatMap_append]
   exact hown'
  | false =>
   refine Yy rfl rfl (Xq (Xh (Xs (v, H) hi (by omega) ⟨?_, hs⟩ rfl rfl rfl rfl (by repeat (first | exact trivial | refine ⟨rfl, ?_⟩)))));simp only [hsn, Bool.false_eq_true, if_false, List.append_nil];exact hown
 ·rintro ⟨v, H⟩ w ⟨hown, hs⟩;simp only at hown hs
  refine Y24 ?_;obtain ⟨g2, hg2, hs1, hr3⟩ := OwnS.freezeE (e := Zd) (h0 := fun _ => rfl) (xs := numsR l) hown hs;exact Xb (Xo rfl rfl) ⟨g2, [], hg2, hs1, rfl, hr3⟩
end
section
open Go.RowKit
theorem refSatisfied_spec (g : Ghost) (vl vin va vp : Value) (n : Nat) (ls : List Arrow) (inn : List Bool) (all : List Nat) (pairs : List (Nat × Nat)) (hl : RS kArr g vl ls) (hv : ValidG n ls) (hin : RS Yt g vin inn) (hlen : inn.length = ls.length) (ha : RS kNat g va all) (hp : RS kPair g vp pairs)
  (ha0 : all.length ≤ 4611686018427387904) (hp0 : pairs.length ≤ 4611686018427387904) :
  Cl PP 47 [vl, vin, .agg #[va, vp]] g [] (Det (.bool (satR ls all pairs inn))) := by
 obtain ⟨aa, ca, rfl⟩ := ha.form
 obtain ⟨ap, cp, rfl⟩ := hp.form
 refine Xj Tryz.func47 rfl rfl Tryz.ntmps47 rfl ?_
 intro w F hs
 refine Y2 ?_
 refine Yi hs rfl rfl rfl rfl ?_; clear hs; intro wb w hs
 refine Y7 ?_
 obtain ⟨g1, hg1, hs, hwb⟩ := freezeB hs
 replace hs := (show St g1 w F from hs)
 replace hwb := (show Lies g1 wb 0 [.slice aa all.length ca, .slice ap pairs.length cp] from hwb)
 have e : satR ls all pairs inn = (all.all (fun m => Zp ls inn m) && pairs.all fun p => !(Zp ls inn p.1 && !Zp ls inn p.2)) := rfl
 refine Y11 ?_
 refine Ub all.length (fun _ (_ : Unit) => [(0, vl), (1, vin), (5, .pointer (some ⟨wb, 0, none⟩))]) (fun i (_ : Unit) w => ∃ g', g1 ≤ g' ∧ St g' w F ∧ ∀ j (h : j < i) (h' : j < all.length), Zp ls inn all[j] = true) () (by repeat (first | exact trivial | refine ⟨rfl, ?_⟩)) ⟨g1, Ghost.rfl', hs, fun j h => by omega⟩ ?_ ?_ ?_
 ·rintro i _ w s' hi ⟨g2, hg2, hs, hj⟩ hk;refine zP ?_;refine Xd hs (hwb.mono hg2 0 _ rfl) rfl rfl rfl rfl rfl ?_;refine zP ?_;exact Xn (Ua (by repeat (first | exact trivial | refine ⟨rfl, ?_⟩)) hk)
 ·rintro i _ w hi ⟨g2, hg2, hs, hj⟩;have hg02 := Ghost.tr hg1 hg2;have hb := ha.base hi;have hc := (ha.mono hg02).nat hi;refine Y0 ?_;refine Xd hs (hwb.mono hg2 0 _ rfl) rfl rfl rfl rfl rfl ?_;refine zP ?_;refine Yb rfl rfl rfl rfl rfl (by omega) (hb) rfl rfl ?_;refine Xd hs (hc) rfl rfl rfl rfl rfl ?_
  refine Xf rfl rfl rfl (L := []) hs (Jw g2 vl vin n all[i] ls inn (hl.mono hg02) hv (hin.mono hg02) hlen) ?_;rintro u g3 L' w hg3 hs ⟨rfl, rfl⟩;refine Y7 ?_;have hg03 := Ghost.tr hg02 hg3
  refine Xi rfl (fun h => ?_) (fun h => ?_)
  ·have h' : Zp ls inn all[i] = false := by simpa using h
   refine Y1 ?_;refine Xb (Xo rfl rfl) ⟨g3, [], hg03, hs, rfl, ?_⟩;have : all.all (fun m => Zp ls inn m) = false := List.all_eq_false.2 ⟨_, List.getElem_mem hi, by rw [h']; simp⟩;rw [e, this];rfl
  ·have h' : Zp ls inn all[i] = true := by simpa using h
   refine Xq (Xh (Xs () hi (by omega) ⟨g3, Ghost.tr hg2 hg3, hs, fun j h h2 => ?_⟩ rfl rfl rfl rfl (by repeat (first | exact trivial | refine ⟨rfl, ?_⟩))))
   by_cases q : j = i
   ·subst q; exact h'
   ·exact hj j (by omega) h2
 ·rintro _ w ⟨g2, hg2, hs, hj⟩
  have hA : all.all (fun m => Zp ls inn m) = true := by
   rw [List.all_eq_true];intro m hm;obtain ⟨j, h, rfl⟩ := List.getElem_of_mem hm;exact hj j h h
  rw [hA, Bool.true_and] at e
  refine zK ?_;refine Y11 ?_
  refine Ub pairs.length (fun _ (_ : Unit) => [(0, vl), (1, vin), (5, .pointer (some ⟨wb, 0, none⟩))]) (fun i (_ : Unit) w => ∃ g', g2 ≤ g' ∧ St g' w F ∧ ∀ j (h : j < i) (h' : j < pairs.length), (Zp ls inn pairs[j].1 && !Zp ls inn pairs[j].2) = false) () (by repeat (first | exact trivial | refine ⟨rfl, ?_⟩)) ⟨g2, Ghost.rfl', hs, fun j h => by omega⟩ ?_ ?_ ?_
  ·rintro i _ w s' hi ⟨g3, hg3, hs, hj⟩ hk;refine zP ?_;refine Xd hs (hwb.mono (Ghost.tr hg2 hg3) 1 _ rfl) rfl rfl rfl rfl rfl ?_;refine zP ?_;exact Xn (Ua (by repeat (first | exact trivial | refine ⟨rfl, ?_⟩)) hk)
  ·rintro i _ w hi ⟨g3, hg3, hs, hj⟩;have hg13 := Ghost.tr hg2 hg3;have hg03 := Ghost.tr hg1 hg13;obtain ⟨pb, po, rfl⟩ := hp.base hi;replace hs : St g3 w F := by assumption
   have hb : ∃ b o, some (⟨pb, po, none⟩ : Addr) = some ⟨b, o, none⟩ := ⟨pb, po, rfl⟩
   have hc := (hp.mono hg03).enc hi
   have bad : (Zp ls inn pairs[i].1 && !Zp ls inn pairs[i].2) = true → satR ls all pairs inn = false := fun h => by
    rw [e, List.all_eq_false];exact ⟨_, List.getElem_mem hi, by rw [h]; simp⟩
   have go : (Zp ls inn pairs[i].1 && !Zp ls inn pairs[i].2) = false → ∀ j (h : j < i + 1) (h' : j < pairs.length), (Zp ls inn pairs[j].1 && !Zp ls inn pairs[j].2) = false := fun h j h1 h2 => by
    by_cases q : j = i
    ·subst q; exact h
    ·exact hj j (by omega) h2
   obtain ⟨m1, hm1⟩ : ∃ m, m = pairs[i].1 := ⟨_, rfl⟩
   obtain ⟨m2, hm2⟩ : ∃ m, m = pairs[i].2 := ⟨_, rfl⟩
   have hcc : Lies g3 pb (po + i * 2) [.int .i64 (m1 : Int), .int .i64 (m2 : Int)] := by rw [hm1, hm2]; exact hc
   rw [← hm1, ← hm2] at bad go
   refine Y0 ?_;refine Xd hs (hwb.mono hg13 1 _ rfl) rfl rfl rfl rfl rfl ?_;refine zP ?_;refine Yb rfl rfl rfl rfl rfl (by omega) (hb) rfl rfl ?_;refine wl_ixA rfl rfl rfl rfl rfl (by omega) rfl rfl ?_;refine Xd hs (hcc 0 _ rfl) rfl rfl rfl rfl rfl ?_;refine Xf rfl rfl rfl (L := []) hs (Jw g3 vl vin n m1 ls inn (hl.mono hg03) hv (hin.mono hg03) hlen) ?_
   rintro u g4 L' w hg4 hs ⟨rfl, rfl⟩;have hg04 := Ghost.tr hg03 hg4;refine zP ?_
   refine Xr 41 rfl (fun q1 => ?_) (fun q1 => ?_)
   ·rw [q1, Bool.true_and] at bad go
    refine zG ?_;refine Xd hs (hwb.mono (Ghost.tr hg13 hg4) 1 _ rfl) rfl rfl rfl rfl rfl ?_;refine zG ?_;refine Yb rfl rfl rfl rfl rfl (by omega) (hb) rfl rfl ?_;refine zG ?_;refine wl_ixA rfl rfl rfl rfl rfl (by omega) rfl rfl ?_;refine Xd hs (hcc.mono hg4 1 _ rfl) rfl rfl rfl rfl rfl ?_
    refine Xf rfl rfl rfl (L := []) hs (Jw g4 vl vin n m2 ls inn (hl.mono hg04) hv (hin.mono hg04) hlen) ?_;rintro u g5 L' w hg5 hs ⟨rfl, rfl⟩;refine Y40 ?_
    refine Xi rfl (fun h => ?_) (fun h => ?_)
    ·refine Y1 ?_;exact Xb (Xo rfl rfl) ⟨g5, [], Ghost.tr hg04 hg5, hs, rfl, by rw [bad h]⟩
    ·exact Xq (Xh (Xs () hi (by omega) ⟨g5, Ghost.tr hg3 (Ghost.tr hg4 hg5), hs, go h⟩ rfl rfl rfl rfl (by repeat (first | exact trivial | refine ⟨rfl, ?_⟩))))
   ·rw [q1, Bool.false_and] at go
    refine Y40 ?_;exact Yy rfl rfl (Xq (Xh (Xs () hi (by omega) ⟨g4, Ghost.tr hg3 hg4, hs, go rfl⟩ rfl rfl rfl rfl (by repeat (first | exact trivial | refine ⟨rfl, ?_⟩)))))
  ·rintro _ w ⟨g3, hg3, hs, hj⟩;refine Y24 ?_;refine Xb (Xo rfl rfl) ⟨g3, [], Ghost.tr hg1 (Ghost.tr hg2 hg3), hs, rfl, ?_⟩;rw [e, List.all_eq_true.2];intro p hm;obtain ⟨j, h, rfl⟩ := List.getElem_of_mem hm;rw [hj j h h]; rfl
def Part (n i : Nat) (x0 T x : List Bool) : Prop := x.length = n ∧ ∀ j, j < n → x.getD j false = if j < i then T.getD j false else x0.getD j false
theorem Part.start {n : Nat} {x0 T : List Bool} (h : x0.length = n) : Part n 0 x0 T x0 := ⟨h, fun j _ => by rw [if_neg (by omega)]⟩
theorem Part.at_ {n i : Nat} {x0 T x : List Bool} (h : Part n i x0 T x) (hi : i < n) : x.getD i false = x0.getD i false := by rw [h.2 i hi, if_neg (by omega)]
theorem Part.set {n i : Nat} {x0 T x : List Bool} {c : Bool} (h : Part n i x0 T x) (hi : i < n) (hc : c = T.getD i false) : Part n (i + 1) x0 T (x.set i c) := by
 refine ⟨by rw [List.length_set]; exact h.1, fun j hj => ?_⟩
 rw [List.getD_eq_getElem?_getD, List.getElem?_set]
 by_cases q : i = j
 ·subst q;rw [if_pos rfl, if_pos (by rw [h.1]; exact hi), if_pos (by omega)];exact hc
 ·rw [if_neg q, ← List.getD_eq_getElem?_getD, h.2 j hj]
  by_cases q2 : j < i
  ·rw [if_pos q2, if_pos (by omega)]
  ·rw [if_neg q2, if_neg (by omega)]
theorem Part.done {n : Nat} {x0 T x : List Bool} (h : Part n n x0 T x) (ht : T.length = n) : x = T := by
 apply List.ext_getElem
 ·rw [h.1, ht]
 ·intro j h1 h2;have := h.2 j (by have := h.1; omega);rw [if_pos (by have := h.1; omega), Zw h1, Zw h2] at this
  exact this
theorem withinR_len (ls : List Arrow) (inn nodes : List Bool) : (Ze ls inn nodes).length = ls.length := by simp [Ze]
theorem refWithin_spec (g : Ghost) (vl vin vn : Value) (n : Nat) (ls : List Arrow) (inn nodes : List Bool) (hl : RS kArr g vl ls) (hv : ValidG n ls) (hin : RS Yt g vin inn) (hlen : inn.length = ls.length) (hn : RS Yt g vn nodes) (hnl : nodes.length = n) :
  Cl PP 85 [vl, vin, vn] g [] fun _ L' r => OwnB r (Ze ls inn nodes) L' := by
 obtain ⟨al, cl, rfl⟩ := hl.form
 obtain ⟨ai, ci, rfl⟩ := hin.form
 obtain ⟨an, cn, rfl⟩ := hn.form
 have hl0 := hv.len
 refine Xj Tryz.func85 rfl rfl Tryz.ntmps85 rfl ?_
 intro w F hs
 refine Y12 ?_
 refine Jk hs rfl (by omega) rfl rfl rfl rfl rfl rfl rfl ?_
 clear hs; intro ob w hs
 rw [Jo] at hs
 refine Y26 ?_
 refine Ub ls.length (fun _ (_ : List Bool) => [(0, .slice al ls.length cl), (1, .slice ai inn.length ci), (2, .slice an nodes.length cn), (7, .slice (some ⟨ob, 0, none⟩) ls.length ls.length)]) (fun i (x : List Bool) w => Part ls.length i (List.replicate ls.length false) (Ze ls inn nodes) x ∧ St g w ((ob, Xa (x.map .bool) 4) :: F)) (List.replicate ls.length false) (by repeat (first | exact trivial | refine ⟨rfl, ?_⟩)) ⟨Part.start (by simp), hs⟩ ?_ ?_ ?_
 ·intro i _ w s' hi hJ hk;refine zP ?_;exact Xn (Ua (by repeat (first | exact trivial | refine ⟨rfl, ?_⟩)) hk)
 ·rintro i x w hi ⟨hpt, hs⟩;have hx := hpt.1;have hi2 : i < inn.length := by omega
  have hb := hl.base hi;have hc := hl.enc hi;have hb2 := hin.base hi2;have hc2 := hin.bool hi2;obtain ⟨v1, v2, _⟩ := hv.ok _ (List.getElem_mem hi);obtain ⟨fr, hfr⟩ : ∃ fr, fr = Vf ls i := ⟨_, rfl⟩
  obtain ⟨to, hto⟩ : ∃ to, to = Yk ls i := ⟨_, rfl⟩
  have hcc : Lies g (Zj al 3 i).block (Zj al 3 i).off [.int .i64 (fr : Int), .int .i64 (to : Int), .int .u32 (ls[i].ms : Int)] := by rw [hfr, hto, frOf_at hi, toOf_at hi]; exact hc
  rw [← frOf_at hi, ← hfr] at v1
  rw [← toOf_at hi, ← hto] at v2
  have hf1 : fr < nodes.length := by omega
  have ht1 : to < nodes.length := by omega
  have hb3 := hn.base hf1;have hc3 := hn.bool hf1;have hc4 := hn.bool ht1
  have hst : (Ze ls inn nodes).getD i false = (inn[i] && nodes[fr] && nodes[to]) := by
   unfold Ze;rw [Ve, decide_eq_true hi, Bool.true_and, Zw hi2, ← hfr, ← hto, Zw hf1, Zw ht1]
  have hcell : (x.map Value.bool)[i]? = some (.bool (x[i]'(by omega))) := by simp [hx, hi]
  generalize nodes[fr] = q3 at hc3 hst
  generalize nodes[to] = q4 at hc4 hst
  generalize inn[i] = q at hc2 hst
  refine Y0 ?_;refine Yb rfl rfl rfl rfl rfl (by omega) (hb2) rfl rfl ?_;refine Xd hs (hc2) rfl rfl rfl rfl rfl ?_;refine zP ?_;cases q with
  | false =>
   refine zG ?_;refine Yv _ rfl rfl rfl rfl rfl (hi) rfl rfl rfl ?_;refine Yh hs 0 rfl rfl rfl hcell rfl rfl rfl rfl ?_;clear hs; intro w hs;exact Xn (Xh (Xs (x.set i false) hi (by omega) ⟨hpt.set hi (by rw [hst]; rfl), by rw [List.map_set]; exact hs⟩ rfl rfl rfl rfl (by repeat (first | exact trivial | refine ⟨rfl, ?_⟩))))
  | true =>
   refine zG ?_;refine Yb rfl rfl rfl rfl rfl (by omega) hb rfl rfl ?_;refine zG ?_;refine Xd hs (hcc.of_eaddr 0 _ rfl) rfl rfl rfl rfl rfl ?_;refine Yb rfl rfl rfl rfl rfl (by omega) hb3 rfl rfl ?_;refine Xd hs (hc3) rfl rfl rfl rfl rfl ?_;refine zG ?_;cases q3 with
   | false =>
    refine zG ?_;refine Yv _ rfl rfl rfl rfl rfl (hi) rfl rfl rfl ?_;refine Yh hs 0 rfl rfl rfl hcell rfl rfl rfl rfl ?_;clear hs; intro w hs;exact Xn (Xh (Xs (x.set i false) hi (by omega) ⟨hpt.set hi (by rw [hst]; rfl), by rw [List.map_set]; exact hs⟩ rfl rfl rfl rfl (by repeat (first | exact trivial | refine ⟨rfl, ?_⟩))))
   | true =>
    refine zG ?_;refine Yb rfl rfl rfl rfl rfl (by omega) hb rfl rfl ?_;refine zG ?_;refine Xd hs (hcc.of_eaddr 1 _ rfl) rfl rfl rfl rfl rfl ?_;refine Yb rfl rfl rfl rfl rfl (by omega) hb3 rfl rfl ?_;refine Xd hs (hc4) rfl rfl rfl rfl rfl ?_;refine zG ?_;refine Yv _ rfl rfl rfl rfl rfl (hi) rfl rfl rfl ?_;refine Yh hs 0 rfl rfl rfl hcell rfl rfl rfl rfl ?_;clear hs; intro w hs
    exact Xn (Xh (Xs (x.set i q4) hi (by omega) ⟨hpt.set hi (by rw [hst]; cases q4 <;> rfl), by rw [List.map_set]; exact hs⟩ rfl rfl rfl rfl (by repeat (first | exact trivial | refine ⟨rfl, ?_⟩))))
 ·rintro x w ⟨hpt, hs⟩;refine Y24 ?_;have ex := hpt.done (withinR_len _ _ _);have hwl : ls.length = (Ze ls inn nodes).length := (withinR_len _ _ _).symm;refine Xb (Xo rfl rfl) ⟨g, [(ob, Xa (x.map .bool) 4)], Ghost.rfl', hs, ?_⟩;unfold OwnB;rw [ex, ← hwl];exact OwnS.lit (by simp; omega)
theorem rTo_succ (ls : List Arrow) (inn : List Bool) (back : Bool) (out : List Bool) (k : Nat) : rTo ls inn back out (k + 1) = rStep ls inn back (rTo ls inn back out k) k := by unfold rTo; rw [List.range_succ, List.foldl_append]; rfl
theorem rTo_len (ls : List Arrow) (inn : List Bool) (back : Bool) (out : List Bool) : ∀ k, (rTo ls inn back out k).1.length = out.length
 | 0 => rfl
 | k + 1 => by
  rw [rTo_succ];unfold rStep
  split
  ·rw [List.length_set, rTo_len ls inn back out k]
  ·exact rTo_len ls inn back out k
theorem refReach_spec (g : Ghost) (vl vin vf : Value) (n : Nat) (ls : List Arrow) (inn from_ : List Bool) (back : Bool) (hl : RS kArr g vl ls) (hv : ValidG n ls) (hin : RS Yt g vin inn) (hlen : inn.length = ls.length) (hf : RS Yt g vf from_) (hfl : from_.length = n) :
  Cl PP 90 [.int .i64 (n : Int), vl, vin, vf, .bool back] g [] fun _ L' r => OwnB r (rchR ls inn back n from_) L' := by
 obtain ⟨al, cl, rfl⟩ := hl.form
 obtain ⟨ai, ci, rfl⟩ := hin.form
 have hl0 := hv.len
 have hn0 := hv.size
 refine Xj Tryz.func90 rfl rfl Tryz.ntmps90 rfl ?_
 intro w F hs
 refine Y12 ?_
 refine Xf rfl rfl rfl (L := []) hs (cloneBool_spec g vf from_ hf (by omega)) ?_
 rintro v g1 H0 w hg1 hs hown
 replace hown : OwnB v from_ H0 := by rw [Qy] at hown; exact hown
 obtain ⟨av, cv, rfl⟩ := hown.form
 rw [hfl] at hown ⊢
 refine Y26 ?_
 refine wc_meetK (fun (_ : Own) => [(11, .slice av n cv)]) (fun H w => OwnB (.slice av n cv) (rchR ls inn back n from_) H ∧ St g1 w (H ++ F)) ?_ ?_
 ·refine Ub n (fun _ (_ : List Bool × Own) => [(0, .int .i64 (n : Int)), (1, .slice al ls.length cl), (2, .slice ai inn.length ci), (4, .bool back), (11, .slice av n cv)])
   (fun i (x : List Bool × Own) w => x.1.length = n ∧ rchR ls inn back (n - i) x.1 = rchR ls inn back n from_ ∧ OwnB (.slice av n cv) x.1 x.2 ∧ St g1 w (x.2 ++ F)) (from_, H0) (by repeat (first | exact trivial | refine ⟨rfl, ?_⟩)) ⟨hfl, rfl, hown, hs⟩ ?_ ?_ ?_
  ·rintro i x w s' hi hJ hk;refine zP ?_;exact Xn (Ua (by repeat (first | exact trivial | refine ⟨rfl, ?_⟩)) hk)
  ·rintro i ⟨out, H⟩ w hi ⟨hol, hr, hown, hs⟩;simp only at hol hr hown hs
   have hni : n - i = (n - (i + 1)) + 1 := by omega
   rw [hni] at hr
   refine zQ ?_;refine Y46 ?_
   refine Ub ls.length (fun _ (x : List Bool × Bool × Own) => [(0, .int .i64 (n : Int)), (1, .slice al ls.length cl), (2, .slice ai inn.length ci), (4, .bool back), (11, .slice av n cv), (12, .int .i64 (i : Int)), (13, .bool x.2.1)])
    (fun k (x : List Bool × Bool × Own) w => (x.1, x.2.1) = rTo ls inn back out k ∧ OwnB (.slice av n cv) x.1 x.2.2 ∧ St g1 w (x.2.2 ++ F)) (out, false, H) (by repeat (first | exact trivial | refine ⟨rfl, ?_⟩)) ⟨rfl, hown, hs⟩ ?_ ?_ ?_
   ·rintro k ⟨o, c, H1⟩ w s' hk hJ hk2;refine zP ?_;exact Xn (Ua (by repeat (first | exact trivial | refine ⟨rfl, ?_⟩)) hk2)
   ·rintro k ⟨o, c, H1⟩ w hk ⟨ho, hown, hs⟩;simp only at ho hown hs
    have hol2 : o.length = n := by
     have := rTo_len ls inn back out k;rw [← ho] at this
     exact this.trans hol
    have hk2 : k < inn.length := by omega
    have hb := hl.base hk;have hc := (hl.mono hg1).enc hk;have hb2 := hin.base hk2;have hc2 := (hin.mono hg1).bool hk2;obtain ⟨fr, hfr⟩ : ∃ fr, fr = Vf ls k := ⟨_, rfl⟩
    obtain ⟨to, hto⟩ : ∃ to, to = Yk ls k := ⟨_, rfl⟩
    have hcc : Lies g1 (Zj al 3 k).block (Zj al 3 k).off [.int .i64 (fr : Int), .int .i64 (to : Int), .int .u32 (ls[k].ms : Int)] := by rw [hfr, hto, frOf_at hk, toOf_at hk]; exact hc
    have hsl := src_lt (back := back) hv hk;have hdl := dst_lt (back := back) hv hk;obtain ⟨b, cap, cs, hve, rfl, hcs, hset⟩ := hown.open' (by omega);rw [hol2] at hve
    simp only [Value.slice.injEq, true_and] at hve
    obtain ⟨rfl, rfl⟩ := hve
    have hcnd : rCond ls inn back o k = (inn[k] && o[srcR ls back k]'(by omega) && !o[dstR ls back k]'(by omega)) := by
     unfold rCond;rw [Zw hk2, Zw (show srcR ls back k < o.length by omega), Zw (show dstR ls back k < o.length by omega)]
    have hyes : rCond ls inn back o k = true → ((o.set (dstR ls back k) true, true) : List Bool × Bool) = rTo ls inn back out (k + 1) := fun h => by rw [rTo_succ, ← ho]; unfold rStep; rw [if_pos h]
    have hno : rCond ls inn back o k = false → ((o, c) : List Bool × Bool) = rTo ls inn back out (k + 1) := fun h => by rw [rTo_succ, ← ho]; unfold rStep; rw [if_neg (by rw [h]; decide)]
    have cell1 := hcs (srcR ls back k) (by omega);have cell2 := hcs (dstR ls back k) (by omega);have hset2 := hset (dstR ls back k) true (by omega);rw [hol2] at hset2
    generalize inn[k] = q1 at hc2 hcnd
    generalize o[srcR ls back k]'(by omega) = q2 at cell1 hcnd
    generalize o[dstR ls back k]'(by omega) = q3 at cell2 hcnd
    refine Y0 ?_;refine Yb rfl rfl rfl rfl rfl (by omega) hb rfl rfl ?_;refine zP ?_;refine Xd hs (hcc.of_eaddr 0 _ rfl) rfl rfl rfl rfl rfl ?_;refine Y4 ?_;refine Yb rfl rfl rfl rfl rfl (by omega) hb rfl rfl ?_;refine zP ?_;refine Xd hs (hcc.of_eaddr 1 _ rfl) rfl rfl rfl rfl rfl ?_;refine Y15 ?_
    cases back
    ·have e1 : srcR ls false k = fr := hfr.symm;have e2 : dstR ls false k = to := hto.symm;rw [e1] at cell1 hsl
     rw [e2] at cell2 hdl hyes hset2
     refine Yy rfl rfl (Xq (Zl ?_));refine Y0 ?_;refine Yb rfl rfl rfl rfl rfl (by omega) hb2 rfl rfl ?_;refine Xd hs (hc2) rfl rfl rfl rfl rfl ?_;refine zP ?_;cases q1 with
     | false =>
      refine Y40 ?_;exact Yy rfl rfl (Xq (Xh (Xs (o, c, [(b, Xa cs 4)]) hk (by omega) ⟨hno hcnd, hown, hs⟩ rfl rfl rfl rfl (by repeat (first | exact trivial | refine ⟨rfl, ?_⟩)))))
     | true =>
      refine zG ?_;refine Yv _ rfl rfl rfl rfl rfl (hsl) rfl rfl rfl ?_;refine zG ?_;refine Yu hs 0 rfl rfl cell1 rfl rfl rfl rfl ?_;refine zG ?_;cases q2 with
      | false =>
       refine Y40 ?_;exact Yy rfl rfl (Xq (Xh (Xs (o, c, [(b, Xa cs 4)]) hk (by omega) ⟨hno hcnd, hown, hs⟩ rfl rfl rfl rfl (by repeat (first | exact trivial | refine ⟨rfl, ?_⟩)))))
      | true =>
       refine zG ?_;refine Yv _ rfl rfl rfl rfl rfl (hdl) rfl rfl rfl ?_;refine zG ?_;refine Yu hs 0 rfl rfl cell2 rfl rfl rfl rfl ?_;refine Y40 ?_;cases q3 with
       | true => exact Yy rfl rfl (Xq (Xh (Xs (o, c, [(b, Xa cs 4)]) hk (by omega) ⟨hno hcnd, hown, hs⟩ rfl rfl rfl rfl (by repeat (first | exact trivial | refine ⟨rfl, ?_⟩)))))
       | false =>
        refine Y37 ?_;refine Yv _ rfl rfl rfl rfl rfl (hdl) rfl rfl rfl ?_;refine Yh hs 0 rfl rfl rfl cell2 rfl rfl rfl rfl ?_;clear hs; intro w hs;refine Y8 ?_
        exact Xn (Xh (Xs (o.set to true, true, [(b, Xa (cs.set to (.bool true)) 4)]) hk (by omega) ⟨hyes hcnd, by simpa [List.length_set] using hset2, hs⟩ rfl rfl rfl rfl (by repeat (first | exact trivial | refine ⟨rfl, ?_⟩))))
    ·have e1 : srcR ls true k = to := hto.symm;have e2 : dstR ls true k = fr := hfr.symm;rw [e1] at cell1 hsl
     rw [e2] at cell2 hdl hyes hset2
     refine Y37 ?_;refine Yb rfl rfl rfl rfl rfl (by omega) hb rfl rfl ?_;refine zP ?_;refine Xd hs (hcc.of_eaddr 1 _ rfl) rfl rfl rfl rfl rfl ?_;refine Y4 ?_;refine Yb rfl rfl rfl rfl rfl (by omega) hb rfl rfl ?_;refine zP ?_;refine Xd hs (hcc.of_eaddr 0 _ rfl) rfl rfl rfl rfl rfl ?_;refine Y4 ?_;refine Yb rfl rfl rfl rfl rfl (by omega) hb2 rfl rfl ?_
     refine Xd hs (hc2) rfl rfl rfl rfl rfl ?_;refine zP ?_;cases q1 with
     | false =>
      refine Y40 ?_;exact Yy rfl rfl (Xq (Xh (Xs (o, c, [(b, Xa cs 4)]) hk (by omega) ⟨hno hcnd, hown, hs⟩ rfl rfl rfl rfl (by repeat (first | exact trivial | refine ⟨rfl, ?_⟩)))))
     | true =>
      refine zG ?_;refine Yv _ rfl rfl rfl rfl rfl (hsl) rfl rfl rfl ?_;refine zG ?_;refine Yu hs 0 rfl rfl cell1 rfl rfl rfl rfl ?_;refine zG ?_;cases q2 with
      | false =>
       refine Y40 ?_;exact Yy rfl rfl (Xq (Xh (Xs (o, c, [(b, Xa cs 4)]) hk (by omega) ⟨hno hcnd, hown, hs⟩ rfl rfl rfl rfl (by repeat (first | exact trivial | refine ⟨rfl, ?_⟩)))))
      | true =>
       refine zG ?_;refine Yv _ rfl rfl rfl rfl rfl (hdl) rfl rfl rfl ?_;refine zG ?_;refine Yu hs 0 rfl rfl cell2 rfl rfl rfl rfl ?_;refine Y40 ?_;cases q3 with
       | true => exact Yy rfl rfl (Xq (Xh (Xs (o, c, [(b, Xa cs 4)]) hk (by omega) ⟨hno hcnd, hown, hs⟩ rfl rfl rfl rfl (by repeat (first | exact trivial | refine ⟨rfl, ?_⟩)))))
       | false =>
        refine Y37 ?_;refine Yv _ rfl rfl rfl rfl rfl (hdl) rfl rfl rfl ?_;refine Yh hs 0 rfl rfl rfl cell2 rfl rfl rfl rfl ?_;clear hs; intro w hs;refine Y8 ?_
        exact Xn (Xh (Xs (o.set fr true, true, [(b, Xa (cs.set fr (.bool true)) 4)]) hk (by omega) ⟨hyes hcnd, by simpa [List.length_set] using hset2, hs⟩ rfl rfl rfl rfl (by repeat (first | exact trivial | refine ⟨rfl, ?_⟩))))
   ·rintro ⟨o, c, H1⟩ w ⟨ho, hown, hs⟩;simp only at ho hown hs
    refine Y24 ?_;have h1 : (rTo ls inn back out ls.length).1 = o := by rw [← ho]
    have h2 : (rTo ls inn back out ls.length).2 = c := by rw [← ho]
    replace hr : (if (rTo ls inn back out ls.length).2 = true then rchR ls inn back (n - (i + 1)) (rTo ls inn back out ls.length).1 else (rTo ls inn back out ls.length).1) = rchR ls inn back n from_ := hr;rw [h1, h2] at hr
    have hol2 : o.length = n := by rw [← h1, rTo_len]; exact hol
    cases c with
    | false =>
     refine zT ?_;exact Zm rfl (Vl H1 (by repeat (first | exact trivial | refine ⟨rfl, ?_⟩)) ⟨by rw [← hr]; exact hown, hs⟩)
    | true => exact Yy rfl rfl (Xq (Xh (Xs (o, H1) hi (by omega) ⟨hol2, hr, hown, hs⟩ rfl rfl rfl rfl (by repeat (first | exact trivial | refine ⟨rfl, ?_⟩)))))
  ·rintro ⟨out, H⟩ w ⟨hol, hr, hown, hs⟩;simp only at hol hr hown hs
   rw [Nat.sub_self] at hr
   exact Vl H (by repeat (first | exact trivial | refine ⟨rfl, ?_⟩)) ⟨by rw [← hr]; exact hown, hs⟩
 ·clear hs hown;rintro H w ⟨hown, hs⟩;refine Y1 ?_;exact Xb (Xo rfl rfl) ⟨g1, H, hg1, hs, hown⟩
end
section
open Go.RowKit
set_option maxHeartbeats 4000000 in
theorem refIsRound_spec (g : Ghost) (vi vl vs vo : Value) (rs : List Arrow) (init stem loop : List Int) (start : Int) (hi : RS kInt g vi init) (hl : RS kArr g vl rs) (hst : RS kInt g vs stem) (ho : RS kInt g vo loop)
  (hi0 : init.length ≤ 1000000000) (hal : rs.length ≤ 1000000000) (hs0 : stem.length ≤ 1000000000) (ho0 : loop.length ≤ 1000000000) :
  Pu PP 30 [vi, vl, .agg #[.int .i64 start, vs, vo]] g (.bool (Yz init rs start stem loop)) := fun g' hg => by
 have hi := hi.mono hg
 have hl := hl.mono hg
 have hst := hst.mono hg
 have ho := ho.mono hg
 have c1 : Pu PP 58 [vi, .int .i64 start] g' (.bool (init.any fun y => start == y)) := det_pu fun g'' h => contains_spec g'' vi init start (hi.mono h) (by omega)
 have c2 := refWalk_spec g' vl vs rs stem start hl hst hal hs0
 obtain ⟨ao, co, rfl⟩ := ho.form
 unfold Yz
 generalize (init.any fun y => start == y) = B at c1 ⊢
 cases h1 : Yl rs stem start with
 | none =>
  rw [h1] at c2
  simp only [wkV] at c2
  refine Ym Tryz.func30 rfl rfl Tryz.ntmps30 rfl fun F => ?_
  refine ze fun b => ?_
  repeat' (first | refine zs ?_ | refine zB (fun h => ?_) fun h => ?_ | refine zds ?_ | fail)
  all_goals (refine zt (congrArg _ ?_); grind)
 | some f =>
  rw [h1] at c2
  simp only [wkV] at c2
  have c3 := refWalk_spec g' vl (.slice ao loop.length co) rs loop f hl ho hal ho0;cases h2 : Yl rs loop f with
  | none =>
   rw [h2] at c3
   simp only [wkV] at c3
   refine Ym Tryz.func30 rfl rfl Tryz.ntmps30 rfl fun F => ?_
   refine ze fun b => ?_
   repeat' (first | refine zs ?_ | refine zB (fun h => ?_) fun h => ?_ | refine zds ?_ | fail)
   all_goals (refine zt (congrArg _ ?_); grind)
  | some e =>
   rw [h2] at c3
   simp only [wkV] at c3
   refine Ym Tryz.func30 rfl rfl Tryz.ntmps30 rfl fun F => ?_
   refine ze fun b => ?_
   repeat' (first | refine zs ?_ | refine zB (fun h => ?_) fun h => ?_ | refine zds ?_ | fail)
   all_goals (refine zt (congrArg _ ?_); grind)
end
section
open Go.RowKit
theorem sats_satR {ls : List Arrow} {all : List Nat} {pairs : List (Nat × Nat)} {w : List Nat} (h : Sats ls all pairs w) {inn : List Bool} (hw : ∀ k, k ∈ w ↔ k < ls.length ∧ inn.getD k false = true) : satR ls all pairs inn = true := by
 have e : ∀ m, (∃ k ∈ w, Zv ls k m = true) ↔ Zp ls inn m = true := fun m => by
  rw [someR_iff]
  constructor
  ·rintro ⟨k, hk, hm⟩; obtain ⟨a, b⟩ := (hw k).1 hk; exact ⟨k, a, b, hm⟩
  ·rintro ⟨k, a, b, hm⟩; exact ⟨k, (hw k).2 ⟨a, b⟩, hm⟩
 simp only [satR, Bool.and_eq_true, List.all_eq_true]
 refine ⟨fun m hm => (e m).1 (h.1 m hm), fun p hp => ?_⟩
 by_cases h1 : Zp ls inn p.1 = true
 ·rw [(e _).1 (h.2 p hp ((e _).2 h1)), h1]; rfl
 ·simp only [Bool.not_eq_true] at h1; rw [h1]; rfl
section
variable {P : Program} [Tabbed P] {ro : Option Nat} {Qb : Exit → Act → World → Prop} {N : Nat} {ds : List Deferred} {ops : Array Oper} {rest : List Oper} {s : List Fr} {ρ : Env} {w : World}
variable {g : Ghost} {L : Own} {d : Nat} {ty : TypeId} {pos : String} {after : Array Edge} {guard : Option (Nat × Bool)}
theorem wl_makeZ {t E : Nat} {te ee : TE} {x : Operand} {n : Nat} (hs : Sg g w L) (hx : ev ρ x = some (.int .i64 (n : Int))) (h0 : n ≤ 1099511627776) (ht : Xc (tb P) t = some te) (hd : te.td = .slice E) (he : Xc (tb P) E = some ee)
  (hb : Nat.ble ee.bytes 128 = true) (hsz : Nat.blt 0 ee.zs.length = true) (hn : Nat.blt d N = true) (hw : Xl ops ρ guard = some true)
  (h : ∀ b w', Sg g w' ((b, Xa (List.replicate (n : Int).toNat ee.zcells).flatten E) :: L) → WL P ro Qb N ds ops rest s ((d, .slice (some ⟨b, 0, none⟩) n n) :: ρ) w') :
  WL P ro Qb N ds ops (⟨some d, .makeSlice t x x, ty, pos, after, guard⟩ :: rest) s ρ w := by
 obtain ⟨g1, hg, hs⟩ := hs
 exact Jk hs hx (by omega) ht hd he hb hsz hn hw fun b w' hs' => h b w' ⟨g1, hg, hs'⟩
end
theorem zfzB {g : Ghost} {L : Own} {r n : Nat} {l : List Bool} {X : World → Prop} (hl : l.length = n) (h : ∀ g', g ≤ g' → RS Yt g' (.slice (some ⟨r, 0, none⟩) n n) l → ∀ w, Sg g' w L → X w) : ∀ w, Sg g w ((r, Xa (l.map .bool) 4) :: L) → X w := by
 rintro w ⟨g1, hg, hs⟩
 obtain ⟨g2, hg2, hs1, hr3⟩ := OwnS.freezeE (e := eBool) (h0 := fun _ => rfl) (xs := l) (own_bools hl) hs
 exact h _ (Ghost.tr hg hg2) hr3 w (.of hs1)
set_option maxHeartbeats 4000000 in
theorem refAccepts_spec (g : Ghost) (n : Int) (vi vl va vp vs vo : Value) (init : List Int) (ls : List ArrowI) (all : List Int) (pairs : List (Int × Int)) (start : Int) (stem loop : List Int)
  (hi : RS kInt g vi init) (hl : RS Jl g vl ls) (ha : RS kInt g va all) (hp : RS Vh g vp pairs) (hst : RS kInt g vs stem) (ho : RS kInt g vo loop)
  (hi0 : init.length ≤ 1000000000) (hl0 : ls.length ≤ 1000000000) (ha0 : all.length ≤ 1000000000) (hp0 : pairs.length ≤ 1000000000) (hs0 : stem.length ≤ 1000000000) (ho0 : loop.length ≤ 1000000000)
  (hk : Xz n init ls all pairs = 0) (hr : Yz init (ls.map toA) start stem loop = true) (hsat : Sats (ls.map toA) (all.map Int.toNat) (pairs.map toP) (loop.map Int.toNat)) :
  Pu PP 16 [.int .i64 n, vi, vl, .agg #[va, vp], .agg #[.int .i64 start, vs, vo]] g (.tuple #[.bool true, .int .i64 0]) := fun g' hg => by
 have hi := hi.mono hg
 have hl := hl.mono hg
 have ha := ha.mono hg
 have hp := hp.mono hg
 have hst := hst.mono hg
 have ho := ho.mono hg
 have hC := Jn hk
 have c1 : Pu PP 14 [.int .i64 n, vi, vl, .agg #[va, vp]] g' (.int .i64 0) := det_pu fun g'' h => by
  have := refCheck_spec g'' n vi vl va vp init ls all pairs (hi.mono h) (hl.mono h) (ha.mono h) (hp.mono h) (by omega) (by omega) (by omega) (by omega);rw [hk] at this; exact this
 have c2 := refIsRound_spec g' vi vl vs vo (ls.map toA) init stem loop start hi (hC.rsA hl) hst ho hi0 (by simpa using hl0) hs0 ho0
 rw [hr] at c2
 have hok := (isRound_ok hr).1
 simp only [List.length_map] at hok
 obtain ⟨ao, co, rfl⟩ := ho.form
 obtain ⟨al, cl, rfl⟩ := hl.form
 refine Ym Tryz.func16 rfl rfl Tryz.ntmps16 rfl fun F => ?_
 refine ze fun wb => ?_
 intro w hs
 refine wl_boxs hs rfl rfl rfl rfl ?_
 clear hs; intro rb w hs
 revert w hs
 repeat' (first | refine zA4 ?_ | refine zBD (fun h => ?_) fun h => ?_ | fail)
 have h1 : 0 < loop.length := by
  have := hr;unfold Yz at this
  simp only [Bool.and_eq_true, Bool.not_eq_true', decide_eq_false_iff_not] at this
  omega
 intro w hs
 refine wl_makeZ hs rfl (by omega) rfl rfl rfl rfl rfl rfl rfl ?_
 clear hs; intro r w hs
 rw [Jo] at hs
 revert w hs
 repeat' (first | refine zA4 ?_ | refine zBD (fun h => ?_) fun h => ?_ | fail)
 refine zLg (σ := Nat × List Bool) (fun x => [(14, .int .i64 (x.1 : Int))]) [2, 8, 9, 13] (fun _ => g') (fun x => (r, Xa (x.2.map .bool) 4) :: (rb, Xa [.int .i64 start, vs, .slice ao loop.length co] 34) :: (wb, Xa [va, vp] 26) :: F) (fun x => x.1 ≤ loop.length ∧ x.2.length = ls.length ∧ ∀ k, x.2.getD k false = true ↔ k ∈ (loop.take x.1).map Int.toNat) (fun x => loop.length - x.1) (0, List.replicate ls.length false) ⟨Nat.zero_le _, by simp, fun k => by simp [List.getD_eq_getElem?_getD, List.getElem?_replicate]; split <;> rfl⟩ rfl rfl fun (i, bs) ⟨hi2, hbl, hbs⟩ => ?_
 simp only at hi2 hbl hbs
 dsimp only
 by_cases hil : i < loop.length
 ·have hx := hok _ (List.getElem_mem hil);have q1 := RS.int ho (i := i) hil;obtain ⟨k, hk⟩ := Int.eq_ofNat_of_zero_le hx.1;have hkl : k < ls.length := by omega
  have ht : (loop.take (i + 1)).map Int.toNat = (loop.take i).map Int.toNat ++ [k] := by
   rw [tkS hil, List.map_append, hk]; rfl
  rw [hk] at q1
  clear hx
  repeat' (first | refine zA4 ?_ | (refine zBD (fun h => ?_) (fun h => ?_) <;> (try (exfalso; omega))) | fail)
  intro w hs;refine wl_ixO rfl rfl rfl rfl rfl (by omega) rfl rfl ?_;refine wl_stS (u := .bool (bs[k]'(by omega))) hs 0 rfl rfl rfl (by simp [hbl, hkl]) rfl rfl rfl rfl ?_;clear hs; intro w hs;revert w hs
  repeat' (first | refine zA4 ?_ | (refine zBD (fun h => ?_) (fun h => ?_) <;> (try (exfalso; omega))) | fail)
  refine Zo (i + 1, bs.set k true) ⟨by show i + 1 ≤ _; omega, by simpa using hbl, fun j => ?_⟩ (by show loop.length - (i + 1) < loop.length - i; omega) fun w h => ?_
  ·show _ ↔ j ∈ (loop.take (i + 1)).map Int.toNat
   rw [ht, Kr (by omega), List.mem_append, ← hbs]
   by_cases e : j = k
   ·simp [e]
   ·simp [e]
  ·simpa [List.map_set] using h
 ·rw [List.take_of_length_le (by omega)] at hbs
  repeat' (first | refine zA4 ?_ | (refine zBD (fun h => ?_) (fun h => ?_) <;> (try (exfalso; omega))) | fail)
  refine zfzB hbl fun g2 hg2 hin => ?_
  have c3 : Pu PP 47 [.slice al ls.length cl, .slice (some ⟨r, 0, none⟩) ls.length ls.length, .agg #[va, vp]] g2 (.bool true) := det_pu fun g3 h => by
   have := refSatisfied_spec g3 (.slice al ls.length cl) (.slice (some ⟨r, 0, none⟩) ls.length ls.length) va vp n.toNat (ls.map toA) bs (all.map Int.toNat) (pairs.map toP) ((hC.rsA hl).mono (Ghost.tr hg2 h)) hC.validG (hin.mono h) (by simpa using hbl) (hC.all.rs (ha.mono (Ghost.tr hg2 h))) (hC.rsP (hp.mono (Ghost.tr hg2 h))) (by simp; omega) (by simp; omega)
   rw [sats_satR hsat fun k => ?_] at this
   ·exact this
   ·rw [← hbs];refine ⟨fun h => ⟨?_, h⟩, fun h => h.2⟩;rw [hbs, List.mem_map] at h
    obtain ⟨x, hx, rfl⟩ := h;simpa using (hok x hx).2
  repeat' (first | refine zA4 ?_ | (refine zBD (fun h => ?_) (fun h => ?_) <;> (try (exfalso; omega))) | fail)
  exact fun w hs => Xb (res2 rfl rfl rfl) ⟨(hs.up hg2).drop.drop, rfl⟩
end
section
open Go.RowKit
theorem refGraph_spec (k : Nat) (g : Ghost) (cs : List Value) (G : GraphV) (hG : GrRn k g cs G) : Pu PP 29 [.agg cs.toArray] g (.int .i64 (if Vv G = true then 0 else 230)) := fun g' hg => by
 have c1 := refIsG_spec k g cs G hG g' hg
 obtain ⟨⟨vs, vi, ve, rfl, ⟨a1, q1, rfl, hcap⟩, hS, hI, hE⟩, bn, bi, be, bs⟩ := hG
 have c1 : Pu PP 61 _ g' _ := fun g2 h => refIsG_spec k g _ G ⟨⟨_, vi, ve, rfl, ⟨a1, q1, rfl, hcap⟩, hS, hI, hE⟩, bn, bi, be, bs⟩ g2 (Ghost.tr hg h)
 generalize Vv G = B at c1 ⊢
 refine Ym Tryz.func29 rfl rfl Tryz.ntmps29 rfl fun F => ?_
 refine ze fun b => ?_
 repeat' (first | refine zs ?_ | refine zB (fun h => ?_) fun h => ?_ | refine zds ?_ | fail)
 ·refine zt ?_
  cases B
  ·rfl
  ·cases h
 ·refine zt ?_
  cases B
  ·cases h
  ·rfl
theorem graph_spec (k : Nat) (hk : k ≤ 1000) (g : Ghost) (cs : List Value) (G : GraphV) (hG : GrRn k g cs G) : Pu PP 24 [.agg cs.toArray] g (.int .i64 (if Vv G = true then 0 else 230)) := fun g' hg => by
 obtain ⟨⟨vs, vi, ve, rfl, ⟨a1, q1, rfl, hcap⟩, hS, hI, hE⟩, bn, bi, be, bs⟩ := hG
 have c1 : Pu PP 54 _ g' _ := fun g2 h => isGraph_spec k hk g _ G ⟨⟨_, vi, ve, rfl, ⟨a1, q1, rfl, hcap⟩, hS, hI, hE⟩, bn, bi, be, bs⟩ g2 (Ghost.tr hg h)
 generalize Vv G = B at c1 ⊢
 refine Ym Tryz.func24 rfl rfl Tryz.ntmps24 rfl fun F => ?_
 refine ze fun b => ?_
 repeat' (first | refine zs ?_ | refine zB (fun h => ?_) fun h => ?_ | refine zds ?_ | fail)
 ·refine zt ?_
  cases B
  ·rfl
  ·cases h
 ·refine zt ?_
  cases B
  ·cases h
  ·rfl
def inG (n : Nat) (a : ArrowI) : Bool := decide (0 ≤ a.fr) && decide (a.fr < n) && decide (0 ≤ a.to) && decide (a.to < n)
def Ul (G : GraphV) (ls : List ArrowI) (p : List Int) : List (List ValT) := p.map fun x => G.sts.getD (ls.getD x.toNat ⟨0, 0, 0⟩).fr.toNat []
noncomputable def Vz (G : GraphV) (ls : List ArrowI) (start : Int) (stem loop : List Int) : List (List ValT) × Int × Int :=
 if Vv G = true ∧ ls.all (inG G.sts.length) = true then
  if Yz G.init (ls.map toA) start stem loop = true then (Ul G ls (stem ++ loop), stem.length, 0) else ([], 0, 322)
 else ([], 0, 230)
def LasV (k : Nat) (g : Ghost) (v : Value) (x : List (List ValT) × Int × Int) : Prop := ∃ vs, v = .tuple #[.agg #[vs, .int .i64 x.2.1], .int .i64 x.2.2] ∧ RS (kSl (Ud k)) g vs x.1
theorem LasV.mono {k : Nat} {x : List (List ValT) × Int × Int} : MonoP fun g v => LasV k g v x := fun _ _ _ hg ⟨vs, h1, h2⟩ => ⟨vs, h1, h2.mono hg⟩
end
section
open Go.RowKit
theorem cloneVal_spec (k : Nat) (g : Ghost) (v : Value) (l : List ValT) (hv : RS (Ud k) g v l) (hl : l.length ≤ 1000000) : Pr PP 32 [v] g fun g2 r => RS (Ud k) g2 r l := fun g' hg => by
 have hv := hv.mono hg
 obtain ⟨a, c, rfl⟩ := hv.form
 refine cl_pr (fun _ _ _ hg h => h.mono hg) Tryz.func32 rfl rfl Tryz.ntmps32 rfl fun F => ?_
 repeat' (first | refine zA4 ?_ | (refine zBD (fun h => ?_) (fun h => ?_) <;> (try (exfalso; omega))) | fail)
 intro w hs
 refine wl_isNil rfl rfl rfl rfl rfl rfl ?_
 revert w hs
 repeat' (first | refine zA4 ?_ | (refine zBD (fun h => ?_) (fun h => ?_) <;> (try (exfalso; omega))) | fail)
 ·rename_i h;have ha : a = none := by simpa using h
  subst ha;have := hv.none;subst this;exact fun w hs => Xb (Xo rfl rfl) ⟨g', Ghost.rfl', hs, RS.nil _ _ _ _⟩
 ·intro w hs;refine wl_lits (ps := []) hs rfl rfl rfl rfl rfl rfl rfl rfl rfl rfl ?_;clear hs; intro b w hs;revert w hs
  repeat' (first | refine zA4 ?_ | (refine zBD (fun h => ?_) (fun h => ?_) <;> (try (exfalso; omega))) | fail)
  have hB : Bld (Ud k) 85 g' (.slice (some ⟨b, 0, none⟩) 0 0) [] [(b, Xa [] 85)] := ⟨[], OwnS.lit (m := 0) rfl, fun i hi => by simp at hi⟩
  have e0 : ([] : List ValT).length = 0 := rfl;refine zab hB hv (kVal_one k) fun v3 H3 hB3 => ?_
  repeat' (first | refine zA4 ?_ | (refine zBD (fun h => ?_) (fun h => ?_) <;> (try (exfalso; omega))) | fail)
  intro w hs;obtain ⟨g2, h1, h2, h3⟩ := hB3.freeze hs;exact Xb (Xo rfl rfl) ⟨g2, h1, h2, by simpa using h3⟩
end
end Go.Proofs.YtpmlighdpgbecaaGreatDoor.S
