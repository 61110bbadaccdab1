/- What the statement FairProofs is proved with, part 6: walks of the code, each against a pure version of it. -/
import Derived.Test.YtnanffbjmfgafaaGreatWFairProofs5
set_option linter.all false
namespace Go.Proofs.YtnanffbjmfgafaaGreat.S
open Go.RowKit
theorem int_eq0 (m : Nat) : ((m : Int) == 0) = decide (m = 0) := by rw [Bool.eq_iff_iff]; simp
theorem int_eq1 (m : Nat) : ((m : Int) == 1) = decide (m = 1) := by rw [Bool.eq_iff_iff]; simp; omega
theorem beq_no {a b : Int} (h : (a == b) = false) : ¬ a = b := by simpa using h
theorem bare_spec (g : Ghost) (k : Nat) (cs : List Value) (d : Drop) (hd : DropRn k g cs d) : Cl PP 53 [.agg cs.toArray] g [] (Det (.bool (bareR d))) := by
  cases k with
  | zero => exact hd.elim
  | succ k =>
  obtain ⟨vn, vr, vL, rfl, r1, r2, r3⟩ := hd.open'
  obtain ⟨an, cn, rfl⟩ := r1.form
  obtain ⟨ar, cr, rfl⟩ := r2.form
  obtain ⟨aL, cL, rfl⟩ := r3.form
  refine cl_intro Tryz.func53 rfl rfl Tryz.ntmps53 rfl ?_
  intro w F hs
  repeat (refine wc_seq ?_)
  refine wc_region ?_
  refine wl_box hs rfl rfl rfl rfl ?_; clear hs; intro db w hs
  repeat (refine wl_p rfl rfl rfl ?_)
  refine wl_nil (wk_seq ?_)
  obtain ⟨g1, hg1, hs, hdb⟩ := freezeB hs
  replace hs := (show St g1 w F from hs)
  replace hdb := (show Lies g1 db 0 [.int .i64 d.kind, .int .i64 d.n, .slice an d.nodes.length cn, .slice ar d.rank.length cr, .slice aL d.l.length cL] from hdb)
  have fin : ∀ b, b = bareR d → ∃ g' L', g ≤ g' ∧ St g' w (L' ++ F) ∧ Det (.bool (bareR d)) g' L' (.bool b) := fun b hb => ⟨g1, [], hg1, hs, rfl, by rw [hb]⟩
  have hB : bareR d = if d.kind = 1 then d.n == 0 else if d.kind = 2 then d.n == 0 && decide (d.rank.length = 0) && decide (d.l.length = 0) else if d.kind = 3 then decide (d.rank.length = 0) && decide (d.l.length = 0) else if d.kind = 4 then decide (d.rank.length = 0) && decide (d.l.length = 1) else false := rfl
  repeat (refine wc_seq ?_)
  refine wc_region ?_
  repeat (refine wl_p rfl rfl rfl ?_)
  refine wl_ldG hs (hdb 0 _ rfl) rfl rfl rfl rfl rfl ?_
  refine wl_nil (wk_seq ?_)
  repeat (refine wc_seq ?_)
  refine wc_block ?_
  repeat (refine wc_seq ?_)
  refine wc_region ?_
  repeat (refine wl_p rfl rfl rfl ?_)
  refine wl_nil (wk_seq ?_)
  refine wc_cond rfl (fun h1 => ?_) (fun h1 => ?_)
  · rw [if_pos (eq_of_beq h1)] at hB
    repeat (refine wc_seq ?_)
    refine wc_region ?_
    repeat (refine wl_p rfl rfl rfl ?_)
    refine wl_ldG hs (hdb 1 _ rfl) rfl rfl rfl rfl rfl ?_
    repeat (refine wl_p rfl rfl rfl ?_)
    refine wl_nil (wk_seq ?_)
    exact wc_retV (res1 rfl rfl) (fin _ hB.symm)
  rw [if_neg (beq_no h1)] at hB
  repeat (refine wc_seq ?_)
  refine wc_region ?_
  repeat (refine wl_p rfl rfl rfl ?_)
  refine wl_nil (wk_seq ?_)
  refine wc_cond rfl (fun h2 => ?_) (fun h2 => ?_)
  · rw [if_pos (eq_of_beq h2)] at hB
    repeat (refine wc_seq ?_)
    refine wc_region ?_
    repeat (refine wl_p rfl rfl rfl ?_)
    refine wl_ldG hs (hdb 1 _ rfl) rfl rfl rfl rfl rfl ?_
    repeat (refine wl_p rfl rfl rfl ?_)
    refine wl_case 15 rfl (fun q1 => ?_) (fun q1 => ?_)
    · rw [show (d.n == 0) = true from q1] at hB
      repeat (first | refine wl_p rfl rfl rfl ?_ | refine wl_skip rfl rfl rfl ?_)
      refine wl_ldG hs (hdb 3 _ rfl) rfl rfl rfl rfl rfl ?_
      repeat (first | refine wl_p rfl rfl rfl ?_ | refine wl_skip rfl rfl rfl ?_)
      refine wl_case 21 rfl (fun q2 => ?_) (fun q2 => ?_)
      · have q2' := int_eq0 d.rank.length ▸ (show ((d.rank.length : Int) == 0) = true from q2)
        rw [q2'] at hB
        repeat (first | refine wl_p rfl rfl rfl ?_ | refine wl_skip rfl rfl rfl ?_)
        refine wl_ldG hs (hdb 4 _ rfl) rfl rfl rfl rfl rfl ?_
        repeat (first | refine wl_p rfl rfl rfl ?_ | refine wl_skip rfl rfl rfl ?_)
        refine wl_nil (wk_seq ?_)
        exact wc_retV (res1 rfl rfl) (fin _ (by rw [hB]; exact int_eq0 _))
      · have q2' := int_eq0 d.rank.length ▸ (show ((d.rank.length : Int) == 0) = false from q2)
        rw [q2'] at hB
        repeat (first | refine wl_p rfl rfl rfl ?_ | refine wl_skip rfl rfl rfl ?_)
        refine wl_nil (wk_seq ?_)
        exact wc_retV (res1 rfl rfl) (fin _ (by rw [hB]; rfl))
    · rw [show (d.n == 0) = false from q1] at hB
      repeat (first | refine wl_p rfl rfl rfl ?_ | refine wl_skip rfl rfl rfl ?_)
      refine wl_nil (wk_seq ?_)
      exact wc_retV (res1 rfl rfl) (fin _ (by rw [hB]; rfl))
  rw [if_neg (beq_no h2)] at hB
  repeat (refine wc_seq ?_)
  refine wc_region ?_
  repeat (refine wl_p rfl rfl rfl ?_)
  refine wl_nil (wk_seq ?_)
  refine wc_cond rfl (fun h3 => ?_) (fun h3 => ?_)
  · rw [if_pos (eq_of_beq h3)] at hB
    repeat (refine wc_seq ?_)
    refine wc_region ?_
    repeat (refine wl_p rfl rfl rfl ?_)
    refine wl_ldG hs (hdb 3 _ rfl) rfl rfl rfl rfl rfl ?_
    repeat (refine wl_p rfl rfl rfl ?_)
    refine wl_case 33 rfl (fun q2 => ?_) (fun q2 => ?_)
    · have q2' := int_eq0 d.rank.length ▸ (show ((d.rank.length : Int) == 0) = true from q2)
      rw [q2'] at hB
      repeat (first | refine wl_p rfl rfl rfl ?_ | refine wl_skip rfl rfl rfl ?_)
      refine wl_ldG hs (hdb 4 _ rfl) rfl rfl rfl rfl rfl ?_
      repeat (first | refine wl_p rfl rfl rfl ?_ | refine wl_skip rfl rfl rfl ?_)
      refine wl_nil (wk_seq ?_)
      exact wc_retV (res1 rfl rfl) (fin _ (by rw [hB]; exact int_eq0 _))
    · have q2' := int_eq0 d.rank.length ▸ (show ((d.rank.length : Int) == 0) = false from q2)
      rw [q2'] at hB
      repeat (first | refine wl_p rfl rfl rfl ?_ | refine wl_skip rfl rfl rfl ?_)
      refine wl_nil (wk_seq ?_)
      exact wc_retV (res1 rfl rfl) (fin _ (by rw [hB]; rfl))
  rw [if_neg (beq_no h3)] at hB
  repeat (refine wc_seq ?_)
  refine wc_region ?_
  repeat (refine wl_p rfl rfl rfl ?_)
  refine wl_nil (wk_seq ?_)
  refine wc_cond rfl (fun h4 => ?_) (fun h4 => ?_)
  · rw [if_pos (eq_of_beq h4)] at hB
    repeat (refine wc_seq ?_)
    refine wc_region ?_
    repeat (refine wl_p rfl rfl rfl ?_)
    refine wl_ldG hs (hdb 3 _ rfl) rfl rfl rfl rfl rfl ?_
    repeat (refine wl_p rfl rfl rfl ?_)
    refine wl_case 45 rfl (fun q2 => ?_) (fun q2 => ?_)
    · have q2' := int_eq0 d.rank.length ▸ (show ((d.rank.length : Int) == 0) = true from q2)
      rw [q2'] at hB
      repeat (first | refine wl_p rfl rfl rfl ?_ | refine wl_skip rfl rfl rfl ?_)
      refine wl_ldG hs (hdb 4 _ rfl) rfl rfl rfl rfl rfl ?_
      repeat (first | refine wl_p rfl rfl rfl ?_ | refine wl_skip rfl rfl rfl ?_)
      refine wl_nil (wk_seq ?_)
      exact wc_retV (res1 rfl rfl) (fin _ (by rw [hB]; exact int_eq1 _))
    · have q2' := int_eq0 d.rank.length ▸ (show ((d.rank.length : Int) == 0) = false from q2)
      rw [q2'] at hB
      repeat (first | refine wl_p rfl rfl rfl ?_ | refine wl_skip rfl rfl rfl ?_)
      refine wl_nil (wk_seq ?_)
      exact wc_retV (res1 rfl rfl) (fin _ (by rw [hB]; rfl))
  rw [if_neg (beq_no h4)] at hB
  refine wc_skip (wk_blk (wk_seq ?_))
  repeat (refine wc_seq ?_)
  refine wc_region ?_
  repeat (refine wl_p rfl rfl rfl ?_)
  refine wl_nil (wk_seq ?_)
  exact wc_retV (res1 rfl rfl) (fin _ hB.symm)
theorem sum_snoc (l : List Nat) (x : Nat) : (l ++ [x]).sum = l.sum + x := by rw [List.sum_append]; simp
theorem fmax_snoc (l : List Nat) (x : Nat) : (l ++ [x]).foldr max 0 = max (l.foldr max 0) x := by
  induction l with
  | nil => simp
  | cons y l ih => rw [List.cons_append, List.foldr_cons, List.foldr_cons, ih]; omega
theorem sum_take_le (l : List Nat) (i : Nat) : (l.take i).sum ≤ l.sum := by
  have h : (l.take i ++ l.drop i).sum = l.sum := by rw [List.take_append_drop]
  rw [List.sum_append] at h
  omega
theorem le_fmax {l : List Nat} {x : Nat} (h : x ∈ l) : x ≤ l.foldr max 0 := by
  induction l with
  | nil => cases h
  | cons y l ih =>
    rw [List.foldr_cons]
    rcases List.mem_cons.1 h with e | h
    · rw [e]; omega
    · have := ih h; omega
theorem le_sum {l : List Nat} {x : Nat} (h : x ∈ l) : x ≤ l.sum := by
  induction l with
  | nil => cases h
  | cons y l ih =>
    rw [List.sum_cons]
    rcases List.mem_cons.1 h with e | h
    · rw [e]; omega
    · have := ih h; omega
theorem fmax_take_le (l : List Nat) (i : Nat) : (l.take i).foldr max 0 ≤ l.foldr max 0 := by
  induction l generalizing i with
  | nil => simp
  | cons y l ih =>
    cases i with
    | zero => simp
    | succ i =>
      rw [List.take_succ_cons, List.foldr_cons, List.foldr_cons]
      have := ih i
      omega
theorem proofs_spec : ∀ (k : Nat) (g : Ghost) (cs : List Value) (d : Drop), DropRn k g cs d → d.l.length ≤ 1048576 → DropOk k d → cntD k d ≤ 1000000 → depD k d ≤ 1000000 →
    Cl PP 12 [.agg cs.toArray] g [] (Det (.tuple #[.int .i64 (cntD k d : Int), .int .i64 (depD k d : Int)])) := by
  intro k
  induction k with
  | zero => intro g cs d hd; exact hd.elim
  | succ k ih =>
  intro g cs d hd _ hok hc hdp
  obtain ⟨hk1, hk2, hk3, hk4⟩ := hok
  obtain ⟨vn, vr, vL, rfl, r1, r2, r3⟩ := hd.open'
  obtain ⟨an, cn, rfl⟩ := r1.form
  obtain ⟨ar, cr, rfl⟩ := r2.form
  obtain ⟨aL, cL, rfl⟩ := r3.form
  obtain ⟨M, hM⟩ : ∃ M, M = d.l.map (cntD k) := ⟨_, rfl⟩
  obtain ⟨D, hD⟩ : ∃ D, D = d.l.map (depD k) := ⟨_, rfl⟩
  have hce : cntD (k + 1) d = 1 + M.sum := by rw [hM]; rfl
  have hde : depD (k + 1) d = 1 + D.foldr max 0 := by rw [hD]; rfl
  rw [hce] at hc ⊢
  rw [hde] at hdp ⊢
  refine cl_intro Tryz.func12 rfl rfl Tryz.ntmps12 rfl ?_
  intro w F hs
  repeat (refine wc_seq ?_)
  refine wc_region ?_
  refine wl_box hs rfl rfl rfl rfl ?_; clear hs; intro db w hs
  repeat (refine wl_p rfl rfl rfl ?_)
  refine wl_nil (wk_seq ?_)
  obtain ⟨g1, hg1, hs, hdb⟩ := freezeB hs
  replace hs := (show St g1 w F from hs)
  replace hdb := (show Lies g1 db 0 [.int .i64 d.kind, .int .i64 d.n, .slice an d.nodes.length cn, .slice ar d.rank.length cr, .slice aL d.l.length cL] from hdb)
  repeat (refine wc_seq ?_)
  refine wc_region ?_
  repeat (refine wl_p rfl rfl rfl ?_)
  refine wl_nil (wk_seq ?_)
  repeat (refine wc_seq ?_)
  refine wc_region ?_
  repeat (refine wl_p rfl rfl rfl ?_)
  refine wl_ldG hs (hdb 4 _ rfl) rfl rfl rfl rfl rfl ?_
  repeat (refine wl_p rfl rfl rfl ?_)
  refine wl_nil (wk_seq ?_)
  have hLl : d.l.length ≤ 4611686018427387904 := by omega
  refine wc_for d.l.length (fun i (_ : Unit) => [(12, .int .i64 d.l.length), (11, .slice aL d.l.length cL), (4, .int .i64 ((1 + (M.take i).sum : Nat) : Int)), (5, .int .i64 (((D.take i).foldr max 0 : Nat) : Int))]) (fun _ (_ : Unit) w => ∃ g', g1 ≤ g' ∧ St g' w F) () hLl (by repeat (first | exact trivial | refine ⟨rfl, ?_⟩)) ⟨g1, Ghost.rfl', hs⟩ (fun _ _ => rfl) rfl rfl rfl ?_ ?_ (fun _ _ => rfl) rfl
  · clear hs
    rintro i _ w hi ⟨g2, hg2, hs⟩
    have hg02 := Ghost.tr hg1 hg2
    have hMi : i < M.length := by rw [hM]; simpa using hi
    have hDi : i < D.length := by rw [hD]; simpa using hi
    have eM : M[i] = cntD k d.l[i] := by simp [hM]
    have eD : D[i] = depD k d.l[i] := by simp [hD]
    have hb := r3.base hi
    obtain ⟨ds, hds, hlie⟩ := (r3.mono hg02).get hi
    replace hds := (show DropRn k g2 ds d.l[i] from hds)
    have hdl := hds.len
    have m1 := le_sum (List.getElem_mem hMi)
    have m2 := le_fmax (List.getElem_mem hDi)
    have m3 := sum_take_le M i
    have m4 := fmax_take_le D i
    have m5 := sum_take_le M (i + 1)
    have s1 : (M.take (i + 1)).sum = (M.take i).sum + M[i] := by rw [take_snoc hMi, sum_snoc]
    have s2 : (D.take (i + 1)).foldr max 0 = max ((D.take i).foldr max 0) D[i] := by rw [take_snoc hDi, fmax_snoc]
    obtain ⟨p1, p2, p3, p4, p5, rfl, hpone⟩ := hds.cells5
    repeat (refine wc_seq ?_)
    refine wc_region ?_
    refine wl_ix rfl rfl rfl rfl rfl (by omega) (hb) rfl rfl ?_
    refine wl_ldGN (cs := [p1, p2, p3, p4, p5]) hs hlie.of_eaddr rfl rfl rfl rfl rfl rfl ?_
    refine wl_new hs rfl rfl rfl ?_; clear hs; intro xb w hs
    refine wl_stN (cs := [p1, p2, p3, p4, p5]) hs 0 rfl rfl rfl rfl rfl (Nat.le_of_ble_eq_true rfl) hpone rfl ?_
    clear hs; intro w hs
    refine wl_nil (wk_seq ?_)
    repeat (refine wc_seq ?_)
    refine wc_region ?_
    refine wl_ldW hs 0 rfl rfl rfl rfl rfl rfl rfl ?_
    have hrec := ih g2 [p1, p2, p3, p4, p5] d.l[i] hds (by
      have := hk4 i hi
      cases k with
      | zero => exact this.elim
      | succ k => exact this.1) (hk4 i hi) (by rw [← eM]; omega) (by rw [← eD]; omega)
    refine wl_call rfl rfl rfl (L := []) hs hrec ?_
    rintro u g3 L' w hg3 hs ⟨rfl, rfl⟩
    rw [← eM, ← eD]
    repeat (refine wl_p rfl rfl rfl ?_)
    refine wl_nil (wk_seq ?_)
    repeat (refine wc_seq ?_)
    refine wc_region ?_
    repeat (refine wl_p rfl rfl rfl ?_)
    refine wl_ar (c := ((1 + (M.take (i + 1)).sum : Nat) : Int)) rfl rfl (by rw [s1]; simp only [arith]; congr 1; omega) (by omega) rfl rfl ?_
    repeat (refine wl_p rfl rfl rfl ?_)
    refine wl_maxK (((D.take (i + 1)).foldr max 0 : Nat) : Int) (by rw [s2]; split <;> omega) rfl rfl rfl rfl ?_
    repeat (refine wl_p rfl rfl rfl ?_)
    refine wl_nil (wk_blk (wk_next () hi hLl ⟨g3, Ghost.tr hg2 hg3, hs.drop⟩ rfl rfl rfl (by repeat (first | exact trivial | refine ⟨rfl, ?_⟩))))
  · clear hs
    rintro _ w ⟨g2, hg2, hs⟩
    have t1 : M.take d.l.length = M := List.take_of_length_le (by rw [hM]; simp)
    have t2 : D.take d.l.length = D := List.take_of_length_le (by rw [hD]; simp)
    rw [t1, t2]
    refine wk_seq ?_
    repeat (refine wc_seq ?_)
    refine wc_region ?_
    repeat (refine wl_p rfl rfl rfl ?_)
    refine wl_ar (c := ((1 + D.foldr max 0 : Nat) : Int)) rfl rfl (by simp only [arith]; congr 1; omega) (by omega) rfl rfl ?_
    repeat (refine wl_p rfl rfl rfl ?_)
    refine wl_nil (wk_seq ?_)
    exact wc_retV (res2 rfl rfl rfl) ⟨g2, [], Ghost.tr hg1 hg2, hs, rfl, rfl⟩
end Go.Proofs.YtnanffbjmfgafaaGreat.S
namespace Go.Proofs.YtnanffbjmfgafaaGreat.S
open Go.RowKit
section
variable {n : Int} {init : List Int} {ls : List ArrowI} {all : List Int} {pairs : List (Int × Int)}
theorem initTo_succ (n : Nat) (init : List Nat) {i : Nat} (hi : i < init.length) : initTo n init (i + 1) = (initTo n init i).set init[i] true := by unfold initTo; rw [take_snoc hi, List.foldl_append]; rfl
theorem initTo_len (n : Nat) (init : List Nat) : ∀ i, i ≤ init.length → (initTo n init i).length = n
  | 0, _ => by simp [initTo]
  | i + 1, h => by rw [initTo_succ n init (by omega), List.length_set, initTo_len n init i (by omega)]
theorem reached_spec (hC : Checked n init ls all pairs) (g : Ghost) (vi vl : Value) (hi : RS kInt g vi init) (hl : RS kArrI g vl ls) :
    Cl PP 25 [.int .i64 (n.toNat : Int), vi, vl] g [] fun g' L' r => L' = [] ∧ RS kNat g' r (reachedS n.toNat (ls.map toA) (init.map Int.toNat)) := by
  have hiN := hC.init.rs hi
  obtain ⟨N, hN⟩ : ∃ N, N = n.toNat := ⟨_, rfl⟩
  obtain ⟨I, hI⟩ : ∃ I, I = init.map Int.toNat := ⟨_, rfl⟩
  have hlt : ∀ x ∈ I, x < N := fun x hx => by
    rw [hI] at hx
    obtain ⟨y, hy, rfl⟩ := List.mem_map.1 hx
    have := hC.init.low y hy
    omega
  have hn20 : N ≤ 20000 := by have := hC.n1; omega
  have hIl : I.length ≤ 20000 := by
    rw [hI, List.length_map]
    have h1 := hC.init.len hC.n0
    have h2 := hC.n1
    omega
  rw [← hI] at hiN ⊢
  have hev := fun g' (hg : g ≤ g') => refEvery_I hC (hl.mono hg)
  have hre := fun g' vin vf (hg : g ≤ g') h1 h2 h3 => refReach_I (back := false) (fr := initR N I) (vin := vin) (vf := vf) hC (hl.mono hg) h1 h2 h3
  rw [← hN] at hre ⊢
  obtain ⟨ai, ci, rfl⟩ := hiN.form
  refine cl_intro Tryz.func25 rfl rfl Tryz.ntmps25 rfl ?_
  intro w F hs
  repeat (refine wc_seq ?_)
  refine wc_region ?_
  repeat (refine wl_p rfl rfl rfl ?_)
  refine wl_nil (wk_seq ?_)
  repeat (refine wc_seq ?_)
  refine wc_region ?_
  repeat (refine wl_p rfl rfl rfl ?_)
  refine wl_make hs rfl (by omega) rfl rfl rfl rfl rfl rfl rfl ?_
  clear hs; intro ob w hs
  rw [zero_boolsN] at hs
  repeat (refine wl_p rfl rfl rfl ?_)
  refine wl_nil (wk_seq ?_)
  repeat (refine wc_seq ?_)
  refine wc_region ?_
  repeat (refine wl_p rfl rfl rfl ?_)
  refine wl_nil (wk_seq ?_)
  repeat (refine wc_seq ?_)
  refine wc_fori I.length (fun _ (_ : Unit) => [(0, .int .i64 (N : Int)), (1, .slice ai I.length ci), (2, vl), (7, .slice (some ⟨ob, 0, none⟩) N N)]) (fun i (_ : Unit) w => St g w ((ob, cellsO ((initTo N I i).map .bool) 4) :: F)) () (by repeat (first | exact trivial | refine ⟨rfl, ?_⟩)) hs ?_ ?_ ?_
  · intro i _ w s' hi hJ hk
    repeat (refine wl_p rfl rfl rfl ?_)
    exact wl_nil (wk_weak (by repeat (first | exact trivial | refine ⟨rfl, ?_⟩)) hk)
  · rintro i _ w hii hs
    have hb := hiN.base hii
    have hc := hiN.nat hii
    have hx := hlt _ (List.getElem_mem hii)
    have hil := initTo_len N I i (by omega)
    repeat (refine wc_seq ?_)
    refine wc_region ?_
    repeat (refine wl_p rfl rfl rfl ?_)
    refine wl_ix rfl rfl rfl rfl rfl (by omega) (hb) rfl rfl ?_
    refine wl_ldG hs (hc) rfl rfl rfl rfl rfl ?_
    refine wl_ixJ _ rfl rfl rfl rfl rfl (hx) rfl rfl rfl ?_
    refine wl_st (u := .bool ((initTo N I i)[I[i]]'(by omega))) hs 0 rfl rfl rfl (by simp [hil, hx]) rfl rfl rfl rfl ?_
    clear hs; intro w hs
    exact wl_nil (wk_blk (wk_nexti () hii (by omega) (by rw [initTo_succ N I hii, List.map_set]; exact hs) rfl rfl rfl rfl (by repeat (first | exact trivial | refine ⟨rfl, ?_⟩))))
  · rintro _ w hs
    have hil := initTo_len N I I.length (Nat.le_refl _)
    have hrl := (initR_iff hlt).1
    obtain ⟨g1, hg1, hs, rI⟩ := OwnS.freezeE (e := eBool) (h0 := fun _ => rfl) (xs := initR N I) (own_bools hil) hs
    refine wk_seq ?_
    repeat (refine wc_seq ?_)
    refine wc_region ?_
    repeat (refine wl_p rfl rfl rfl ?_)
    refine wl_call rfl rfl rfl (L := []) hs (hev g1 hg1) ?_
    rintro ve g2 L' w hg2 hs ⟨rfl, re⟩
    repeat (refine wl_p rfl rfl rfl ?_)
    have hg02 := Ghost.tr hg1 hg2
    have hrl' : (rchR (ls.map toA) (everyR (ls.map toA)) false N (initR N I)).length = N := by
      have := hC.validG
      rw [← hN] at this
      exact rchR_len this hrl _
    refine wl_call rfl rfl rfl (L := []) hs (hre g2 ve _ hg02 re (rI.mono hg2) hrl) ?_
    rintro vr g3 L' w hg3 hs ⟨rfl, rr⟩
    refine wl_call rfl rfl rfl (L := []) hs (refNumbers_spec g3 vr _ rr (by rw [hrl']; omega)) ?_
    rintro vk g4 L' w hg4 hs ⟨rfl, rk⟩
    repeat (refine wl_p rfl rfl rfl ?_)
    refine wl_nil (wk_seq ?_)
    exact wc_retV (res1 rfl rfl) ⟨g4, [], Ghost.tr hg02 (Ghost.tr hg3 hg4), hs, rfl, rk⟩
theorem is_spec (hC : Checked n init ls all pairs) (g : Ghost) (vi vl va vp : Value) (hi : RS kInt g vi init) (hl : RS kArrI g vl ls) (ha : RS kInt g va all) (hp : RS kPairI g vp pairs) (ha0 : all.length ≤ 4611686018427387904) :
    Cl PP 11 [.int .i64 (n.toNat : Int), vi, vl, .agg #[va, vp]] g [] (Det (.bool (isR n.toNat (ls.map toA) (all.map Int.toNat) (pairs.map toP) (init.map Int.toNat)))) := by
  have hlt : ∀ x ∈ reachedS n.toNat (ls.map toA) (init.map Int.toNat), x < n.toNat := fun x hx => by
    have h1 : ∀ y ∈ init.map Int.toNat, y < n.toNat := fun y hy => by
      obtain ⟨z, hz, rfl⟩ := List.mem_map.1 hy
      have := hC.init.low z hz
      omega
    have := getD_lt (mem_numsR.1 hx)
    rw [rchR_len hC.validG (initR_iff h1).1] at this
    exact this
  have hn1 := hC.n1
  have hR := fun g' (hg : g ≤ g') => reached_spec hC g' vi vl (hi.mono hg) (hl.mono hg)
  have hKl : (reachedS n.toNat (ls.map toA) (init.map Int.toNat)).length ≤ 20000 := by
    have h := nodup_len n.toNat _ ((nums_asc _).imp fun h => Nat.ne_of_lt h) hlt
    have h' : (reachedS n.toNat (ls.map toA) (init.map Int.toNat)).length ≤ n.toNat := h
    omega
  have hB : isR n.toNat (ls.map toA) (all.map Int.toNat) (pairs.map toP) (init.map Int.toNat) = (reachedS n.toNat (ls.map toA) (init.map Int.toNat)).any fun k => (coresM n.toNat (ls.map toA) (all.map Int.toNat) (pairs.map toP)).getD k false := rfl
  obtain ⟨K, hK⟩ : ∃ K, K = reachedS n.toNat (ls.map toA) (init.map Int.toNat) := ⟨_, rfl⟩
  rw [← hK] at hlt hR hKl hB
  have hcl : (coresM n.toNat (ls.map toA) (all.map Int.toNat) (pairs.map toP)).length = n.toNat := coresM_len
  have hCo := fun g' vin (hg : g ≤ g') h => refCores_I (vin := vin) hC (hl.mono hg) (ha.mono hg) (hp.mono hg) ha0 h
  obtain ⟨C, hCe⟩ : ∃ C, C = coresM n.toNat (ls.map toA) (all.map Int.toNat) (pairs.map toP) := ⟨_, rfl⟩
  rw [← hCe] at hcl hCo hB
  refine cl_intro Tryz.func11 rfl rfl Tryz.ntmps11 rfl ?_
  intro w F hs
  repeat (refine wc_seq ?_)
  refine wc_region ?_
  refine wl_box hs rfl rfl rfl rfl ?_; clear hs; intro wb w hs
  repeat (refine wl_p rfl rfl rfl ?_)
  refine wl_nil (wk_seq ?_)
  repeat (refine wc_seq ?_)
  refine wc_draw 6 [] pp_mix (by kernel_rfl) rfl hs ?_
  repeat (first | refine sg_p rfl rfl ?_ | refine sg_skip rfl rfl ?_)
  refine sg_call [] [] rfl rfl rfl (fun g' hg' => refEvery_I hC (hl.mono hg')) ?_
  refine sg_ldW 0 rfl rfl rfl rfl rfl rfl ?_
  refine sg_callW (post := fun g' L' r => L' = [] ∧ RS kBool g' r C) 15 [] [] rfl rfl rfl (fun _ => rfl) (fun _ => rfl) (fun g' g2 v L' hg2 ⟨g3, hg3, hL, hr⟩ hg' => hCo g' v (Ghost.tr hg2 hg') (hr.mono (Ghost.tr hg3 hg'))) ?_
  refine sg_end ?_
  intro g1 w hg1
  rintro _ _ ⟨_, _, rfl, _⟩ vc _ ⟨g2, hg2, rfl, rc⟩ hs
  replace hs := (show St g1 w ((wb, cellsO [va, vp] 26) :: F) from hs)
  replace rc := rc.mono hg2
  obtain ⟨ac, cc, rfl⟩ := rc.form
  repeat (refine wl_p rfl rfl rfl ?_)
  refine wl_nil (wk_seq ?_)
  repeat (refine wc_seq ?_)
  refine wc_region ?_
  repeat (refine wl_p rfl rfl rfl ?_)
  refine wl_call rfl rfl rfl (L := []) hs (hR g1 hg1) ?_
  rintro vk g3 L' w hg3 hs ⟨rfl, rk⟩
  replace hs := (show St g3 w F from (show St g3 w ((wb, cellsO [va, vp] 26) :: F) from hs).drop)
  obtain ⟨ak, ck, rfl⟩ := rk.form
  have hg03 := Ghost.tr hg1 hg3
  replace rc := rc.mono hg3
  repeat (refine wl_p rfl rfl rfl ?_)
  refine wl_nil (wk_seq ?_)
  repeat (refine wc_seq ?_)
  refine wc_region ?_
  repeat (refine wl_p rfl rfl rfl ?_)
  refine wl_nil (wk_seq ?_)
  repeat (refine wc_seq ?_)
  refine wc_fori K.length (fun _ (_ : Unit) => [(9, .slice ac C.length cc), (10, .slice ak K.length ck)]) (fun i (_ : Unit) w => St g3 w F ∧ ∀ j (h : j < i) (h' : j < K.length), C.getD K[j] false = false) () (by repeat (first | exact trivial | refine ⟨rfl, ?_⟩)) ⟨hs, fun j h => by omega⟩ ?_ ?_ ?_
  · intro i _ w s' hi hJ hk
    repeat (refine wl_p rfl rfl rfl ?_)
    exact wl_nil (wk_weak (by repeat (first | exact trivial | refine ⟨rfl, ?_⟩)) hk)
  · clear hs
    rintro i _ w hii ⟨hs, hj⟩
    have hb := rk.base hii
    have hc := rk.nat hii
    have hx := hlt _ (List.getElem_mem hii)
    have hxc : K[i] < C.length := by omega
    have hb2 := rc.base hxc
    have hc2 := rc.bool hxc
    have hgd := getD_at hxc
    have hmem := List.getElem_mem hii
    repeat (refine wc_seq ?_)
    refine wc_region ?_
    repeat (refine wl_p rfl rfl rfl ?_)
    refine wl_ix rfl rfl rfl rfl rfl (by omega) (hb) rfl rfl ?_
    refine wl_ldG hs (hc) rfl rfl rfl rfl rfl ?_
    repeat (refine wl_p rfl rfl rfl ?_)
    refine wl_ix rfl rfl rfl rfl rfl (by omega) hb2 rfl rfl ?_
    refine wl_ldG hs (hc2) rfl rfl rfl rfl rfl ?_
    refine wl_nil (wk_seq ?_)
    refine wc_cond rfl (fun h => ?_) (fun h => ?_)
    · repeat (refine wc_seq ?_)
      refine wc_region ?_
      repeat (refine wl_p rfl rfl rfl ?_)
      refine wl_nil (wk_seq ?_)
      refine wc_retV (res1 rfl rfl) ⟨g3, [], hg03, hs, rfl, ?_⟩
      rw [hB, List.any_eq_true.2 ⟨_, hmem, by rw [hgd]; exact h⟩]
    · refine wc_skip (wk_blk (wk_nexti () hii (by omega) ⟨hs, fun j h1 h2 => ?_⟩ rfl rfl rfl rfl (by repeat (first | exact trivial | refine ⟨rfl, ?_⟩))))
      by_cases e : j = i
      · subst e; rw [hgd]; exact h
      · exact hj j (by omega) h2
  · clear hs
    rintro _ w ⟨hs, hj⟩
    refine wk_seq ?_
    repeat (refine wc_seq ?_)
    refine wc_region ?_
    repeat (refine wl_p rfl rfl rfl ?_)
    refine wl_nil (wk_seq ?_)
    refine wc_retV (res1 rfl rfl) ⟨g3, [], hg03, hs, rfl, ?_⟩
    rw [hB, List.any_eq_false.2]
    intro x hx
    obtain ⟨j, hjl, rfl⟩ := List.getElem_of_mem hx
    rw [hj j hjl hjl]; simp
end
end Go.Proofs.YtnanffbjmfgafaaGreat.S
namespace Go.Proofs.YtnanffbjmfgafaaGreat.S
open Go.RowKit
def RefShowsAt (n : Nat) (ls : List Arrow) (all : List Nat) (pairs : List (Nat × Nat)) (f : Nat) : Prop :=
  ∀ (g : Ghost) (vl vin va vp : Value) (cs : List Value) (d : Drop) (inn : List Bool) (deep : Nat), RS kArr g vl ls → RS kBool g vin inn → inn.length = ls.length → RS kNat g va all → RS kPair g vp pairs → DropRn f g cs d → DropOk f d → deep ≤ 101 →
    Cl PP 26 [.int .i64 (n : Int), vl, vin, .agg #[va, vp], .agg cs.toArray, .int .i64 (deep : Int)] g [] (Det (.bool (showsS n ls all pairs f d inn deep)))
theorem rankTo_succ (n : Nat) (nodes rank : List Nat) (i : Nat) : rankTo n nodes rank (i + 1) = (rankTo n nodes rank i).set (nodes.getD i 0) (rank.getD i 0) := by unfold rankTo; rw [List.range_succ, List.foldl_append]; rfl
theorem rises_node {n : Nat} {xs : List Int} (h : rises (n : Int) xs = true) {i : Nat} (hi : i < xs.length) : ((xs[i].toNat : Nat) : Int) = xs[i] ∧ xs[i].toNat < n := by
  have := (rises_iff h).low _ (List.getElem_mem hi)
  omega
set_option maxHeartbeats 4000000 in
theorem refShows_all (n : Nat) (ls : List Arrow) (all : List Nat) (pairs : List (Nat × Nat)) (hv : ValidG n ls) (hw : ValidW all pairs) (hal : all.length ≤ 4611686018427387904) (hpl : pairs.length ≤ 4611686018427387904) : ∀ f, RefShowsAt n ls all pairs f := by
  intro f
  induction f with
  | zero => intro g vl vin va vp cs d inn deep _ _ _ _ _ hd; exact hd.elim
  | succ f ih =>
  intro g vl vin va vp cs d inn deep hl hin hlen ha hp hd hok hdeep
  have hd0 := hd
  obtain ⟨dk1, dk2, dk3, dk4⟩ := hok
  obtain ⟨vn, vr, vL, rfl, rn, rr, rL⟩ := hd.open'
  obtain ⟨an, cn, rfl⟩ := rn.form
  obtain ⟨ar, cr, rfl⟩ := rr.form
  obtain ⟨aL, cL, rfl⟩ := rL.form
  obtain ⟨al, cl, rfl⟩ := hl.form
  obtain ⟨ai, ci, rfl⟩ := hin.form
  obtain ⟨aa, ca, rfl⟩ := ha.form
  obtain ⟨ap, cp, rfl⟩ := hp.form
  have hn0 := hv.size
  have hl0 := hv.len
  obtain ⟨S, hS⟩ : ∃ S, S = showsS n ls all pairs (f + 1) d inn deep := ⟨_, rfl⟩
  rw [← hS]
  unfold showsS at hS
  obtain ⟨N, hN⟩ : ∃ N, N = d.nodes.map Int.toNat := ⟨_, rfl⟩
  have hNl : N.length = d.nodes.length := by rw [hN, List.length_map]
  rw [← hN] at hS
  refine cl_intro Tryz.func26 rfl rfl Tryz.ntmps26 rfl ?_
  intro w F hs
  repeat (refine wc_seq ?_)
  refine wc_region ?_
  refine wl_box hs rfl rfl rfl rfl ?_; clear hs; intro wb w hs
  refine wl_box hs rfl rfl rfl rfl ?_; clear hs; intro db w hs
  repeat (refine wl_p rfl rfl rfl ?_)
  refine wl_nil (wk_seq ?_)
  obtain ⟨g1, hg1, hs, hdb⟩ := freezeB hs
  obtain ⟨g2, hg2, hs, hwb⟩ := freezeB hs
  replace hs := (show St g2 w F from hs)
  replace hdb := (show Lies g2 db 0 [.int .i64 d.kind, .int .i64 d.n, .slice an d.nodes.length cn, .slice ar d.rank.length cr, .slice aL d.l.length cL] from hdb.mono hg2)
  replace hwb := (show Lies g2 wb 0 [.slice aa all.length ca, .slice ap pairs.length cp] from hwb)
  have hg02 := Ghost.tr hg1 hg2
  have fin : ∀ {g' : Ghost} {w' : World} {L1 : Own} (b : Bool), b = S → g2 ≤ g' → St g' w' (L1 ++ F) → ∃ g'' L', g ≤ g'' ∧ St g'' w' (L' ++ F) ∧ Det (.bool S) g'' L' (.bool b) := fun b hb hg' hs' => ⟨_, [], Ghost.tr hg02 hg', hs'.dropL, rfl, by rw [hb]⟩
  have hpone : ([.int .i64 d.kind, .int .i64 d.n, .slice an d.nodes.length cn, .slice ar d.rank.length cr, .slice aL d.l.length cL]).all Value.oneCell' = true := rfl
  repeat (refine wc_seq ?_)
  refine wc_region ?_
  repeat (refine wl_p rfl rfl rfl ?_)
  refine wl_case 26 rfl (fun q1 => ?_) (fun q1 => ?_)
  · have q1' := of_decide_eq_true q1
    rw [if_pos (.inl (by omega))] at hS
    repeat (first | refine wl_p rfl rfl rfl ?_ | refine wl_skip rfl rfl rfl ?_)
    refine wl_nil (wk_seq ?_)
    refine wc_condT rfl rfl ?_
    repeat (refine wc_seq ?_)
    refine wc_region ?_
    repeat (refine wl_p rfl rfl rfl ?_)
    refine wl_nil (wk_seq ?_)
    exact wc_retV (res1 rfl rfl) (fin (L1 := []) _ hS.symm Ghost.rfl' hs)
  have q1' : ¬ deep > 100 := by have := of_decide_eq_false q1; omega
  repeat (first | refine wl_p rfl rfl rfl ?_ | refine wl_skip rfl rfl rfl ?_)
  refine wl_ldGN (cs := [.int .i64 d.kind, .int .i64 d.n, .slice an d.nodes.length cn, .slice ar d.rank.length cr, .slice aL d.l.length cL]) hs hdb.at' rfl rfl rfl rfl rfl rfl ?_
  refine wl_call rfl rfl rfl (L := []) hs (bare_spec g2 (f + 1) _ d (hd0.mono hg02)) ?_
  rintro u g3 L' w hg3 hs ⟨rfl, rfl⟩
  replace hs := (show St g3 w F from hs)
  repeat (first | refine wl_p rfl rfl rfl ?_ | refine wl_skip rfl rfl rfl ?_)
  refine wl_nil (wk_seq ?_)
  refine wc_cond rfl (fun q2 => ?_) (fun q2 => ?_)
  · have q2' : bareR d = false := by simpa using q2
    rw [if_pos (.inr q2')] at hS
    repeat (refine wc_seq ?_)
    refine wc_region ?_
    repeat (refine wl_p rfl rfl rfl ?_)
    refine wl_nil (wk_seq ?_)
    exact wc_retV (res1 rfl rfl) (fin (L1 := []) _ hS.symm hg3 hs)
  have q2' : bareR d = true := by simpa using q2
  rw [if_neg (by rintro (h | h); exact q1' h; rw [q2'] at h; cases h)] at hS
  refine wc_skip (wk_seq ?_)
  repeat (refine wc_seq ?_)
  refine wc_region ?_
  repeat (refine wl_p rfl rfl rfl ?_)
  refine wl_make hs rfl (by omega) rfl rfl rfl rfl rfl rfl rfl ?_
  clear hs; intro mb w hs
  replace hs := (show St g3 w ((mb, cellsO ((List.range n).map fun _ => .bool false) 4) :: F) by rw [← zero_bools]; exact hs)
  repeat (refine wl_p rfl rfl rfl ?_)
  refine wl_nil (wk_seq ?_)
  repeat (refine wc_seq ?_)
  refine wc_region ?_
  repeat (refine wl_p rfl rfl rfl ?_)
  refine wl_nil (wk_seq ?_)
  repeat (refine wc_seq ?_)
  have hnl : d.nodes.length ≤ 4611686018427387904 := by omega
  refine wc_fori d.nodes.length (fun _ (_ : Unit) => [(0, .int .i64 (n : Int)), (1, .slice al ls.length cl), (2, .slice ai inn.length ci), (5, .int .i64 (deep : Int)), (9, .pointer (some ⟨wb, 0, none⟩)), (10, .pointer (some ⟨db, 0, none⟩)), (13, .slice (some ⟨mb, 0, none⟩) n n)]) (fun i (_ : Unit) w => ∃ g', g3 ≤ g' ∧ risesTo (n : Int) d.nodes i = true ∧ St g' w ((mb, cellsO ((List.range n).map fun y => .bool (decide (y ∈ N.take i))) 4) :: F)) () (by repeat (first | exact trivial | refine ⟨rfl, ?_⟩)) ⟨g3, Ghost.rfl', rfl, by
    have e0 : ((List.range n).map fun y => Value.bool (decide (y ∈ N.take 0))) = (List.range n).map fun _ => .bool false := List.map_congr_left fun x _ => by simp
    rw [e0]; exact hs⟩ ?_ ?_ ?_
  · rintro i _ w s' hi ⟨g4, hg4, _, hs⟩ hk
    repeat (refine wl_p rfl rfl rfl ?_)
    refine wl_ldG hs (hdb.mono (Ghost.tr hg3 hg4) 2 _ rfl) rfl rfl rfl rfl rfl ?_
    repeat (refine wl_p rfl rfl rfl ?_)
    exact wl_nil (wk_weak (by repeat (first | exact trivial | refine ⟨rfl, ?_⟩)) hk)
  · clear hs
    rintro i _ w hii ⟨g4, hg4, hr, hs⟩
    have hg24 := Ghost.tr hg3 hg4
    have hg04 := Ghost.tr hg02 hg24
    have bad : risesAt (n : Int) d.nodes i = false → S = false := fun h => by
      rw [hS, if_pos (risesTo_bad hii h)]
    rw [risesAt_eq hii] at bad
    have hrs := risesAt_eq (below := (n : Int)) hii
    have hbi := rn.base hii
    have hci := (rn.mono hg04).int hii
    have hNi : i < N.length := by omega
    have hNe : N[i] = d.nodes[i].toNat := by simp [hN]
    have next : (0 ≤ d.nodes[i] ∧ d.nodes[i] < n) → ∀ (g5 : Ghost) (w : World), g4 ≤ g5 → St g5 w ((mb, cellsO ((List.range n).map fun y => .bool (decide (y ∈ N.take i))) 4) :: F) → risesTo (n : Int) d.nodes (i + 1) = true → ∃ x : Nat, ∃ hx : x < n, (x : Int) = d.nodes[i] ∧ ((List.range n).map fun y => Value.bool (decide (y ∈ N.take i))).set x (.bool true) = (List.range n).map fun y => Value.bool (decide (y ∈ N.take (i + 1))) := fun hb g5 w hg5 hs hr' => by
      refine ⟨N[i], by rw [hNe]; omega, by rw [hNe]; omega, ?_⟩
      exact set_range (by rw [hNe]; omega) (mem_snoc_self hNi) (fun j _ hj => mem_snoc_other hNi hj)
    repeat (refine wc_seq ?_)
    refine wc_draw 33 [] pp_mix (by kernel_rfl) rfl hs ?_
    repeat (first | refine sg_p rfl rfl ?_ | refine sg_skip rfl rfl ?_)
    refine sg_ldG (hdb.mono hg24 2 _ rfl) rfl rfl rfl rfl ?_
    repeat (first | refine sg_p rfl rfl ?_ | refine sg_skip rfl rfl ?_)
    refine sg_ix rfl rfl rfl rfl rfl (by omega) (hbi) rfl ?_
    refine sg_ldG (hci) rfl rfl rfl rfl ?_
    repeat (first | refine sg_p rfl rfl ?_ | refine sg_skip rfl rfl ?_)
    refine sg_case (fun c1 => ?_) (fun c1 => ?_)
    · have c1' := of_decide_eq_true c1
      repeat (first | refine sg_p rfl rfl ?_ | refine sg_skip rfl rfl ?_)
      refine sg_end ?_
      intro g5 w hg5
      intro hs
      refine wl_nil (wk_seq ?_)
      refine wc_condT rfl rfl ?_
      repeat (refine wc_seq ?_)
      refine wc_region ?_
      repeat (refine wl_p rfl rfl rfl ?_)
      refine wl_nil (wk_seq ?_)
      exact wc_retV (res1 rfl rfl) (fin (L1 := [_]) _ (bad (by rw [decide_eq_false (show ¬ 0 ≤ d.nodes[i] by omega)]; rfl)).symm (Ghost.tr hg24 hg5) hs)
    have c1' := of_decide_eq_false c1
    repeat (first | refine sg_p rfl rfl ?_ | refine sg_skip rfl rfl ?_)
    refine sg_ldG (hdb.mono hg24 2 _ rfl) rfl rfl rfl rfl ?_
    repeat (first | refine sg_p rfl rfl ?_ | refine sg_skip rfl rfl ?_)
    refine sg_ix rfl rfl rfl rfl rfl (by omega) hbi rfl ?_
    refine sg_ldG (hci) rfl rfl rfl rfl ?_
    repeat (first | refine sg_p rfl rfl ?_ | refine sg_skip rfl rfl ?_)
    refine sg_case (fun c2 => ?_) (fun c2 => ?_)
    · have c2' := of_decide_eq_true c2
      repeat (first | refine sg_p rfl rfl ?_ | refine sg_skip rfl rfl ?_)
      refine sg_end ?_
      intro g5 w hg5
      intro hs
      refine wl_nil (wk_seq ?_)
      refine wc_condT rfl rfl ?_
      repeat (refine wc_seq ?_)
      refine wc_region ?_
      repeat (refine wl_p rfl rfl rfl ?_)
      refine wl_nil (wk_seq ?_)
      exact wc_retV (res1 rfl rfl) (fin (L1 := [_]) _ (bad (by rw [decide_eq_false (show ¬ d.nodes[i] < n by omega)]; simp)).symm (Ghost.tr hg24 hg5) hs)
    have c2' := of_decide_eq_false c2
    repeat (first | refine sg_p rfl rfl ?_ | refine sg_skip rfl rfl ?_)
    refine sg_case (fun c3 => ?_) (fun c3 => ?_)
    · have k3 := of_decide_eq_true c3
      have hi1 : i - 1 < d.nodes.length := by omega
      have hbp := rn.base hi1
      have hcp := (rn.mono hg04).int hi1
      have hgd : d.nodes.getD (i - 1) 0 = d.nodes[i - 1] := by simp [hi1]
      rw [hgd] at bad hrs
      repeat (first | refine sg_p rfl rfl ?_ | refine sg_skip rfl rfl ?_)
      refine sg_ldG (hdb.mono hg24 2 _ rfl) rfl rfl rfl rfl ?_
      repeat (first | refine sg_p rfl rfl ?_ | refine sg_skip rfl rfl ?_)
      refine sg_ix rfl rfl rfl rfl rfl (by omega) hbi rfl ?_
      refine sg_ldG (hci) rfl rfl rfl rfl ?_
      repeat (first | refine sg_p rfl rfl ?_ | refine sg_skip rfl rfl ?_)
      refine sg_ldG (hdb.mono hg24 2 _ rfl) rfl rfl rfl rfl ?_
      repeat (first | refine sg_p rfl rfl ?_ | refine sg_skip rfl rfl ?_)
      refine sg_arK ((i - 1 : Nat) : Int) rfl rfl (pred_ar (by omega)) (by omega) rfl ?_
      refine sg_ix rfl rfl rfl rfl rfl (by omega) hbp rfl ?_
      refine sg_ldG (hcp) rfl rfl rfl rfl ?_
      repeat (first | refine sg_p rfl rfl ?_ | refine sg_skip rfl rfl ?_)
      refine sg_end ?_
      intro g5 w hg5
      intro hs
      refine wl_nil (wk_seq ?_)
      refine wc_cond rfl (fun c4 => ?_) (fun c4 => ?_)
      · have := of_decide_eq_true c4
        repeat (refine wc_seq ?_)
        refine wc_region ?_
        repeat (refine wl_p rfl rfl rfl ?_)
        refine wl_nil (wk_seq ?_)
        exact wc_retV (res1 rfl rfl) (fin (L1 := [_]) _ (bad (by rw [decide_eq_false (show ¬ i = 0 by omega), decide_eq_false (show ¬ d.nodes[i - 1] < d.nodes[i] by omega)]; simp)).symm (Ghost.tr hg24 hg5) hs)
      · have := of_decide_eq_false c4
        have hr' : risesTo (n : Int) d.nodes (i + 1) = true := by rw [risesTo_succ, hr, hrs, decide_eq_true (show 0 ≤ d.nodes[i] by omega), decide_eq_true (show d.nodes[i] < n by omega), decide_eq_true (show d.nodes[i - 1] < d.nodes[i] by omega)]; simp
        obtain ⟨x, hx, hxe, hset⟩ := next (by omega) g5 w hg5 hs hr'
        have hci5 := hci
        rw [← hxe] at hci5
        replace hci5 := hg5.cell hci5
        refine wc_skip (wk_seq ?_)
        repeat (refine wc_seq ?_)
        refine wc_region ?_
        repeat (refine wl_p rfl rfl rfl ?_)
        refine wl_ldG hs (hdb.mono (Ghost.tr hg24 hg5) 2 _ rfl) rfl rfl rfl rfl rfl ?_
        repeat (refine wl_p rfl rfl rfl ?_)
        refine wl_ix rfl rfl rfl rfl rfl (by omega) hbi rfl rfl ?_
        refine wl_ldG hs (hci5) rfl rfl rfl rfl rfl ?_
        refine wl_ixJ _ rfl rfl rfl rfl rfl (hx) rfl rfl rfl ?_
        refine wl_st (u := .bool (decide (x ∈ N.take i))) hs 0 rfl rfl rfl (by simp [hx]) rfl rfl rfl rfl ?_
        clear hs; intro w hs
        exact wl_nil (wk_blk (wk_nexti () hii hnl ⟨g5, Ghost.tr hg4 hg5, hr', by rw [← hset]; exact hs⟩ rfl rfl rfl rfl (by repeat (first | exact trivial | refine ⟨rfl, ?_⟩))))
    · have k3 := of_decide_eq_false c3
      repeat (first | refine sg_p rfl rfl ?_ | refine sg_skip rfl rfl ?_)
      refine sg_end ?_
      intro g5 w hg5
      intro hs
      refine wl_nil (wk_seq ?_)
      have hr' : risesTo (n : Int) d.nodes (i + 1) = true := by rw [risesTo_succ, hr, hrs, decide_eq_true (show 0 ≤ d.nodes[i] by omega), decide_eq_true (show d.nodes[i] < n by omega), decide_eq_true (show i = 0 by omega)]; rfl
      obtain ⟨x, hx, hxe, hset⟩ := next (by omega) g5 w hg5 hs hr'
      have hci5 := hci
      rw [← hxe] at hci5
      replace hci5 := hg5.cell hci5
      refine wc_condF rfl rfl (wc_skip (wk_seq ?_))
      repeat (refine wc_seq ?_)
      refine wc_region ?_
      repeat (refine wl_p rfl rfl rfl ?_)
      refine wl_ldG hs (hdb.mono (Ghost.tr hg24 hg5) 2 _ rfl) rfl rfl rfl rfl rfl ?_
      repeat (refine wl_p rfl rfl rfl ?_)
      refine wl_ix rfl rfl rfl rfl rfl (by omega) hbi rfl rfl ?_
      refine wl_ldG hs (hci5) rfl rfl rfl rfl rfl ?_
      refine wl_ixJ _ rfl rfl rfl rfl rfl (hx) rfl rfl rfl ?_
      refine wl_st (u := .bool (decide (x ∈ N.take i))) hs 0 rfl rfl rfl (by simp [hx]) rfl rfl rfl rfl ?_
      clear hs; intro w hs
      exact wl_nil (wk_blk (wk_nexti () hii hnl ⟨g5, Ghost.tr hg4 hg5, hr', by rw [← hset]; exact hs⟩ rfl rfl rfl rfl (by repeat (first | exact trivial | refine ⟨rfl, ?_⟩))))
  clear hs
  rintro _ w ⟨g4, hg4, hr, hs⟩
  have hrises : rises (n : Int) d.nodes = true := hr
  rw [if_neg (by rw [hrises]; decide)] at hS
  rw [List.take_of_length_le (by omega)] at hs
  have e1 : (inF n N).map Value.bool = (List.range n).map fun x => .bool (decide (x ∈ N)) := by rw [inF, List.map_map]; rfl
  obtain ⟨g5, hg5, hs, rmk⟩ := OwnS.freezeE (e := eBool) (h0 := fun _ => rfl) (xs := inF n N) (own_bools (n := n) (by simp [inF])) (show St g4 w ([(mb, cellsO ((inF n N).map .bool) 4)] ++ F) by rw [e1]; exact hs)
  have hg25 := Ghost.tr hg3 (Ghost.tr hg4 hg5)
  have hg05 := Ghost.tr hg02 hg25
  refine wk_seq ?_
  repeat (refine wc_seq ?_)
  refine wc_region ?_
  repeat (refine wl_p rfl rfl rfl ?_)
  refine wl_call rfl rfl rfl (L := []) hs (refWithin_spec g5 _ _ _ n ls inn (inF n N) (hl.mono hg05) hv (hin.mono hg05) hlen rmk (by simp [inF])) ?_
  rintro vi g6 Hi w hg6 hs howni
  repeat (refine wl_p rfl rfl rfl ?_)
  refine wl_nil (wk_seq ?_)
  obtain ⟨inner, hI⟩ : ∃ inner, inner = withinR ls inn (inF n N) := ⟨_, rfl⟩
  have hil : inner.length = ls.length := by rw [hI]; exact withinR_len _ _ _
  rw [← hI] at howni hS
  obtain ⟨g7, hg7, hs, ri⟩ := howni.freezeB hs
  obtain ⟨aj, cj, rfl⟩ := ri.form
  replace hs : St g7 w F := by assumption
  have hg27 := Ghost.tr hg25 (Ghost.tr hg6 hg7)
  have hg07 := Ghost.tr hg02 hg27
  replace hdb := hdb.mono hg27
  replace hwb := hwb.mono hg27
  replace hl := hl.mono hg07
  replace hin := hin.mono hg07
  replace ha := ha.mono hg07
  replace hp := hp.mono hg07
  replace rn := rn.mono hg07
  replace rr := rr.mono hg07
  replace rL := rL.mono hg07
  have fin7 : ∀ {g' : Ghost} {w' : World} {L1 : Own} (b : Bool), b = S → g7 ≤ g' → St g' w' (L1 ++ F) → ∃ g'' L', g ≤ g'' ∧ St g'' w' (L' ++ F) ∧ Det (.bool S) g'' L' (.bool b) := fun b hb hg' hs' => fin b hb (Ghost.tr hg27 hg') hs'
  repeat (refine wc_seq ?_)
  refine wc_region ?_
  repeat (refine wl_p rfl rfl rfl ?_)
  refine wl_ldG hs (hdb 0 _ rfl) rfl rfl rfl rfl rfl ?_
  refine wl_nil (wk_seq ?_)
  repeat (refine wc_seq ?_)
  refine wc_block ?_
  repeat (refine wc_seq ?_)
  refine wc_region ?_
  repeat (refine wl_p rfl rfl rfl ?_)
  refine wl_nil (wk_seq ?_)
  refine wc_cond rfl (fun h2 => ?_) (fun h2 => ?_)
  · rw [if_pos (eq_of_beq h2)] at hS
    repeat (refine wc_seq ?_)
    refine wc_region ?_
    repeat (refine wl_p rfl rfl rfl ?_)
    refine wl_call rfl rfl rfl (L := []) hs (containsB_spec g7 _ inner ri (by omega)) ?_
    rintro u g8 L' w hg8 hs ⟨rfl, rfl⟩
    repeat (refine wl_p rfl rfl rfl ?_)
    refine wl_nil (wk_seq ?_)
    exact wc_retV (res1 rfl rfl) (fin7 (L1 := []) _ hS.symm hg8 hs)
  rw [if_neg (beq_no h2)] at hS
  repeat (refine wc_seq ?_)
  refine wc_region ?_
  repeat (refine wl_p rfl rfl rfl ?_)
  refine wl_nil (wk_seq ?_)
  refine wc_cond rfl (fun h3 => ?_) (fun h3 => ?_)
  · rw [if_pos (eq_of_beq h3)] at hS
    repeat (refine wc_seq ?_)
    refine wc_region ?_
    repeat (refine wl_p rfl rfl rfl ?_)
    refine wl_ldG hs (hdb 1 _ rfl) rfl rfl rfl rfl rfl ?_
    repeat (refine wl_p rfl rfl rfl ?_)
    refine wl_case 96 rfl (fun q5 => ?_) (fun q5 => ?_)
    · have q5' : 0 ≤ d.n := of_decide_eq_true q5
      rw [decide_eq_true q5', Bool.true_and] at hS
      repeat (first | refine wl_p rfl rfl rfl ?_ | refine wl_skip rfl rfl rfl ?_)
      refine wl_ldG hs (hdb 1 _ rfl) rfl rfl rfl rfl rfl ?_
      repeat (first | refine wl_p rfl rfl rfl ?_ | refine wl_skip rfl rfl rfl ?_)
      refine wl_ldG hs (hwb 0 _ rfl) rfl rfl rfl rfl rfl ?_
      repeat (first | refine wl_p rfl rfl rfl ?_ | refine wl_skip rfl rfl rfl ?_)
      refine wl_case 104 rfl (fun q6 => ?_) (fun q6 => ?_)
      · have q6' : d.n < (all.length : Int) := of_decide_eq_true q6
        have hlt : d.n.toNat < all.length := by omega
        rw [decide_eq_true q6', Bool.true_and] at hS
        have hge : all.getD d.n.toNat 0 = all[d.n.toNat] := by rw [List.getD_eq_getElem?_getD, List.getElem?_eq_getElem hlt]; rfl
        rw [hge] at hS
        have hba := ha.base hlt
        have hca := ha.nat hlt
        repeat (first | refine wl_p rfl rfl rfl ?_ | refine wl_skip rfl rfl rfl ?_)
        refine wl_ldG hs (hwb 0 _ rfl) rfl rfl rfl rfl rfl ?_
        repeat (first | refine wl_p rfl rfl rfl ?_ | refine wl_skip rfl rfl rfl ?_)
        refine wl_ldG hs (hdb 1 _ rfl) rfl rfl rfl rfl rfl ?_
        repeat (first | refine wl_p rfl rfl rfl ?_ | refine wl_skip rfl rfl rfl ?_)
        refine wl_ix rfl rfl rfl rfl rfl (by omega) hba rfl rfl ?_
        refine wl_ldG hs (hca) rfl rfl rfl rfl rfl ?_
        repeat (first | refine wl_p rfl rfl rfl ?_ | refine wl_skip rfl rfl rfl ?_)
        refine wl_call rfl rfl rfl (L := []) hs (refSome_spec g7 _ _ n _ ls inner hl hv ri hil) ?_
        rintro u g8 L' w hg8 hs ⟨rfl, rfl⟩
        repeat (first | refine wl_p rfl rfl rfl ?_ | refine wl_skip rfl rfl rfl ?_)
        refine wl_nil (wk_seq ?_)
        exact wc_retV (res1 rfl rfl) (fin7 (L1 := []) _ hS.symm hg8 hs)
      · have q6' : ¬ d.n < (all.length : Int) := of_decide_eq_false q6
        rw [decide_eq_false q6', Bool.false_and] at hS
        repeat (first | refine wl_p rfl rfl rfl ?_ | refine wl_skip rfl rfl rfl ?_)
        refine wl_nil (wk_seq ?_)
        exact wc_retV (res1 rfl rfl) (fin7 (L1 := []) _ hS.symm Ghost.rfl' hs)
    · have q5' : ¬ 0 ≤ d.n := of_decide_eq_false q5
      rw [decide_eq_false q5', Bool.false_and, Bool.false_and] at hS
      repeat (first | refine wl_p rfl rfl rfl ?_ | refine wl_skip rfl rfl rfl ?_)
      refine wl_nil (wk_seq ?_)
      exact wc_retV (res1 rfl rfl) (fin7 (L1 := []) _ hS.symm Ghost.rfl' hs)
  rw [if_neg (beq_no h3)] at hS
  repeat (refine wc_seq ?_)
  refine wc_region ?_
  repeat (refine wl_p rfl rfl rfl ?_)
  refine wl_nil (wk_seq ?_)
  refine wc_cond rfl (fun h4 => ?_) (fun h4 => ?_)
  · rw [if_pos (eq_of_beq h4)] at hS
    have h4' : d.kind = 4 := eq_of_beq h4
    have hL1 : d.l.length = 1 := by
      have := q2'
      unfold bareR at this
      rw [if_neg (by omega), if_neg (by omega), if_neg (by omega), if_pos h4'] at this
      simp only [Bool.and_eq_true, decide_eq_true_eq] at this
      exact this.2
    have hL0 : 0 < d.l.length := by omega
    obtain ⟨ec, hec, hel⟩ := rL.get hL0
    replace hec := (show DropRn f g7 ec d.l[0] from hec)
    have hbL := rL.base hL0
    have hdl : d.l = [d.l[0]] := by
      apply List.ext_getElem
      · simp [hL1]
      · intro j h1 h2; have : j = 0 := by omega
        subst this; rfl
    obtain ⟨e0, he0⟩ : ∃ e0, e0 = d.l[0] := ⟨_, rfl⟩
    rw [← he0] at hec hdl
    have hok0 : DropOk f e0 := by rw [he0]; exact dk4 0 hL0
    rw [hdl] at hS
    simp only at hS
    repeat (refine wc_seq ?_)
    refine wc_draw 34 [] pp_mix (by kernel_rfl) rfl hs ?_
    repeat (first | refine sg_p rfl rfl ?_ | refine sg_skip rfl rfl ?_)
    refine sg_ldG (hdb 1 _ rfl) rfl rfl rfl rfl ?_
    repeat (first | refine sg_p rfl rfl ?_ | refine sg_skip rfl rfl ?_)
    refine sg_case (fun q5 => ?_) (fun q5 => ?_)
    · have q5' : d.n < 0 := of_decide_eq_true q5
      rw [decide_eq_true q5', Bool.true_or, Bool.true_or, if_pos rfl] at hS
      repeat (first | refine sg_p rfl rfl ?_ | refine sg_skip rfl rfl ?_)
      refine sg_end ?_
      intro g8 w hg8
      intro hs
      refine wl_nil (wk_seq ?_)
      refine wc_condT rfl rfl ?_
      repeat (refine wc_seq ?_)
      refine wc_region ?_
      repeat (refine wl_p rfl rfl rfl ?_)
      refine wl_nil (wk_seq ?_)
      exact wc_retV (res1 rfl rfl) (fin7 (L1 := []) _ hS.symm hg8 hs)
    have q5' : ¬ d.n < 0 := of_decide_eq_false q5
    rw [decide_eq_false q5', Bool.false_or] at hS
    repeat (first | refine sg_p rfl rfl ?_ | refine sg_skip rfl rfl ?_)
    refine sg_ldG (hdb 1 _ rfl) rfl rfl rfl rfl ?_
    repeat (first | refine sg_p rfl rfl ?_ | refine sg_skip rfl rfl ?_)
    refine sg_ldG (hwb 1 _ rfl) rfl rfl rfl rfl ?_
    repeat (first | refine sg_p rfl rfl ?_ | refine sg_skip rfl rfl ?_)
    refine sg_case (fun q6 => ?_) (fun q6 => ?_)
    · have q6' : d.n ≥ (pairs.length : Int) := of_decide_eq_true q6
      rw [decide_eq_true q6', Bool.true_or, if_pos rfl] at hS
      repeat (first | refine sg_p rfl rfl ?_ | refine sg_skip rfl rfl ?_)
      refine sg_end ?_
      intro g8 w hg8
      intro hs
      refine wl_nil (wk_seq ?_)
      refine wc_condT rfl rfl ?_
      repeat (refine wc_seq ?_)
      refine wc_region ?_
      repeat (refine wl_p rfl rfl rfl ?_)
      refine wl_nil (wk_seq ?_)
      exact wc_retV (res1 rfl rfl) (fin7 (L1 := []) _ hS.symm hg8 hs)
    have q6' : ¬ d.n ≥ (pairs.length : Int) := of_decide_eq_false q6
    rw [decide_eq_false q6', Bool.false_or] at hS
    have hlt : d.n.toNat < pairs.length := by omega
    have hge : pairs.getD d.n.toNat (0, 0) = pairs[d.n.toNat] := by rw [List.getD_eq_getElem?_getD, List.getElem?_eq_getElem hlt]; rfl
    rw [hge] at hS
    obtain ⟨pb, po, rfl⟩ := hp.base hlt
    obtain ⟨m1, hm1⟩ : ∃ m, m = pairs[d.n.toNat].1 := ⟨_, rfl⟩
    obtain ⟨m2, hm2⟩ : ∃ m, m = pairs[d.n.toNat].2 := ⟨_, rfl⟩
    have hcc : Lies g7 pb (po + d.n.toNat * 2) [.int .i64 (m1 : Int), .int .i64 (m2 : Int)] := by rw [hm1, hm2]; exact hp.enc hlt
    rw [← hm1, ← hm2] at hS
    repeat (first | refine sg_p rfl rfl ?_ | refine sg_skip rfl rfl ?_)
    refine sg_ldG (hwb 1 _ rfl) rfl rfl rfl rfl ?_
    repeat (first | refine sg_p rfl rfl ?_ | refine sg_skip rfl rfl ?_)
    refine sg_ldG (hdb 1 _ rfl) rfl rfl rfl rfl ?_
    refine sg_ix rfl rfl rfl rfl rfl (by omega) ⟨pb, po, rfl⟩ rfl ?_
    refine sg_ixA rfl rfl rfl rfl rfl (by omega) rfl ?_
    refine sg_ldG (hcc 1 _ rfl) rfl rfl rfl rfl ?_
    refine sg_callK (vs := [.slice al ls.length cl, .slice aj inner.length cj, .int .i64 (m2 : Int)]) [] [] rfl rfl rfl (fun g' hg' => refSome_spec g' _ _ n m2 ls inner (hl.mono hg') hv (ri.mono hg') hil) (fun _ _ _ h => h) ?_
    repeat (first | refine sg_p rfl rfl ?_ | refine sg_skip rfl rfl ?_)
    refine sg_case (fun q7 => ?_) (fun q7 => ?_)
    · rw [q7, if_pos rfl] at hS
      repeat (first | refine sg_p rfl rfl ?_ | refine sg_skip rfl rfl ?_)
      refine sg_end ?_
      intro g8 w hg8
      intro hs
      refine wl_nil (wk_seq ?_)
      refine wc_condT rfl rfl ?_
      repeat (refine wc_seq ?_)
      refine wc_region ?_
      repeat (refine wl_p rfl rfl rfl ?_)
      refine wl_nil (wk_seq ?_)
      exact wc_retV (res1 rfl rfl) (fin7 (L1 := []) _ hS.symm hg8 hs)
    rw [q7, if_neg (by decide)] at hS
    obtain ⟨f', hf'⟩ : ∃ f', f = f' + 1 := by
      cases f with
      | zero => exact hec.elim
      | succ f' => exact ⟨f', rfl⟩
    obtain ⟨wn, wr, wL, rfl, sn, sr, sL⟩ := (show DropRn (f' + 1) g7 ec e0 from hf' ▸ hec).open'
    obtain ⟨wna, wnc, rfl⟩ := sn.form
    have hecone : ([.int .i64 e0.kind, .int .i64 e0.n, .slice wna e0.nodes.length wnc, wr, wL] : List Value).all Value.oneCell' = true := by simp only [List.all_cons, List.all_nil, sr.one, sL.one]; rfl
    repeat (first | refine sg_p rfl rfl ?_ | refine sg_skip rfl rfl ?_)
    refine sg_ldG (hdb 4 _ rfl) rfl rfl rfl rfl ?_
    refine sg_ix rfl rfl rfl rfl rfl (by omega) hbL rfl ?_
    repeat (first | refine sg_p rfl rfl ?_ | refine sg_skip rfl rfl ?_)
    refine sg_ldG (hel.of_eaddr 2 _ rfl) rfl rfl rfl rfl ?_
    repeat (first | refine sg_p rfl rfl ?_ | refine sg_skip rfl rfl ?_)
    refine sg_ldG (hdb 2 _ rfl) rfl rfl rfl rfl ?_
    refine sg_callK (vs := [.slice wna e0.nodes.length wnc, .slice an d.nodes.length cn]) [] [] rfl rfl rfl (fun g' hg' => equal_spec g' _ _ e0.nodes d.nodes (sn.mono hg') (rn.mono hg') (by
      have : DropOk (f' + 1) e0 := hf' ▸ hok0
      have := this.2.1
      omega)) (fun _ _ _ h => h) ?_
    repeat (first | refine sg_p rfl rfl ?_ | refine sg_skip rfl rfl ?_)
    refine sg_end ?_
    intro g8 w hg8
    intro hs
    refine wl_nil (wk_seq ?_)
    refine wc_cond rfl (fun q8 => ?_) (fun q8 => ?_)
    · have q8' : decide (e0.nodes = d.nodes) = false := by simpa using q8
      rw [q8', Bool.false_and] at hS
      repeat (refine wc_seq ?_)
      refine wc_region ?_
      repeat (refine wl_p rfl rfl rfl ?_)
      refine wl_nil (wk_seq ?_)
      exact wc_retV (res1 rfl rfl) (fin7 (L1 := []) _ hS.symm hg8 hs)
    have q8' : decide (e0.nodes = d.nodes) = true := by simpa using q8
    rw [q8', Bool.true_and] at hS
    refine wc_skip (wk_seq ?_)
    repeat (refine wc_seq ?_)
    refine wc_region ?_
    repeat (refine wl_p rfl rfl rfl ?_)
    refine wl_call rfl rfl rfl (L := []) hs (cloneBool_spec g8 _ inn (hin.mono hg8) (by omega)) ?_
    rintro v g9 H0 w hg9 hs hown
    replace hown : OwnB v inn H0 := by rw [flat_bools] at hown; exact hown
    obtain ⟨av, cv, rfl⟩ := hown.form
    have hg79 := Ghost.tr hg8 hg9
    have hTl : (withoutF ls inn m1).length = ls.length := by simp [withoutF]
    repeat (refine wl_p rfl rfl rfl ?_)
    refine wl_nil (wk_seq ?_)
    repeat (refine wc_seq ?_)
    refine wc_region ?_
    repeat (refine wl_p rfl rfl rfl ?_)
    refine wl_nil (wk_seq ?_)
    repeat (refine wc_seq ?_)
    refine wc_fori ls.length (fun _ (_ : List Bool × Own) => [(0, .int .i64 (n : Int)), (1, .slice al ls.length cl), (2, .slice ai inn.length ci), (5, .int .i64 (deep : Int)), (9, .pointer (some ⟨wb, 0, none⟩)), (10, .pointer (some ⟨db, 0, none⟩)), (16, .slice av inn.length cv)]) (fun a (x : List Bool × Own) w => Part ls.length a inn (withoutF ls inn m1) x.1 ∧ OwnB (.slice av inn.length cv) x.1 x.2 ∧ ∃ g', g9 ≤ g' ∧ St g' w (x.2 ++ F)) (inn, H0) (by repeat (first | exact trivial | refine ⟨rfl, ?_⟩)) ⟨Part.start hlen, hown, g9, Ghost.rfl', hs⟩ ?_ ?_ ?_
    · rintro a x w s' hi2 _ hk2
      repeat (refine wl_p rfl rfl rfl ?_)
      exact wl_nil (wk_weak (by repeat (first | exact trivial | refine ⟨rfl, ?_⟩)) hk2)
    · clear hs hown
      rintro a ⟨J, H⟩ w hla ⟨hpt, hown, gg, hgg, hs⟩
      simp only at hpt hown hs
      have hJl := hpt.1
      have hg7g := Ghost.tr hg79 hgg
      have hbl := hl.base hla
      have hcl2 := (hl.mono hg7g).enc hla
      obtain ⟨b, cap, cs, hve, rfl, hcs, hset⟩ := hown.open' (by omega)
      rw [hJl, ← hlen] at hve
      simp only [Value.slice.injEq, true_and] at hve
      obtain ⟨rfl, rfl⟩ := hve
      have cell := hcs a (by omega)
      have hq := hpt.at_ hla
      rw [getD_at (show a < J.length by omega)] at hq
      have hTi := without_part (ls := ls) (inn := inn) (m := m1) hla
      rw [← hq] at hTi
      have hs1 := fun c => hset a c (by omega)
      rw [hJl, ← hlen] at hs1
      generalize J[a]'(by omega) = q2 at cell hTi
      have hms := (hv.ok _ (List.getElem_mem hla)).2.2
      repeat (refine wc_seq ?_)
      refine wc_draw 21 [] pp_mix (by kernel_rfl) rfl hs ?_
      repeat (first | refine sg_p rfl rfl ?_ | refine sg_skip rfl rfl ?_)
      refine sg_ixJ _ rfl rfl rfl rfl rfl (by omega) rfl rfl ?_
      refine sg_ldO 0 rfl rfl cell rfl rfl rfl ?_
      repeat (first | refine sg_p rfl rfl ?_ | refine sg_skip rfl rfl ?_)
      cases q2 with
      | true =>
        repeat (first | refine sg_p rfl rfl ?_ | refine sg_skip rfl rfl ?_)
        refine sg_ix rfl rfl rfl rfl rfl (by omega) hbl rfl ?_
        refine sg_ldGN (hcl2.of_eaddr) rfl rfl rfl rfl rfl ?_
        repeat (first | refine sg_p rfl rfl ?_ | refine sg_skip rfl rfl ?_)
        refine sg_ldG (hwb.mono hg7g 1 _ rfl) rfl rfl rfl rfl ?_
        repeat (first | refine sg_p rfl rfl ?_ | refine sg_skip rfl rfl ?_)
        refine sg_ldG (hdb.mono hg7g 1 _ rfl) rfl rfl rfl rfl ?_
        refine sg_ix rfl rfl rfl rfl rfl (by omega) ⟨pb, po, rfl⟩ rfl ?_
        repeat (first | refine sg_p rfl rfl ?_ | refine sg_skip rfl rfl ?_)
        refine sg_ixA rfl rfl rfl rfl rfl (by omega) rfl ?_
        refine sg_ldG (hcc.mono hg7g 0 _ rfl) rfl rfl rfl rfl ?_
        refine sg_callK (vs := [.agg #[.int .i64 (ls[a].fr : Int), .int .i64 (ls[a].to : Int), .int .u32 (ls[a].ms : Int)], .int .i64 (m1 : Int)]) [] [] rfl rfl rfl (fun g' hg' => refHas_spec g' _ _ ls[a].ms m1 (by omega) rfl rfl) (fun g' L' v' h => h) ?_
        repeat (first | refine sg_p rfl rfl ?_ | refine sg_skip rfl rfl ?_)
        refine sg_end ?_
        intro gh w hgh
        intro hs
        refine wl_ixJ _ rfl rfl rfl rfl rfl (by omega) rfl rfl rfl ?_
        refine wl_st hs 0 rfl rfl rfl cell rfl rfl rfl rfl ?_
        clear hs; intro w hs
        exact wl_nil (wk_blk (wk_nexti (J.set a (!ls[a].ms.testBit m1), [(b, cellsO (cs.set a (.bool (!ls[a].ms.testBit m1))) 4)]) hla (by omega) ⟨hpt.set hla (by rw [hTi, Bool.true_and]), by simpa [List.length_set] using hs1 _, gh, Ghost.tr hgg hgh, hs⟩ rfl rfl rfl rfl (by repeat (first | exact trivial | refine ⟨rfl, ?_⟩))))
      | false =>
        repeat (first | refine sg_p rfl rfl ?_ | refine sg_skip rfl rfl ?_)
        refine sg_end ?_
        intro gh w hgh
        intro hs
        refine wl_ixJ _ rfl rfl rfl rfl rfl (by omega) rfl rfl rfl ?_
        refine wl_st hs 0 rfl rfl rfl cell rfl rfl rfl rfl ?_
        clear hs; intro w hs
        exact wl_nil (wk_blk (wk_nexti (J.set a false, [(b, cellsO (cs.set a (.bool false)) 4)]) hla (by omega) ⟨hpt.set hla (by rw [hTi]; rfl), by simpa [List.length_set] using hs1 _, gh, Ghost.tr hgg hgh, hs⟩ rfl rfl rfl rfl (by repeat (first | exact trivial | refine ⟨rfl, ?_⟩))))
    · clear hs hown
      rintro ⟨J, H⟩ w ⟨hpt, hown, gg, hgg, hs⟩
      simp only at hpt hown hs
      have := hpt.done hTl
      subst this
      obtain ⟨gh, hgh, hs, rJ⟩ := hown.freezeB hs
      have hg7h := Ghost.tr hg79 (Ghost.tr hgg hgh)
      refine wk_seq ?_
      repeat (refine wc_seq ?_)
      refine wc_draw 11 [] pp_mix (by kernel_rfl) rfl hs ?_
      repeat (first | refine sg_p rfl rfl ?_ | refine sg_skip rfl rfl ?_)
      refine sg_ldGN (cs := [.slice aa all.length ca, .slice (some ⟨pb, po, none⟩) pairs.length cp]) (hwb.mono hg7h).at' rfl rfl rfl rfl rfl ?_
      repeat (first | refine sg_p rfl rfl ?_ | refine sg_skip rfl rfl ?_)
      refine sg_ldG (hdb.mono hg7h 4 _ rfl) rfl rfl rfl rfl ?_
      refine sg_ix rfl rfl rfl rfl rfl (by omega) hbL rfl ?_
      refine sg_ldGN (cs := [.int .i64 e0.kind, .int .i64 e0.n, .slice wna e0.nodes.length wnc, wr, wL]) (hel.mono hg7h).of_eaddr rfl rfl rfl rfl rfl ?_
      repeat (first | refine sg_p rfl rfl ?_ | refine sg_skip rfl rfl ?_)
      refine sg_arK ((deep + 1 : Nat) : Int) rfl rfl rfl (by omega) rfl ?_
      refine sg_callK (vs := [.int .i64 (n : Int), .slice al ls.length cl, .slice av inn.length cv, .agg #[.slice aa all.length ca, .slice (some ⟨pb, po, none⟩) pairs.length cp], .agg #[.int .i64 e0.kind, .int .i64 e0.n, .slice wna e0.nodes.length wnc, wr, wL], .int .i64 ((deep + 1 : Nat) : Int)]) [] [] rfl rfl rfl (fun g' hg' => ih g' _ _ _ _ [.int .i64 e0.kind, .int .i64 e0.n, .slice wna e0.nodes.length wnc, wr, wL] e0 (withoutF ls inn m1) (deep + 1) (hl.mono (Ghost.tr hg7h hg')) (rJ.mono hg') hTl (ha.mono (Ghost.tr hg7h hg')) (hp.mono (Ghost.tr hg7h hg')) (hec.mono (Ghost.tr hg7h hg')) hok0 (by omega)) (fun _ _ _ h => h) ?_
      refine sg_end ?_
      intro gi w hgi
      intro hs
      repeat (refine wl_p rfl rfl rfl ?_)
      refine wl_nil (wk_seq ?_)
      exact wc_retV (res1 rfl rfl) (fin7 (L1 := []) _ hS.symm (Ghost.tr hg7h hgi) hs)
  rw [if_neg (beq_no h4)] at hS
  refine wc_skip (wk_blk (wk_seq ?_))
  obtain ⟨R, hR⟩ : ∃ R, R = d.rank.map Int.toNat := ⟨_, rfl⟩
  have hRl : R.length = d.rank.length := by rw [hR, List.length_map]
  obtain ⟨rec, hrec⟩ : ∃ rec, rec = showsS n ls all pairs f := ⟨_, rfl⟩
  rw [← hrec] at hS
  unfold ranksS at hS
  rw [← hN, ← hR] at hS
  repeat (refine wc_seq ?_)
  refine wc_region ?_
  repeat (refine wl_p rfl rfl rfl ?_)
  refine wl_ldG hs (hdb 3 _ rfl) rfl rfl rfl rfl rfl ?_
  repeat (refine wl_p rfl rfl rfl ?_)
  refine wl_ldG hs (hdb 2 _ rfl) rfl rfl rfl rfl rfl ?_
  repeat (refine wl_p rfl rfl rfl ?_)
  refine wl_case 200 rfl (fun q5 => ?_) (fun q5 => ?_)
  · have q5' : d.rank.length ≠ d.nodes.length := by
      intro e
      rw [e] at q5
      simp at q5
    rw [if_pos (.inl q5')] at hS
    repeat (first | refine wl_p rfl rfl rfl ?_ | refine wl_skip rfl rfl rfl ?_)
    refine wl_nil (wk_seq ?_)
    refine wc_condT rfl rfl ?_
    repeat (refine wc_seq ?_)
    refine wc_region ?_
    repeat (refine wl_p rfl rfl rfl ?_)
    refine wl_nil (wk_seq ?_)
    exact wc_retV (res1 rfl rfl) (fin7 (L1 := []) _ hS.symm Ghost.rfl' hs)
  have e1 : d.rank.length = d.nodes.length := by
    have : (d.rank.length : Int) = (d.nodes.length : Int) := by simpa using q5
    omega
  repeat (first | refine wl_p rfl rfl rfl ?_ | refine wl_skip rfl rfl rfl ?_)
  refine wl_ldG hs (hdb 4 _ rfl) rfl rfl rfl rfl rfl ?_
  repeat (first | refine wl_p rfl rfl rfl ?_ | refine wl_skip rfl rfl rfl ?_)
  refine wl_nil (wk_seq ?_)
  refine wc_cond rfl (fun q6 => ?_) (fun q6 => ?_)
  · have q6' : d.l.length = 0 := by
      have h9 : ((d.l.length : Int) == 0) = true := q6
      simpa using h9
    rw [if_pos (.inr q6')] at hS
    repeat (refine wc_seq ?_)
    refine wc_region ?_
    repeat (refine wl_p rfl rfl rfl ?_)
    refine wl_nil (wk_seq ?_)
    exact wc_retV (res1 rfl rfl) (fin7 (L1 := []) _ hS.symm Ghost.rfl' hs)
  have e2 : ¬ d.l.length = 0 := by
    intro e
    have h9 : ((d.l.length : Int) == 0) = false := q6
    rw [e] at h9
    simp at h9
  rw [if_neg (by rintro (h | h); exact h e1; exact e2 h)] at hS
  refine wc_skip (wk_seq ?_)
  repeat (refine wc_seq ?_)
  refine wc_region ?_
  repeat (refine wl_p rfl rfl rfl ?_)
  refine wl_make hs rfl (by omega) rfl rfl rfl rfl rfl rfl rfl ?_
  clear hs; intro kb w hs
  have ez : ((rankTo n N R 0).map fun (x : Nat) => Value.int .i64 (x : Int)) = (List.range n).map fun _ => .int .i64 0 := by
    apply List.ext_getElem <;> simp [rankTo]
  replace hs := (show St g7 w ((kb, cellsO ((rankTo n N R 0).map fun (x : Nat) => Value.int .i64 (x : Int)) 3) :: F) by rw [ez, ← zero_ints]; exact hs)
  repeat (refine wl_p rfl rfl rfl ?_)
  refine wl_nil (wk_seq ?_)
  repeat (refine wc_seq ?_)
  refine wc_region ?_
  repeat (refine wl_p rfl rfl rfl ?_)
  refine wl_ldG hs (hdb 4 _ rfl) rfl rfl rfl rfl rfl ?_
  repeat (refine wl_p rfl rfl rfl ?_)
  refine wl_make hs rfl (by omega) rfl rfl rfl rfl rfl rfl rfl ?_
  clear hs; intro ob w hs
  have hz : (List.replicate (d.l.length : Int).toNat (TE.zcells ⟨.slice 3, [.slice], 24⟩)).flatten = List.replicate d.l.length (.slice none 0 0) := by
    rw [Int.toNat_natCast, show TE.zcells ⟨.slice 3, [.slice], 24⟩ = [.slice none 0 0] from rfl, rep_flat]
  replace hs := (show St g7 w ((ob, cellsO (List.replicate d.l.length (.slice none 0 0)) 22) :: (kb, cellsO ((rankTo n N R 0).map fun (x : Nat) => Value.int .i64 (x : Int)) 3) :: F) by rw [← hz]; exact hs)
  repeat (refine wl_p rfl rfl rfl ?_)
  refine wl_nil (wk_seq ?_)
  repeat (refine wc_seq ?_)
  refine wc_region ?_
  repeat (refine wl_p rfl rfl rfl ?_)
  refine wl_nil (wk_seq ?_)
  repeat (refine wc_seq ?_)
  refine wc_fori d.nodes.length (fun _ (_ : Unit) => [(0, .int .i64 (n : Int)), (1, .slice al ls.length cl), (2, .slice ai inn.length ci), (5, .int .i64 (deep : Int)), (9, .pointer (some ⟨wb, 0, none⟩)), (10, .pointer (some ⟨db, 0, none⟩)), (15, .slice aj inner.length cj), (18, .slice (some ⟨kb, 0, none⟩) n n), (19, .slice (some ⟨ob, 0, none⟩) d.l.length d.l.length)])
    (fun i (_ : Unit) w => ∃ (g' : Ghost) (hd : List Value) (Hs : List Own), g7 ≤ g' ∧ (∀ j (h : j < i) (h' : j < d.rank.length), 0 ≤ d.rank[j] ∧ d.rank[j] < d.l.length) ∧ hd.length = d.l.length ∧ Hs.length = d.l.length ∧
      (∀ (k : Nat) (v : Value) (H : Own), hd[k]? = some v → Hs[k]? = some H → OwnS 3 1 v (partAt N R i k).length ((partAt N R i k).flatMap eNat) H) ∧
      St g' w ((ob, cellsO hd 22) :: (kb, cellsO ((rankTo n N R i).map fun (x : Nat) => Value.int .i64 (x : Int)) 3) :: (Hs.flatten ++ F))) () (by repeat (first | exact trivial | refine ⟨rfl, ?_⟩))
    ⟨g7, List.replicate d.l.length (.slice none 0 0), List.replicate d.l.length [], Ghost.rfl', fun j h => by omega, by simp, by simp, ?_, ?_⟩ ?_ ?_ ?_
  · intro k v H h1 h2
    have hk : k < d.l.length := by have := (List.getElem?_eq_some_iff.1 h1).1; simpa using this
    simp [hk] at h1 h2
    subst h1 h2
    simpa [partAt] using OwnS.nil 3 1
  · have : (List.replicate d.l.length ([] : Own)).flatten = [] := by simp
    rw [this]
    exact hs
  · rintro i _ w s' hi ⟨g8, hd, Hs, hg8, _, _, _, _, hs⟩ hk
    repeat (refine wl_p rfl rfl rfl ?_)
    refine wl_ldG hs (hdb.mono hg8 2 _ rfl) rfl rfl rfl rfl rfl ?_
    repeat (refine wl_p rfl rfl rfl ?_)
    exact wl_nil (wk_weak (by repeat (first | exact trivial | refine ⟨rfl, ?_⟩)) hk)
  · clear hs
    rintro i _ w hii ⟨g8, hd, Hs, hg8, hrk, q3, q4, hown, hs⟩
    have hir : i < d.rank.length := by omega
    have hNi : i < N.length := by omega
    obtain ⟨hxe, hx⟩ := rises_node hrises hii
    have hNe : N[i] = d.nodes[i].toNat := by simp [hN]
    rw [← hNe] at hxe hx
    have hb1 := rn.base hii
    have hc1 := (rn.mono hg8).int hii
    rw [← hxe] at hc1
    have hb2 := rr.base hir
    have hc2 := (rr.mono hg8).int hir
    have hgn : N.getD i 0 = N[i] := by simp [hNi]
    have hgr : R.getD i 0 = d.rank[i].toNat := by simp [hR, hir]
    have bad : ¬ (0 ≤ d.rank[i] ∧ d.rank[i] < d.l.length) → S = false := fun hb => by
      rw [hS, if_pos]
      rw [List.all_eq_false]
      refine ⟨d.rank[i], List.getElem_mem hir, ?_⟩
      intro h
      simp only [Bool.and_eq_true, decide_eq_true_eq] at h
      exact hb h
    generalize hzz : d.rank[i] = z at hc2 hgr bad
    generalize N[i] = x at hc1 hgn hx hxe
    repeat (refine wc_seq ?_)
    refine wc_region ?_
    repeat (refine wl_p rfl rfl rfl ?_)
    refine wl_ldG hs (hdb.mono hg8 3 _ rfl) rfl rfl rfl rfl rfl ?_
    repeat (refine wl_p rfl rfl rfl ?_)
    refine wl_ix rfl rfl rfl rfl rfl (by omega) hb2 rfl rfl ?_
    refine wl_ldG hs (hc2) rfl rfl rfl rfl rfl ?_
    repeat (refine wl_p rfl rfl rfl ?_)
    refine wl_nil (wk_seq ?_)
    repeat (refine wc_seq ?_)
    refine wc_region ?_
    repeat (refine wl_p rfl rfl rfl ?_)
    refine wl_case 226 rfl (fun c1 => ?_) (fun c1 => ?_)
    · repeat (first | refine wl_p rfl rfl rfl ?_ | refine wl_skip rfl rfl rfl ?_)
      refine wl_nil (wk_seq ?_)
      refine wc_condT rfl rfl ?_
      repeat (refine wc_seq ?_)
      refine wc_region ?_
      repeat (refine wl_p rfl rfl rfl ?_)
      refine wl_nil (wk_seq ?_)
      have := of_decide_eq_true c1
      exact wc_retV (res1 rfl rfl) (fin7 (L1 := []) _ (bad (by omega)).symm hg8 hs.drop.drop.dropL)
    repeat (first | refine wl_p rfl rfl rfl ?_ | refine wl_skip rfl rfl rfl ?_)
    refine wl_ldG hs (hdb.mono hg8 4 _ rfl) rfl rfl rfl rfl rfl ?_
    repeat (first | refine wl_p rfl rfl rfl ?_ | refine wl_skip rfl rfl rfl ?_)
    refine wl_nil (wk_seq ?_)
    refine wc_cond rfl (fun c2 => ?_) (fun c2 => ?_)
    · repeat (refine wc_seq ?_)
      refine wc_region ?_
      repeat (refine wl_p rfl rfl rfl ?_)
      refine wl_nil (wk_seq ?_)
      have := of_decide_eq_true c2
      exact wc_retV (res1 rfl rfl) (fin7 (L1 := []) _ (bad (by omega)).symm hg8 hs.drop.drop.dropL)
    have c1' := of_decide_eq_false c1
    have c2' := of_decide_eq_false c2
    obtain ⟨r, hzr⟩ := Int.eq_ofNat_of_zero_le (show 0 ≤ z by omega)
    rw [hzr] at hc2 hgr ⊢
    have hrl : r < d.l.length := by omega
    have hgr' : R.getD i 0 = r := by rw [hgr]; rfl
    refine wc_skip (wk_seq ?_)
    have hrt := rankTo_len (n := n) (nodes := N) (rank := R) i
    repeat (refine wc_seq ?_)
    refine wc_region ?_
    repeat (refine wl_p rfl rfl rfl ?_)
    refine wl_ldG hs (hdb.mono hg8 2 _ rfl) rfl rfl rfl rfl rfl ?_
    repeat (refine wl_p rfl rfl rfl ?_)
    refine wl_ix rfl rfl rfl rfl rfl (by omega) hb1 rfl rfl ?_
    refine wl_ldG hs (hc1) rfl rfl rfl rfl rfl ?_
    repeat (refine wl_p rfl rfl rfl ?_)
    refine wl_ixJ _ rfl rfl rfl rfl rfl (hx) rfl rfl rfl ?_
    refine wl_st (u := .int .i64 (((rankTo n N R i)[x]'(by omega) : Nat) : Int)) hs 1 rfl rfl rfl (by simp [hrt, hx]) rfl rfl rfl rfl ?_
    clear hs; intro w hs
    refine wl_nil (wk_seq ?_)
    have hse : ((rankTo n N R i).map fun (x : Nat) => Value.int .i64 (x : Int)).set x (.int .i64 (r : Int)) = (rankTo n N R (i + 1)).map fun (x : Nat) => Value.int .i64 (x : Int) := by rw [rankTo_succ, hgn, hgr', List.map_set]
    have hfd : r < hd.length := by omega
    have hfH : r < Hs.length := by omega
    have ho := hown r hd[r] Hs[r] (List.getElem?_eq_getElem hfd) (List.getElem?_eq_getElem hfH)
    replace hs := (show St g8 w ((ob, cellsO hd 22) :: (kb, cellsO ((rankTo n N R (i + 1)).map fun (x : Nat) => Value.int .i64 (x : Int)) 3) :: (Hs.flatten ++ F)) by rw [← hse]; exact hs)
    have hs2 : St g8 w (Hs[r] ++ ((ob, cellsO hd 22) :: (kb, cellsO ((rankTo n N R (i + 1)).map fun (x : Nat) => Value.int .i64 (x : Int)) 3) :: ((Hs.eraseIdx r).flatten ++ F))) :=
      (show St g8 w ((ob, cellsO hd 22) :: (kb, cellsO ((rankTo n N R (i + 1)).map fun (x : Nat) => Value.int .i64 (x : Int)) 3) :: (Hs[r] ++ ((Hs.eraseIdx r).flatten ++ F))) from hs.perm (List.Perm.cons _ (List.Perm.cons _ (by rw [← List.append_assoc]; exact ((flat_front Hs _ hfH).symm.append_right F))))).perm (by classical exact List.perm_iff_count.2 fun x => by simp only [List.append_eq, List.set_cons_succ, List.set_cons_zero, List.eraseIdx_cons_zero, List.eraseIdx_cons_succ, List.count_cons, List.count_append, List.cons_append, List.nil_append, List.append_nil, List.append_assoc] <;> ac_rfl)
    repeat (refine wc_seq ?_)
    refine wc_draw 13 Hs[r] pp_mix (by kernel_rfl) rfl hs2 ?_
    repeat (first | refine sg_p rfl rfl ?_ | refine sg_skip rfl rfl ?_)
    refine sg_ixJ _ rfl rfl rfl rfl rfl (hrl) rfl rfl ?_
    refine sg_ldO 0 rfl rfl (List.getElem?_eq_getElem hfd) rfl rfl rfl ?_
    repeat (first | refine sg_p rfl rfl ?_ | refine sg_skip rfl rfl ?_)
    refine sg_ldG (hdb.mono hg8 2 _ rfl) rfl rfl rfl rfl ?_
    repeat (first | refine sg_p rfl rfl ?_ | refine sg_skip rfl rfl ?_)
    refine sg_ix rfl rfl rfl rfl rfl (by omega) hb1 rfl ?_
    refine sg_ldG (hc1) rfl rfl rfl rfl ?_
    refine sg_one (ys := eNat x) rfl rfl rfl rfl rfl rfl rfl rfl ?_
    refine sg_push Hs[r] [] (List.append_nil _).symm ho (by have := partAt_len N R i r; omega) rfl rfl rfl rfl rfl rfl rfl rfl rfl rfl rfl rfl (fun _ => rfl) ?_
    refine sg_end ?_
    intro g9 w hg9
    rintro _ _ ⟨_, _, _, rfl, rfl, _⟩ v' H' ⟨_, _, ho'⟩ hs
    replace hs := (show St g9 w ((ob, cellsO hd 22) :: (kb, cellsO ((rankTo n N R (i + 1)).map fun (x : Nat) => Value.int .i64 (x : Int)) 3) :: (H' ++ ((Hs.eraseIdx r).flatten ++ F))) from St.perm hs (by classical exact List.perm_iff_count.2 fun x => by simp only [List.append_eq, List.set_cons_succ, List.set_cons_zero, List.eraseIdx_cons_zero, List.eraseIdx_cons_succ, List.count_cons, List.count_append, List.cons_append, List.nil_append, List.append_nil, List.append_assoc] <;> ac_rfl))
    refine wl_ixJ _ rfl rfl rfl rfl rfl (hrl) rfl rfl rfl ?_
    refine wl_st hs 0 rfl rfl rfl (List.getElem?_eq_getElem hfd) rfl rfl (OwnS.one ho') rfl ?_
    clear hs; intro w hs
    refine wl_nil (wk_blk (wk_nexti () hii hnl ⟨g9, hd.set r v', Hs.set r H', Ghost.tr hg8 hg9, fun j h1 h2 => ?_, by simp [q3], by simp [q4], ?_, ?_⟩ rfl rfl rfl rfl (by repeat (first | exact trivial | refine ⟨rfl, ?_⟩))))
    · by_cases e : j = i
      · subst e; rw [hzz]; omega
      · exact hrk j (by omega) h2
    · intro kk v H e1 e2
      rw [partAt_succ, hgr', hgn]
      by_cases hk : r = kk
      · subst hk
        simp [hfd, hfH] at e1 e2
        subst e1 e2
        rw [if_pos rfl, List.length_append, List.flatMap_append]
        exact ho'
      · simp only [List.getElem?_set_ne hk] at e1 e2
        rw [if_neg hk, List.append_nil]
        exact hown kk v H e1 e2
    · refine St.perm (show St g9 w ((ob, cellsO (hd.set r v') 22) :: (kb, cellsO ((rankTo n N R (i + 1)).map fun (x : Nat) => Value.int .i64 (x : Int)) 3) :: (H' ++ ((Hs.eraseIdx r).flatten ++ F))) from hs) (List.Perm.cons _ (List.Perm.cons _ ?_))
      rw [← List.append_assoc]
      exact (flat_set Hs _ hfH H').append_right F
  clear hs
  rintro _ w ⟨g8, hd, Hs, hg8, hrk, q3, q4, hown, hs⟩
  have k2 : ¬ d.rank.all (fun k => decide (0 ≤ k) && decide (k < d.l.length)) = false := by
    intro h
    rw [List.all_eq_false] at h
    obtain ⟨z, hz1, hz2⟩ := h
    obtain ⟨j, hj, rfl⟩ := List.getElem_of_mem hz1
    have := hrk j (by omega) hj
    apply hz2
    simp only [Bool.and_eq_true, decide_eq_true_eq]
    exact this
  rw [if_neg k2] at hS
  obtain ⟨RT, hRT⟩ : ∃ RT, RT = rankTo n N R d.nodes.length := ⟨_, rfl⟩
  have hRTl : RT.length = n := by rw [hRT]; exact rankTo_len _
  rw [← hRT] at hS hs
  refine wk_seq ?_
  repeat (refine wc_seq ?_)
  refine wc_region ?_
  repeat (refine wl_p rfl rfl rfl ?_)
  refine wl_nil (wk_seq ?_)
  repeat (refine wc_seq ?_)
  refine wc_fori ls.length (fun _ (_ : Unit) => [(0, .int .i64 (n : Int)), (1, .slice al ls.length cl), (2, .slice ai inn.length ci), (5, .int .i64 (deep : Int)), (9, .pointer (some ⟨wb, 0, none⟩)), (10, .pointer (some ⟨db, 0, none⟩)), (15, .slice aj inner.length cj), (18, .slice (some ⟨kb, 0, none⟩) n n), (19, .slice (some ⟨ob, 0, none⟩) d.l.length d.l.length)])
    (fun i (_ : Unit) w => ∃ g', g8 ≤ g' ∧ (∀ j, j < i → (inner.getD j false && decide (RT.getD (frOf ls j) 0 < RT.getD (toOf ls j) 0)) = false) ∧ St g' w ((ob, cellsO hd 22) :: (kb, cellsO (RT.map fun (x : Nat) => Value.int .i64 (x : Int)) 3) :: (Hs.flatten ++ F))) () (by repeat (first | exact trivial | refine ⟨rfl, ?_⟩)) ⟨g8, Ghost.rfl', fun j h => by omega, hs⟩ ?_ ?_ ?_
  · intro i _ w s' hi hJ hk
    repeat (refine wl_p rfl rfl rfl ?_)
    exact wl_nil (wk_weak (by repeat (first | exact trivial | refine ⟨rfl, ?_⟩)) hk)
  · clear hs
    rintro i _ w hii ⟨g9, hg9, hall, hs⟩
    have hg79 := Ghost.tr hg8 hg9
    have hij : i < inner.length := by omega
    have hbi := ri.base hij
    have hci := (ri.mono hg79).bool hij
    have hgi := getD_at hij
    have hb := hl.base hii
    have hc := (hl.mono hg79).enc hii
    obtain ⟨v1, v2, _⟩ := hv.ok _ (List.getElem_mem hii)
    obtain ⟨fr, hfr⟩ : ∃ fr, fr = frOf ls i := ⟨_, rfl⟩
    obtain ⟨to, hto⟩ : ∃ to, to = toOf ls i := ⟨_, rfl⟩
    have hcc : Lies g9 (eaddr al 3 i).block (eaddr al 3 i).off [.int .i64 (fr : Int), .int .i64 (to : Int), .int .u32 (ls[i].ms : Int)] := by rw [hfr, hto, frOf_at hii, toOf_at hii]; exact hc
    rw [← frOf_at hii, ← hfr] at v1
    rw [← toOf_at hii, ← hto] at v2
    have c1 : (RT.map fun (x : Nat) => Value.int .i64 (x : Int))[fr]? = some (.int .i64 ((RT[fr]'(by omega) : Nat) : Int)) := by simp [hRTl, v1]
    have c2 : (RT.map fun (x : Nat) => Value.int .i64 (x : Int))[to]? = some (.int .i64 ((RT[to]'(by omega) : Nat) : Int)) := by simp [hRTl, v2]
    have e3 : RT.getD (frOf ls i) 0 = RT[fr]'(by omega) := by rw [← hfr, List.getD_eq_getElem?_getD, List.getElem?_eq_getElem]; rfl
    have e4 : RT.getD (toOf ls i) 0 = RT[to]'(by omega) := by rw [← hto, List.getD_eq_getElem?_getD, List.getElem?_eq_getElem]; rfl
    have bad : (inner.getD i false && decide (RT.getD (frOf ls i) 0 < RT.getD (toOf ls i) 0)) = true → S = false := fun h => by
      rw [hS, if_pos]
      exact List.any_eq_true.2 ⟨i, List.mem_range.2 hii, h⟩
    have step : (inner.getD i false && decide (RT.getD (frOf ls i) 0 < RT.getD (toOf ls i) 0)) = false → ∀ j, j < i + 1 → (inner.getD j false && decide (RT.getD (frOf ls j) 0 < RT.getD (toOf ls j) 0)) = false := fun h j hj => by
      by_cases e : j = i
      · subst e; exact h
      · exact hall j (by omega)
    rw [hgi, e3, e4] at bad step
    generalize RT[fr]'(by omega) = r1 at c1 bad step
    generalize RT[to]'(by omega) = r2 at c2 bad step
    generalize inner[i] = q at hci bad step
    repeat (refine wc_seq ?_)
    refine wc_draw 23 [] pp_mix (by kernel_rfl) rfl hs ?_
    repeat (first | refine sg_p rfl rfl ?_ | refine sg_skip rfl rfl ?_)
    refine sg_ix rfl rfl rfl rfl rfl (by omega) (hbi) rfl ?_
    refine sg_ldG (hci) rfl rfl rfl rfl ?_
    repeat (first | refine sg_p rfl rfl ?_ | refine sg_skip rfl rfl ?_)
    cases q with
    | false =>
      repeat (first | refine sg_p rfl rfl ?_ | refine sg_skip rfl rfl ?_)
      refine sg_end ?_
      intro ga w hga
      intro hs
      refine wl_nil (wk_seq ?_)
      exact wc_condF rfl rfl (wc_skip (wk_blk (wk_nexti () hii (by omega) ⟨ga, Ghost.tr hg9 hga, step rfl, hs⟩ rfl rfl rfl rfl (by repeat (first | exact trivial | refine ⟨rfl, ?_⟩)))))
    | true =>
      rw [Bool.true_and] at bad step
      repeat (first | refine sg_p rfl rfl ?_ | refine sg_skip rfl rfl ?_)
      refine sg_ix rfl rfl rfl rfl rfl (by omega) hb rfl ?_
      repeat (first | refine sg_p rfl rfl ?_ | refine sg_skip rfl rfl ?_)
      refine sg_ldG (hcc.of_eaddr 0 _ rfl) rfl rfl rfl rfl ?_
      refine sg_ixJ _ rfl rfl rfl rfl rfl (v1) rfl rfl ?_
      refine sg_ldO 1 rfl rfl c1 rfl rfl rfl ?_
      repeat (first | refine sg_p rfl rfl ?_ | refine sg_skip rfl rfl ?_)
      refine sg_ix rfl rfl rfl rfl rfl (by omega) hb rfl ?_
      repeat (first | refine sg_p rfl rfl ?_ | refine sg_skip rfl rfl ?_)
      refine sg_ldG (hcc.of_eaddr 1 _ rfl) rfl rfl rfl rfl ?_
      refine sg_ixJ _ rfl rfl rfl rfl rfl (v2) rfl rfl ?_
      refine sg_ldO 1 rfl rfl c2 rfl rfl rfl ?_
      repeat (first | refine sg_p rfl rfl ?_ | refine sg_skip rfl rfl ?_)
      refine sg_end ?_
      intro ga w hga
      intro hs
      refine wl_nil (wk_seq ?_)
      refine wc_cond rfl (fun h => ?_) (fun h => ?_)
      · have h' := of_decide_eq_true h
        repeat (refine wc_seq ?_)
        refine wc_region ?_
        repeat (refine wl_p rfl rfl rfl ?_)
        refine wl_nil (wk_seq ?_)
        exact wc_retV (res1 rfl rfl) (fin7 (L1 := []) _ (bad (decide_eq_true (by omega))).symm (Ghost.tr hg79 hga) hs.drop.drop.dropL)
      · have h' := of_decide_eq_false h
        exact wc_skip (wk_blk (wk_nexti () hii (by omega) ⟨ga, Ghost.tr hg9 hga, step (decide_eq_false (by omega)), hs⟩ rfl rfl rfl rfl (by repeat (first | exact trivial | refine ⟨rfl, ?_⟩))))
  clear hs
  rintro _ w ⟨g9, hg9, hall, hs⟩
  have k3 : ¬ (List.range ls.length).any (fun i => inner.getD i false && decide (RT.getD (frOf ls i) 0 < RT.getD (toOf ls i) 0)) = true := by
    rw [any_none hall]; decide
  rw [if_neg k3] at hS
  have hg79 := Ghost.tr hg8 hg9
  have hs9 : St g9 w (Hs.flatten ++ ((ob, cellsO hd 22) :: (kb, cellsO (RT.map fun (x : Nat) => Value.int .i64 (x : Int)) 3) :: F)) := St.perm hs (List.perm_append_comm_assoc Hs.flatten [(ob, _), (kb, _)] F)
  obtain ⟨PT, hPT⟩ : ∃ PT : List (List Nat), PT = (List.range d.l.length).map (partAt N R d.nodes.length) := ⟨_, rfl⟩
  have hPTl : PT.length = d.l.length := by rw [hPT]; simp
  have hPTat : ∀ (k : Nat) (xs : List Nat), PT[k]? = some xs → k < d.l.length ∧ xs = partAt N R d.nodes.length k := fun k xs h => by
    have hk : k < d.l.length := by have := (List.getElem?_eq_some_iff.1 h).1; omega
    refine ⟨hk, ?_⟩
    rw [hPT] at h
    simp [hk] at h
    exact h.symm
  obtain ⟨ga, hga, hsa, hra⟩ := freezeAll (e := eNat) (h0 := fun _ => rfl) hd Hs PT g9 w _ (by omega) (by omega) (fun k v H xs e1 e2 e3 => by
    obtain ⟨_, rfl⟩ := hPTat k xs e3
    exact hown k v H e1 e2) hs9
  obtain ⟨gb, hgb, hsb, hlb⟩ := freezeB hsa
  replace hsb := hsb.drop
  have hrPT : RS (kSl kNat) gb (.slice (some ⟨ob, 0, none⟩) d.l.length d.l.length) PT := RS.ofSl hlb (by omega) (by omega) (fun k v xs e1 e2 => (hra k v xs e1 e2).mono hgb)
  rw [← hPTl] at hrPT
  have hg7b := Ghost.tr hg79 (Ghost.tr hga hgb)
  have hPTl2 : PT.length ≤ 4611686018427387904 := by omega
  refine wk_seq ?_
  repeat (refine wc_seq ?_)
  refine wc_region ?_
  repeat (refine wl_p rfl rfl rfl ?_)
  refine wl_nil (wk_seq ?_)
  repeat (refine wc_seq ?_)
  have hlen2 : (d.l.length : Int) = (PT.length : Int) := by rw [hPTl]
  refine wc_fori PT.length (fun _ (_ : Unit) => [(0, .int .i64 (n : Int)), (1, .slice al ls.length cl), (2, .slice ai inn.length ci), (5, .int .i64 (deep : Int)), (9, .pointer (some ⟨wb, 0, none⟩)), (10, .pointer (some ⟨db, 0, none⟩)), (19, .slice (some ⟨ob, 0, none⟩) PT.length PT.length)])
    (fun i (_ : Unit) w => ∃ g', gb ≤ g' ∧ St g' w F ∧ ∀ j (h : j < i) (h' : j < d.l.length), (partAt N R d.nodes.length j).length ≠ 0 ∧ (partAt N R d.nodes.length j).map Int.ofNat = d.l[j].nodes ∧ rec d.l[j] inn (deep + 1) = true) () (by rw [hPTl]; exact (by repeat (first | exact trivial | refine ⟨rfl, ?_⟩))) ⟨gb, Ghost.rfl', hsb, fun j h => by omega⟩ ?_ ?_ ?_
  · intro i _ w s' hi hJ hk
    repeat (refine wl_p rfl rfl rfl ?_)
    exact wl_nil (wk_weak (by repeat (first | exact trivial | refine ⟨rfl, ?_⟩)) hk)
  · clear hs
    rintro i _ w hii ⟨gc, hgc, hs, hall7⟩
    have hid : i < d.l.length := by omega
    have hg7c := Ghost.tr hg7b hgc
    have hbP := hrPT.base hii
    obtain ⟨pa, pc, hcP, hRP⟩ := (hrPT.mono hgc).sl hii
    have hPi := (hPTat i _ (List.getElem?_eq_getElem hii)).2
    rw [hPi] at hcP hRP
    have hplen := partAt_len N R d.nodes.length i
    have bad : ((partAt N R d.nodes.length i).length = 0 ∨ ¬ (partAt N R d.nodes.length i).map Int.ofNat = d.l[i].nodes ∨ rec d.l[i] inn (deep + 1) = false) → S = false := fun hb => by
      rw [hS, List.all_eq_false]
      refine ⟨i, List.mem_range.2 hid, ?_⟩
      rw [List.getElem?_eq_getElem hid]
      intro h
      simp only [Bool.and_eq_true, decide_eq_true_eq] at h
      rcases hb with hb | hb | hb
      · exact h.1 hb
      · exact hb h.2.1
      · rw [hb] at h; exact Bool.false_ne_true h.2.2
    have step : (partAt N R d.nodes.length i).length ≠ 0 → (partAt N R d.nodes.length i).map Int.ofNat = d.l[i].nodes → rec d.l[i] inn (deep + 1) = true → ∀ j (h : j < i + 1) (h' : j < d.l.length), (partAt N R d.nodes.length j).length ≠ 0 ∧ (partAt N R d.nodes.length j).map Int.ofNat = d.l[j].nodes ∧ rec d.l[j] inn (deep + 1) = true := fun x1 x2 x3 j h1 h2 => by
      by_cases e : j = i
      · subst e; exact ⟨x1, x2, x3⟩
      · exact hall7 j (by omega) h2
    generalize partAt N R d.nodes.length i = Q at hcP hRP hplen bad step
    obtain ⟨ec, hec, hel⟩ := (rL.mono hg7c).get hid
    replace hec := (show DropRn f gc ec d.l[i] from hec)
    have hbL := rL.base hid
    obtain ⟨e0, he0⟩ : ∃ e0, e0 = d.l[i] := ⟨_, rfl⟩
    rw [← he0] at hec bad step
    have hok0 : DropOk f e0 := by rw [he0]; exact dk4 i hid
    obtain ⟨f', hf'⟩ : ∃ f', f = f' + 1 := by
      cases f with
      | zero => exact hec.elim
      | succ f' => exact ⟨f', rfl⟩
    obtain ⟨wn, wr, wL, rfl, sn, sr, sL⟩ := (show DropRn (f' + 1) gc ec e0 from hf' ▸ hec).open'
    obtain ⟨wna, wnc, rfl⟩ := sn.form
    replace hs : St gc w F := by assumption
    repeat (refine wc_seq ?_)
    refine wc_draw 35 [] pp_mix (by kernel_rfl) rfl hs ?_
    repeat (first | refine sg_p rfl rfl ?_ | refine sg_skip rfl rfl ?_)
    refine sg_ix rfl rfl rfl rfl rfl (by omega) (hbP) rfl ?_
    refine sg_ldG (hcP) rfl rfl rfl rfl ?_
    repeat (first | refine sg_p rfl rfl ?_ | refine sg_skip rfl rfl ?_)
    refine sg_case (fun c1 => ?_) (fun c1 => ?_)
    · repeat (first | refine sg_p rfl rfl ?_ | refine sg_skip rfl rfl ?_)
      refine sg_end ?_
      intro gd w hgd
      intro hs
      refine wl_nil (wk_seq ?_)
      refine wc_condT rfl rfl ?_
      repeat (refine wc_seq ?_)
      refine wc_region ?_
      repeat (refine wl_p rfl rfl rfl ?_)
      refine wl_nil (wk_seq ?_)
      have : Q.length = 0 := by
        have h9 : ((Q.length : Int) == 0) = true := c1
        simpa using h9
      exact wc_retV (res1 rfl rfl) (fin7 (L1 := []) _ (bad (.inl this)).symm (Ghost.tr hg7c hgd) hs)
    have hQ0 : Q.length ≠ 0 := by
      intro e
      have h9 : ((Q.length : Int) == 0) = false := c1
      rw [e] at h9
      simp at h9
    repeat (first | refine sg_p rfl rfl ?_ | refine sg_skip rfl rfl ?_)
    refine sg_ix rfl rfl rfl rfl rfl (by omega) hbP rfl ?_
    refine sg_ldG (hcP) rfl rfl rfl rfl ?_
    repeat (first | refine sg_p rfl rfl ?_ | refine sg_skip rfl rfl ?_)
    refine sg_ldG (hdb.mono hg7c 4 _ rfl) rfl rfl rfl rfl ?_
    repeat (first | refine sg_p rfl rfl ?_ | refine sg_skip rfl rfl ?_)
    refine sg_ix rfl rfl rfl rfl rfl (by omega) hbL rfl ?_
    repeat (first | refine sg_p rfl rfl ?_ | refine sg_skip rfl rfl ?_)
    refine sg_ldG (hel.of_eaddr 2 _ rfl) rfl rfl rfl rfl ?_
    refine sg_callK (vs := [.slice pa Q.length pc, .slice wna e0.nodes.length wnc]) (post := Det (.bool (decide (Q.map Int.ofNat = e0.nodes)))) [] [] rfl rfl rfl (fun g' hg' => by
      have := equal_spec g' (.slice pa Q.length pc) (.slice wna e0.nodes.length wnc) (Q.map Int.ofNat) e0.nodes (hRP.mono hg').ofNat (sn.mono hg') (by simp; omega)
      exact this) (fun _ _ _ h => h) ?_
    repeat (first | refine sg_p rfl rfl ?_ | refine sg_skip rfl rfl ?_)
    refine sg_case (fun c2 => ?_) (fun c2 => ?_)
    · have c2' : ¬ Q.map Int.ofNat = e0.nodes := by
        have h9 : (!decide (Q.map Int.ofNat = e0.nodes)) = true := c2
        simpa using h9
      repeat (first | refine sg_p rfl rfl ?_ | refine sg_skip rfl rfl ?_)
      refine sg_end ?_
      intro gd w hgd
      intro hs
      refine wl_nil (wk_seq ?_)
      refine wc_condT rfl rfl ?_
      repeat (refine wc_seq ?_)
      refine wc_region ?_
      repeat (refine wl_p rfl rfl rfl ?_)
      refine wl_nil (wk_seq ?_)
      exact wc_retV (res1 rfl rfl) (fin7 (L1 := []) _ (bad (.inr (.inl c2'))).symm (Ghost.tr hg7c hgd) hs)
    have c2' : Q.map Int.ofNat = e0.nodes := by
      have h9 : (!decide (Q.map Int.ofNat = e0.nodes)) = false := c2
      simpa using h9
    repeat (first | refine sg_p rfl rfl ?_ | refine sg_skip rfl rfl ?_)
    refine sg_ldGN (cs := [.slice aa all.length ca, .slice ap pairs.length cp]) (hwb.mono hg7c).at' rfl rfl rfl rfl rfl ?_
    repeat (first | refine sg_p rfl rfl ?_ | refine sg_skip rfl rfl ?_)
    refine sg_ldG (hdb.mono hg7c 4 _ rfl) rfl rfl rfl rfl ?_
    repeat (first | refine sg_p rfl rfl ?_ | refine sg_skip rfl rfl ?_)
    refine sg_ix rfl rfl rfl rfl rfl (by omega) hbL rfl ?_
    refine sg_ldGN (cs := [.int .i64 e0.kind, .int .i64 e0.n, .slice wna e0.nodes.length wnc, wr, wL]) hel.of_eaddr rfl rfl rfl rfl rfl ?_
    repeat (first | refine sg_p rfl rfl ?_ | refine sg_skip rfl rfl ?_)
    refine sg_arK ((deep + 1 : Nat) : Int) rfl rfl rfl (by omega) rfl ?_
    refine sg_callK (vs := [.int .i64 (n : Int), .slice al ls.length cl, .slice ai inn.length ci, .agg #[.slice aa all.length ca, .slice ap pairs.length cp], .agg #[.int .i64 e0.kind, .int .i64 e0.n, .slice wna e0.nodes.length wnc, wr, wL], .int .i64 ((deep + 1 : Nat) : Int)]) (post := Det (.bool (rec e0 inn (deep + 1)))) [] [] rfl rfl rfl (fun g' hg' => by
      have hg7' := Ghost.tr hg7c hg'
      have := ih g' _ _ _ _ [.int .i64 e0.kind, .int .i64 e0.n, .slice wna e0.nodes.length wnc, wr, wL] e0 inn (deep + 1) (hl.mono hg7') (hin.mono hg7') hlen (ha.mono hg7') (hp.mono hg7') (hec.mono hg') hok0 (by omega)
      rw [← hrec] at this
      exact this) (fun _ _ _ h => h) ?_
    repeat (first | refine sg_p rfl rfl ?_ | refine sg_skip rfl rfl ?_)
    refine sg_end ?_
    intro gd w hgd
    intro hs
    refine wl_nil (wk_seq ?_)
    refine wc_cond rfl (fun c3 => ?_) (fun c3 => ?_)
    · have c3' : rec e0 inn (deep + 1) = false := by simpa using c3
      repeat (refine wc_seq ?_)
      refine wc_region ?_
      repeat (refine wl_p rfl rfl rfl ?_)
      refine wl_nil (wk_seq ?_)
      exact wc_retV (res1 rfl rfl) (fin7 (L1 := []) _ (bad (.inr (.inr c3'))).symm (Ghost.tr hg7c hgd) hs)
    · have c3' : rec e0 inn (deep + 1) = true := by simpa using c3
      exact wc_skip (wk_blk (wk_nexti () hii hPTl2 ⟨gd, Ghost.tr hgc hgd, hs, step hQ0 c2' c3'⟩ rfl rfl rfl rfl (by repeat (first | exact trivial | refine ⟨rfl, ?_⟩))))
  · clear hs
    rintro _ w ⟨gc, hgc, hs, hall7⟩
    refine wk_seq ?_
    repeat (refine wc_seq ?_)
    refine wc_region ?_
    repeat (refine wl_p rfl rfl rfl ?_)
    refine wl_nil (wk_seq ?_)
    refine wc_retV (res1 rfl rfl) (fin7 (L1 := []) _ ?_ (Ghost.tr hg7b hgc) hs)
    rw [hS, List.all_eq_true.2]
    intro i hi
    have hid : i < d.l.length := List.mem_range.1 hi
    obtain ⟨a1, a2, a3⟩ := hall7 i (by omega) hid
    rw [List.getElem?_eq_getElem hid]
    simp only [a3, Bool.and_true, decide_eq_true a2, Bool.true_and]
    exact decide_eq_true a1
end Go.Proofs.YtnanffbjmfgafaaGreat.S
namespace Go.Proofs.YtnanffbjmfgafaaGreat.S
open Go.RowKit
theorem light_wt : ∀ (k : Nat) (d : Drop) (left : Int) (deep : Nat), DropOk k d → (wtD k d : Int) ≤ left → deep + depD k d ≤ 121 → lightF k d left deep = (true, left - wtD k d)
  | 0, _, _, _, h, _, _ => h.elim
  | k + 1, d, left, deep, ⟨h1, h2, h3, h4⟩, hw, hd => by
    have hwe : wtD (k + 1) d = 1 + d.nodes.length + d.rank.length + (d.l.map (wtD k)).sum := rfl
    have hde : depD (k + 1) d = 1 + (d.l.map (depD k)).foldr max 0 := rfl
    rw [hwe] at hw ⊢
    rw [hde] at hd
    unfold lightF
    rw [if_neg (by omega)]
    have key : ∀ (xs : List Drop) (l : Int), (∀ x ∈ xs, DropOk k x ∧ deep + 1 + depD k x ≤ 121) → ((xs.map (wtD k)).sum : Int) ≤ l → lightL (fun x l => lightF k x l (deep + 1)) xs l = (true, l - (xs.map (wtD k)).sum) := by
      intro xs
      induction xs with
      | nil => intro l _ _; simp [lightL]
      | cons x xs ih =>
        intro l hx hs
        rw [List.map_cons, List.sum_cons] at hs ⊢
        obtain ⟨a, b⟩ := hx x (by simp)
        simp only [lightL]
        rw [light_wt k x l (deep + 1) a (by omega) b]
        simp only [if_true]
        rw [ih _ (fun y hy => hx y (by simp [hy])) (by omega)]
        congr 1
        omega
    rw [key d.l _ (fun x hx => by
      obtain ⟨j, hj, rfl⟩ := List.getElem_of_mem hx
      have : depD k d.l[j] ≤ (d.l.map (depD k)).foldr max 0 := le_fmax (List.mem_map.2 ⟨_, hx, rfl⟩)
      exact ⟨h4 j hj, by omega⟩) (by omega)]
    congr 1
    omega
theorem refVerify_spec (k : Nat) (g : Ghost) (n : Int) (vi vl va vp : Value) (cs : List Value) (init : List Int) (ls : List ArrowI) (all : List Int) (pairs : List (Int × Int)) (d : Drop) (hi : RS kInt g vi init) (hl : RS kArrI g vl ls) (ha : RS kInt g va all) (hp : RS kPairI g vp pairs) (hd : DropRn k g cs d) (hok : DropOk k d)
    (hi0 : init.length ≤ 4611686018427387904) (hl0 : ls.length ≤ 4611686018427387904) (ha0 : all.length ≤ 4611686018427387904) (hp0 : pairs.length ≤ 4611686018427387904) :
    Cl PP 8 [.int .i64 n, vi, vl, .agg #[va, vp], .agg cs.toArray] g [] (Det (.int .i64 (refVerifyI k n init ls all pairs d))) := by
  obtain ⟨k', hk'⟩ : ∃ k', k = k' + 1 := by
    cases k with
    | zero => exact hd.elim
    | succ k' => exact ⟨k', rfl⟩
  obtain ⟨vn, vr, vL, rfl, rn, rr, rL⟩ := (show DropRn (k' + 1) g cs d from hk' ▸ hd).open'
  obtain ⟨an, cn, rfl⟩ := rn.form
  have hnl : d.nodes.length ≤ 1048576 := (show DropOk (k' + 1) d from hk' ▸ hok).2.1
  obtain ⟨dv, hdv⟩ : ∃ dv, dv = ([.int .i64 d.kind, .int .i64 d.n, .slice an d.nodes.length cn, vr, vL] : List Value) := ⟨_, rfl⟩
  obtain ⟨V, hV⟩ : ∃ V, V = refVerifyI k n init ls all pairs d := ⟨_, rfl⟩
  rw [← hV]
  unfold refVerifyI at hV
  obtain ⟨aa, ca, rfl⟩ := ha.form
  obtain ⟨ap, cp, rfl⟩ := hp.form
  refine cl_intro Tryz.func8 rfl rfl Tryz.ntmps8 rfl ?_
  intro w F hs
  repeat (refine wc_seq ?_)
  refine wc_region ?_
  refine wl_box hs rfl rfl rfl rfl ?_; clear hs; intro wb w hs
  refine wl_box hs rfl rfl rfl rfl ?_; clear hs; intro db w hs
  repeat (refine wl_p rfl rfl rfl ?_)
  refine wl_nil (wk_seq ?_)
  obtain ⟨g1, hg1, hs, hdb⟩ := freezeB hs
  obtain ⟨g2, hg2, hs, hwb⟩ := freezeB hs
  replace hs := (show St g2 w F from hs)
  replace hdb := (show Lies g2 db 0 [.int .i64 d.kind, .int .i64 d.n, .slice an d.nodes.length cn, vr, vL] from hdb.mono hg2)
  replace hwb := (show Lies g2 wb 0 [.slice aa all.length ca, .slice ap pairs.length cp] from hwb)
  have hg02 := Ghost.tr hg1 hg2
  repeat (refine wc_seq ?_)
  refine wc_region ?_
  repeat (refine wl_p rfl rfl rfl ?_)
  refine wl_ldGN (cs := [.slice aa all.length ca, .slice ap pairs.length cp]) hs hwb.at' rfl rfl rfl rfl rfl rfl ?_
  refine wl_call (L := []) rfl rfl rfl hs (refCheck_spec g2 n _ _ _ _ init ls all pairs (hi.mono hg02) (hl.mono hg02) (ha.mono hg02) (hp.mono hg02) hi0 hl0 ha0 hp0) ?_
  rintro u g3 L' w hg3 hs ⟨rfl, rfl⟩
  have hg03 := Ghost.tr hg02 hg3
  replace hs := (show St g3 w F from hs)
  repeat (refine wl_p rfl rfl rfl ?_)
  refine wl_nil (wk_seq ?_)
  repeat (refine wc_seq ?_)
  refine wc_region ?_
  repeat (refine wl_p rfl rfl rfl ?_)
  refine wl_nil (wk_seq ?_)
  refine wc_cond rfl (fun h1 => ?_) (fun h1 => ?_)
  · have h9 : ¬ checkI n init ls all pairs = 0 := by simpa using h1
    rw [if_neg h9] at hV
    repeat (refine wc_seq ?_)
    refine wc_region ?_
    repeat (refine wl_p rfl rfl rfl ?_)
    refine wl_nil (wk_seq ?_)
    exact wc_retV (res1 rfl rfl) ⟨g3, [], hg03, hs, rfl, by rw [hV]⟩
  have hc : checkI n init ls all pairs = 0 := by simpa using h1
  have hC := checked hc
  have hnn : n = (n.toNat : Int) := (Int.toNat_of_nonneg hC.n0).symm
  rw [if_pos hc] at hV
  obtain ⟨K, hK⟩ : ∃ K, K = reachedS n.toNat (ls.map toA) (init.map Int.toNat) := ⟨_, rfl⟩
  rw [← hK] at hV
  replace hdb := hdb.mono hg3
  replace hwb := hwb.mono hg3
  refine wc_skip (wk_seq ?_)
  repeat (refine wc_seq ?_)
  refine wc_draw 18 [] pp_mix (by kernel_rfl) rfl hs ?_
  repeat (first | refine sg_p rfl rfl ?_ | refine sg_skip rfl rfl ?_)
  refine sg_ldG (hdb 2 _ rfl) rfl rfl rfl rfl ?_
  repeat (first | refine sg_p rfl rfl ?_ | refine sg_skip rfl rfl ?_)
  refine sg_call (vs := [.int .i64 (n.toNat : Int), vi, vl]) (post := fun g' L' r => L' = [] ∧ RS kNat g' r K) [] [] rfl (by rw [← hnn]; rfl) rfl (fun g' hg' => by
    rw [hK]
    exact reached_spec hC g' vi vl (hi.mono (Ghost.tr hg03 hg')) (hl.mono (Ghost.tr hg03 hg'))) ?_
  refine sg_callWK (vs := fun v => [.slice an d.nodes.length cn, v]) (u := .bool (decide (d.nodes = K.map Int.ofNat))) 25 [] [] rfl rfl rfl (fun _ => rfl) (fun _ => rfl) (fun g' g4 v L' hg4 ⟨g5, hg5, _, hr⟩ hg' =>
    equal_spec g' _ v d.nodes (K.map Int.ofNat) (rn.mono (Ghost.tr hg03 (Ghost.tr hg4 hg'))) (hr.mono (Ghost.tr hg5 hg')).ofNat (by omega)) (fun _ _ _ h => h) ?_
  repeat (first | refine sg_p rfl rfl ?_ | refine sg_skip rfl rfl ?_)
  refine sg_case (fun q1 => ?_) (fun q1 => ?_)
  · have q1' : decide (d.nodes = K.map Int.ofNat) = false := by simpa using q1
    rw [q1', Bool.false_and] at hV
    repeat (first | refine sg_p rfl rfl ?_ | refine sg_skip rfl rfl ?_)
    refine sg_end ?_
    intro g4 w hg4
    rintro _ _ ⟨_, _, rfl, _⟩ hs
    refine wl_nil (wk_seq ?_)
    refine wc_condT rfl rfl ?_
    repeat (refine wc_seq ?_)
    refine wc_region ?_
    repeat (refine wl_p rfl rfl rfl ?_)
    refine wl_nil (wk_seq ?_)
    exact wc_retV (res1 rfl rfl) ⟨g4, [], Ghost.tr hg03 hg4, hs, rfl, by rw [hV]; rfl⟩
  have q1' : decide (d.nodes = K.map Int.ofNat) = true := by simpa using q1
  rw [q1', Bool.true_and] at hV
  repeat (first | refine sg_p rfl rfl ?_ | refine sg_skip rfl rfl ?_)
  refine sg_call [] [] rfl rfl rfl (fun g' hg' => refEvery_I hC (hl.mono (Ghost.tr hg03 hg'))) ?_
  refine sg_ldGN (cs := [.slice aa all.length ca, .slice ap pairs.length cp]) hwb.at' rfl rfl rfl rfl rfl ?_
  refine sg_ldGN (cs := [.int .i64 d.kind, .int .i64 d.n, .slice an d.nodes.length cn, vr, vL]) hdb.at' rfl rfl rfl rfl rfl ?_
  refine sg_callWK (vs := fun v => [.int .i64 (n.toNat : Int), vl, v, .agg #[.slice aa all.length ca, .slice ap pairs.length cp], .agg #[.int .i64 d.kind, .int .i64 d.n, .slice an d.nodes.length cn, vr, vL], .int .i64 ((1 : Nat) : Int)]) (u := .bool (showsS n.toNat (ls.map toA) (all.map Int.toNat) (pairs.map toP) k d (everyR (ls.map toA)) 1)) 32 [] [] rfl rfl rfl (fun _ => by rw [← hnn]; rfl) (fun _ => rfl) (fun g' g4 v L' hg4 ⟨g5, hg5, _, hr⟩ hg' => by
    have hh := Ghost.tr hg03 (Ghost.tr hg4 hg')
    exact refShows_all n.toNat _ _ _ hC.validG hC.validW (by simpa using ha0) (by simpa using hp0) k g' vl v _ _ [.int .i64 d.kind, .int .i64 d.n, .slice an d.nodes.length cn, vr, vL] d _ 1 (hC.rsA (hl.mono hh)) (hr.mono (Ghost.tr hg5 hg')) (by simp [everyR]) (hC.all.rs (ha.mono hh)) (hC.rsP (hp.mono hh)) (hd.mono hh) hok (by omega)) (fun _ _ _ h => h) ?_
  repeat (first | refine sg_p rfl rfl ?_ | refine sg_skip rfl rfl ?_)
  refine sg_end ?_
  intro g4 w hg4
  rintro _ _ ⟨_, _, rfl, _⟩ _ _ ⟨_, _, rfl, _⟩ hs
  refine wl_nil (wk_seq ?_)
  refine wc_cond rfl (fun q2 => ?_) (fun q2 => ?_)
  · have q2' : showsS n.toNat (ls.map toA) (all.map Int.toNat) (pairs.map toP) k d (everyR (ls.map toA)) 1 = false := by simpa using q2
    rw [q2'] at hV
    repeat (refine wc_seq ?_)
    refine wc_region ?_
    repeat (refine wl_p rfl rfl rfl ?_)
    refine wl_nil (wk_seq ?_)
    exact wc_retV (res1 rfl rfl) ⟨g4, [], Ghost.tr hg03 hg4, hs, rfl, by rw [hV]; rfl⟩
  · have q2' : showsS n.toNat (ls.map toA) (all.map Int.toNat) (pairs.map toP) k d (everyR (ls.map toA)) 1 = true := by simpa using q2
    rw [q2'] at hV
    refine wc_skip (wk_seq ?_)
    repeat (refine wc_seq ?_)
    refine wc_region ?_
    repeat (refine wl_p rfl rfl rfl ?_)
    refine wl_nil (wk_seq ?_)
    exact wc_retV (res1 rfl rfl) ⟨g4, [], Ghost.tr hg03 hg4, hs, rfl, by rw [hV]; rfl⟩
theorem prove_any {n : Int} {init : List Int} {ls : List ArrowI} {all : List Int} {pairs : List (Int × Int)} (hn : n ≤ 12 ∨ n > 20000) (hl : ls.length ≤ 41) :
    (∃ d, checkI n init ls all pairs = 0 ∧ proveI 36 n init ls all pairs = some (some d, 0) ∧ DropOk 36 d ∧ refVerifyI 36 n init ls all pairs d = 0 ∧ cntD 36 d ≤ 40 * n.toNat + 40 ∧ wtD 36 d ≤ 1260 ∧ depD 36 d ≤ 35) ∨
    (proveI 36 n init ls all pairs = some (none, checkI n init ls all pairs) ∧ (checkI n init ls all pairs = 0 → isR n.toNat (ls.map toA) (all.map Int.toNat) (pairs.map toP) (init.map Int.toNat) = true)) := by
  by_cases hC : checkI n init ls all pairs = 0
  · have hk := checked hC
    have h12 : n ≤ 12 := by have := hk.n1; omega
    rcases prove_small hC h12 hl (show 35 ≤ 36 by omega) with ⟨d, h1, h2, h3, _, h5, h6, h7⟩ | ⟨h1, h2⟩
    · refine .inl ⟨d, hC, h1, h2, ?_, by omega, h6, h7⟩
      rw [verify_same] at h3
      exact Option.some.inj h3
    · refine .inr ⟨by rw [hC]; exact h1, fun _ => (isR_iff hk.validG (init_lt hC)).2 h2⟩
  · refine .inr ⟨?_, fun h => absurd h hC⟩
    unfold proveI findI
    rw [if_neg hC]
    simp only
    rw [if_pos (by simp [hC])]
theorem lawProofs_spec (k : Nat) (g : Ghost) (n : Int) (vi vl va vp : Value) (init : List Int) (ls : List ArrowI) (all : List Int) (pairs : List (Int × Int)) (cs : List Value) (d : Drop)
    (hi : RS kInt g vi init) (hl : RS kArrI g vl ls) (ha : RS kInt g va all) (hp : RS kPairI g vp pairs) (hd : DropRn k g cs d) (hdw : DropW k d) :
    Cl PP 3 [.agg #[.int .i64 n, vi, vl, va, vp], .agg cs.toArray] g [] (Det (.bool true)) := by
  obtain ⟨e1, e2, e3, e4, e5, rfl, hone⟩ := hd.cells5
  refine cl_intro Tryz.func3 rfl rfl Tryz.ntmps3 rfl ?_
  intro w F hs
  repeat (refine wc_seq ?_)
  refine wc_region ?_
  refine wl_box hs rfl rfl rfl rfl ?_; clear hs; intro nb w hs
  refine wl_box hs rfl rfl rfl rfl ?_; clear hs; intro db w hs
  repeat (refine wl_p rfl rfl rfl ?_)
  refine wl_nil (wk_seq ?_)
  obtain ⟨g0, hg0, hs, hdb⟩ := freezeB hs
  obtain ⟨g1, hg01, hs, hnb⟩ := freezeB hs
  have hg1 := Ghost.tr hg0 hg01
  replace hs := (show St g1 w F from hs)
  replace hnb := (show Lies g1 nb 0 [.int .i64 n, vi, vl, va, vp] from hnb)
  replace hdb := (show Lies g1 db 0 [e1, e2, e3, e4, e5] from hdb.mono hg01)
  repeat (refine wc_seq ?_)
  refine wc_region ?_
  refine wl_call (L := []) rfl rfl rfl hs (sane_spec g1) ?_
  rintro u g2 L' w hg2 hs ⟨rfl, rfl⟩
  replace hnb := hnb.mono hg2
  replace hdb := hdb.mono hg2
  have hg02 := Ghost.tr hg1 hg2
  have fin : ∀ {g' : Ghost} {w' : World} {L1 : Own}, g2 ≤ g' → St g' w' (L1 ++ F) → ∃ g'' L', g ≤ g'' ∧ St g'' w' (L' ++ F) ∧ Det (.bool true) g'' L' (.bool true) := fun hg' hs' => ⟨_, [], Ghost.tr hg02 hg', hs'.dropL, rfl, rfl⟩
  repeat (refine wl_p rfl rfl rfl ?_)
  refine wl_nil (wk_seq ?_)
  refine wc_condF rfl rfl (wc_skip (wk_seq ?_))
  repeat (refine wc_seq ?_)
  refine wc_region ?_
  refine wl_ldGN (cs := [.int .i64 n, vi, vl, va, vp]) hs hnb.at' rfl rfl rfl rfl rfl rfl ?_
  refine wl_call (L := []) rfl rfl rfl hs (small_spec g2 n _ _ _ _ init ls all pairs (hi.mono hg02) (hl.mono hg02) (ha.mono hg02) (hp.mono hg02)) ?_
  rintro u g3 L' w hg3 hs ⟨rfl, rfl⟩
  have hg03 := Ghost.tr hg02 hg3
  repeat (refine wl_p rfl rfl rfl ?_)
  refine wl_case 15 rfl (fun q1 => ?_) (fun q1 => ?_)
  · repeat (first | refine wl_p rfl rfl rfl ?_ | refine wl_skip rfl rfl rfl ?_)
    refine wl_nil (wk_seq ?_)
    refine wc_condT rfl rfl ?_
    repeat (refine wc_seq ?_)
    refine wc_region ?_
    repeat (refine wl_p rfl rfl rfl ?_)
    refine wl_nil (wk_seq ?_)
    exact wc_retV (res1 rfl rfl) (fin (L1 := []) hg3 hs)
  obtain ⟨hn12, l1, l2, l3, l4⟩ := small_lens (by
    have : (!smallB n init ls all pairs) = false := q1
    simpa using this)
  repeat (first | refine wl_p rfl rfl rfl ?_ | refine wl_skip rfl rfl rfl ?_)
  refine wl_ldGN (cs := [e1, e2, e3, e4, e5]) hs (hdb.mono hg3).at' rfl rfl rfl rfl rfl rfl ?_
  refine wl_call (L := []) rfl rfl rfl hs (slim_spec k g3 [e1, e2, e3, e4, e5] d (hd.mono hg03) hdw) ?_
  rintro u g4 L' w hg4 hs ⟨rfl, rfl⟩
  have hg24 := Ghost.tr hg3 hg4
  have hg04 := Ghost.tr hg02 hg24
  repeat (first | refine wl_p rfl rfl rfl ?_ | refine wl_skip rfl rfl rfl ?_)
  refine wl_nil (wk_seq ?_)
  refine wc_cond rfl (fun q2 => ?_) (fun q2 => ?_)
  · repeat (refine wc_seq ?_)
    refine wc_region ?_
    repeat (refine wl_p rfl rfl rfl ?_)
    refine wl_nil (wk_seq ?_)
    exact wc_retV (res1 rfl rfl) (fin (L1 := []) hg24 hs)
  have hok : DropOk k d := slim_ok hdw (by
    have : (!slimB k d) = false := q2
    simpa using this)
  replace hnb := hnb.mono hg24
  replace hdb := hdb.mono hg24
  replace hi := hi.mono hg04
  replace hl := hl.mono hg04
  replace ha := ha.mono hg04
  replace hp := hp.mono hg04
  replace hd := hd.mono hg04
  replace hs := (show St g4 w F from hs)
  refine wc_skip (wk_seq ?_)
  obtain ⟨V, hV⟩ : ∃ V, V = refVerifyI k n init ls all pairs d := ⟨_, rfl⟩
  repeat (refine wc_seq ?_)
  refine wc_draw 21 [] pp_mix (by kernel_rfl) rfl hs ?_
  repeat (first | refine sg_p rfl rfl ?_ | refine sg_skip rfl rfl ?_)
  refine sg_ldG (hnb 0 _ rfl) rfl rfl rfl rfl ?_
  repeat (first | refine sg_p rfl rfl ?_ | refine sg_skip rfl rfl ?_)
  refine sg_ldG (hnb 1 _ rfl) rfl rfl rfl rfl ?_
  repeat (first | refine sg_p rfl rfl ?_ | refine sg_skip rfl rfl ?_)
  refine sg_ldG (hnb 2 _ rfl) rfl rfl rfl rfl ?_
  repeat (first | refine sg_p rfl rfl ?_ | refine sg_skip rfl rfl ?_)
  refine sg_ldGN (cs := [va, vp]) hnb.at3 rfl rfl rfl rfl rfl ?_
  refine sg_ldGN (cs := [e1, e2, e3, e4, e5]) hdb.at' rfl rfl rfl rfl rfl ?_
  refine sg_callK (vs := [.int .i64 n, vi, vl, .agg #[va, vp], .agg #[e1, e2, e3, e4, e5]]) (post := Det (.int .i64 V)) [] [] rfl rfl rfl (fun g' hg' => Verify_spec k g' n _ _ va vp [e1, e2, e3, e4, e5] init ls all pairs d (hi.mono hg') (hl.mono hg') (ha.mono hg') (hp.mono hg') (hd.mono hg') hok (by omega) (by omega) (by omega) (by omega) V (by rw [hV]; exact verify_same k d)) (fun _ _ _ h => h) ?_
  repeat (first | refine sg_p rfl rfl ?_ | refine sg_skip rfl rfl ?_)
  refine sg_ldG (hnb 0 _ rfl) rfl rfl rfl rfl ?_
  repeat (first | refine sg_p rfl rfl ?_ | refine sg_skip rfl rfl ?_)
  refine sg_ldG (hnb 1 _ rfl) rfl rfl rfl rfl ?_
  repeat (first | refine sg_p rfl rfl ?_ | refine sg_skip rfl rfl ?_)
  refine sg_ldG (hnb 2 _ rfl) rfl rfl rfl rfl ?_
  repeat (first | refine sg_p rfl rfl ?_ | refine sg_skip rfl rfl ?_)
  refine sg_ldGN (cs := [va, vp]) hnb.at3 rfl rfl rfl rfl rfl ?_
  refine sg_ldGN (cs := [e1, e2, e3, e4, e5]) hdb.at' rfl rfl rfl rfl rfl ?_
  refine sg_callK (vs := [.int .i64 n, vi, vl, .agg #[va, vp], .agg #[e1, e2, e3, e4, e5]]) (post := Det (.int .i64 V)) [] [] rfl rfl rfl (fun g' hg' => by
    rw [hV]
    exact refVerify_spec k g' n _ _ va vp [e1, e2, e3, e4, e5] init ls all pairs d (hi.mono hg') (hl.mono hg') (ha.mono hg') (hp.mono hg') (hd.mono hg') hok (by omega) (by omega) (by omega) (by omega)) (fun _ _ _ h => h) ?_
  repeat (first | refine sg_p rfl rfl ?_ | refine sg_skip rfl rfl ?_)
  refine sg_end ?_
  intro g5 w hg5
  intro hs
  replace hs := (show St g5 w F from hs)
  have hg25 := Ghost.tr hg24 hg5
  replace hnb := hnb.mono hg5
  replace hi := hi.mono hg5
  replace hl := hl.mono hg5
  replace ha := ha.mono hg5
  replace hp := hp.mono hg5
  clear hV
  refine wl_nil (wk_seq ?_)
  refine wc_condF rfl (by simp) (wc_skip (wk_seq ?_))
  obtain ⟨o, ho, hoe, hcase⟩ : ∃ o : Option Drop × Int, proveI 36 n init ls all pairs = some o ∧ o.2 = checkI n init ls all pairs ∧ ((∃ x, o.1 = some x ∧ o.2 = 0 ∧ DropOk 36 x ∧ refVerifyI 36 n init ls all pairs x = 0 ∧ cntD 36 x ≤ 40 * n.toNat + 40 ∧ wtD 36 x ≤ 1260 ∧ depD 36 x ≤ 35) ∨ (o.1 = none ∧ (checkI n init ls all pairs = 0 → isR n.toNat (ls.map toA) (all.map Int.toNat) (pairs.map toP) (init.map Int.toNat) = true))) := by
    rcases prove_any (init := init) (all := all) (pairs := pairs) hn12 (show ls.length ≤ 41 by omega) with ⟨x, h0, h1, h2⟩ | ⟨h1, h2⟩
    · exact ⟨_, h1, h0.symm, .inl ⟨x, rfl, rfl, h2⟩⟩
    · exact ⟨_, h1, rfl, .inr ⟨rfl, h2⟩⟩
  obtain ⟨ox, oe⟩ := o
  simp only at hoe hcase
  repeat (refine wc_seq ?_)
  refine wc_region ?_
  repeat (refine wl_p rfl rfl rfl ?_)
  refine wl_ldG hs (hnb 0 _ rfl) rfl rfl rfl rfl rfl ?_
  repeat (refine wl_p rfl rfl rfl ?_)
  refine wl_ldG hs (hnb 1 _ rfl) rfl rfl rfl rfl rfl ?_
  repeat (refine wl_p rfl rfl rfl ?_)
  refine wl_ldG hs (hnb 2 _ rfl) rfl rfl rfl rfl rfl ?_
  repeat (refine wl_p rfl rfl rfl ?_)
  refine wl_ldGN (cs := [va, vp]) hs hnb.at3 rfl rfl rfl rfl rfl rfl ?_
  refine wl_call (L := []) rfl rfl rfl hs (Prove_spec 35 g5 n _ _ va vp init ls all pairs hi hl ha hp (by omega) (by omega) (by omega) (by omega) (ox, oe) ho) ?_
  rintro u g6 L' w hg6 hs ⟨rfl, px, rfl, hdp⟩
  obtain ⟨wn, wr, wL, rfl, sn, sr, sL⟩ := (show DropRn (35 + 1) g6 px (ox.getD noDrop) from hdp).open'
  obtain ⟨X, hX⟩ : ∃ X, X = ox.getD noDrop := ⟨_, rfl⟩
  rw [← hX] at hdp sn sr sL ⊢
  obtain ⟨wna, wnc, rfl⟩ := sn.form
  obtain ⟨wra, wrc, rfl⟩ := sr.form
  obtain ⟨wLa, wLc, rfl⟩ := sL.form
  repeat (refine wl_p rfl rfl rfl ?_)
  refine wl_new hs rfl rfl rfl ?_; clear hs; intro pb w hs
  refine wl_stN (cs := [.int .i64 X.kind, .int .i64 X.n, .slice wna X.nodes.length wnc, .slice wra X.rank.length wrc, .slice wLa X.l.length wLc]) hs 0 rfl rfl rfl rfl rfl (Nat.le_of_ble_eq_true rfl) rfl rfl ?_
  clear hs; intro w hs
  repeat (refine wl_p rfl rfl rfl ?_)
  refine wl_nil (wk_seq ?_)
  obtain ⟨g7, hg67, hs, hpb⟩ := freezeB hs
  replace hs := (show St g7 w F from hs)
  replace hpb := (show Lies g7 pb 0 [.int .i64 X.kind, .int .i64 X.n, .slice wna X.nodes.length wnc, .slice wra X.rank.length wrc, .slice wLa X.l.length wLc] from hpb)
  have hg57 := Ghost.tr hg6 hg67
  have hg27 := Ghost.tr hg25 hg57
  replace hnb := hnb.mono hg57
  replace hi := hi.mono hg57
  replace hl := hl.mono hg57
  replace ha := ha.mono hg57
  replace hp := hp.mono hg57
  replace hdp := hdp.mono hg67
  repeat (refine wc_seq ?_)
  refine wc_region ?_
  repeat (refine wl_p rfl rfl rfl ?_)
  refine wl_ldG hs (hnb 0 _ rfl) rfl rfl rfl rfl rfl ?_
  repeat (refine wl_p rfl rfl rfl ?_)
  refine wl_ldG hs (hnb 1 _ rfl) rfl rfl rfl rfl rfl ?_
  repeat (refine wl_p rfl rfl rfl ?_)
  refine wl_ldG hs (hnb 2 _ rfl) rfl rfl rfl rfl rfl ?_
  repeat (refine wl_p rfl rfl rfl ?_)
  refine wl_ldGN (cs := [va, vp]) hs hnb.at3 rfl rfl rfl rfl rfl rfl ?_
  refine wl_call (L := []) rfl rfl rfl hs (refCheck_spec g7 n _ _ _ _ init ls all pairs hi hl ha hp (by omega) (by omega) (by omega) (by omega)) ?_
  rintro u g8 L' w hg8 hs ⟨rfl, rfl⟩
  replace hs := (show St g8 w F from hs)
  have hg28 := Ghost.tr hg27 hg8
  replace hnb := hnb.mono hg8
  replace hpb := hpb.mono hg8
  replace hi := hi.mono hg8
  replace hl := hl.mono hg8
  replace ha := ha.mono hg8
  replace hp := hp.mono hg8
  replace hdp := hdp.mono hg8
  rw [← hoe]
  repeat (refine wl_p rfl rfl rfl ?_)
  refine wl_nil (wk_seq ?_)
  refine wc_condF rfl (by simp) (wc_skip (wk_seq ?_))
  rcases hcase with ⟨x, hox, hoe0, hxok, hxv, hxc, hxw, hxd⟩ | ⟨hox, hir⟩
  ·
    have hXx : X = x := by rw [hX, hox]; rfl
    rw [← hXx] at hxok hxv hxc hxw hxd
    rw [hoe0, hox]
    rw [hoe0] at hoe
    have hck := checked hoe.symm
    have hn0 := hck.n0
    have hn1 := hck.n1
    have hslim : slimB 36 X = true := by
      unfold slimB
      rw [light_wt 36 X 4000 1 hxok (by omega) (by omega)]
    repeat (refine wc_seq ?_)
    refine wc_region ?_
    repeat (refine wl_p rfl rfl rfl ?_)
    refine wl_nil (wk_seq ?_)
    refine wc_condF rfl rfl (wc_skip (wk_seq ?_))
    repeat (refine wc_seq ?_)
    refine wc_region ?_
    refine wl_ldGN (cs := [.int .i64 X.kind, .int .i64 X.n, .slice wna X.nodes.length wnc, .slice wra X.rank.length wrc, .slice wLa X.l.length wLc]) hs hpb.at' rfl rfl rfl rfl rfl rfl ?_
    refine wl_call (L := []) rfl rfl rfl hs (slim_spec 36 g8 _ X hdp hxok.toW) ?_
    rintro u g9 L' w hg9 hs ⟨rfl, rfl⟩
    rw [hslim]
    repeat (refine wl_p rfl rfl rfl ?_)
    refine wl_nil (wk_seq ?_)
    refine wc_condF rfl rfl (wc_skip (wk_seq ?_))
    repeat (refine wc_seq ?_)
    refine wc_region ?_
    refine wl_ldGN (cs := [.int .i64 X.kind, .int .i64 X.n, .slice wna X.nodes.length wnc, .slice wra X.rank.length wrc, .slice wLa X.l.length wLc]) hs (hpb.mono hg9).at' rfl rfl rfl rfl rfl rfl ?_
    refine wl_call (L := []) rfl rfl rfl hs (proofs_spec 36 g9 _ X (hdp.mono hg9) hxok.1 hxok (by omega) (by omega)) ?_
    rintro u ga L' w hga hs ⟨rfl, rfl⟩
    replace hs := (show St ga w F from hs)
    have hg8a := Ghost.tr hg9 hga
    have hg2a := Ghost.tr hg28 hg8a
    replace hnb := hnb.mono hg8a
    generalize hcx : cntD 36 X = cx at hxc
    generalize hdx : depD 36 X = dx at hxd
    repeat (refine wl_p rfl rfl rfl ?_)
    refine wl_nil (wk_seq ?_)
    repeat (refine wc_seq ?_)
    refine wc_region ?_
    repeat (refine wl_p rfl rfl rfl ?_)
    refine wl_ldG hs (hnb 0 _ rfl) rfl rfl rfl rfl rfl ?_
    refine wl_arK (40 * n) rfl rfl rfl (by omega) rfl rfl ?_
    refine wl_arK (40 * n + 40) rfl rfl rfl (by omega) rfl rfl ?_
    repeat (refine wl_p rfl rfl rfl ?_)
    refine wl_case 119 rfl (fun p1 => ?_) (fun p1 => ?_)
    rotate_left
    · exfalso
      have := of_decide_eq_false p1
      omega
    repeat (first | refine wl_p rfl rfl rfl ?_ | refine wl_skip rfl rfl rfl ?_)
    refine wl_case 123 rfl (fun p2 => ?_) (fun p2 => ?_)
    rotate_left
    · exfalso
      have := of_decide_eq_false p2
      omega
    have hg8 := Ghost.rfl' (g := ga)
    repeat (first | refine wl_p rfl rfl rfl ?_ | refine wl_skip rfl rfl rfl ?_)
    refine wl_ldG hs (hnb 0 _ rfl) rfl rfl rfl rfl rfl ?_
    repeat (first | refine wl_p rfl rfl rfl ?_ | refine wl_skip rfl rfl rfl ?_)
    refine wl_ldG hs (hnb 1 _ rfl) rfl rfl rfl rfl rfl ?_
    repeat (first | refine wl_p rfl rfl rfl ?_ | refine wl_skip rfl rfl rfl ?_)
    refine wl_ldG hs (hnb 2 _ rfl) rfl rfl rfl rfl rfl ?_
    repeat (first | refine wl_p rfl rfl rfl ?_ | refine wl_skip rfl rfl rfl ?_)
    refine wl_ldGN (cs := [va, vp]) hs hnb.at3 rfl rfl rfl rfl rfl rfl ?_
    refine wl_ldGN (cs := [.int .i64 X.kind, .int .i64 X.n, .slice wna X.nodes.length wnc, .slice wra X.rank.length wrc, .slice wLa X.l.length wLc]) hs (hpb.mono hg8a).at' rfl rfl rfl rfl rfl rfl ?_
    refine wl_call (L := []) rfl rfl rfl hs (refVerify_spec 36 ga n _ _ va vp _ init ls all pairs X (hi.mono hg8a) (hl.mono hg8a) (ha.mono hg8a) (hp.mono hg8a) (hdp.mono hg8a) hxok (by omega) (by omega) (by omega) (by omega)) ?_
    rintro u gb L' w hgb hs ⟨rfl, rfl⟩
    rw [hxv]
    repeat (first | refine wl_p rfl rfl rfl ?_ | refine wl_skip rfl rfl rfl ?_)
    refine wl_nil (wk_seq ?_)
    exact wc_retV (res1 rfl rfl) (fin (L1 := []) (Ghost.tr hg2a hgb) hs)
  · have hX0 : X = noDrop := by rw [hX, hox]; rfl
    rw [hox]
    rw [hX0] at hpb
    by_cases h0 : oe = 0
    · have hC := checked (hoe.symm.trans h0)
      have hnn : n = (n.toNat : Int) := (Int.toNat_of_nonneg hC.n0).symm
      have hir' := hir (hoe.symm.trans h0)
      rw [h0]
      repeat (refine wc_seq ?_)
      refine wc_region ?_
      repeat (refine wl_p rfl rfl rfl ?_)
      repeat (first | refine wl_p rfl rfl rfl ?_ | refine wl_skip rfl rfl rfl ?_)
      refine wl_nil (wk_seq ?_)
      refine wc_condT rfl rfl ?_
      repeat (refine wc_seq ?_)
      refine wc_region ?_
      repeat (refine wl_p rfl rfl rfl ?_)
      refine wl_ldG hs (hpb 0 _ rfl) rfl rfl rfl rfl rfl ?_
      repeat (first | refine wl_p rfl rfl rfl ?_ | refine wl_skip rfl rfl rfl ?_)
      refine wl_ldG hs (hpb 2 _ rfl) rfl rfl rfl rfl rfl ?_
      repeat (first | refine wl_p rfl rfl rfl ?_ | refine wl_skip rfl rfl rfl ?_)
      refine wl_ldG hs (hpb 4 _ rfl) rfl rfl rfl rfl rfl ?_
      repeat (first | refine wl_p rfl rfl rfl ?_ | refine wl_skip rfl rfl rfl ?_)
      refine wl_ldG hs (hnb 0 _ rfl) rfl rfl rfl rfl rfl ?_
      repeat (first | refine wl_p rfl rfl rfl ?_ | refine wl_skip rfl rfl rfl ?_)
      refine wl_ldG hs (hnb 1 _ rfl) rfl rfl rfl rfl rfl ?_
      repeat (first | refine wl_p rfl rfl rfl ?_ | refine wl_skip rfl rfl rfl ?_)
      refine wl_ldG hs (hnb 2 _ rfl) rfl rfl rfl rfl rfl ?_
      repeat (first | refine wl_p rfl rfl rfl ?_ | refine wl_skip rfl rfl rfl ?_)
      refine wl_ldGN (cs := [va, vp]) hs hnb.at3 rfl rfl rfl rfl rfl rfl ?_
      refine wl_call (vs := [.int .i64 (n.toNat : Int), vi, vl, .agg #[va, vp]]) (L := []) (by rw [← hnn]; rfl) rfl rfl hs (is_spec hC g8 vi vl va vp hi hl ha hp (by omega)) ?_
      rintro u g9 L' w hg9 hs ⟨rfl, rfl⟩
      rw [hir']
      repeat (first | refine wl_p rfl rfl rfl ?_ | refine wl_skip rfl rfl rfl ?_)
      refine wl_nil (wk_seq ?_)
      exact wc_retV (res1 rfl rfl) (fin (L1 := []) (Ghost.tr hg28 hg9) hs)
    · have hb : (oe == 0) = false := by simp [h0]
      repeat (refine wc_seq ?_)
      refine wc_region ?_
      refine wl_p rfl rfl rfl ?_
      refine wl_p (v := .bool true) (by show some (Value.bool (!(oe == 0))) = _; rw [hb]; rfl) rfl rfl ?_
      repeat (first | refine wl_p rfl rfl rfl ?_ | refine wl_skip rfl rfl rfl ?_)
      refine wl_nil (wk_seq ?_)
      refine wc_condT rfl rfl ?_
      repeat (refine wc_seq ?_)
      refine wc_region ?_
      repeat (refine wl_p rfl rfl rfl ?_)
      refine wl_ldG hs (hpb 0 _ rfl) rfl rfl rfl rfl rfl ?_
      repeat (first | refine wl_p rfl rfl rfl ?_ | refine wl_skip rfl rfl rfl ?_)
      refine wl_ldG hs (hpb 2 _ rfl) rfl rfl rfl rfl rfl ?_
      repeat (first | refine wl_p rfl rfl rfl ?_ | refine wl_skip rfl rfl rfl ?_)
      refine wl_ldG hs (hpb 4 _ rfl) rfl rfl rfl rfl rfl ?_
      repeat (first | refine wl_p rfl rfl rfl ?_ | refine wl_skip rfl rfl rfl ?_)
      refine wl_case 93 rfl (fun pz => ?_) (fun pz => ?_)
      · repeat (first | refine wl_p rfl rfl rfl ?_ | refine wl_skip rfl rfl rfl ?_)
        refine wl_nil (wk_seq ?_)
        exact wc_retV (res1 rfl rfl) (fin (L1 := []) hg28 hs)
      · exfalso
        have h9 : (oe != 0) = false := pz
        exact h0 (by simpa using h9)
end Go.Proofs.YtnanffbjmfgafaaGreat.S
