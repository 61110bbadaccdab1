/- What the statement FairMore is proved with, part 6: walks of the code, each against a pure version of it. -/
import Derived.Test.YtnanffbjmfgafaaWFairMore5
set_option linter.all false
namespace Go.Proofs.Ytnanffbjmfgafaa.S
open Go.RowKit
theorem rankM_at {nodes rk : List Nat} (hn : nodes.Nodup) : ∀ (i : Nat), i ≤ nodes.length → ∀ j (hj : j < i), lowOf (rankM nodes rk i) (nodes.getD j 0) = rk.getD j 0
  | 0, _, j, hj => by omega
  | i + 1, hi, j, hj => by
    rw [rankM_succ, lowOf_sk]
    have hjl : j < nodes.length := by omega
    have hil : i < nodes.length := by omega
    have e1 : nodes.getD j 0 = nodes[j] := by rw [List.getD_eq_getElem?_getD, List.getElem?_eq_getElem hjl]; rfl
    have e2 : nodes.getD i 0 = nodes[i] := by rw [List.getD_eq_getElem?_getD, List.getElem?_eq_getElem hil]; rfl
    by_cases h : j = i
    · subst h; rw [if_pos rfl]
    · have hne : nodes.getD j 0 ≠ nodes.getD i 0 := by
        rw [e1, e2]
        intro e
        exact h ((List.getElem_inj hn).1 e)
      rw [if_neg hne]
      exact rankM_at hn i (by omega) j (by omega)
theorem mem_partAt {nodes rk : List Nat} (hn : nodes.Nodup) {v x : Nat} : x ∈ partAt nodes rk nodes.length v ↔ x ∈ nodes ∧ lowOf (rankM nodes rk nodes.length) x = v := by
  have e : ∀ j (hj : j < nodes.length), nodes.getD j 0 = nodes[j] := fun j hj => by rw [List.getD_eq_getElem?_getD, List.getElem?_eq_getElem hj]; rfl
  unfold partAt
  rw [List.mem_map]
  constructor
  · rintro ⟨j, hj, rfl⟩
    obtain ⟨h1, h2⟩ := List.mem_filter.1 hj
    have hjl := List.mem_range.1 h1
    exact ⟨by rw [e j hjl]; exact List.getElem_mem hjl, by rw [rankM_at hn _ (Nat.le_refl _) j hjl]; exact of_decide_eq_true h2⟩
  · rintro ⟨hx, hv⟩
    obtain ⟨j, hj, rfl⟩ := List.getElem_of_mem hx
    refine ⟨j, List.mem_filter.2 ⟨List.mem_range.2 hj, decide_eq_true ?_⟩, e j hj⟩
    rw [← e j hj, rankM_at hn _ (Nat.le_refl _) j hj] at hv
    exact hv
theorem partAt_sub (nodes rk : List Nat) (v : Nat) : (partAt nodes rk nodes.length v).Sublist nodes := by
  unfold partAt
  have h1 : ((List.range nodes.length).filter fun j => decide (rk.getD j 0 = v)).Sublist (List.range nodes.length) := List.filter_sublist
  have h2 := h1.map fun j => nodes.getD j 0
  have h3 : (List.range nodes.length).map (fun j => nodes.getD j 0) = nodes := by
    apply List.ext_getElem
    · simp
    · intro j a b
      simp [List.getD_eq_getElem?_getD, List.getElem?_eq_getElem b]
  rw [h3] at h2
  exact h2
section
variable {ls : List Arrow} {all : List Nat} {pairs : List (Nat × Nat)}
/-- Along a walk whose arrows do not go up, the rank does not. -/
theorem wk_down {P : Nat → Prop} {f : Nat → Nat} {x y : Nat} {w : List Nat} (h : Wk ls P x w y) : (∀ k ∈ w, f (toOf ls k) ≤ f (frOf ls k)) → f y ≤ f x ∧ ∀ k ∈ w, f y ≤ f (toOf ls k) ∧ f (toOf ls k) ≤ f (frOf ls k) ∧ f (frOf ls k) ≤ f x := by
  induction h with
  | nil x => exact fun _ => ⟨Nat.le_refl _, fun k hk => by cases hk⟩
  | @cons k y w _ _ _ ih =>
    intro hk
    obtain ⟨h1, h2⟩ := ih fun j hj => hk j (by simp [hj])
    have h3 := hk k (by simp)
    refine ⟨Nat.le_trans h1 h3, fun j hj => ?_⟩
    rcases List.mem_cons.1 hj with e | hj
    · rw [e]; exact ⟨h1, h3, Nat.le_refl _⟩
    · obtain ⟨q1, q2, q3⟩ := h2 j hj
      exact ⟨q1, q2, Nat.le_trans q3 h3⟩
/-- There is no closed walk in a piece that satisfies the condition. -/
def NoRound (ls : List Arrow) (all : List Nat) (pairs : List (Nat × Nat)) (nodes : List Nat) (on : List Bool) : Prop :=
  ∀ x w, x ∈ nodes → w ≠ [] → Wk ls (fun k => on.getD k false = true ∧ toOf ls k ∈ nodes) x w x → ¬ Sats ls all pairs w
theorem noRound_pair {nodes : List Nat} {on : List Bool} {p : Nat × Nat} (hp : p ∈ pairs) (hq : ∀ k ∈ withinF ls nodes on, hasM ls k p.2 = false) (h : NoRound ls all pairs nodes (withoutF ls on p.1)) : NoRound ls all pairs nodes on := by
  intro x w hx hne hwk hs
  have hin := wk_within hwk hx
  refine h x w hx hne (hwk.mono fun k hk hp' => ⟨?_, hp'.2⟩) hs
  have hkl := (hwk.all k hk).1
  rw [withoutF_at hkl, hp'.1]
  by_cases hm : hasM ls k p.1 = true
  · exfalso
    obtain ⟨j, hj, h3⟩ := hs.2 p hp ⟨k, hk, hm⟩
    rw [hq j (hin j hj)] at h3
    cases h3
  · simpa using hm
theorem noRound_ranks {nodes : List Nat} {on : List Bool} {f : Nat → Nat} {m : Nat} (hdown : ∀ k ∈ withinF ls nodes on, f (toOf ls k) ≤ f (frOf ls k)) (hlt : ∀ x ∈ nodes, f x < m) {pt : Nat → List Nat} (hpt : ∀ v, v < m → ∀ x, x ∈ nodes → f x = v → x ∈ pt v)
    (h : ∀ v, v < m → NoRound ls all pairs (pt v) on) : NoRound ls all pairs nodes on := by
  intro x w hx hne hwk hs
  have hin := wk_within hwk hx
  obtain ⟨_, h2⟩ := wk_down (f := f) hwk fun k hk => hdown k (hin k hk)
  refine h (f x) (hlt x hx) x w (hpt _ (hlt x hx) x hx rfl) hne (hwk.mono fun k hk hp => ⟨hp.1, ?_⟩) hs
  obtain ⟨q1, q2, q3⟩ := h2 k hk
  exact hpt _ (hlt x hx) _ hp.2 (by omega)
theorem shows_sound (hw : ValidW all pairs) : ∀ (k : Nat) (d : Drop) (nodes : List Nat) (on : List Bool) (deep : Nat), nodes.Nodup → showsF ls all pairs k d nodes on deep = true → NoRound ls all pairs nodes on
  | 0, _, _, _, _, _, h => by cases h
  | k + 1, d, nodes, on, deep, hn, h => by
    unfold showsF at h
    split at h
    · cases h
    · split at h
      · rename_i hk
        simp only [Bool.and_eq_true, decide_eq_true_eq] at h
        intro x w hx hne hwk _
        obtain ⟨j, r, rfl⟩ := List.exists_cons_of_ne_nil hne
        have := wk_within hwk hx j (by simp)
        rw [List.length_eq_zero_iff.1 h.2] at this
        cases this
      · split at h
        · simp only [Bool.and_eq_true, decide_eq_true_eq, Bool.not_eq_true'] at h
          obtain ⟨⟨⟨_, h1⟩, h2⟩, h3⟩ := h
          intro x w hx hne hwk hs
          have hin := wk_within hwk hx
          have hlt : d.n.toNat < all.length := by omega
          have e : all.getD d.n.toNat 0 = all[d.n.toNat] := by rw [List.getD_eq_getElem?_getD, List.getElem?_eq_getElem hlt]; rfl
          rw [e] at h3
          have hm := List.getElem_mem hlt
          obtain ⟨j, hj, h4⟩ := hs.1 _ hm
          rw [(met_no (hw.all_ok _ hm)).1 h3 j (hin j hj)] at h4
          cases h4
        · split at h
          · split at h
            · cases h
            · rename_i hc
              simp only [Bool.or_eq_true, not_or, decide_eq_true_eq, Bool.not_eq_true] at hc
              obtain ⟨⟨⟨_, h1⟩, h2⟩, h3⟩ := hc
              have hlt : d.n.toNat < pairs.length := by omega
              have e : pairs.getD d.n.toNat (0, 0) = pairs[d.n.toNat] := by rw [List.getD_eq_getElem?_getD, List.getElem?_eq_getElem hlt]; rfl
              rw [e] at h3 h
              have hm := List.getElem_mem hlt
              split at h
              · exact noRound_pair hm ((met_no (hw.pairs_ok _ hm).2).1 h3) (shows_sound hw k _ _ _ _ hn h)
              · cases h
          · split at h
            · simp only [Bool.and_eq_true] at h
              have h := h.2
              unfold ranksF at h
              split at h
              · cases h
              · split at h
                · cases h
                · split at h
                  · cases h
                  · rename_i r1 r2 r3
                    have hrl : d.rank.length = nodes.length := by
                      by_cases hh : d.rank.length = nodes.length
                      · exact hh
                      · exact absurd (Or.inl hh) r1
                    have r2' : d.rank.all (fun k => decide (0 ≤ k) && decide (k < d.l.length)) = true := by simpa using r2
                    have r3' := List.any_eq_false.1 (Bool.not_eq_true _ ▸ r3)
                    rw [List.all_eq_true] at h
                    refine noRound_ranks (f := fun x => lowOf (rankM nodes (d.rank.map Int.toNat) nodes.length) x) (m := d.l.length) (fun i hi => ?_) (fun x hx => ?_) (pt := fun v => partAt nodes (d.rank.map Int.toNat) nodes.length v) (fun v _ x hx he => (mem_partAt hn).2 ⟨hx, he⟩) fun v hv => ?_
                    · have := r3' i hi
                      have h9 : ¬ lowOf (rankM nodes (d.rank.map Int.toNat) nodes.length) (frOf ls i) < lowOf (rankM nodes (d.rank.map Int.toNat) nodes.length) (toOf ls i) := fun hh => this (decide_eq_true hh)
                      exact Nat.le_of_not_lt h9
                    · obtain ⟨j, hj, rfl⟩ := List.getElem_of_mem hx
                      have e : nodes.getD j 0 = nodes[j] := by rw [List.getD_eq_getElem?_getD, List.getElem?_eq_getElem hj]; rfl
                      have := rankM_at (rk := d.rank.map Int.toNat) hn _ (Nat.le_refl _) j hj
                      rw [e] at this
                      show lowOf (rankM nodes (d.rank.map Int.toNat) nodes.length) nodes[j] < d.l.length
                      rw [this]
                      have hjr : j < d.rank.length := by omega
                      have e2 : (d.rank.map Int.toNat).getD j 0 = d.rank[j].toNat := by rw [List.getD_eq_getElem?_getD, List.getElem?_map, List.getElem?_eq_getElem hjr]; rfl
                      have h4 := List.all_eq_true.1 r2' _ (List.getElem_mem hjr)
                      simp only [Bool.and_eq_true, decide_eq_true_eq] at h4
                      rw [e2]
                      omega
                    · have h4 := h v (List.mem_range.2 hv)
                      simp only [Bool.and_eq_true] at h4
                      have h5 := h4.2
                      rw [List.getElem?_eq_getElem hv] at h5
                      exact shows_sound hw k _ _ _ _ ((partAt_sub nodes _ v).nodup hn) h5
            · cases h
/-- A condition with more at the end. -/
theorem shows_more {all2 : List Nat} {pairs2 : List (Nat × Nat)} : ∀ (k : Nat) (d : Drop) (nodes : List Nat) (on : List Bool) (deep : Nat), showsF ls all pairs k d nodes on deep = true → showsF ls (all ++ all2) (pairs ++ pairs2) k d nodes on deep = true
  | 0, _, _, _, _, h => by cases h
  | k + 1, d, nodes, on, deep, h => by
    unfold showsF at h ⊢
    split at h
    · cases h
    · rename_i h0
      rw [if_neg h0]
      split at h
      · rename_i hk; rw [if_pos hk]; exact h
      · rename_i hk; rw [if_neg hk]
        split at h
        · rename_i hk3
          rw [if_pos hk3]
          simp only [Bool.and_eq_true, decide_eq_true_eq, Bool.not_eq_true'] at h ⊢
          obtain ⟨⟨⟨h1, h2⟩, h3⟩, h4⟩ := h
          refine ⟨⟨⟨h1, h2⟩, by rw [List.length_append]; omega⟩, ?_⟩
          have e : (all ++ all2).getD d.n.toNat 0 = all.getD d.n.toNat 0 := by
            rw [List.getD_eq_getElem?_getD, List.getD_eq_getElem?_getD, List.getElem?_append_left (by omega)]
          rw [e]; exact h4
        · rename_i hk3
          rw [if_neg hk3]
          split at h
          · rename_i hk4
            rw [if_pos hk4]
            split at h
            · cases h
            · rename_i hc
              have hc' := hc
              simp only [Bool.or_eq_true, not_or, decide_eq_true_eq, Bool.not_eq_true] at hc'
              obtain ⟨⟨⟨_, h1⟩, h2⟩, h3⟩ := hc'
              have e : (pairs ++ pairs2).getD d.n.toNat (0, 0) = pairs.getD d.n.toNat (0, 0) := by
                rw [List.getD_eq_getElem?_getD, List.getD_eq_getElem?_getD, List.getElem?_append_left (by omega)]
              rw [e]
              have hc2 : ¬ (!plainF d true false 1 || decide (d.n < 0) || decide (d.n ≥ (pairs ++ pairs2).length) || (metF ls (withinF ls nodes on)).getD (pairs.getD d.n.toNat (0, 0)).2 false) = true := by
                simp only [Bool.or_eq_true, not_or, decide_eq_true_eq, Bool.not_eq_true] at hc ⊢
                refine ⟨⟨⟨hc.1.1.1, h1⟩, by rw [List.length_append]; omega⟩, h3⟩
              rw [if_neg hc2]
              split at h
              · exact shows_more k _ _ _ _ h
              · cases h
          · rename_i hk4
            rw [if_neg hk4]
            split at h
            · rename_i hk1
              rw [if_pos hk1]
              simp only [Bool.and_eq_true] at h ⊢
              refine ⟨h.1, ?_⟩
              have h := h.2
              unfold ranksF at h ⊢
              split at h
              · cases h
              · rename_i r1
                rw [if_neg r1]
                split at h
                · cases h
                · rename_i r2
                  rw [if_neg r2]
                  split at h
                  · cases h
                  · rename_i r3
                    rw [if_neg r3]
                    rw [List.all_eq_true] at h ⊢
                    intro v hv
                    have h4 := h v hv
                    simp only [Bool.and_eq_true] at h4 ⊢
                    refine ⟨h4.1, ?_⟩
                    have h5 := h4.2
                    split at h5
                    · exact shows_more k _ _ _ _ h5
                    · cases h5
            · cases h
end
end Go.Proofs.Ytnanffbjmfgafaa.S

namespace Go.Proofs.Ytnanffbjmfgafaa.S
open Go.RowKit
section
variable {ls : List Arrow} {nodes : List Nat} {on : List Bool}
theorem lvFold_ge {lv : List (Nat × Nat)} {c : List Nat} : ∀ (l : List Nat) (m : Nat), m ≤ l.foldl (lvStep ls nodes on lv c) m
  | [], m => Nat.le_refl _
  | k :: l, m => by
    rw [List.foldl_cons]
    refine Nat.le_trans ?_ (lvFold_ge l _)
    unfold lvStep
    split
    · exact Nat.le_max_left _ _
    · exact Nat.le_refl _
theorem lvFold_at {lv : List (Nat × Nat)} {c : List Nat} : ∀ (l : List Nat) (m k : Nat), k ∈ l → arrIn ls nodes on k = true → toOf ls k ∉ c → lowOf lv (toOf ls k) + 1 ≤ l.foldl (lvStep ls nodes on lv c) m
  | [], m, k, h, _, _ => by cases h
  | j :: l, m, k, h, h1, h2 => by
    rw [List.foldl_cons]
    rcases List.mem_cons.1 h with e | h
    · subst e
      refine Nat.le_trans ?_ (lvFold_ge l _)
      unfold lvStep
      rw [if_pos (by rw [h1]; simpa using h2)]
      exact Nat.le_max_right _ _
    · exact lvFold_at l _ k h h1 h2
theorem lvN_at {lv : List (Nat × Nat)} {c : List Nat} {x y : Nat} (hx : x ∈ c) (hy : y ∉ c) (he : EdgeP ls nodes on x y) : lowOf lv y < lvN ls nodes on lv c := by
  obtain ⟨k, h1, h2, rfl⟩ := he
  exact lvFold_at _ 0 k (List.mem_flatMap.2 ⟨x, hx, h1⟩) h2 hy
/-- What holds when the components of ps are ranked. -/
structure RkI (ls : List Arrow) (nodes : List Nat) (on : List Bool) (ps : List (List Nat)) (s : RkS) : Prop where
  flat : ∀ c ∈ ps, ∀ x ∈ c, ∀ y ∈ c, lowOf s.lv x = lowOf s.lv y
  lt : ∀ c ∈ ps, ∀ x ∈ c, lowOf s.lv x < s.gr
  down : ∀ c ∈ ps, ∀ x ∈ c, ∀ y, y ∉ c → EdgeP ls nodes on x y → lowOf s.lv y < lowOf s.lv x
  al : ∀ v x, x ∈ alAt s.al v ↔ ∃ c ∈ ps, (withinF ls c on).length = 0 ∧ x ∈ c ∧ lowOf s.lv x = v
  aln : ∀ v, (alAt s.al v).Nodup
  ot : s.ot = ps.filter fun c => decide ((withinF ls c on).length ≠ 0)
theorem RkI.step {ps : List (List Nat)} {s : RkS} {c : List Nat} (h : RkI ls nodes on ps s) (hd : (ps ++ [c]).flatten.Nodup) (hne : c ≠ []) (hord : ∀ x ∈ c, ∀ y, EdgeP ls nodes on x y → y ∈ c ∨ ∃ d ∈ ps, y ∈ d)
    (hold : ∀ d ∈ ps, ∀ x ∈ d, ∀ y, EdgeP ls nodes on x y → ∃ e ∈ ps, y ∈ e) : RkI ls nodes on (ps ++ [c]) (rkStep ls nodes on s c) := by
  rw [List.flatten_append] at hd
  simp only [List.flatten_cons, List.flatten_nil, List.append_nil] at hd
  obtain ⟨hd1, hd2, hd3⟩ := List.nodup_append.1 hd
  have hnc : ∀ d ∈ ps, ∀ x ∈ d, x ∉ c := fun d hdm x hx hxc => hd3 x (List.mem_flatten.2 ⟨d, hdm, hx⟩) x hxc rfl
  have hlv : ∀ x, lowOf (rkStep ls nodes on s c).lv x = if x ∈ c then lvN ls nodes on s.lv c else lowOf s.lv x := fun x => lowOf_setAll c s.lv _ x
  have hlo : ∀ d ∈ ps, ∀ x ∈ d, lowOf (rkStep ls nodes on s c).lv x = lowOf s.lv x := fun d hdm x hx => by rw [hlv, if_neg (hnc d hdm x hx)]
  have hgr : (rkStep ls nodes on s c).gr = max s.gr (lvN ls nodes on s.lv c + 1) := rfl
  have hal : ∀ v, alAt (rkStep ls nodes on s c).al v = if (withinF ls c on).length = 0 ∧ v = lvN ls nodes on s.lv c then alAt s.al v ++ c else alAt s.al v := fun v => by
    show alAt (if (withinF ls c on).length = 0 then sk s.al (lvN ls nodes on s.lv c) (alAt s.al (lvN ls nodes on s.lv c) ++ c) else s.al) v = _
    split
    · rename_i h0
      rw [alAt_sk]
      by_cases e : v = lvN ls nodes on s.lv c
      · subst e; rw [if_pos rfl, if_pos ⟨h0, rfl⟩]
      · rw [if_neg e, if_neg (fun h => e h.2)]
    · rename_i h0
      rw [if_neg (fun h => h0 h.1)]
  have halo : ∀ v x, x ∈ alAt s.al v → x ∉ c := fun v x hx => by
    obtain ⟨d, hdm, _, hxd, _⟩ := (h.al v x).1 hx
    exact hnc d hdm x hxd
  refine ⟨fun d hdm x hx y hy => ?_, fun d hdm x hx => ?_, fun d hdm x hx y hy he => ?_, fun v x => ?_, fun v => ?_, ?_⟩
  · rcases List.mem_append.1 hdm with hdm | hdm
    · rw [hlo d hdm x hx, hlo d hdm y hy]; exact h.flat d hdm x hx y hy
    · rw [List.mem_singleton.1 hdm] at hx hy
      rw [hlv, hlv, if_pos hx, if_pos hy]
  · rcases List.mem_append.1 hdm with hdm | hdm
    · rw [hlo d hdm x hx, hgr]
      have := h.lt d hdm x hx
      omega
    · rw [List.mem_singleton.1 hdm] at hx
      rw [hlv, if_pos hx, hgr]
      omega
  · rcases List.mem_append.1 hdm with hdm | hdm
    · obtain ⟨e, hem, hye⟩ := hold d hdm x hx y he
      rw [hlo d hdm x hx, hlo e hem y hye]
      exact h.down d hdm x hx y hy he
    · rw [List.mem_singleton.1 hdm] at hx hy
      rw [hlv, hlv, if_pos hx, if_neg hy]
      exact lvN_at hx hy he
  · rw [hal]
    constructor
    · intro hx
      split at hx
      · rename_i h0
        rcases List.mem_append.1 hx with hx | hx
        · obtain ⟨d, hdm, q1, q2, q3⟩ := (h.al v x).1 hx
          exact ⟨d, List.mem_append_left _ hdm, q1, q2, by rw [hlo d hdm x q2]; exact q3⟩
        · exact ⟨c, by simp, h0.1, hx, by rw [hlv, if_pos hx, h0.2]⟩
      · obtain ⟨d, hdm, q1, q2, q3⟩ := (h.al v x).1 hx
        exact ⟨d, List.mem_append_left _ hdm, q1, q2, by rw [hlo d hdm x q2]; exact q3⟩
    · rintro ⟨d, hdm, q1, q2, q3⟩
      rcases List.mem_append.1 hdm with hdm | hdm
      · rw [hlo d hdm x q2] at q3
        have hx := (h.al v x).2 ⟨d, hdm, q1, q2, q3⟩
        split
        · exact List.mem_append_left _ hx
        · exact hx
      · rw [List.mem_singleton.1 hdm] at q1 q2
        rw [hlv, if_pos q2] at q3
        rw [if_pos ⟨q1, q3.symm⟩]
        exact List.mem_append_right _ q2
  · rw [hal]
    split
    · exact List.nodup_append.2 ⟨h.aln v, hd2, fun a ha b hb e => halo v a ha (e ▸ hb)⟩
    · exact h.aln v
  · show (if (withinF ls c on).length = 0 then s.ot else s.ot ++ [c]) = _
    rw [List.filter_append, h.ot]
    by_cases h0 : (withinF ls c on).length = 0
    · rw [if_pos h0, List.filter_cons, if_neg (by rw [decide_eq_true_eq]; exact fun h => h h0), List.filter_nil, List.append_nil]
    · rw [if_neg h0, List.filter_cons, if_pos (decide_eq_true h0), List.filter_nil]
theorem rk_all {parts : List (List Nat)} (hc : CompsOk ls nodes on parts) : ∀ i, i ≤ parts.length → RkI ls nodes on (parts.take i) (rkAll ls nodes on (parts.take i))
  | 0, _ => ⟨fun c h => by simp at h, fun c h => by simp at h, fun c h => by simp at h, fun v x => by simp [rkAll, alAt, lk], fun v => by simp [rkAll, alAt, lk], by simp [rkAll]⟩
  | i + 1, hi => by
    have ih := rk_all hc i (by omega)
    have hil : i < parts.length := by omega
    rw [List.take_succ_eq_append_getElem hil, rkAll_snoc]
    have mem_take : ∀ j (hj : j < parts.length), j < i → parts[j] ∈ parts.take i := fun j hj hji => by
      have : (parts.take i)[j]'(by rw [List.length_take]; omega) = parts[j] := by simp
      rw [← this]; exact List.getElem_mem _
    refine ih.step ?_ (hc.scc _ (List.getElem_mem hil)).1 (fun x hx y he => ?_) fun d hd x hx y he => ?_
    · rw [← List.take_succ_eq_append_getElem hil]
      have := hc.nodup
      rw [← List.take_append_drop (i + 1) parts, List.flatten_append] at this
      exact (List.nodup_append.1 this).1
    · obtain ⟨j, hj, hji, hy⟩ := hc.ord i hil x hx y he
      by_cases e : j = i
      · subst e; exact .inl hy
      · exact .inr ⟨_, mem_take j hj (by omega), hy⟩
    · obtain ⟨j, hj, rfl⟩ := List.getElem_of_mem hd
      rw [List.length_take] at hj
      have hx' : x ∈ parts[j] := by simpa using hx
      obtain ⟨j', hj', hji, hy⟩ := hc.ord j (by omega) x hx' y he
      exact ⟨_, mem_take j' hj' (by omega), hy⟩
/-- The rows, in order. -/
structure RowsOk (ls : List Arrow) (nodes : List Nat) (on : List Bool) (parts rs : List (List Nat)) : Prop where
  mem : ∀ x, x ∈ rs.flatten ↔ x ∈ nodes
  nodup : rs.flatten.Nodup
  kind : ∀ r ∈ rs, r ≠ [] ∧ r.Pairwise (· ≤ ·) ∧ ((withinF ls r on).length = 0 ∨ r ∈ parts)
  down : ∀ i (hi : i < rs.length) j (hj : j < rs.length), ∀ x ∈ rs[i], ∀ y ∈ rs[j], EdgeP ls nodes on x y → j ≤ i
theorem getD_head {c : List Nat} (h : c ≠ []) : c.getD 0 0 ∈ c := by
  obtain ⟨x, r, rfl⟩ := List.exists_cons_of_ne_nil h
  simp
theorem ranked_ok {parts : List (List Nat)} (hc : CompsOk ls nodes on parts) : RowsOk ls nodes on parts (rankedF ls nodes on parts) := by
  have hI := rk_all hc parts.length (Nat.le_refl _)
  rw [List.take_length] at hI
  obtain ⟨s, hs⟩ : ∃ s, s = rkAll ls nodes on parts := ⟨_, rfl⟩
  rw [← hs] at hI
  have hrs : rankedF ls nodes on parts = (List.range s.gr).flatMap (rkOutAt s) := by rw [hs]; rfl
  rw [hrs]
  have hout : ∀ v r, r ∈ rkOutAt s v → (alAt s.al v ≠ [] ∧ r = sortN (alAt s.al v)) ∨ (r ∈ parts ∧ (withinF ls r on).length ≠ 0 ∧ lowOf s.lv (r.getD 0 0) = v) := fun v r hr => by
    unfold rkOutAt at hr
    rcases List.mem_append.1 hr with hr | hr
    · split at hr
      · cases hr
      · rename_i h0
        exact .inl ⟨fun e => h0 (by rw [e]; rfl), List.mem_singleton.1 hr⟩
    · obtain ⟨h1, h2⟩ := List.mem_filter.1 hr
      rw [hI.ot] at h1
      obtain ⟨h3, h4⟩ := List.mem_filter.1 h1
      exact .inr ⟨h3, of_decide_eq_true h4, of_decide_eq_true h2⟩
  have hlev : ∀ v r, r ∈ rkOutAt s v → ∀ x ∈ r, lowOf s.lv x = v := fun v r hr x hx => by
    rcases hout v r hr with ⟨_, rfl⟩ | ⟨h1, h2, h3⟩
    · obtain ⟨c, _, _, _, h⟩ := (hI.al v x).1 ((sortN_perm _).mem_iff.1 hx)
      exact h
    · rw [← h3]
      exact hI.flat r h1 x hx _ (getD_head (hc.scc r h1).1)
  have hnode : ∀ c ∈ parts, ∀ x ∈ c, x ∈ nodes := fun c hcm x hx => (hc.mem x).1 (List.mem_flatten.2 ⟨c, hcm, hx⟩)
  have hlevels : ((List.range s.gr).flatMap (rkOutAt s)).Pairwise fun r1 r2 => ∀ x ∈ r1, ∀ y ∈ r2, lowOf s.lv x ≤ lowOf s.lv y := by
    rw [List.flatMap_def]
    refine List.pairwise_flatten.2 ⟨fun l hl => ?_, ?_⟩
    · obtain ⟨v, _, rfl⟩ := List.mem_map.1 hl
      exact List.pairwise_iff_getElem.2 fun i j hi hj _ x hx y hy => by
        rw [hlev v _ (List.getElem_mem hi) x hx, hlev v _ (List.getElem_mem hj) y hy]
        exact Nat.le_refl _
    · rw [List.pairwise_map]
      refine (List.pairwise_lt_range).imp fun {v1 v2} hv r1 hr1 r2 hr2 x hx y hy => ?_
      rw [hlev v1 r1 hr1 x hx, hlev v2 r2 hr2 y hy]
      exact Nat.le_of_lt hv
  have hdisj : ((List.range s.gr).flatMap (rkOutAt s)).Pairwise fun r1 r2 => ∀ x ∈ r1, ∀ y ∈ r2, x ≠ y := by
    rw [List.flatMap_def]
    refine List.pairwise_flatten.2 ⟨fun l hl => ?_, ?_⟩
    · obtain ⟨v, _, rfl⟩ := List.mem_map.1 hl
      unfold rkOutAt
      refine List.pairwise_append.2 ⟨by split <;> simp, ?_, fun r1 hr1 r2 hr2 x hx y hy e => ?_⟩
      · refine List.Pairwise.sublist List.filter_sublist ?_
        rw [hI.ot]
        exact List.Pairwise.sublist List.filter_sublist (List.pairwise_flatten.1 hc.nodup).2
      · subst e
        split at hr1
        · cases hr1
        · rw [List.mem_singleton.1 hr1] at hx
          obtain ⟨c, hcm, h1, h2, _⟩ := (hI.al v x).1 ((sortN_perm _).mem_iff.1 hx)
          have hr2' := (List.mem_filter.1 hr2).1
          rw [hI.ot] at hr2'
          obtain ⟨h3, h4⟩ := List.mem_filter.1 hr2'
          obtain ⟨i, hi, rfl⟩ := List.getElem_of_mem hcm
          obtain ⟨j, hj, rfl⟩ := List.getElem_of_mem h3
          have := comp_uniq hc.nodup hi hj h2 hy
          subst this
          exact of_decide_eq_true h4 h1
    · rw [List.pairwise_map]
      refine (List.pairwise_lt_range).imp fun {v1 v2} hv r1 hr1 r2 hr2 x hx y hy e => ?_
      have h1 := hlev v1 r1 hr1 x hx
      have h2 := hlev v2 r2 hr2 y hy
      rw [e] at h1
      omega
  have hin : ∀ r, r ∈ (List.range s.gr).flatMap (rkOutAt s) → ∃ v, v < s.gr ∧ r ∈ rkOutAt s v := fun r hr => by
    obtain ⟨v, hv, hr⟩ := List.mem_flatMap.1 hr
    exact ⟨v, List.mem_range.1 hv, hr⟩
  have hsub : ∀ v r, r ∈ rkOutAt s v → ∀ x ∈ r, x ∈ nodes := fun v r hr x hx => by
    rcases hout v r hr with ⟨_, rfl⟩ | ⟨h1, _⟩
    · obtain ⟨c, hcm, _, hxc, _⟩ := (hI.al v x).1 ((sortN_perm _).mem_iff.1 hx)
      exact hnode c hcm x hxc
    · exact hnode r h1 x hx
  refine ⟨fun x => ⟨fun hx => ?_, fun hx => ?_⟩, ?_, fun r hr => ?_, fun i hi j hj x hx y hy he => ?_⟩
  · obtain ⟨r, hr, hxr⟩ := List.mem_flatten.1 hx
    obtain ⟨v, _, hr⟩ := hin r hr
    exact hsub v r hr x hxr
  · obtain ⟨c, hcm, hxc⟩ := List.mem_flatten.1 ((hc.mem x).2 hx)
    have hlt := hI.lt c hcm x hxc
    by_cases h0 : (withinF ls c on).length = 0
    · have hxa := (hI.al (lowOf s.lv x) x).2 ⟨c, hcm, h0, hxc, rfl⟩
      refine List.mem_flatten.2 ⟨sortN (alAt s.al (lowOf s.lv x)), List.mem_flatMap.2 ⟨_, List.mem_range.2 hlt, ?_⟩, (sortN_perm _).mem_iff.2 hxa⟩
      unfold rkOutAt
      rw [if_neg (by rw [List.length_eq_zero_iff]; exact List.ne_nil_of_mem hxa)]
      simp
    · refine List.mem_flatten.2 ⟨c, List.mem_flatMap.2 ⟨_, List.mem_range.2 hlt, ?_⟩, hxc⟩
      unfold rkOutAt
      refine List.mem_append_right _ (List.mem_filter.2 ⟨?_, decide_eq_true (hI.flat c hcm _ (getD_head (hc.scc c hcm).1) x hxc)⟩)
      rw [hI.ot]
      exact List.mem_filter.2 ⟨hcm, decide_eq_true h0⟩
  · refine List.pairwise_flatten.2 ⟨fun r hr => ?_, hdisj⟩
    obtain ⟨v, _, hr⟩ := hin r hr
    rcases hout v r hr with ⟨_, rfl⟩ | ⟨h1, _⟩
    · exact (sortN_perm _).nodup_iff.2 (hI.aln v)
    · exact comp_nodup hc.nodup h1
  · obtain ⟨v, _, hr⟩ := hin r hr
    rcases hout v r hr with ⟨h0, rfl⟩ | ⟨h1, h2, _⟩
    · refine ⟨fun e => h0 ?_, sortN_sorted _, .inl ?_⟩
      · have := (sortN_perm (alAt s.al v)).length_eq
        rw [e] at this
        exact List.length_eq_zero_iff.1 this.symm
      · rw [List.length_eq_zero_iff, List.eq_nil_iff_forall_not_mem]
        intro k hk
        obtain ⟨q1, q2, q3, q4⟩ := mem_withinF.1 hk
        obtain ⟨c, hcm, h1, h2, h3⟩ := (hI.al v _).1 ((sortN_perm _).mem_iff.1 q2)
        obtain ⟨d, hdm, h4, h5, h6⟩ := (hI.al v _).1 ((sortN_perm _).mem_iff.1 q4)
        by_cases hto : toOf ls k ∈ c
        · have : k ∈ withinF ls c on := mem_withinF.2 ⟨q1, h2, q3, hto⟩
          rw [List.length_eq_zero_iff.1 h1] at this
          cases this
        · have := hI.down c hcm _ h2 _ hto (edge_iff.2 ⟨k, q1, rfl, rfl, q3, hnode d hdm _ h5⟩)
          omega
    · exact ⟨(hc.scc r h1).1, (hc.scc r h1).2.1, .inr h1⟩
  · by_cases hji : j ≤ i
    · exact hji
    · exfalso
      have hle := List.pairwise_iff_getElem.1 hlevels i j hi hj (by omega) x hx y hy
      obtain ⟨v, _, hr⟩ := hin _ (List.getElem_mem hi)
      obtain ⟨v2, _, hr2⟩ := hin _ (List.getElem_mem hj)
      have hxn := hsub v _ hr x hx
      obtain ⟨c, hcm, hxc⟩ := List.mem_flatten.1 ((hc.mem x).2 hxn)
      have hne : x ≠ y := List.pairwise_iff_getElem.1 hdisj i j hi hj (by omega) x hx y hy
      by_cases hyc : y ∈ c
      · -- in the same component: it is a row, or it has no arrow
        obtain ⟨k, q1, q2, q3, q4, _⟩ := edge_iff.1 he
        have hkc : k ∈ withinF ls c on := mem_withinF.2 ⟨q1, by rw [q2]; exact hxc, q4, by rw [q3]; exact hyc⟩
        have hw0 : (withinF ls c on).length ≠ 0 := fun e => by rw [List.length_eq_zero_iff.1 e] at hkc; cases hkc
        have hcr : ∀ v r, r ∈ rkOutAt s v → ∀ z ∈ r, z ∈ c → r = c := fun v r hr z hz hzc => by
          rcases hout v r hr with ⟨_, rfl⟩ | ⟨h1, _⟩
          · obtain ⟨d, hdm, h2, h3, _⟩ := (hI.al v z).1 ((sortN_perm _).mem_iff.1 hz)
            exfalso
            obtain ⟨a, ha, rfl⟩ := List.getElem_of_mem hcm
            obtain ⟨b, hb, rfl⟩ := List.getElem_of_mem hdm
            have := comp_uniq hc.nodup ha hb hzc h3
            subst this
            exact hw0 h2
          · obtain ⟨a, ha, rfl⟩ := List.getElem_of_mem hcm
            obtain ⟨b, hb, rfl⟩ := List.getElem_of_mem h1
            have := comp_uniq hc.nodup ha hb hzc hz
            subst this
            rfl
        have e1 := hcr v _ hr x hx hxc
        have e2 := hcr v2 _ hr2 y hy hyc
        have := List.pairwise_iff_getElem.1 hdisj i j hi hj (by omega) x hx x (by rw [e2, ← e1]; exact hx)
        exact this rfl
      · have := hI.down c hcm x hxc y hyc he
        omega
end
end Go.Proofs.Ytnanffbjmfgafaa.S

namespace Go.Proofs.Ytnanffbjmfgafaa.S
open Go.RowKit
theorem lack3 {ms : List Bool} {all : List Nat} {pairs : List (Nat × Nat)} {i : Nat} (h : lackingF ms all pairs = (3, i)) : i < all.length ∧ ms.getD (all.getD i 0) false = false := by
  unfold lackingF at h
  split at h
  · rename_i j hj
    cases h
    obtain ⟨h1, h2, _⟩ := List.findIdx?_eq_some_iff_getElem.1 hj
    refine ⟨h1, ?_⟩
    rw [List.getD_eq_getElem?_getD (l := all), List.getElem?_eq_getElem h1]
    simpa using h2
  · split at h <;> simp at h
theorem lack4 {ms : List Bool} {all : List Nat} {pairs : List (Nat × Nat)} {i : Nat} (h : lackingF ms all pairs = (4, i)) : i < pairs.length ∧ ms.getD (pairs.getD i (0, 0)).1 false = true ∧ ms.getD (pairs.getD i (0, 0)).2 false = false := by
  unfold lackingF at h
  split at h
  · simp at h
  · split at h
    · rename_i j hj
      cases h
      obtain ⟨h1, h2, _⟩ := List.findIdx?_eq_some_iff_getElem.1 hj
      refine ⟨h1, ?_⟩
      rw [List.getD_eq_getElem?_getD (l := pairs), List.getElem?_eq_getElem h1]
      simpa using h2
    · simp at h
theorem ixIn_at {nodes : List Nat} (h : nodes.Pairwise (· < ·)) {j : Nat} (hj : j < nodes.length) : ixIn nodes nodes[j] = j := by
  unfold ixIn
  have e : nodes = nodes.take j ++ nodes.drop j := (List.take_append_drop j nodes).symm
  have h1 : (nodes.take j).countP (fun y => decide (y < nodes[j])) = j := by
    rw [List.countP_eq_length.2, List.length_take]
    · omega
    · intro x hx
      obtain ⟨i, hi, rfl⟩ := List.getElem_of_mem hx
      rw [List.length_take] at hi
      rw [List.getElem_take]
      exact decide_eq_true (List.pairwise_iff_getElem.1 h i j (by omega) hj (by omega))
  have h2 : (nodes.drop j).countP (fun y => decide (y < nodes[j])) = 0 := by
    rw [List.countP_eq_zero]
    intro x hx
    obtain ⟨i, hi, rfl⟩ := List.getElem_of_mem hx
    rw [List.length_drop] at hi
    rw [List.getElem_drop]
    rw [decide_eq_true_eq]
    rcases Nat.eq_zero_or_pos i with e0 | e0
    · subst e0; exact Nat.lt_irrefl nodes[j]
    · have := List.pairwise_iff_getElem.1 h j (j + i) hj (by omega) (by omega)
      omega
  calc nodes.countP (fun y => decide (y < nodes[j])) = (nodes.take j ++ nodes.drop j).countP (fun y => decide (y < nodes[j])) := by rw [List.take_append_drop]
    _ = j := by rw [List.countP_append, h1, h2, Nat.add_zero]
theorem rankRow_at {nodes : List Nat} (h : nodes.Pairwise (· < ·)) (v : Nat) : ∀ (r rk : List Nat), (∀ x ∈ r, x ∈ nodes) → rk.length = nodes.length → ∀ j (hj : j < nodes.length), (rankRow nodes rk r v).getD j 0 = if nodes[j] ∈ r then v else rk.getD j 0
  | [], rk, _, _, j, hj => by simp [rankRow]
  | x :: r, rk, hr, hl, j, hj => by
    have e : rankRow nodes rk (x :: r) v = rankRow nodes (rk.set (ixIn nodes x) v) r v := rfl
    rw [e, rankRow_at h v r _ (fun y hy => hr y (by simp [hy])) (by simpa using hl) j hj]
    obtain ⟨i, hi, rfl⟩ := List.getElem_of_mem (hr x (by simp))
    rw [ixIn_at h hi]
    by_cases h1 : nodes[j] ∈ r
    · simp [h1]
    · rw [if_neg h1]
      by_cases h2 : i = j
      · subst h2
        rw [if_pos (by simp), List.getD_eq_getElem?_getD, List.getElem?_set_self (by omega)]
        rfl
      · have hne : nodes[j] ≠ nodes[i] := by
          rcases Nat.lt_or_gt_of_ne h2 with hh | hh
          · have := List.pairwise_iff_getElem.1 h i j hi hj hh; omega
          · have := List.pairwise_iff_getElem.1 h j i hj hi hh; omega
        rw [if_neg (by simp [hne, h1]), List.getD_eq_getElem?_getD, List.getElem?_set_ne h2, ← List.getD_eq_getElem?_getD]
theorem rkTo_at {nodes : List Nat} {rs : List (List Nat)} (h : nodes.Pairwise (· < ·)) (hsub : ∀ r ∈ rs, ∀ x ∈ r, x ∈ nodes) (hn : rs.flatten.Nodup) : ∀ i, i ≤ rs.length → ∀ j (hj : j < nodes.length) k (hk : k < rs.length), k < i → nodes[j] ∈ rs[k] → (rkTo nodes rs i).getD j 0 = k
  | 0, _, _, _, _, _, h, _ => by omega
  | i + 1, hi, j, hj, k, hk, hki, hm => by
    have hil : i < rs.length := by omega
    rw [rkTo_succ _ _ _ hil, rankRow_at h i _ _ (hsub _ (List.getElem_mem hil)) (rkTo_length _ _ _ (by omega)) j hj]
    split
    · rename_i h1
      exact (comp_uniq hn hk hil hm h1).symm
    · rename_i h1
      have hne : k ≠ i := fun e => by subst e; exact h1 hm
      exact rkTo_at h hsub hn i (by omega) j hj k hk (by omega) hm
theorem asc_ext : ∀ {l1 l2 : List Nat}, l1.Pairwise (· < ·) → l2.Pairwise (· < ·) → (∀ x, x ∈ l1 ↔ x ∈ l2) → l1 = l2
  | [], [], _, _, _ => rfl
  | [], y :: l2, _, _, h => by have := (h y).2 (by simp); cases this
  | x :: l1, [], _, _, h => by have := (h x).1 (by simp); cases this
  | x :: l1, y :: l2, h1, h2, h => by
    obtain ⟨a1, a2⟩ := List.pairwise_cons.1 h1
    obtain ⟨b1, b2⟩ := List.pairwise_cons.1 h2
    have e : x = y := by
      have q1 := (h x).1 (by simp)
      have q2 := (h y).2 (by simp)
      rcases List.mem_cons.1 q1 with e | q1
      · exact e
      · rcases List.mem_cons.1 q2 with e | q2
        · exact e.symm
        · have := a1 y q2; have := b1 x q1; omega
    subst e
    rw [asc_ext a2 b2 fun z => ⟨fun hz => by
      have := (h z).1 (by simp [hz])
      rcases List.mem_cons.1 this with e | this
      · have := a1 z hz; omega
      · exact this, fun hz => by
      have := (h z).2 (by simp [hz])
      rcases List.mem_cons.1 this with e | this
      · have := b1 z hz; omega
      · exact this⟩]
def cntD : Nat → Drop → Nat
  | 0, _ => 0
  | k + 1, d => 1 + (d.l.map (cntD k)).sum
def wtD : Nat → Drop → Nat
  | 0, _ => 0
  | k + 1, d => 1 + d.nodes.length + d.rank.length + (d.l.map (wtD k)).sum
def depD : Nat → Drop → Nat
  | 0, _ => 0
  | k + 1, d => 1 + (d.l.map (depD k)).foldr max 0
theorem sum_le {α : Type} {f g : α → Nat} : ∀ {l : List α}, (∀ x ∈ l, f x ≤ g x) → (l.map f).sum ≤ (l.map g).sum
  | [], _ => Nat.le_refl _
  | x :: l, h => by
    have h1 := h x (by simp)
    have h2 := sum_le (f := f) (g := g) (l := l) fun y hy => h y (by simp [hy])
    simp only [List.map_cons, List.sum_cons]
    omega
theorem max_le {α : Type} {f : α → Nat} {b : Nat} : ∀ {l : List α}, (∀ x ∈ l, f x ≤ b) → (l.map f).foldr max 0 ≤ b
  | [], _ => Nat.zero_le _
  | x :: l, h => by
    have h1 := h x (by simp)
    have h2 := max_le (f := f) (l := l) fun y hy => h y (by simp [hy])
    simp only [List.map_cons, List.foldr_cons]
    omega
theorem sum_len (a : Nat) : ∀ rs : List (List Nat), (rs.map fun r => a * r.length).sum = a * rs.flatten.length
  | [] => rfl
  | r :: rs => by simp only [List.map_cons, List.sum_cons, sum_len a rs, List.flatten_cons, List.length_append, Nat.mul_add]
theorem allO_ok {α : Type} {f : α → Option Drop} : ∀ {l : List α}, (∀ x ∈ l, ∃ d, f x = some d) → allO (l.map f) = some (l.map fun x => (f x).getD noDrop)
  | [], _ => rfl
  | x :: l, h => by
    obtain ⟨d, hd⟩ := h x (by simp)
    have ih := allO_ok (f := f) (l := l) fun y hy => h y (by simp [hy])
    simp only [List.map_cons, allO, hd, ih, Option.getD_some]
theorem ne_len {cs : List (List Nat)} (h : ∀ c ∈ cs, c ≠ []) : cs.length ≤ cs.flatten.length := by
  induction cs with
  | nil => simp
  | cons c cs ih =>
    have h1 := List.length_pos_iff.2 (h c (by simp))
    have h2 := ih fun d hd => h d (by simp [hd])
    simp only [List.length_cons, List.flatten_cons, List.length_append]
    omega
section
variable (n : Nat) (ls : List Arrow) (all : List Nat) (pairs : List (Nat × Nat))
def mu (on : List Bool) : Nat := (List.range 16).countP fun m => (List.range ls.length).any fun k => on.getD k false && hasM ls k m
/-- The piece is proved, h deep at most. -/
structure PrOk (f : Nat) (nodes : List Nat) (on : List Bool) (h : Nat) (d : Drop) : Prop where
  eq : provedR n ls all pairs f nodes on = some d
  ok : DropOk f d
  shows : ∀ deep, deep + h ≤ 101 → showsF ls all pairs f d nodes on deep = true
  cnt : cntD f d ≤ h * max nodes.length 1
  wt : wtD f d ≤ h * (3 * max nodes.length 1)
  dep : depD f d ≤ h
end
theorem mu_le (ls : List Arrow) (on : List Bool) : mu ls on ≤ 16 := by
  have := List.countP_le_length (p := fun m => (List.range ls.length).any fun k => on.getD k false && hasM ls k m) (l := List.range 16)
  simpa [mu] using this
theorem mu_without {ls : List Arrow} {on : List Bool} {m k : Nat} (hm : m < 16) (hk : k < ls.length) (h1 : on.getD k false = true) (h2 : hasM ls k m = true) : mu ls (withoutF ls on m) < mu ls on := by
  refine countP_lt (fun q _ hq => ?_) ⟨m, List.mem_range.2 hm, List.any_eq_true.2 ⟨k, List.mem_range.2 hk, by rw [h1, h2]; rfl⟩, ?_⟩
  · obtain ⟨j, hj, h⟩ := List.any_eq_true.1 hq
    rw [withoutF_at (List.mem_range.1 hj)] at h
    simp only [Bool.and_eq_true] at h
    exact List.any_eq_true.2 ⟨j, hj, by rw [h.1.1, h.2]; rfl⟩
  · rw [List.any_eq_false]
    intro j hj
    rw [withoutF_at (List.mem_range.1 hj)]
    cases hasM ls j m <;> simp
end Go.Proofs.Ytnanffbjmfgafaa.S

namespace Go.Proofs.Ytnanffbjmfgafaa.S
open Go.RowKit
section
variable {n : Nat} {ls : List Arrow} {all : List Nat} {pairs : List (Nat × Nat)}
theorem dropOk_mk {f : Nat} {k i : Int} {nodes rank : List Int} {l : List Drop} (h1 : l.length ≤ 1048576) (h2 : nodes.length ≤ 1048576) (h3 : rank.length ≤ 1048576) (h4 : ∀ d ∈ l, DropOk f d) : DropOk (f + 1) (.mk k i nodes rank l) :=
  ⟨h1, h2, h3, fun i h => h4 _ (List.getElem_mem h)⟩
theorem leaf2 {f h : Nat} {nodes : List Nat} {on : List Bool} (hn : nodes.length ≤ 20000) (hw : (withinF ls nodes on).length = 0) (hh : 1 ≤ h) : PrOk n ls all pairs (f + 1) nodes on h (.mk 2 0 (nodes.map Int.ofNat) [] []) := by
  have hm : 1 * max nodes.length 1 ≤ h * max nodes.length 1 := Nat.mul_le_mul_right _ hh
  have hm2 : 1 * (3 * max nodes.length 1) ≤ h * (3 * max nodes.length 1) := Nat.mul_le_mul_right _ hh
  have hx := Nat.le_max_left nodes.length 1
  have hy := Nat.le_max_right nodes.length 1
  refine ⟨by unfold provedR; rw [if_pos hw], dropOk_mk (by simp) (by simp; omega) (by simp) (fun d hd => by cases hd), fun deep hd => ?_, ?_, ?_, ?_⟩
  · unfold showsF
    rw [if_neg (by simp [Drop.nodes]; omega), if_pos (show (Drop.mk 2 0 (nodes.map Int.ofNat) [] []).kind = 2 from rfl), decide_eq_true hw]
    rfl
  · show 1 + 0 ≤ _; omega
  · show 1 + (nodes.map Int.ofNat).length + 0 + 0 ≤ _
    rw [List.length_map]; omega
  · show 1 + 0 ≤ _; omega
theorem leaf3 {f h i : Nat} {nodes : List Nat} {on : List Bool} (hn : nodes.length ≤ 20000) (hw : ¬ (withinF ls nodes on).length = 0) (hl : lackingF (metF ls (withinF ls nodes on)) all pairs = (3, i)) (hh : 1 ≤ h) : PrOk n ls all pairs (f + 1) nodes on h (.mk 3 i (nodes.map Int.ofNat) [] []) := by
  have hm : 1 * max nodes.length 1 ≤ h * max nodes.length 1 := Nat.mul_le_mul_right _ hh
  have hm2 : 1 * (3 * max nodes.length 1) ≤ h * (3 * max nodes.length 1) := Nat.mul_le_mul_right _ hh
  have hx := Nat.le_max_left nodes.length 1
  have hy := Nat.le_max_right nodes.length 1
  obtain ⟨l1, l2⟩ := lack3 hl
  refine ⟨by unfold provedR; rw [if_neg hw, hl, if_pos rfl], dropOk_mk (by simp) (by simp; omega) (by simp) (fun d hd => by cases hd), fun deep hd => ?_, ?_, ?_, ?_⟩
  · unfold showsF
    rw [if_neg (by simp [Drop.nodes]; omega), if_neg (by simp [Drop.kind]), if_pos (show (Drop.mk 3 (i : Int) (nodes.map Int.ofNat) [] []).kind = 3 from rfl)]
    have e : (Drop.mk 3 (i : Int) (nodes.map Int.ofNat) [] []).n.toNat = i := rfl
    rw [e, l2]
    have h1 : decide ((0 : Int) ≤ (Drop.mk 3 (i : Int) (nodes.map Int.ofNat) [] []).n) = true := decide_eq_true (by show (0 : Int) ≤ (i : Int); omega)
    have h2 : decide ((Drop.mk 3 (i : Int) (nodes.map Int.ofNat) [] []).n < (all.length : Int)) = true := decide_eq_true (by show (i : Int) < (all.length : Int); omega)
    rw [h1, h2]
    rfl
  · show 1 + 0 ≤ _; omega
  · show 1 + (nodes.map Int.ofNat).length + 0 + 0 ≤ _
    rw [List.length_map]; omega
  · show 1 + 0 ≤ _; omega
theorem noRound_sub {c nodes : List Nat} {on : List Bool} (h : ∀ x ∈ c, x ∈ nodes) (hn : NoRound ls all pairs nodes on) : NoRound ls all pairs c on := fun x w hx hne hw => hn x w (h x hx) hne (hw.mono fun _ _ hp => ⟨hp.1, h _ hp.2⟩)
theorem noRound_without {nodes : List Nat} {on : List Bool} {m : Nat} (hn : NoRound ls all pairs nodes on) : NoRound ls all pairs nodes (withoutF ls on m) := fun x w hx hne hw => hn x w hx hne (hw.mono fun k hk hp => by
  have hkl := (hw.all k hk).1
  rw [withoutF_at hkl] at hp
  exact ⟨(Bool.and_eq_true _ _ ▸ hp.1).1, hp.2⟩)
/-- A connected piece whose arrows satisfy the condition has a round. -/
theorem conn_round {nodes : List Nat} {on : List Bool} (hconn : ∀ x ∈ nodes, ∀ y ∈ nodes, Rc (EdgeP ls nodes on) x y) (hw : ¬ (withinF ls nodes on).length = 0) (hs : Sats ls all pairs (withinF ls nodes on)) : ¬ NoRound ls all pairs nodes on := by
  intro hno
  obtain ⟨k, r, hk⟩ := List.exists_cons_of_ne_nil (fun e => hw (by rw [e]; rfl) : withinF ls nodes on ≠ [])
  have hkm : k ∈ withinF ls nodes on := by rw [hk]; simp
  have hx := (mem_withinF.1 hkm).2.1
  obtain ⟨w, h1, h2⟩ := wk_tour (c := nodes) (l := withinF ls nodes on) (fun x hx y hy => by
    obtain ⟨w, hw⟩ := rc_wk (hconn x hx y hy)
    exact ⟨w, hw.mono fun k hk _ => wk_within hw hx k hk⟩) (fun k hk => ⟨(mem_withinF.1 hk).1, (mem_withinF.1 hk).2.1, (mem_withinF.1 hk).2.2.2⟩) hx _ (fun k hk => hk)
  refine hno _ w hx (List.ne_nil_of_mem (h2 k hkm)) (h1.mono fun k _ hk => (mem_withinF.1 hk).2.2) (sats_same (fun k => ⟨h2 k, fun hk => (h1.all k hk).2⟩) hs)
theorem conn_comps {nodes : List Nat} {on : List Bool} {parts : List (List Nat)} (hc : CompsOk ls nodes on parts) (hconn : ∀ x ∈ nodes, ∀ y ∈ nodes, Rc (EdgeP ls nodes on) x y) (hne : nodes ≠ []) : parts.length = 1 := by
  rcases hp : parts with _ | ⟨c, _ | ⟨d, r⟩⟩
  · obtain ⟨x, t, e⟩ := List.exists_cons_of_ne_nil hne
    have := (hc.mem x).2 (by rw [e]; simp)
    rw [hp] at this
    cases this
  · rfl
  · exfalso
    have h0 : 0 < parts.length := by rw [hp]; simp
    have h1 : 1 < parts.length := by rw [hp]; simp
    have hx := getD_head (hc.scc _ (List.getElem_mem h0)).1
    have hy := getD_head (hc.scc _ (List.getElem_mem h1)).1
    obtain ⟨w, hw⟩ := rc_wk (hconn _ ((hc.mem _).1 (List.mem_flatten.2 ⟨_, List.getElem_mem h0, hx⟩)) _ ((hc.mem _).1 (List.mem_flatten.2 ⟨_, List.getElem_mem h1, hy⟩)))
    obtain ⟨b, hb, hb0, hyb, _⟩ := wk_ord hc hw 0 h0 hx
    have := comp_uniq hc.nodup hb h1 hyb hy
    omega
theorem one_conn {nodes : List Nat} {on : List Bool} {parts : List (List Nat)} (hc : CompsOk ls nodes on parts) (h1 : parts.length = 1) : ∀ x ∈ nodes, ∀ y ∈ nodes, Rc (EdgeP ls nodes on) x y := by
  obtain ⟨c, rfl⟩ := List.length_eq_one_iff.1 h1
  intro x hx y hy
  have e : ∀ z ∈ nodes, z ∈ c := fun z hz => by simpa using (hc.mem z).2 hz
  exact (hc.scc c (by simp)).2.2 x (e x hx) y (e y hy)
/-- A connected piece, or one without arrows: what is proved with less marks is used. -/
theorem prov_conn (hv : ValidG n ls) (hw : ValidW all pairs) (hb : n * (ls.length + 3) ≤ 1000000) {m f : Nat} {nodes : List Nat} {on : List Bool} (hf : 2 * m + 2 ≤ f) (hmu : mu ls on ≤ m) (hasc : nodes.Pairwise (· < ·)) (hlt : ∀ x ∈ nodes, x < n) (hno : NoRound ls all pairs nodes on)
    (hconn : (withinF ls nodes on).length = 0 ∨ ∀ x ∈ nodes, ∀ y ∈ nodes, Rc (EdgeP ls nodes on) x y)
    (ih : ∀ m' on', m = m' + 1 → mu ls on' ≤ m' → NoRound ls all pairs nodes on' → ∃ d, PrOk n ls all pairs (f - 1) nodes on' (2 * m' + 3) d) :
    ∃ d, PrOk n ls all pairs f nodes on (2 * m + 2) d := by
  obtain ⟨f, rfl⟩ : ∃ f', f = f' + 1 := ⟨f - 1, by omega⟩
  have hnl := nodup_len n nodes (hasc.imp fun h => Nat.ne_of_lt h) hlt
  have hn2 := hv.size
  by_cases h0 : (withinF ls nodes on).length = 0
  · exact ⟨_, leaf2 (by omega) h0 (by omega)⟩
  · replace hconn := hconn.resolve_left h0
    rcases lackingF_cases (metF ls (withinF ls nodes on)) all pairs with h3 | ⟨h4, h4l⟩ | hz
    · obtain ⟨i, hi⟩ : ∃ i, lackingF (metF ls (withinF ls nodes on)) all pairs = (3, i) := ⟨(lackingF (metF ls (withinF ls nodes on)) all pairs).2, by rw [← h3]⟩
      exact ⟨_, leaf3 (by omega) h0 hi (by omega)⟩
    · obtain ⟨i, hi⟩ : ∃ i, lackingF (metF ls (withinF ls nodes on)) all pairs = (4, i) := ⟨(lackingF (metF ls (withinF ls nodes on)) all pairs).2, by rw [← h4]⟩
      obtain ⟨q1, q2, q3⟩ := lack4 hi
      have e : pairs.getD i (0, 0) = pairs[i] := by rw [List.getD_eq_getElem?_getD, List.getElem?_eq_getElem q1]; rfl
      have hpo := hw.pairs_ok _ (List.getElem_mem q1)
      rw [e] at q2
      obtain ⟨k, hk, hkm⟩ := (met_yes hpo.1).1 q2
      obtain ⟨k1, _, k3, _⟩ := mem_withinF.1 hk
      have hlt2 := mu_without hpo.1 k1 k3 hkm
      obtain ⟨m', rfl⟩ : ∃ m', m = m' + 1 := ⟨m - 1, by omega⟩
      obtain ⟨d, hd⟩ := ih m' (withoutF ls on pairs[i].1) rfl (by omega) (noRound_without hno)
      have hne : nodes ≠ [] := List.ne_nil_of_mem (mem_withinF.1 hk).2.1
      obtain ⟨parts, hp1, hp2⟩ := comps_total ls nodes on (Nat.le_trans (Nat.mul_le_mul_right _ hnl) hb)
      have hp3 := conn_comps hp2 hconn hne
      have hx := Nat.le_max_left nodes.length 1
      have hy := Nat.le_max_right nodes.length 1
      have hde : provedR n ls all pairs f nodes (withoutF ls on pairs[i].1) = some d := hd.eq
      refine ⟨.mk 4 i (nodes.map Int.ofNat) [] [d], ?_, dropOk_mk (by simp) (by simp; omega) (by simp) (fun d' hd' => by rw [List.mem_singleton.1 hd']; exact hd.ok), fun deep hdp => ?_, ?_, ?_, ?_⟩
      · unfold provedR
        rw [if_neg h0, if_neg (by rw [hi]; simp), hp1]
        simp only
        rw [if_pos hp3, hi, if_pos q1, e, hde]
        rfl
      · unfold showsF
        rw [if_neg (by simp [Drop.nodes]; omega), if_neg (by simp [Drop.kind]), if_neg (by simp [Drop.kind]), if_pos (show (Drop.mk 4 (i : Int) (nodes.map Int.ofNat) [] [d]).kind = 4 from rfl)]
        have en : (Drop.mk 4 (i : Int) (nodes.map Int.ofNat) [] [d]).n.toNat = i := rfl
        have hc : ¬ (!plainF (Drop.mk 4 (i : Int) (nodes.map Int.ofNat) [] [d]) true false 1 || decide ((Drop.mk 4 (i : Int) (nodes.map Int.ofNat) [] [d]).n < 0) || decide ((Drop.mk 4 (i : Int) (nodes.map Int.ofNat) [] [d]).n ≥ (pairs.length : Int)) || (metF ls (withinF ls nodes on)).getD (pairs.getD (Drop.mk 4 (i : Int) (nodes.map Int.ofNat) [] [d]).n.toNat (0, 0)).2 false) = true := by
          rw [en, q3]
          simp only [Bool.or_eq_true, not_or, decide_eq_true_eq, Bool.not_eq_true]
          refine ⟨⟨⟨rfl, ?_⟩, ?_⟩, trivial⟩
          · show ¬ ((i : Int) < 0); omega
          · show ¬ ((i : Int) ≥ (pairs.length : Int)); omega
        rw [if_neg hc]
        simp only [Drop.l]
        rw [en, e]
        exact hd.shows (deep + 1) (by omega)
      · show 1 + (cntD f d + 0) ≤ _
        have := hd.cnt
        have e2 : (2 * (m' + 1) + 2) * max nodes.length 1 = (2 * m' + 3) * max nodes.length 1 + max nodes.length 1 := by rw [show 2 * (m' + 1) + 2 = (2 * m' + 3) + 1 by omega, Nat.add_mul, Nat.one_mul]
        simp only [Nat.add_sub_cancel] at this
        omega
      · show 1 + (nodes.map Int.ofNat).length + 0 + (wtD f d + 0) ≤ _
        have := hd.wt
        have e2 : (2 * (m' + 1) + 2) * (3 * max nodes.length 1) = (2 * m' + 3) * (3 * max nodes.length 1) + 3 * max nodes.length 1 := by rw [show 2 * (m' + 1) + 2 = (2 * m' + 3) + 1 by omega, Nat.add_mul, Nat.one_mul]
        simp only [Nat.add_sub_cancel] at this
        rw [List.length_map]
        omega
      · show 1 + max (depD f d) 0 ≤ _
        have := hd.dep
        simp only [Nat.add_sub_cancel] at this
        omega
    · exfalso
      have hs : Sats ls all pairs (withinF ls nodes on) := by
        rcases lack_cases (ls := ls) (l := withinF ls nodes on) hw with ⟨i, e, _⟩ | ⟨i, _, e, _⟩ | ⟨_, h⟩
        · rw [hz] at e; cases e
        · rw [hz] at e; cases e
        · exact h
      exact conn_round hconn h0 hs hno
end
end Go.Proofs.Ytnanffbjmfgafaa.S

namespace Go.Proofs.Ytnanffbjmfgafaa.S
open Go.RowKit
section
variable {n : Nat} {ls : List Arrow} {all : List Nat} {pairs : List (Nat × Nat)}
theorem PrOk.le {f h h' : Nat} {nodes : List Nat} {on : List Bool} {d : Drop} (hp : PrOk n ls all pairs f nodes on h d) (hh : h ≤ h') : PrOk n ls all pairs f nodes on h' d :=
  ⟨hp.eq, hp.ok, fun deep hd => hp.shows deep (by omega), Nat.le_trans hp.cnt (Nat.mul_le_mul_right _ hh), Nat.le_trans hp.wt (Nat.mul_le_mul_right _ hh), Nat.le_trans hp.dep hh⟩
theorem wk_rc {c : List Nat} {on : List Bool} {x y : Nat} {w : List Nat} (h : Wk ls (· ∈ withinF ls c on) x w y) : Rc (EdgeP ls c on) x y := by
  induction h with
  | nil x => exact .refl x
  | @cons k y w hk hp _ ih =>
    obtain ⟨_, _, h3, h4⟩ := mem_withinF.1 hp
    exact (Rc.one (edge_iff.2 ⟨k, hk, rfl, rfl, h3, h4⟩)).trans ih
theorem back_map (rk : List Nat) : (rk.map Int.ofNat).map Int.toNat = rk := by
  rw [List.map_map]
  exact (List.map_congr_left (g := id) (fun x _ => rfl)).trans (List.map_id _)
theorem prov_total (hv : ValidG n ls) (hw : ValidW all pairs) (hb : n * (ls.length + 3) ≤ 1000000) : ∀ (m f : Nat) (nodes : List Nat) (on : List Bool), 2 * m + 3 ≤ f → mu ls on ≤ m → nodes.Pairwise (· < ·) → (∀ x ∈ nodes, x < n) → NoRound ls all pairs nodes on →
    ∃ d, PrOk n ls all pairs f nodes on (2 * m + 3) d := by
  intro m
  induction m with
  | zero => ?_
  | succ m ihm => ?_
  all_goals
    intro f nodes on hf hmu hasc hlt hno
    have hconn : ∀ (f' : Nat) (c : List Nat), 2 * _ + 2 ≤ f' → c.Pairwise (· < ·) → (∀ x ∈ c, x < n) → NoRound ls all pairs c on → ((withinF ls c on).length = 0 ∨ ∀ x ∈ c, ∀ y ∈ c, Rc (EdgeP ls c on) x y) → ∃ d, PrOk n ls all pairs f' c on (2 * _ + 2) d :=
      fun f' c hf' h1 h2 h3 h4 => prov_conn hv hw hb hf' hmu h1 h2 h3 h4 (fun m' on' e h5 h6 => by
        first
          | (exfalso; omega)
          | (have e' := Nat.succ.inj e
             subst e'
             exact ihm _ _ _ (by omega) h5 h1 h2 h6))
    obtain ⟨f, rfl⟩ : ∃ f', f = f' + 1 := ⟨f - 1, by omega⟩
    have hnodup := hasc.imp fun {a b : Nat} (h : a < b) => Nat.ne_of_lt h
    have hnl := nodup_len n nodes hnodup hlt
    have hn2 := hv.size
    by_cases h0 : (withinF ls nodes on).length = 0
    · obtain ⟨d, hd⟩ := hconn (f + 1) nodes (by omega) hasc hlt hno (.inl h0)
      exact ⟨d, hd.le (by omega)⟩
    by_cases h3 : (lackingF (metF ls (withinF ls nodes on)) all pairs).1 = 3
    · obtain ⟨i, hi⟩ : ∃ i, lackingF (metF ls (withinF ls nodes on)) all pairs = (3, i) := ⟨(lackingF (metF ls (withinF ls nodes on)) all pairs).2, by rw [← h3]⟩
      exact ⟨_, leaf3 (by omega) h0 hi (by omega)⟩
    obtain ⟨parts, hp1, hc⟩ := comps_total ls nodes on (Nat.le_trans (Nat.mul_le_mul_right _ hnl) hb)
    by_cases hp3 : parts.length = 1
    · obtain ⟨d, hd⟩ := hconn (f + 1) nodes (by omega) hasc hlt hno (.inr (one_conn hc hp3))
      exact ⟨d, hd.le (by omega)⟩
    have hR := ranked_ok hc
    obtain ⟨rs, hrs⟩ : ∃ rs, rs = rankedF ls nodes on parts := ⟨_, rfl⟩
    rw [← hrs] at hR
    have hsub : ∀ r ∈ rs, ∀ x ∈ r, x ∈ nodes := fun r hr x hx => (hR.mem x).1 (List.mem_flatten.2 ⟨r, hr, hx⟩)
    have hrasc : ∀ r ∈ rs, r.Pairwise (· < ·) := fun r hr => asc_of (hR.kind r hr).2.1 ((List.pairwise_flatten.1 hR.nodup).1 r hr)
    have hne0 : nodes ≠ [] := fun e => h0 (by rw [e]; rfl)
    have hfl : rs.flatten.length = nodes.length := by
      have hp : rs.flatten.Perm nodes := (List.perm_ext_iff_of_nodup hR.nodup hnodup).2 hR.mem
      exact hp.length_eq
    have hpfl : parts.flatten.length = nodes.length := by
      have hp : parts.flatten.Perm nodes := (List.perm_ext_iff_of_nodup hc.nodup hnodup).2 hc.mem
      exact hp.length_eq
    have hrsl := ne_len fun r hr => (hR.kind r hr).1
    have hpl := ne_len fun c hcm => (hc.scc c hcm).1
    have hrow : ∀ r ∈ rs, ∃ d, PrOk n ls all pairs f r on (2 * _ + 2) d := fun r hr => hconn f r (by omega) (hrasc r hr) (fun x hx => hlt x (hsub r hr x hx)) (noRound_sub (hsub r hr) hno) (by
      rcases (hR.kind r hr).2.2 with h | h
      · exact .inl h
      · exact .inr fun x hx y hy => by
          obtain ⟨w, hw⟩ := comp_conn hc h hx hy
          exact wk_rc hw)
    have hG : ∀ r ∈ rs, PrOk n ls all pairs f r on (2 * _ + 2) ((provedR n ls all pairs f r on).getD noDrop) := fun r hr => by
      obtain ⟨d, hd⟩ := hrow r hr
      have := hd.eq
      rw [this]
      exact hd
    have hlenr : ∀ r ∈ rs, r.length ≤ nodes.length := fun r hr => by
      have := nodup_len
      have h1 : r.Sublist rs.flatten := List.sublist_flatten_of_mem hr
      have := h1.length_le
      omega
    have hpok : provOk n nodes parts rs = true := by
      unfold provOk
      simp only [Bool.and_eq_true, List.all_eq_true, decide_eq_true_eq]
      refine ⟨⟨⟨⟨⟨strictly_of hasc, fun c hcm => ⟨List.length_pos_iff.2 (hc.scc c hcm).1, fun x hx => hlt x ((hc.mem x).1 (List.mem_flatten.2 ⟨c, hcm, hx⟩))⟩⟩, by omega⟩, by omega⟩, fun r hr => ⟨fun x hx => ⟨hlt x (hsub r hr x hx), ?_⟩, by have := hlenr r hr; omega⟩⟩, by omega⟩
      obtain ⟨j, hj, rfl⟩ := List.getElem_of_mem (hsub r hr x hx)
      rw [ixIn_at hasc hj]; exact hj
    have hrkl : (rkTo nodes rs rs.length).length = nodes.length := rkTo_length _ _ _ (Nat.le_refl _)
    have hrk : ∀ j (hj : j < nodes.length) k (hk : k < rs.length), nodes[j] ∈ rs[k] → (rkTo nodes rs rs.length).getD j 0 = k := fun j hj k hk hm => rkTo_at hasc hsub hR.nodup rs.length (Nat.le_refl _) j hj k hk hk hm
    have hlow : ∀ x k (hk : k < rs.length), x ∈ rs[k] → lowOf (rankM nodes (rkTo nodes rs rs.length) nodes.length) x = k := fun x k hk hx => by
      obtain ⟨j, hj, rfl⟩ := List.getElem_of_mem (hsub _ (List.getElem_mem hk) x hx)
      have e : nodes.getD j 0 = nodes[j] := by rw [List.getD_eq_getElem?_getD, List.getElem?_eq_getElem hj]; rfl
      have := rankM_at (rk := rkTo nodes rs rs.length) hnodup _ (Nat.le_refl _) j hj
      rw [e] at this
      rw [this, hrk j hj k hk hx]
    have hfind : ∀ x ∈ nodes, ∃ k, ∃ hk : k < rs.length, x ∈ rs[k] := fun x hx => by
      obtain ⟨r, hr, hxr⟩ := List.mem_flatten.1 ((hR.mem x).2 hx)
      obtain ⟨k, hk, rfl⟩ := List.getElem_of_mem hr
      exact ⟨k, hk, hxr⟩
    have hpart : ∀ k (hk : k < rs.length), partAt nodes (rkTo nodes rs rs.length) nodes.length k = rs[k] := fun k hk => by
      refine asc_ext (hasc.sublist (partAt_sub nodes _ k)) (hrasc _ (List.getElem_mem hk)) fun x => ?_
      rw [mem_partAt hnodup]
      constructor
      · rintro ⟨hx, hv'⟩
        obtain ⟨k', hk', hxk⟩ := hfind x hx
        rw [hlow x k' hk' hxk] at hv'
        subst hv'
        exact hxk
      · exact fun hx => ⟨hsub _ (List.getElem_mem hk) x hx, hlow x k hk hx⟩
    have hx := Nat.le_max_left nodes.length 1
    have hy := Nat.le_max_right nodes.length 1
    have hN : max nodes.length 1 = nodes.length := by
      have := List.length_pos_iff.2 hne0
      omega
    have hrN : ∀ r ∈ rs, max r.length 1 = r.length := fun r hr => by
      have := List.length_pos_iff.2 (hR.kind r hr).1
      omega
    refine ⟨.mk 1 0 (nodes.map Int.ofNat) ((rkTo nodes rs rs.length).map Int.ofNat) (rs.map fun r => (provedR n ls all pairs f r on).getD noDrop), ?_, dropOk_mk (by rw [List.length_map]; omega) (by rw [List.length_map]; omega) (by rw [List.length_map, hrkl]; omega) (fun d hd => by
      obtain ⟨r, hr, rfl⟩ := List.mem_map.1 hd
      exact (hG r hr).ok), fun deep hdp => ?_, ?_, ?_, ?_⟩
    · conv => lhs; unfold provedR
      rw [if_neg h0, if_neg h3, hp1]
      simp only
      rw [if_neg hp3, ← hrs, if_pos hpok, allO_ok fun r hr => ⟨_, (hG r hr).eq⟩]
      rfl
    · unfold showsF
      obtain ⟨D, hD⟩ : ∃ D, D = Drop.mk 1 0 (nodes.map Int.ofNat) ((rkTo nodes rs rs.length).map Int.ofNat) (rs.map fun r => (provedR n ls all pairs f r on).getD noDrop) := ⟨_, rfl⟩
      have d1 : D.kind = 1 := by rw [hD]; rfl
      have d2 : D.nodes = nodes.map Int.ofNat := by rw [hD]; rfl
      have d3 : D.rank = (rkTo nodes rs rs.length).map Int.ofNat := by rw [hD]; rfl
      have d4 : D.l = rs.map fun r => (provedR n ls all pairs f r on).getD noDrop := by rw [hD]; rfl
      have d5 : D.n = 0 := by rw [hD]; rfl
      rw [← hD, if_neg (by rw [d2]; simp; omega), if_neg (by rw [d1]; decide), if_neg (by rw [d1]; decide), if_neg (by rw [d1]; decide), if_pos d1]
      have hpl2 : plainF D false true (-1) = true := by unfold plainF; rw [d5]; rfl
      rw [hpl2, Bool.true_and]
      unfold ranksF
      have d6 : D.l.length = rs.length := by rw [d4, List.length_map]
      have hrs0 : rs.length ≠ 0 := fun e => by
        rw [List.length_eq_zero_iff.1 e] at hfl
        simp at hfl
        exact hne0 (List.length_eq_zero_iff.1 hfl.symm)
      rw [if_neg (by rw [d3, d6, List.length_map, hrkl]; simp; intro e; rw [e] at hrs0; exact hrs0 rfl)]
      rw [if_neg (by
        rw [Bool.not_eq_false, List.all_eq_true]
        intro a ha
        rw [d3] at ha
        obtain ⟨b, hb', rfl⟩ := List.mem_map.1 ha
        obtain ⟨j, hj, rfl⟩ := List.getElem_of_mem hb'
        rw [hrkl] at hj
        obtain ⟨k, hk, hm⟩ := hfind _ (List.getElem_mem hj)
        have := hrk j hj k hk hm
        rw [List.getD_eq_getElem?_getD, List.getElem?_eq_getElem (by rw [hrkl]; exact hj)] at this
        simp only [Option.getD_some] at this
        rw [d6, this]
        simp only [Bool.and_eq_true, decide_eq_true_eq]
        exact ⟨Int.natCast_nonneg k, by show (k : Int) < (rs.length : Int); omega⟩)]
      rw [d3, back_map, if_neg (by
        rw [Bool.not_eq_true, List.any_eq_false]
        intro i hi
        rw [decide_eq_true_eq]
        obtain ⟨q1, q2, q3, q4⟩ := mem_withinF.1 hi
        obtain ⟨a, ha, hfa⟩ := hfind _ q2
        obtain ⟨b, hb', htb⟩ := hfind _ q4
        have := hR.down a ha b hb' _ hfa _ htb (edge_iff.2 ⟨i, q1, rfl, rfl, q3, q4⟩)
        rw [hlow _ a ha hfa, hlow _ b hb' htb]
        omega)]
      rw [d6, List.all_eq_true]
      intro k hk
      have hk' := List.mem_range.1 hk
      rw [hpart k hk', d4, List.getElem?_map, List.getElem?_eq_getElem hk']
      simp only [Option.map_some, Bool.and_eq_true, decide_eq_true_eq]
      exact ⟨fun e => (hR.kind _ (List.getElem_mem hk')).1 (List.length_eq_zero_iff.1 e), (hG _ (List.getElem_mem hk')).shows (deep + 1) (by omega)⟩
    · show 1 + ((rs.map fun r => (provedR n ls all pairs f r on).getD noDrop).map (cntD f)).sum ≤ _
      rw [List.map_map]
      have h1 := sum_le (f := cntD f ∘ fun r => (provedR n ls all pairs f r on).getD noDrop) (g := fun r => (2 * _ + 2) * r.length) (l := rs) fun r hr => by
        have := (hG r hr).cnt
        rw [hrN r hr] at this
        exact this
      rw [sum_len, hfl] at h1
      rw [hN]
      have h2 : ∀ q, (2 * q + 3) * nodes.length = (2 * q + 2) * nodes.length + nodes.length := fun q => by rw [show 2 * q + 3 = (2 * q + 2) + 1 by omega, Nat.add_mul, Nat.one_mul]
      rw [h2]
      omega
    · show 1 + (nodes.map Int.ofNat).length + ((rkTo nodes rs rs.length).map Int.ofNat).length + ((rs.map fun r => (provedR n ls all pairs f r on).getD noDrop).map (wtD f)).sum ≤ _
      rw [List.map_map, List.length_map, List.length_map, hrkl]
      have h1 := sum_le (f := wtD f ∘ fun r => (provedR n ls all pairs f r on).getD noDrop) (g := fun r => ((2 * _ + 2) * 3) * r.length) (l := rs) fun r hr => by
        have := (hG r hr).wt
        rw [hrN r hr, ← Nat.mul_assoc] at this
        exact this
      rw [sum_len, hfl] at h1
      rw [hN, ← Nat.mul_assoc]
      have h2 : ∀ q, (2 * q + 3) * 3 * nodes.length = (2 * q + 2) * 3 * nodes.length + 3 * nodes.length := fun q => by rw [show (2 * q + 3) * 3 = (2 * q + 2) * 3 + 3 by omega, Nat.add_mul]
      rw [h2]
      omega
    · show 1 + ((rs.map fun r => (provedR n ls all pairs f r on).getD noDrop).map (depD f)).foldr max 0 ≤ _
      rw [List.map_map]
      have h1 := max_le (f := depD f ∘ fun r => (provedR n ls all pairs f r on).getD noDrop) (b := 2 * _ + 2) (l := rs) fun r hr => (hG r hr).dep
      omega
end
end Go.Proofs.Ytnanffbjmfgafaa.S

namespace Go.Proofs.Ytnanffbjmfgafaa.S
open Go.RowKit
section
variable {n : Int} {init : List Int} {ls : List ArrowI} {all : List Int} {pairs : List (Int × Int)}
theorem init_lt (hC : checkI n init ls all pairs = 0) : ∀ x ∈ init.map Int.toNat, x < n.toNat := fun x hx => by
  obtain ⟨y, hy, rfl⟩ := List.mem_map.1 hx
  have := (checked hC).init.low y hy
  omega
theorem noCore_round {ls : List Arrow} {all : List Nat} {pairs : List (Nat × Nat)} {n : Nat} {init r : List Nat} (hR : ReachOk ls n init r) : NoCore ls all pairs init ↔ NoRound ls all pairs r (List.replicate ls.length true) := by
  constructor
  · intro h x w hx hne hw hs
    obtain ⟨s, hs', u, hu⟩ := (hR.mem x).1 hx
    exact h s hs' u x hu ⟨w, hne, hw.mono fun _ _ _ => trivial, hs⟩
  · intro h x hx w y hw ⟨v, hne, hv, hs⟩
    have hy := (hR.mem y).2 ⟨x, hx, w, hw⟩
    exact h y v hy hne (hR.walk hv hy) hs
theorem verify_total (hC : checkI n init ls all pairs = 0) (k : Nat) (d : Drop) : ∃ r, ReachOk (ls.map toA) n.toNat (init.map Int.toNat) r ∧
    verifyI k n init ls all pairs d = some (if showsF (ls.map toA) (all.map Int.toNat) (pairs.map toP) k d r (List.replicate (ls.map toA).length true) 1 = true then 0 else 312) := by
  have hk := checked hC
  obtain ⟨r, h1, h2⟩ := reachR_total hk.validG (init_lt hC)
  refine ⟨r, h2, ?_⟩
  unfold verifyI
  rw [if_pos hC, h1]
  rfl
theorem verify_sound (hC : checkI n init ls all pairs = 0) {k : Nat} {d : Drop} (h : verifyI k n init ls all pairs d = some 0) : NoCore (ls.map toA) (all.map Int.toNat) (pairs.map toP) (init.map Int.toNat) := by
  obtain ⟨r, h1, h2⟩ := verify_total hC k d
  rw [h2] at h
  split at h
  · rename_i hs
    exact (noCore_round h1).2 (shows_sound (checked hC).validW k d r _ 1 (h1.asc.imp fun h => Nat.ne_of_lt h) hs)
  · cases h
theorem verify_more {all2 : List Int} {pairs2 : List (Int × Int)} (hC : checkI n init ls all pairs = 0) (hC2 : checkI n init ls (all ++ all2) (pairs ++ pairs2) = 0) {k : Nat} {d : Drop} (h : verifyI k n init ls all pairs d = some 0) : verifyI k n init ls (all ++ all2) (pairs ++ pairs2) d = some 0 := by
  unfold verifyI at h ⊢
  rw [if_pos hC] at h
  rw [if_pos hC2]
  rcases hr : reachR n.toNat (ls.map toA) (init.map Int.toNat) with _ | r
  · rw [hr] at h; cases h
  · rw [hr] at h
    simp only [Option.map_some, Option.some.injEq] at h ⊢
    split at h
    · rename_i hs
      rw [List.map_append, List.map_append, if_pos (shows_more k d _ _ 1 hs)]
    · cases h
theorem prove_small (hC : checkI n init ls all pairs = 0) (hn : n ≤ 12) (hl : ls.length ≤ 41) {f : Nat} (hf : 35 ≤ f) :
    (∃ d, proveI f n init ls all pairs = some (some d, 0) ∧ DropOk f d ∧ verifyI f n init ls all pairs d = some 0 ∧ NoCore (ls.map toA) (all.map Int.toNat) (pairs.map toP) (init.map Int.toNat) ∧ cntD f d ≤ 35 * max n.toNat 1 ∧ wtD f d ≤ 1260 ∧ depD f d ≤ 35) ∨
    (proveI f n init ls all pairs = some (none, 0) ∧ ¬ NoCore (ls.map toA) (all.map Int.toNat) (pairs.map toP) (init.map Int.toNat)) := by
  have hk := checked hC
  have hb : n.toNat * ((ls.map toA).length + 3) ≤ 1000000 := by simpa using small_bound (n := n.toNat) (by omega) hl
  rcases findI_small hC hn hl with ⟨r, e, h⟩ | ⟨e, h⟩
  · refine .inr ⟨by unfold proveI; rw [e]; rfl, fun hno => ?_⟩
    obtain ⟨y, h1, h2⟩ := h.round
    exact hno _ h.start _ y h1 ⟨_, h.ne, h2, h.sats⟩
  · obtain ⟨r, h1, h2⟩ := reachR_total hk.validG (init_lt hC)
    obtain ⟨d, hd⟩ := prov_total hk.validG hk.validW hb 16 f r (List.replicate (ls.map toA).length true) (by omega) (mu_le _ _) h2.asc h2.lt ((noCore_round h2).1 h)
    have hrl := h2.len
    have hmax : max r.length 1 ≤ max n.toNat 1 := by omega
    refine .inl ⟨d, ?_, hd.ok, ?_, h, Nat.le_trans hd.cnt (Nat.mul_le_mul_left _ hmax), Nat.le_trans hd.wt ?_, hd.dep⟩
    · unfold proveI
      rw [e]
      simp only
      rw [if_neg (by decide), h1]
      simp only
      rw [hd.eq]
      rfl
    · unfold verifyI
      rw [if_pos hC, h1]
      simp only [Option.map_some]
      rw [if_pos (hd.shows 1 (by decide))]
    · have : max r.length 1 ≤ 12 := by omega
      omega
end
end Go.Proofs.Ytnanffbjmfgafaa.S

namespace Go.Proofs.Ytnanffbjmfgafaa.S
open Go.RowKit
theorem sats_less {ls : List Arrow} {all a2 : List Nat} {pairs p2 : List (Nat × Nat)} {l : List Nat} (h : Sats ls (all ++ a2) (pairs ++ p2) l) : Sats ls all pairs l :=
  ⟨fun m hm => h.1 m (List.mem_append_left _ hm), fun p hp => h.2 p (List.mem_append_left _ hp)⟩
theorem cores_less {n : Int} {ls : List ArrowI} {all a2 : List Int} {pairs p2 : List (Int × Int)} {c c' : List Nat} (h : ∀ x, x ∈ c ↔ x < n.toNat ∧ CoreI ls all pairs x) (h' : ∀ x, x ∈ c' ↔ x < n.toNat ∧ CoreI ls (all ++ a2) (pairs ++ p2) x) :
    withinB (c'.map Int.ofNat) (c.map Int.ofNat) = true := by
  rw [withinB_iff]
  intro x hx
  obtain ⟨y, hy, rfl⟩ := List.mem_map.1 hx
  obtain ⟨h1, w, h2, h3, h4⟩ := (h' y).1 hy
  rw [List.map_append, List.map_append] at h4
  exact List.mem_map.2 ⟨y, (h y).2 ⟨h1, w, h2, h3, sats_less h4⟩, rfl⟩
theorem OwnS.lendG {α : Type} {e : α → List Value} {m : Nat} {h0 : ∀ x, (e x).length = m} {E : Nat} {v : Value} {n : Nat} {cs : List Value} {H L : Own} {g : Ghost} {w : World} (xs : List α) (h : OwnS E m v n cs H) (hn : n = xs.length) (hc : cs = xs.flatMap e) (hs : St g w (H ++ L)) : ∃ g', g ≤ g' ∧ St g' w L ∧ RS (kEnc e m h0) g' v xs := by
  subst hn hc
  exact OwnS.freezeE h hs
theorem twice_no {g : Ghost} {w : World} {b : Nat} {o o' : Obj} {L : Own} (hs : St g w ((b, o) :: L)) (h : (b, o') ∈ L) : False := by
  have := hs.nodup
  rw [List.map_cons, List.nodup_cons] at this
  exact this.1 (List.mem_map.2 ⟨_, h, rfl⟩)
theorem more_spec (k : Nat) (g : Ghost) (n : Int) (vi vl va vp : Value) (init : List Int) (ls : List ArrowI) (all : List Int) (pairs : List (Int × Int)) (cs : List Value) (d : Drop) (mark : Int) (pair : Int × Int)
    (hi : RS kInt g vi init) (hl : RS kArrI g vl ls) (ha : RS kInt g va all) (hp : RS kPairI g vp pairs) (hd : DropRn k g cs d) (hdw : DropW k d) :
    Cl PP 4 [.agg #[.int .i64 n, vi, vl, va, vp], .agg cs.toArray, .int .i64 mark, .agg (ePairI pair).toArray] g [] (Det (.bool true)) := by
  obtain ⟨e1, e2, e3, e4, e5, rfl, hone⟩ := hd.cells5
  refine cl_intro Try.func4 rfl rfl Try.ntmps4 rfl ?_
  intro w F hs
  repeat (refine wc_seq ?_)
  refine wc_region ?_
  refine wl_box hs rfl rfl rfl rfl ?_; clear hs; intro nb w hs
  refine wl_box hs rfl rfl rfl rfl ?_; clear hs; intro db w hs
  refine wl_box hs rfl rfl rfl rfl ?_; clear hs; intro qb w hs
  repeat (refine wl_p rfl rfl rfl ?_)
  refine wl_nil (wk_seq ?_)
  obtain ⟨g01, hg01, hs, hqb⟩ := freezeB hs
  replace hs := (show St g01 w ((nb, cellsO [.int .i64 n, vi, vl, va, vp] 28) :: (db, cellsO [e1, e2, e3, e4, e5] 31) :: F) from St.perm (show St g01 w ((db, cellsO [e1, e2, e3, e4, e5] 31) :: (nb, cellsO [.int .i64 n, vi, vl, va, vp] 28) :: F) from hs) (by classical exact List.perm_iff_count.2 fun x => by simp only [List.append_eq, List.set_cons_succ, List.set_cons_zero, List.eraseIdx_cons_zero, List.eraseIdx_cons_succ, List.count_cons, List.count_append, List.cons_append, List.nil_append, List.append_nil, List.append_assoc] <;> ac_rfl))
  obtain ⟨g1, hg03, hs, hnb⟩ := freezeB hs
  have hg1 := Ghost.tr hg01 hg03
  replace hqb := (show Lies g1 qb 0 (ePairI pair) from hqb.mono hg03)
  repeat (refine wc_seq ?_)
  refine wc_region ?_
  refine wl_call (L := []) rfl rfl rfl hs (sane_spec g1) ?_
  rintro u g2 L' w hg2 hs ⟨rfl, rfl⟩
  replace hs := (show St g2 w ((db, cellsO [e1, e2, e3, e4, e5] 31) :: F) from hs)
  have hg02 := Ghost.tr hg1 hg2
  replace hqb := hqb.mono hg2
  replace hnb := hnb.mono hg2
  repeat (refine wl_p rfl rfl rfl ?_)
  refine wl_nil (wk_seq ?_)
  refine wc_condF rfl rfl (wc_skip (wk_seq ?_))
  have fin : ∀ {g' : Ghost} {w' : World} {L1 : Own}, g2 ≤ g' → St g' w' (L1 ++ F) → ∃ g'' L', g ≤ g'' ∧ St g'' w' (L' ++ F) ∧ Det (.bool true) g'' L' (.bool true) := fun hg' hs' => ⟨_, [], Ghost.tr hg02 hg', hs'.dropL, rfl, rfl⟩
  repeat (refine wc_seq ?_)
  refine wc_region ?_
  refine wl_ldGN (cs := [.int .i64 n, vi, vl, va, vp]) hs hnb.at' rfl rfl rfl rfl rfl rfl ?_
  refine wl_call (L := []) rfl rfl rfl hs (right_spec g2 n _ _ _ _ init ls all pairs (hi.mono hg02) (hl.mono hg02) (ha.mono hg02) (hp.mono hg02)) ?_
  rintro u g3 L' w hg3 hs ⟨rfl, rfl⟩
  replace hs := (show St g3 w ((db, cellsO [e1, e2, e3, e4, e5] 31) :: F) from hs)
  have hg03 := Ghost.tr hg02 hg3
  repeat (refine wl_p rfl rfl rfl ?_)
  refine wl_case 26 rfl (fun q1 => ?_) (fun q1 => ?_)
  · repeat (first | refine wl_p rfl rfl rfl ?_ | refine wl_skip rfl rfl rfl ?_)
    refine wl_nil (wk_seq ?_)
    refine wc_condT rfl rfl ?_
    repeat (refine wc_seq ?_)
    refine wc_region ?_
    repeat (refine wl_p rfl rfl rfl ?_)
    refine wl_nil (wk_seq ?_)
    exact wc_retV (res1 rfl rfl) (fin (L1 := [_]) hg3 hs)
  have hR : rightB n init ls all pairs = true := by simpa using q1
  obtain ⟨⟨l1, l2, l3, l4⟩, hC⟩ := rightB_iff hR
  have hn12 := right_n hR
  repeat (first | refine wl_p rfl rfl rfl ?_ | refine wl_skip rfl rfl rfl ?_)
  refine wl_ldW hs 0 rfl rfl rfl rfl rfl rfl rfl ?_
  refine wl_call (L := []) rfl rfl rfl hs (slim_spec k g3 [e1, e2, e3, e4, e5] d (hd.mono hg03) hdw) ?_
  rintro u g4 L' w hg4 hs ⟨rfl, rfl⟩
  replace hs := (show St g4 w ((db, cellsO [e1, e2, e3, e4, e5] 31) :: F) from hs)
  have hg04 := Ghost.tr hg03 hg4
  have hg24 := Ghost.tr hg3 hg4
  repeat (first | refine wl_p rfl rfl rfl ?_ | refine wl_skip rfl rfl rfl ?_)
  refine wl_nil (wk_seq ?_)
  refine wc_cond rfl (fun q2 => ?_) (fun q2 => ?_)
  · repeat (refine wc_seq ?_)
    refine wc_region ?_
    repeat (refine wl_p rfl rfl rfl ?_)
    refine wl_nil (wk_seq ?_)
    exact wc_retV (res1 rfl rfl) (fin (L1 := [_]) hg24 hs)
  have hok : DropOk k d := slim_ok hdw (by
    have : (!slimB k d) = false := q2
    simpa using this)
  refine wc_skip (wk_seq ?_)
  replace hqb := hqb.mono hg24
  replace hnb := hnb.mono hg24
  replace hi := hi.mono hg04
  replace hl := hl.mono hg04
  replace ha := ha.mono hg04
  replace hp := hp.mono hg04
  replace hd := hd.mono hg04
  obtain ⟨dd, hdd, hddok⟩ : ∃ dd, proveI 36 n init ls all pairs = some (dd, 0) ∧ ∀ d0, dd = some d0 → DropOk 36 d0 := by
    rcases prove_small hC hn12 (by omega) (show 35 ≤ 36 by omega) with ⟨d0, h1, h2, _⟩ | ⟨h1, h2⟩
    · exact ⟨some d0, h1, fun d' e => by cases e; exact h2⟩
    · exact ⟨none, h1, fun d' e => by cases e⟩
  obtain ⟨c, hc1, hc2, hc3, hc4⟩ := coresI_small hC hn12 (by omega)
  repeat (refine wc_seq ?_)
  refine wc_region ?_
  repeat (refine wl_p rfl rfl rfl ?_)
  refine wl_ldG hs (hnb 0 _ rfl) rfl rfl rfl rfl rfl ?_
  repeat (refine wl_p rfl rfl rfl ?_)
  refine wl_ldG hs (hnb 1 _ rfl) rfl rfl rfl rfl rfl ?_
  repeat (refine wl_p rfl rfl rfl ?_)
  refine wl_ldG hs (hnb 2 _ rfl) rfl rfl rfl rfl rfl ?_
  repeat (refine wl_p rfl rfl rfl ?_)
  refine wl_ldGN (cs := [va, vp]) hs hnb.at3 rfl rfl rfl rfl rfl rfl ?_
  refine wl_call (L := []) rfl rfl rfl hs (Prove_spec 35 g4 n _ _ va vp init ls all pairs hi hl ha hp (by omega) (by omega) (by omega) (by omega) (dd, 0) hdd) ?_
  rintro u g5 L' w hg5 hs ⟨rfl, cp, rfl, hdp⟩
  replace hs := (show St g5 w ((db, cellsO [e1, e2, e3, e4, e5] 31) :: F) from hs)
  obtain ⟨p1, p2, p3, p4, p5, rfl, hpone⟩ := hdp.cells5
  repeat (refine wl_p rfl rfl rfl ?_)
  refine wl_new hs rfl rfl rfl ?_; clear hs; intro pb w hs
  refine wl_stN (cs := [p1, p2, p3, p4, p5]) hs 0 rfl rfl rfl rfl rfl (Nat.le_of_ble_eq_true rfl) hpone rfl ?_
  clear hs; intro w hs
  repeat (refine wl_p rfl rfl rfl ?_)
  refine wl_nil (wk_seq ?_)
  replace hs := (show St g5 w ((pb, cellsO [p1, p2, p3, p4, p5] 31) :: (db, cellsO [e1, e2, e3, e4, e5] 31) :: F) from hs)
  repeat (refine wc_seq ?_)
  refine wc_region ?_
  repeat (refine wl_p rfl rfl rfl ?_)
  refine wl_nil (wk_seq ?_)
  refine wc_meetK (fun (_ : Unit) => [(4, .pointer (some ⟨nb, 0, none⟩)), (5, .pointer (some ⟨db, 0, none⟩)), (7, .pointer (some ⟨qb, 0, none⟩)), (2, .int .i64 mark)])
    (fun _ w => ∃ k' cs' d', DropRn k' g5 cs' d' ∧ DropOk k' d' ∧ St g5 w ((db, cellsO cs' 31) :: F)) ?_ ?_
  · refine wc_condF rfl rfl ?_
    repeat (refine wc_seq ?_)
    refine wc_region ?_
    repeat (refine wl_p rfl rfl rfl ?_)
    refine wl_nil (wk_seq ?_)
    refine wc_cond rfl (fun q3 => ?_) (fun q3 => ?_)
    · obtain ⟨d0, rfl⟩ : ∃ d0, dd = some d0 := by
        cases dd with
        | none => cases q3
        | some d0 => exact ⟨d0, rfl⟩
      repeat (refine wc_seq ?_)
      refine wc_region ?_
      refine wl_ldW hs 0 rfl rfl rfl rfl rfl rfl rfl ?_
      refine wl_stN (cs := [p1, p2, p3, p4, p5]) hs 1 rfl rfl rfl rfl rfl (Nat.le_of_ble_eq_true rfl) hpone rfl ?_
      clear hs; intro w hs
      exact wl_nil (wk_meet () (by repeat (first | exact trivial | refine ⟨rfl, ?_⟩)) ⟨36, _, d0, hdp, hddok d0 rfl, hs.drop⟩)
    · exact wc_skip (wk_meet () (by repeat (first | exact trivial | refine ⟨rfl, ?_⟩)) ⟨k, _, d, hd.mono hg5, hok, hs.drop⟩)
  clear hs
  rintro _ w ⟨k', cs', d', hd', hok', hs⟩
  obtain ⟨f1, f2, f3, f4, f5, rfl, hone'⟩ := hd'.cells5
  have hg05 := Ghost.tr hg04 hg5
  have hg25 := Ghost.tr hg24 hg5
  replace hqb := hqb.mono hg5
  replace hnb := hnb.mono hg5
  replace hi := hi.mono hg5
  replace hl := hl.mono hg5
  replace ha := ha.mono hg5
  replace hp := hp.mono hg5
  repeat (refine wc_seq ?_)
  refine wc_region ?_
  repeat (refine wl_p rfl rfl rfl ?_)
  refine wl_ldG hs (hnb 0 _ rfl) rfl rfl rfl rfl rfl ?_
  repeat (refine wl_p rfl rfl rfl ?_)
  refine wl_ldG hs (hnb 2 _ rfl) rfl rfl rfl rfl rfl ?_
  repeat (refine wl_p rfl rfl rfl ?_)
  refine wl_ldGN (cs := [va, vp]) hs hnb.at3 rfl rfl rfl rfl rfl rfl ?_
  refine wl_call (L := []) rfl rfl rfl hs (Cores_spec g5 n _ _ _ ls all pairs hl ha hp (by omega) (by omega) (by omega) _ hc1) ?_
  rintro u g6 L' w hg6 hs ⟨rfl, vc, rfl, rc⟩
  obtain ⟨cA, cC, rfl⟩ := rc.form
  replace hs := (show St g6 w ((db, cellsO [f1, f2, f3, f4, f5] 31) :: F) from hs)
  repeat (refine wl_p rfl rfl rfl ?_)
  refine wl_nil (wk_seq ?_)
  obtain ⟨r0, hr0, hver⟩ := verify_total hC k' d'
  generalize (if showsF (ls.map toA) (all.map Int.toNat) (pairs.map toP) k' d' r0 (List.replicate (ls.map toA).length true) 1 = true then (0 : Int) else 312) = ve at hver
  have hnb6 := hnb.mono hg6
  repeat (refine wc_seq ?_)
  refine wc_region ?_
  repeat (refine wl_p rfl rfl rfl ?_)
  refine wl_ldG hs (hnb6 0 _ rfl) rfl rfl rfl rfl rfl ?_
  repeat (refine wl_p rfl rfl rfl ?_)
  refine wl_ldG hs (hnb6 1 _ rfl) rfl rfl rfl rfl rfl ?_
  repeat (refine wl_p rfl rfl rfl ?_)
  refine wl_ldG hs (hnb6 2 _ rfl) rfl rfl rfl rfl rfl ?_
  repeat (refine wl_p rfl rfl rfl ?_)
  refine wl_ldGN (cs := [va, vp]) hs hnb6.at3 rfl rfl rfl rfl rfl rfl ?_
  refine wl_ldW hs 0 rfl rfl rfl rfl rfl rfl rfl ?_
  refine wl_call (L := []) rfl rfl rfl hs (Verify_spec k' g6 n _ _ va vp _ init ls all pairs d' (hi.mono hg6) (hl.mono hg6) (ha.mono hg6) (hp.mono hg6) (hd'.mono hg6) hok' (by omega) (by omega) (by omega) (by omega) _ hver) ?_
  rintro u g7 L' w hg7 hs ⟨rfl, rfl⟩
  have hg57 := Ghost.tr hg6 hg7
  repeat (refine wl_p rfl rfl rfl ?_)
  refine wl_nil (wk_seq ?_)
  replace hs := (show St g7 w ([(db, cellsO [f1, f2, f3, f4, f5] 31)] ++ F) from hs)
  have hnb7 := hnb.mono hg57
  have hn5 : ([.int .i64 n, vi, vl, va, vp]).all Value.oneCell' = true := by simp only [List.all_cons, List.all_nil, hi.one, hl.one, ha.one, hp.one]; rfl
  repeat (refine wc_seq ?_)
  refine wc_draw 5 [(db, cellsO [f1, f2, f3, f4, f5] 31)] pp_mix (by kernel_rfl) rfl hs ?_
  refine sg_ldGN (cs := [.int .i64 n, vi, vl, va, vp]) hnb7.at' rfl rfl rfl rfl rfl ?_
  refine sg_ldGN (cs := [.int .i64 n, vi, vl, va, vp]) hnb7.at' rfl rfl rfl rfl rfl ?_
  refine sg_newL [(db, cellsO [f1, f2, f3, f4, f5] 31)] [] [.int .i64 n, vi, vl, va, vp] rfl rfl rfl ?_
  refine sg_new rfl rfl ?_
  refine sg_stL rfl rfl rfl rfl (fun _ => rfl) hn5 rfl rfl rfl (fun _ => rfl) ?_
  refine sg_end ?_
  intro g8 w hg8
  rintro v15 L15 h15 v16 L16 ⟨_, _, b16, rfl, rfl⟩ _ Lt rfl hs
  rcases h15 with ⟨b15, rfl, rfl⟩ | ⟨b15, rfl, rfl⟩
  · exact (twice_no hs (List.mem_cons_of_mem _ (List.mem_cons_of_mem _ List.mem_cons_self))).elim
  replace hs := (show St g8 w ((b16, cellsO [.int .i64 0, .slice none 0 0, .slice none 0 0, .slice none 0 0, .slice none 0 0] 28) :: (b15, cellsO [.int .i64 n, vi, vl, va, vp] 28) :: (db, cellsO [f1, f2, f3, f4, f5] 31) :: F) from St.perm (show St g8 w ((db, cellsO [f1, f2, f3, f4, f5] 31) :: (b16, cellsO [.int .i64 0, .slice none 0 0, .slice none 0 0, .slice none 0 0, .slice none 0 0] 28) :: (b15, cellsO [.int .i64 n, vi, vl, va, vp] 28) :: F) from hs) (by classical exact List.perm_iff_count.2 fun x => by simp only [List.append_eq, List.set_cons_succ, List.set_cons_zero, List.eraseIdx_cons_zero, List.eraseIdx_cons_succ, List.count_cons, List.count_append, List.cons_append, List.nil_append, List.append_nil, List.append_assoc] <;> ac_rfl))
  refine wl_stN (cs := [.int .i64 n, vi, vl, va, vp]) hs 0 rfl rfl rfl rfl rfl (Nat.le_of_ble_eq_true rfl) hn5 rfl ?_
  clear hs; intro w hs
  refine wl_nil (wk_seq ?_)
  replace hs := (show St g8 w ((b16, cellsO [.int .i64 n, vi, vl, va, vp] 28) :: (b15, cellsO [.int .i64 n, vi, vl, va, vp] 28) :: (db, cellsO [f1, f2, f3, f4, f5] 31) :: F) from hs)
  have hg58 := Ghost.tr hg57 hg8
  have hnb8 := hnb.mono hg58
  repeat (refine wc_seq ?_)
  refine wc_region ?_
  repeat (refine wl_p rfl rfl rfl ?_)
  refine wl_ldG hs (hnb8 3 _ rfl) rfl rfl rfl rfl rfl ?_
  refine wl_call (L := []) rfl rfl rfl hs (cloneInt_spec g8 _ all (ha.mono hg58) (by omega)) ?_
  rintro u g9 L' w hg9 hs ho
  replace hs := (show St g9 w (L' ++ ((b16, cellsO [.int .i64 n, vi, vl, va, vp] 28) :: (b15, cellsO [.int .i64 n, vi, vl, va, vp] 28) :: (db, cellsO [f1, f2, f3, f4, f5] 31) :: F)) from hs)
  repeat (refine wl_p rfl rfl rfl ?_)
  refine wl_push hs ho (by omega) rfl rfl rfl rfl rfl rfl rfl rfl rfl rfl rfl rfl rfl rfl ?_
  clear hs
  intro v77 w H1 ho1 hs
  obtain ⟨g10, hg10, hs, ra2⟩ := OwnS.lendG (e := eInt) (h0 := fun _ => rfl) (all ++ [mark]) ho1 (by simp) (by simp [eInt]; rfl) hs
  replace ra2 := (show RS kInt g10 v77 (all ++ [mark]) from ra2)
  obtain ⟨a77, k77, rfl⟩ := ra2.form
  repeat (refine wl_p rfl rfl rfl ?_)
  refine wl_st hs 1 rfl rfl rfl rfl rfl rfl rfl rfl ?_; clear hs; intro w hs
  refine wl_nil (wk_seq ?_)
  replace hs := (show St g10 w ([(b16, cellsO [.int .i64 n, vi, vl, va, vp] 28)] ++ ((b15, cellsO [.int .i64 n, vi, vl, .slice a77 (all ++ [mark]).length k77, vp] 28) :: (db, cellsO [f1, f2, f3, f4, f5] 31) :: F)) from hs)
  have hg510 := Ghost.tr hg58 (Ghost.tr hg9 hg10)
  have hnb10 := hnb.mono hg510
  have hqb10 := hqb.mono hg510
  repeat (refine wc_seq ?_)
  refine wc_draw 10 [(b16, cellsO [.int .i64 n, vi, vl, va, vp] 28)] pp_mix (by kernel_rfl) rfl hs ?_
  repeat (first | refine sg_p rfl rfl ?_ | refine sg_skip rfl rfl ?_)
  refine sg_ldG (hnb10 4 _ rfl) rfl rfl rfl rfl ?_
  refine sg_callL [] [(b16, cellsO [.int .i64 n, vi, vl, va, vp] 28)] rfl rfl rfl (fun g' hg' => clonePair_spec g' _ pairs (hp.mono (Ghost.tr hg510 hg')) (by omega)) ?_
  refine sg_ldGN (cs := ePairI pair) hqb10.at' rfl rfl rfl rfl rfl ?_
  refine sg_one (ys := ePairI pair) rfl rfl rfl rfl rfl rfl rfl rfl ?_
  refine sg_appendC (n := pairs.length) (cs := pairs.flatMap ePairI) rfl ?_ (by omega) rfl rfl rfl rfl rfl rfl rfl rfl rfl rfl rfl rfl rfl (fun _ _ => rfl) ?_
  · exact fun g v L ⟨g1, _, h⟩ => h
  repeat (first | refine sg_p rfl rfl ?_ | refine sg_skip rfl rfl ?_)
  refine sg_stC (i := 4) (lent_mono _) [] rfl rfl (fun g v L ⟨g1, _, h⟩ => h.one) rfl rfl rfl (fun _ => rfl) rfl rfl rfl (fun _ => rfl) ?_
  refine sg_end ?_
  intro g11 w hg11
  rintro _ L83 _ _ _ ⟨_, _, _, rfl, rfl, _⟩ _ L86 _ _ _ ⟨v86, L1, rfl, ⟨_, _, ho2⟩⟩ hs
  replace hs := (show St g11 w (L83 ++ (L86 ++ (L1 ++ ((b16, cellsO [.int .i64 n, vi, vl, va, v86] 28) :: (b15, cellsO [.int .i64 n, vi, vl, .slice a77 (all ++ [mark]).length k77, vp] 28) :: (db, cellsO [f1, f2, f3, f4, f5] 31) :: F)))) from St.perm hs (by classical exact List.perm_iff_count.2 fun x => by simp only [List.append_eq, List.set_cons_succ, List.set_cons_zero, List.eraseIdx_cons_zero, List.eraseIdx_cons_succ, List.count_cons, List.count_append, List.cons_append, List.nil_append, List.append_nil, List.append_assoc] <;> ac_rfl)).dropL.dropL
  obtain ⟨g12, hg12, hs, rp2⟩ := OwnS.lendG (e := ePairI) (h0 := fun _ => rfl) (pairs ++ [pair]) ho2 (by simp) (by simp) hs
  replace rp2 := (show RS kPairI g12 v86 (pairs ++ [pair]) from rp2)
  refine wl_nil (wk_seq ?_)
  obtain ⟨a86, k86, rfl⟩ := rp2.form
  have hg512 := Ghost.tr hg510 (Ghost.tr hg11 hg12)
  repeat (refine wc_seq ?_)
  refine wc_region ?_
  refine wl_ldW hs 1 rfl rfl rfl rfl rfl rfl rfl ?_
  refine wl_ldW hs 0 rfl rfl rfl rfl rfl rfl rfl ?_
  refine wl_lit (ps := [(0, .tmp 89), (1, .tmp 90)]) hs rfl rfl rfl rfl rfl rfl rfl rfl rfl rfl ?_
  clear hs; intro mb w hs
  repeat (refine wl_p rfl rfl rfl ?_)
  refine wl_nil (wk_seq ?_)
  obtain ⟨g13, hg13, hs, hmb⟩ := freezeB hs
  have hg513 := Ghost.tr hg512 hg13
  replace hs := (show St g13 w ((b16, cellsO [.int .i64 n, vi, vl, va, .slice a86 (pairs ++ [pair]).length k86] 28) :: (b15, cellsO [.int .i64 n, vi, vl, .slice a77 (all ++ [mark]).length k77, vp] 28) :: (db, cellsO [f1, f2, f3, f4, f5] 31) :: F) from hs).drop.drop
  replace hmb := (show Lies g13 mb 0 [.int .i64 n, vi, vl, .slice a77 (all ++ [mark]).length k77, vp, .int .i64 n, vi, vl, va, .slice a86 (pairs ++ [pair]).length k86] from hmb)
  have hel : ∀ i, i < 2 → ∃ va' vp' a2 p2, Lies g13 mb (i * 5) [.int .i64 n, vi, vl, va', vp'] ∧ RS kInt g13 va' (all ++ a2) ∧ RS kPairI g13 vp' (pairs ++ p2) := by
    intro i hi2
    rcases i with _ | _ | i
    · refine ⟨_, _, [mark], [], fun j v hv => hmb j v ?_, ra2.mono (Ghost.tr hg11 (Ghost.tr hg12 hg13)), by rw [List.append_nil]; exact hp.mono hg513⟩
      rcases j with _ | _ | _ | _ | _ | j <;> simp at hv ⊢ <;> exact hv
    · refine ⟨_, _, [], [pair], fun j v hv => ?_, by rw [List.append_nil]; exact ha.mono hg513, rp2.mono hg13⟩
      have := hmb (5 + j) v (by rcases j with _ | _ | _ | _ | _ | j <;> simp at hv ⊢ <;> exact hv)
      rw [Nat.zero_add] at this
      exact this
    · omega
  refine wc_for 2 (fun _ (_ : Unit) => [(92, .int .i64 2), (91, .slice (some ⟨mb, 0, none⟩) 2 2), (5, .pointer (some ⟨db, 0, none⟩)), (12, .slice cA c.length cC), (13, .int .i64 0), (14, .bool (ve == 0))])
    (fun i (_ : Unit) w => ∃ g', g13 ≤ g' ∧ St g' w ((db, cellsO [f1, f2, f3, f4, f5] 31) :: F)) () (by omega) (by repeat (first | exact trivial | refine ⟨rfl, ?_⟩)) ⟨g13, Ghost.rfl', hs⟩ (fun _ _ => rfl) rfl rfl rfl ?_ ?_ (fun _ _ => rfl) rfl
  · clear hs
    rintro i _ w hii ⟨g14, hg14, hs⟩
    obtain ⟨va', vp', a2, p2', hc', ra', rp'⟩ := hel i hii
    replace hc' := hc'.mono hg14
    replace ra' := ra'.mono hg14
    replace rp' := rp'.mono hg14
    have hg514 := Ghost.tr hg513 hg14
    have hm5 : [.int .i64 n, vi, vl, va', vp'].all Value.oneCell' = true := by simp only [List.all_cons, List.all_nil, hi.one, hl.one, ra'.one, rp'.one]; rfl
    repeat (refine wc_seq ?_)
    refine wc_region ?_
    refine wl_ixS i 5 rfl rfl rfl rfl rfl hii rfl rfl rfl ?_
    refine wl_ldGN (cs := [.int .i64 n, vi, vl, va', vp']) hs hc'.at' rfl rfl rfl rfl rfl rfl ?_
    refine wl_new hs rfl rfl rfl ?_; clear hs; intro tb w hs
    refine wl_stN (cs := [.int .i64 n, vi, vl, va', vp']) hs 0 rfl rfl rfl rfl rfl (Nat.le_of_ble_eq_true rfl) hm5 rfl ?_
    clear hs; intro w hs
    refine wl_nil (wk_seq ?_)
    obtain ⟨g15, hg15, hs, htb⟩ := freezeB hs
    replace hs := (show St g15 w ((db, cellsO [f1, f2, f3, f4, f5] 31) :: F) from hs)
    replace htb := (show Lies g15 tb 0 [.int .i64 n, vi, vl, va', vp'] from htb)
    have hg515 := Ghost.tr hg514 hg15
    replace ra' := ra'.mono hg15
    replace rp' := rp'.mono hg15
    repeat (refine wc_seq ?_)
    refine wc_region ?_
    refine wl_ldGN (cs := [.int .i64 n, vi, vl, va', vp']) hs htb.at' rfl rfl rfl rfl rfl rfl ?_
    refine wl_call (L := []) rfl rfl rfl hs (right_spec g15 n _ _ _ _ init ls (all ++ a2) (pairs ++ p2') (hi.mono hg515) (hl.mono hg515) ra' rp') ?_
    rintro u g16 L' w hg16 hs ⟨rfl, rfl⟩
    replace hs := (show St g16 w ((db, cellsO [f1, f2, f3, f4, f5] 31) :: F) from hs)
    have hg516 := Ghost.tr hg515 hg16
    have hg1316 := Ghost.tr hg14 (Ghost.tr hg15 hg16)
    replace htb := htb.mono hg16
    replace ra' := ra'.mono hg16
    replace rp' := rp'.mono hg16
    repeat (refine wl_p rfl rfl rfl ?_)
    refine wl_nil (wk_seq ?_)
    refine wc_cond rfl (fun q5 => ?_) (fun q5 => ?_)
    · exact wc_exit rfl (wk_next () hii (by omega) ⟨g16, hg1316, hs⟩ rfl rfl rfl (by repeat (first | exact trivial | refine ⟨rfl, ?_⟩)))
    · have hR2 : rightB n init ls (all ++ a2) (pairs ++ p2') = true := by
        have : (!rightB n init ls (all ++ a2) (pairs ++ p2')) = false := q5
        simpa using this
      obtain ⟨⟨m1, m2, m3, m4⟩, hC2⟩ := rightB_iff hR2
      obtain ⟨c2, hd1, hd2, hd3, hd4⟩ := coresI_small hC2 hn12 (by omega)
      have hwi := cores_less hc4 hd4
      refine wc_skip (wk_seq ?_)
      repeat (refine wc_seq ?_)
      refine wc_region ?_
      repeat (refine wl_p rfl rfl rfl ?_)
      refine wl_ldG hs (htb 0 _ rfl) rfl rfl rfl rfl rfl ?_
      repeat (refine wl_p rfl rfl rfl ?_)
      refine wl_ldG hs (htb 2 _ rfl) rfl rfl rfl rfl rfl ?_
      repeat (refine wl_p rfl rfl rfl ?_)
      refine wl_ldGN (cs := [va', vp']) hs htb.at3 rfl rfl rfl rfl rfl rfl ?_
      refine wl_call (L := []) rfl rfl rfl hs (Cores_spec g16 n _ _ _ ls (all ++ a2) (pairs ++ p2') (hl.mono hg516) ra' rp' (by omega) (by omega) (by omega) _ hd1) ?_
      rintro u g17 L' w hg17 hs ⟨rfl, v2, rfl, rc2⟩
      replace hs := (show St g17 w ((db, cellsO [f1, f2, f3, f4, f5] 31) :: F) from hs)
      obtain ⟨a2', k2', rfl⟩ := rc2.form
      have hg517 := Ghost.tr hg516 hg17
      have hg1317 := Ghost.tr hg1316 hg17
      repeat (refine wl_p rfl rfl rfl ?_)
      refine wl_nil (wk_seq ?_)
      repeat (refine wc_seq ?_)
      refine wc_region ?_
      repeat (first | refine wl_p rfl rfl rfl ?_ | refine wl_skip rfl rfl rfl ?_)
      refine wl_call (L := []) rfl rfl rfl hs (lawWithin_spec g17 _ _ _ _ rc2.ofNat (rc.mono (Ghost.tr (Ghost.tr hg7 (Ghost.tr hg8 (Ghost.tr hg9 (Ghost.tr hg10 (Ghost.tr hg11 (Ghost.tr hg12 hg13)))))) hg1317)).ofNat (by simp; omega) (by simp; omega)) ?_
      rintro u g18 L' w hg18 hs ⟨rfl, rfl⟩
      replace hs := (show St g18 w ((db, cellsO [f1, f2, f3, f4, f5] 31) :: F) from hs)
      rw [hwi]
      have hg518 := Ghost.tr hg517 hg18
      have hg1318 := Ghost.tr hg1317 hg18
      have hg1618 := Ghost.tr hg17 hg18
      repeat (refine wl_p rfl rfl rfl ?_)
      refine wl_case 124 rfl (fun q6 => ?_) (fun q6 => ?_)
      · repeat (first | refine wl_p rfl rfl rfl ?_ | refine wl_skip rfl rfl rfl ?_)
        have hve : ve = 0 := by simpa using q6
        rw [hve] at hver
        have hver2 := verify_more hC hC2 hver
        replace htb := htb.mono hg1618
        refine wl_ldG hs (htb 0 _ rfl) rfl rfl rfl rfl rfl ?_
        repeat (first | refine wl_p rfl rfl rfl ?_ | refine wl_skip rfl rfl rfl ?_)
        refine wl_ldG hs (htb 1 _ rfl) rfl rfl rfl rfl rfl ?_
        repeat (first | refine wl_p rfl rfl rfl ?_ | refine wl_skip rfl rfl rfl ?_)
        refine wl_ldG hs (htb 2 _ rfl) rfl rfl rfl rfl rfl ?_
        repeat (first | refine wl_p rfl rfl rfl ?_ | refine wl_skip rfl rfl rfl ?_)
        refine wl_ldGN (cs := [va', vp']) hs htb.at3 rfl rfl rfl rfl rfl rfl ?_
        refine wl_ldW hs 0 rfl rfl rfl rfl rfl rfl rfl ?_
        refine wl_call (L := []) rfl rfl rfl hs (Verify_spec k' g18 n _ _ va' vp' _ init ls (all ++ a2) (pairs ++ p2') d' (hi.mono hg518) (hl.mono hg518) (ra'.mono hg1618) (rp'.mono hg1618) (hd'.mono hg518) hok' (by omega) (by omega) (by omega) (by omega) _ hver2) ?_
        rintro u g19 L' w hg19 hs ⟨rfl, rfl⟩
        replace hs := (show St g19 w ((db, cellsO [f1, f2, f3, f4, f5] 31) :: F) from hs)
        repeat (first | refine wl_p rfl rfl rfl ?_ | refine wl_skip rfl rfl rfl ?_)
        refine wl_nil (wk_seq ?_)
        exact wc_condF rfl rfl (wc_skip (wk_blk (wk_next () hii (by omega) ⟨g19, Ghost.tr hg1318 hg19, hs⟩ rfl rfl rfl (by repeat (first | exact trivial | refine ⟨rfl, ?_⟩)))))
      · repeat (first | refine wl_p rfl rfl rfl ?_ | refine wl_skip rfl rfl rfl ?_)
        refine wl_nil (wk_seq ?_)
        exact wc_condF rfl rfl (wc_skip (wk_blk (wk_next () hii (by omega) ⟨g18, hg1318, hs⟩ rfl rfl rfl (by repeat (first | exact trivial | refine ⟨rfl, ?_⟩)))))
  · clear hs
    rintro _ w ⟨g14, hg14, hs⟩
    refine wk_seq ?_
    repeat (refine wc_seq ?_)
    refine wc_region ?_
    repeat (refine wl_p rfl rfl rfl ?_)
    refine wl_nil (wk_seq ?_)
    exact wc_retV (res1 rfl rfl) (fin (L1 := [_]) (Ghost.tr hg25 (Ghost.tr hg513 hg14)) hs)
end Go.Proofs.Ytnanffbjmfgafaa.S
