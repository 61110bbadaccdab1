/- What the statement FairCores is proved with, part 5: walks of the code, each against a pure version of it. -/
import Derived.Test.YtnanffbjmfgafaaWFairCores4
set_option linter.all false
namespace Go.Proofs.Ytnanffbjmfgafaa.S
open Go.RowKit
inductive Wk (ls : List Arrow) (P : Nat → Prop) : Nat → List Nat → Nat → Prop
  | nil (x : Nat) : Wk ls P x [] x
  | cons {k y : Nat} {w : List Nat} : k < ls.length → P k → Wk ls P (toOf ls k) w y → Wk ls P (frOf ls k) (k :: w) y
section
variable {ls : List Arrow} {P Q : Nat → Prop}
theorem Wk.mono {x y : Nat} {w : List Nat} (h : Wk ls P x w y) (hPQ : ∀ k ∈ w, P k → Q k) : Wk ls Q x w y := by
  induction h with
  | nil x => exact .nil x
  | cons hk hp _ ih => exact .cons hk (hPQ _ (by simp) hp) (ih fun k hk h => hPQ k (by simp [hk]) h)
theorem Wk.all {x y : Nat} {w : List Nat} (h : Wk ls P x w y) : ∀ k ∈ w, k < ls.length ∧ P k := by
  induction h with
  | nil x => intro k hk; cases hk
  | cons hk hp _ ih =>
    intro k hk2
    rcases List.mem_cons.1 hk2 with e | h
    · rw [e]; exact ⟨hk, hp⟩
    · exact ih k h
theorem Wk.app {x y z : Nat} {w v : List Nat} (h : Wk ls P x w y) (k : Wk ls P y v z) : Wk ls P x (w ++ v) z := by
  induction h with
  | nil x => exact k
  | cons hk hp _ ih => exact .cons hk hp (ih k)
theorem Wk.one {k : Nat} (hk : k < ls.length) (hp : P k) : Wk ls P (frOf ls k) [k] (toOf ls k) := .cons hk hp (.nil _)
theorem frOf_at {k : Nat} (h : k < ls.length) : frOf ls k = (ls[k]).fr := by unfold frOf; rw [List.getElem?_eq_getElem h]
theorem toOf_at {k : Nat} (h : k < ls.length) : toOf ls k = (ls[k]).to := by unfold toOf; rw [List.getElem?_eq_getElem h]
theorem mem_outAt {x k : Nat} : k ∈ outAt ls ls.length x ↔ k < ls.length ∧ frOf ls k = x := by
  unfold outAt
  rw [List.mem_filter, List.mem_range]
  constructor
  · rintro ⟨h1, h2⟩
    rw [List.getElem?_eq_getElem h1] at h2
    exact ⟨h1, by rw [frOf_at h1]; simpa using h2⟩
  · rintro ⟨h1, h2⟩
    rw [frOf_at h1] at h2
    exact ⟨h1, by rw [List.getElem?_eq_getElem h1]; simpa using h2⟩
theorem arrIn_iff {nodes : List Nat} {on : List Bool} {k : Nat} (hk : k < ls.length) : arrIn ls nodes on k = true ↔ on.getD k false = true ∧ toOf ls k ∈ nodes := by
  unfold arrIn
  rw [toOf_at hk, List.getElem?_eq_getElem hk]
  simp
theorem mem_withinF {nodes : List Nat} {on : List Bool} {k : Nat} : k ∈ withinF ls nodes on ↔ k < ls.length ∧ frOf ls k ∈ nodes ∧ on.getD k false = true ∧ toOf ls k ∈ nodes := by
  unfold withinF
  rw [List.mem_flatMap]
  constructor
  · rintro ⟨x, hx, h⟩
    obtain ⟨h1, h2⟩ := List.mem_filter.1 h
    obtain ⟨h3, h4⟩ := mem_outAt.1 h1
    exact ⟨h3, h4 ▸ hx, (arrIn_iff h3).1 h2⟩
  · rintro ⟨h1, h2, h3⟩
    exact ⟨_, h2, List.mem_filter.2 ⟨mem_outAt.2 ⟨h1, rfl⟩, (arrIn_iff h1).2 h3⟩⟩
theorem edge_iff {nodes : List Nat} {on : List Bool} {x y : Nat} : EdgeP ls nodes on x y ↔ ∃ k, k < ls.length ∧ frOf ls k = x ∧ toOf ls k = y ∧ on.getD k false = true ∧ y ∈ nodes := by
  unfold EdgeP
  constructor
  · rintro ⟨k, h1, h2, rfl⟩
    obtain ⟨h3, h4⟩ := mem_outAt.1 h1
    obtain ⟨h5, h6⟩ := (arrIn_iff h3).1 h2
    exact ⟨k, h3, h4, rfl, h5, h6⟩
  · rintro ⟨k, h1, h2, rfl, h3, h4⟩
    exact ⟨k, mem_outAt.2 ⟨h1, h2⟩, (arrIn_iff h1).2 ⟨h3, h4⟩, rfl⟩
theorem rc_wk {nodes : List Nat} {on : List Bool} {x y : Nat} (h : Rc (EdgeP ls nodes on) x y) : ∃ w, Wk ls (fun k => on.getD k false = true ∧ toOf ls k ∈ nodes) x w y := by
  induction h with
  | refl => exact ⟨[], .nil _⟩
  | tail _ e ih =>
    obtain ⟨w, hw⟩ := ih
    obtain ⟨k, h1, rfl, rfl, h2, h3⟩ := edge_iff.1 e
    exact ⟨_, hw.app (.one h1 ⟨h2, h3⟩)⟩
end
def Sats (ls : List Arrow) (all : List Nat) (pairs : List (Nat × Nat)) (l : List Nat) : Prop :=
  (∀ m ∈ all, ∃ k ∈ l, hasM ls k m = true) ∧ ∀ p ∈ pairs, (∃ k ∈ l, hasM ls k p.1 = true) → ∃ k ∈ l, hasM ls k p.2 = true
theorem metF_at (ls : List Arrow) (l : List Nat) {m : Nat} (h : m < 16) : (metF ls l).getD m false = l.any fun k => hasM ls k m := by
  unfold metF
  rw [List.getD_eq_getElem?_getD, List.getElem?_map, List.getElem?_range h]
  rfl
section
variable {ls : List Arrow} {all : List Nat} {pairs : List (Nat × Nat)} {l : List Nat}
theorem met_yes {m : Nat} (h : m < 16) : (metF ls l).getD m false = true ↔ ∃ k ∈ l, hasM ls k m = true := by rw [metF_at _ _ h]; simp
theorem met_no {m : Nat} (h : m < 16) : (metF ls l).getD m false = false ↔ ∀ k ∈ l, hasM ls k m = false := by rw [metF_at _ _ h]; simp
theorem lack_cases (hw : ValidW all pairs) :
    (∃ i, lackingF (metF ls l) all pairs = (3, i) ∧ ∃ m ∈ all, ∀ k ∈ l, hasM ls k m = false) ∨
    (∃ i, ∃ h : i < pairs.length, lackingF (metF ls l) all pairs = (4, i) ∧ (∃ k ∈ l, hasM ls k pairs[i].1 = true) ∧ ∀ k ∈ l, hasM ls k pairs[i].2 = false) ∨
    (lackingF (metF ls l) all pairs = (0, 0) ∧ Sats ls all pairs l) := by
  unfold lackingF
  split
  · rename_i i h
    obtain ⟨h1, h2, _⟩ := List.findIdx?_eq_some_iff_getElem.1 h
    refine .inl ⟨i, rfl, all[i], List.getElem_mem h1, ?_⟩
    exact (met_no (hw.all_ok _ (List.getElem_mem h1))).1 (by simpa using h2)
  · rename_i h
    have hall := List.findIdx?_eq_none_iff.1 h
    split
    · rename_i i h
      obtain ⟨h1, h2, _⟩ := List.findIdx?_eq_some_iff_getElem.1 h
      have hp := hw.pairs_ok _ (List.getElem_mem h1)
      simp only [Bool.and_eq_true, Bool.not_eq_true'] at h2
      exact .inr (.inl ⟨i, h1, rfl, (met_yes hp.1).1 h2.1, (met_no hp.2).1 h2.2⟩)
    · rename_i h
      have hprs := List.findIdx?_eq_none_iff.1 h
      refine .inr (.inr ⟨rfl, fun m hm => (met_yes (hw.all_ok m hm)).1 (by simpa using hall m hm), fun p hp h1 => ?_⟩)
      have h2 := hprs p hp
      have hpo := hw.pairs_ok p hp
      rw [(met_yes hpo.1).2 h1] at h2
      exact (met_yes hpo.2).1 (by simpa using h2)
end
theorem comp_uniq {cs : List (List Nat)} (h : cs.flatten.Nodup) {i j : Nat} (hi : i < cs.length) (hj : j < cs.length) {x : Nat} (h1 : x ∈ cs[i]) (h2 : x ∈ cs[j]) : i = j := by
  have hp := (List.pairwise_flatten.1 h).2
  rcases Nat.lt_trichotomy i j with hlt | e | hlt
  · exact absurd rfl (List.pairwise_iff_getElem.1 hp i j hi hj hlt x h1 x h2)
  · exact e
  · exact absurd rfl (List.pairwise_iff_getElem.1 hp j i hj hi hlt x h2 x h1)
section
variable {ls : List Arrow} {nodes : List Nat} {on : List Bool} {cs : List (List Nat)}
theorem wk_ord (hc : CompsOk ls nodes on cs) {x y : Nat} {w : List Nat} (h : Wk ls (fun k => on.getD k false = true ∧ toOf ls k ∈ nodes) x w y) : ∀ a (ha : a < cs.length), x ∈ cs[a] →
    ∃ b, ∃ hb : b < cs.length, b ≤ a ∧ y ∈ cs[b] ∧ ∀ k ∈ w, ∃ j, ∃ hj : j < cs.length, ∃ j', ∃ hj' : j' < cs.length, b ≤ j' ∧ j' ≤ j ∧ j ≤ a ∧ frOf ls k ∈ cs[j] ∧ toOf ls k ∈ cs[j'] := by
  induction h with
  | nil x => intro a ha hx; exact ⟨a, ha, Nat.le_refl _, hx, fun k hk => by cases hk⟩
  | @cons k y w hk hp _ ih =>
    intro a ha hx
    obtain ⟨c, hc1, hc2, hc3⟩ := hc.ord a ha _ hx (toOf ls k) (edge_iff.2 ⟨k, hk, rfl, rfl, hp.1, hp.2⟩)
    obtain ⟨b, hb, h1, h2, h3⟩ := ih c hc1 hc3
    refine ⟨b, hb, by omega, h2, fun q hq => ?_⟩
    rcases List.mem_cons.1 hq with e | hq
    · rw [e]; exact ⟨a, ha, c, hc1, h1, hc2, Nat.le_refl _, hx, hc3⟩
    · obtain ⟨j, hj, j', hj', h4, h5, h6, h7⟩ := h3 q hq
      exact ⟨j, hj, j', hj', h4, h5, by omega, h7⟩
theorem wk_stays (hc : CompsOk ls nodes on cs) {x y : Nat} {w : List Nat} (h : Wk ls (fun k => on.getD k false = true ∧ toOf ls k ∈ nodes) x w y) {c : List Nat} (hcm : c ∈ cs) (hx : x ∈ c) (hy : y ∈ c) : ∀ k ∈ w, k ∈ withinF ls c on := by
  obtain ⟨i, hi, rfl⟩ := List.getElem_of_mem hcm
  obtain ⟨b, hb, h1, h2, h3⟩ := wk_ord hc h i hi hx
  have e := comp_uniq hc.nodup hb hi h2 hy
  subst e
  intro k hk
  obtain ⟨j, hj, j', hj', h4, h5, h6, h7, h8⟩ := h3 k hk
  have e1 : j = b := by omega
  have e2 : j' = b := by omega
  subst e1; subst e2
  have := h.all k hk
  exact mem_withinF.2 ⟨this.1, h7, this.2.1, h8⟩
theorem comp_conn (hc : CompsOk ls nodes on cs) {c : List Nat} (hcm : c ∈ cs) {x y : Nat} (hx : x ∈ c) (hy : y ∈ c) : ∃ w, Wk ls (· ∈ withinF ls c on) x w y := by
  obtain ⟨w, hw⟩ := rc_wk ((hc.scc c hcm).2.2 x hx y hy)
  exact ⟨w, hw.mono fun k hk _ => wk_stays hc hw hcm hx hy k hk⟩
end
structure GoodOk (ls : List Arrow) (all : List Nat) (pairs : List (Nat × Nat)) (nodes : List Nat) (on : List Bool) (xs : GL) : Prop where
  sub : ∀ p ∈ xs, ∀ x ∈ p.1, x ∈ nodes
  ne : ∀ p ∈ xs, p.1 ≠ []
  sorted : ∀ p ∈ xs, p.1.Pairwise (· ≤ ·)
  conn : ∀ p ∈ xs, ∀ x ∈ p.1, ∀ y ∈ p.1, ∃ w, Wk ls (· ∈ p.2) x w y
  arrow : ∀ p ∈ xs, p.2 ≠ []
  len : ∀ p ∈ xs, p.2.length ≤ p.1.length * ls.length
  within : ∀ p ∈ xs, ∀ k ∈ p.2, k < ls.length ∧ on.getD k false = true ∧ frOf ls k ∈ p.1 ∧ toOf ls k ∈ p.1
  sats : ∀ p ∈ xs, Sats ls all pairs p.2
  nodup : (xs.flatMap (·.1)).Nodup
  full : ∀ x w, x ∈ nodes → w ≠ [] → Wk ls (fun k => on.getD k false = true ∧ toOf ls k ∈ nodes) x w x → Sats ls all pairs w → ∃ p ∈ xs, ∀ k ∈ w, k ∈ p.2
def onCnt (ls : List Arrow) (on : List Bool) : Nat := (List.range ls.length).countP fun k => on.getD k false
theorem withoutF_at {ls : List Arrow} {on : List Bool} {m k : Nat} (h : k < ls.length) : (withoutF ls on m).getD k false = (on.getD k false && !hasM ls k m) := by
  unfold withoutF
  rw [List.getD_eq_getElem?_getD, List.getElem?_map, List.getElem?_range h]
  rfl
theorem countP_lt {α : Type} {p q : α → Bool} : ∀ {l : List α}, (∀ x ∈ l, p x = true → q x = true) → (∃ x ∈ l, q x = true ∧ p x = false) → l.countP p < l.countP q
  | [], _, ⟨_, h, _⟩ => by cases h
  | a :: l, h, ⟨x, hx, h1, h2⟩ => by
    have hle : l.countP p ≤ l.countP q := List.countP_mono_left fun x hx => h x (by simp [hx])
    rw [List.countP_cons, List.countP_cons]
    rcases List.mem_cons.1 hx with e | hx
    · subst e
      rw [h1, h2]
      simp only [Bool.false_eq_true, if_false, if_true]
      omega
    · have ih := countP_lt (fun x hx => h x (by simp [hx])) ⟨x, hx, h1, h2⟩
      have := h a (by simp)
      by_cases hp : p a = true
      · rw [hp, this hp]; omega
      · rw [if_neg hp]; omega
theorem onCnt_without {ls : List Arrow} {on : List Bool} {m k : Nat} (hk : k < ls.length) (h1 : on.getD k false = true) (h2 : hasM ls k m = true) : onCnt ls (withoutF ls on m) < onCnt ls on := by
  refine countP_lt (fun j hj h => ?_) ⟨k, List.mem_range.2 hk, h1, by rw [withoutF_at hk, h2]; simp⟩
  rw [withoutF_at (List.mem_range.1 hj)] at h
  exact (Bool.and_eq_true _ _ ▸ h).1
theorem seqO_ok {α β : Type} {f : α → Option (List β)} : ∀ {cs : List α}, (∀ c ∈ cs, ∃ x, f c = some x) → seqO (cs.map f) = some (cs.flatMap fun c => (f c).getD [])
  | [], _ => rfl
  | c :: cs, h => by
    obtain ⟨x, hx⟩ := h c (by simp)
    have ih := seqO_ok (f := f) (cs := cs) fun d hd => h d (List.mem_cons_of_mem _ hd)
    simp only [List.map_cons, seqO, hx, ih, List.flatMap_cons, Option.getD_some]
end Go.Proofs.Ytnanffbjmfgafaa.S
namespace Go.Proofs.Ytnanffbjmfgafaa.S
open Go.RowKit
theorem asc_len : ∀ (l : List Nat) (n b : Nat), l.Pairwise (· < ·) → (∀ x ∈ l, b ≤ x ∧ x < n) → l.length ≤ n - b
  | [], _, _, _, _ => Nat.zero_le _
  | x :: r, n, b, h, hb => by
    obtain ⟨h1, h2⟩ := List.pairwise_cons.1 h
    have hx := hb x (by simp)
    have ih := asc_len r n (b + 1) h2 fun y hy => by
      have := h1 y hy
      have := (hb y (by simp [hy])).2
      omega
    simp only [List.length_cons]
    omega
theorem asc_of {l : List Nat} (h : l.Pairwise (· ≤ ·)) (hn : l.Nodup) : l.Pairwise (· < ·) := (List.pairwise_and_iff.2 ⟨h, hn⟩).imp fun ⟨h1, h2⟩ => Nat.lt_of_le_of_ne h1 h2
theorem ndLen {l : List Nat} {n : Nat} (hn : l.Nodup) (hb : ∀ x ∈ l, x < n) : l.length ≤ n := by
  have h := asc_len (sortN l) n 0 (asc_of (sortN_sorted l) ((sortN_perm l).nodup_iff.2 hn)) fun x hx => ⟨Nat.zero_le _, hb x ((sortN_perm l).mem_iff.1 hx)⟩
  rw [sortN_length] at h
  omega
section
variable {ls : List Arrow} {all : List Nat} {pairs : List (Nat × Nat)}
theorem wk_within {c : List Nat} {on : List Bool} {x y : Nat} {w : List Nat} (h : Wk ls (fun k => on.getD k false = true ∧ toOf ls k ∈ c) x w y) : x ∈ c → ∀ k ∈ w, k ∈ withinF ls c on := by
  induction h with
  | nil x => intro _ k hk; cases hk
  | cons hk hp _ ih =>
    intro hx k hk2
    rcases List.mem_cons.1 hk2 with e | h
    · rw [e]; exact mem_withinF.2 ⟨hk, hx, hp.1, hp.2⟩
    · exact ih hp.2 k h
theorem good_none {c : List Nat} {on : List Bool} (h : ∀ x w, x ∈ c → w ≠ [] → Wk ls (fun k => on.getD k false = true ∧ toOf ls k ∈ c) x w x → ¬ Sats ls all pairs w) : GoodOk ls all pairs c on [] :=
  ⟨fun p h => by (cases h), fun p h => by (cases h), fun p h => by (cases h), fun p h => by (cases h), fun p h => by (cases h), fun p h => by (cases h), fun p h => by (cases h), fun p h => by (cases h), by simp, fun x w h1 h2 h3 h4 => absurd h4 (h x w h1 h2 h3)⟩
theorem comp_nodup {cs : List (List Nat)} (h : cs.flatten.Nodup) {c : List Nat} (hc : c ∈ cs) : c.Nodup := (List.pairwise_flatten.1 h).1 c hc
theorem goodC_ok {n f : Nat} {nodes : List Nat} {on : List Bool} {cs : List (List Nat)} (hw : ValidW all pairs) (hn : n ≤ 20000) (hc : CompsOk ls nodes on cs) {c : List Nat} (hcm : c ∈ cs) (hcn : ∀ x ∈ c, x < n) (hf : onCnt ls on < f + 1)
    (ih : ∀ on', onCnt ls on' < f → ∃ xs, goodR n ls all pairs f c on' = some xs ∧ GoodOk ls all pairs c on' xs) : ∃ xs, goodC n ls all pairs (goodR n ls all pairs f) on c = some xs ∧ GoodOk ls all pairs c on xs := by
  have hlen := ndLen (comp_nodup hc.nodup hcm) hcn
  have h0 : (c.all (fun x => decide (x < n)) && decide (c.length ≤ 20000)) = true := by
    simp only [Bool.and_eq_true, List.all_eq_true, decide_eq_true_eq]
    exact ⟨hcn, by omega⟩
  unfold goodC
  rw [if_pos h0]
  by_cases hwi : (withinF ls c on).length = 0
  · rw [if_pos hwi]
    refine ⟨_, rfl, good_none fun x w hx hne hwk _ => ?_⟩
    obtain ⟨k, r, rfl⟩ := List.exists_cons_of_ne_nil hne
    have := wk_within hwk hx k (by simp)
    rw [List.length_eq_zero_iff.1 hwi] at this
    cases this
  · rw [if_neg hwi]
    rcases lack_cases (ls := ls) (l := withinF ls c on) hw with ⟨i, e, m, hm, h⟩ | ⟨i, hi, e, h1, h2⟩ | ⟨e, h⟩
    · rw [e]
      refine ⟨_, rfl, good_none fun x w hx hne hwk hs => ?_⟩
      obtain ⟨k, hk, h3⟩ := hs.1 m hm
      rw [h k (wk_within hwk hx k hk)] at h3
      cases h3
    · rw [e]
      simp only
      obtain ⟨k0, hk0, hm0⟩ := h1
      have hk1 := mem_withinF.1 hk0
      have hpd : pairs.getD i (0, 0) = pairs[i] := by rw [List.getD_eq_getElem?_getD, List.getElem?_eq_getElem hi]; rfl
      rw [hpd]
      have hlt := onCnt_without hk1.1 hk1.2.2.1 hm0
      obtain ⟨xs, hx1, hx2⟩ := ih (withoutF ls on pairs[i].1) (by omega)
      refine ⟨xs, hx1, hx2.sub, hx2.ne, hx2.sorted, hx2.conn, hx2.arrow, hx2.len, fun p hp k hk => ?_, hx2.sats, hx2.nodup, fun x w hx hne hwk hs => ?_⟩
      · obtain ⟨h3, h4, h5⟩ := hx2.within p hp k hk
        rw [withoutF_at h3] at h4
        exact ⟨h3, (Bool.and_eq_true _ _ ▸ h4).1, h5⟩
      · refine hx2.full x w hx hne (hwk.mono fun k hk hp => ⟨?_, hp.2⟩) hs
        have hkl := (hwk.all k hk).1
        rw [withoutF_at hkl, hp.1]
        by_cases hm : hasM ls k pairs[i].1 = true
        · exfalso
          obtain ⟨j, hj, h3⟩ := hs.2 _ (List.getElem_mem hi) ⟨k, hk, hm⟩
          rw [h2 j (wk_within hwk hx j hj)] at h3
          cases h3
        · simpa using hm
    · rw [e]
      simp only
      refine ⟨_, rfl, fun p hp => ?_, fun p hp => ?_, fun p hp => ?_, fun p hp => ?_, fun p hp => ?_, fun p hp => ?_, fun p hp => ?_, fun p hp => ?_, ?_, fun x w hx hne hwk hs => ?_⟩
      · rw [List.mem_singleton.1 hp]; exact fun x h => h
      · rw [List.mem_singleton.1 hp]; exact (hc.scc c hcm).1
      · rw [List.mem_singleton.1 hp]; exact (hc.scc c hcm).2.1
      · rw [List.mem_singleton.1 hp]; exact fun x hx y hy => comp_conn hc hcm hx hy
      · rw [List.mem_singleton.1 hp]; exact fun e => hwi (by rw [show withinF ls c on = [] from e]; rfl)
      · rw [List.mem_singleton.1 hp]; exact flat_len (fun x => (outAt ls ls.length x).filter (arrIn ls c on)) ls.length c (fun x _ => Nat.le_trans (List.length_filter_le _ _) (outAt_len _ _ _))
      · rw [List.mem_singleton.1 hp]
        intro k hk
        obtain ⟨h1, h2, h3, h4⟩ := mem_withinF.1 hk
        exact ⟨h1, h3, h2, h4⟩
      · rw [List.mem_singleton.1 hp]; exact h
      · simpa using comp_nodup hc.nodup hcm
      · exact ⟨(c, withinF ls c on), by simp, fun k hk => wk_within hwk hx k hk⟩
theorem nodup_flatMap_of {α : Type} {f : List Nat → List α} {fn : α → List Nat} {cs : List (List Nat)} (h : cs.flatten.Nodup) (h1 : ∀ c ∈ cs, ((f c).flatMap fn).Nodup) (h2 : ∀ c ∈ cs, ∀ p ∈ f c, ∀ x ∈ fn p, x ∈ c) : ((cs.flatMap f).flatMap fn).Nodup := by
  rw [List.flatMap_assoc, List.flatMap_def]
  refine List.pairwise_flatten.2 ⟨fun l hl => ?_, ?_⟩
  · obtain ⟨c, hc, rfl⟩ := List.mem_map.1 hl
    exact h1 c hc
  · rw [List.pairwise_map]
    refine (List.pairwise_flatten.1 h).2.imp_of_mem fun {a b} ha hb hab x hx y hy => ?_
    obtain ⟨p, hp, hxp⟩ := List.mem_flatMap.1 hx
    obtain ⟨q, hq, hyq⟩ := List.mem_flatMap.1 hy
    exact hab x (h2 a ha p hp x hxp) y (h2 b hb q hq y hyq)
theorem good_total {n : Nat} (hw : ValidW all pairs) (hn : n ≤ 20000) (hb : n * (ls.length + 3) ≤ 1000000) : ∀ (f : Nat) (nodes : List Nat) (on : List Bool), onCnt ls on < f → (∀ x ∈ nodes, x < n) → nodes.length ≤ n →
    ∃ xs, goodR n ls all pairs f nodes on = some xs ∧ GoodOk ls all pairs nodes on xs
  | 0, _, _, h, _, _ => by omega
  | f + 1, nodes, on, hf, hnn, hnl => by
    obtain ⟨cs, e, hc⟩ := comps_total ls nodes on (Nat.le_trans (Nat.mul_le_mul_right _ hnl) hb)
    have hcn : ∀ c ∈ cs, ∀ x ∈ c, x < n := fun c hcm x hx => hnn x ((hc.mem x).1 (List.mem_flatten.2 ⟨c, hcm, hx⟩))
    have hg : ∀ c ∈ cs, ∃ xs, goodC n ls all pairs (goodR n ls all pairs f) on c = some xs ∧ GoodOk ls all pairs c on xs := fun c hcm =>
      goodC_ok hw hn hc hcm (hcn c hcm) hf fun on' ho => good_total hw hn hb f c on' ho (hcn c hcm) (ndLen (comp_nodup hc.nodup hcm) (hcn c hcm))
    have hG : ∀ c ∈ cs, GoodOk ls all pairs c on ((goodC n ls all pairs (goodR n ls all pairs f) on c).getD []) := fun c hcm => by
      obtain ⟨xs, h1, h2⟩ := hg c hcm
      rw [h1]; exact h2
    have hm : ∀ p ∈ cs.flatMap fun c => (goodC n ls all pairs (goodR n ls all pairs f) on c).getD [], ∃ c ∈ cs, p ∈ (goodC n ls all pairs (goodR n ls all pairs f) on c).getD [] := fun p hp => List.mem_flatMap.1 hp
    refine ⟨_, by simp only [goodR, e]; exact seqO_ok fun c hcm => (hg c hcm).imp fun _ h => h.1, fun p hp => ?_, fun p hp => ?_, fun p hp => ?_, fun p hp => ?_, fun p hp => ?_, fun p hp => ?_, fun p hp => ?_, fun p hp => ?_, ?_, fun x w hx hne hwk hs => ?_⟩
    · obtain ⟨c, hcm, h⟩ := hm p hp
      exact fun x hx => (hc.mem x).1 (List.mem_flatten.2 ⟨c, hcm, (hG c hcm).sub p h x hx⟩)
    · obtain ⟨c, hcm, h⟩ := hm p hp; exact (hG c hcm).ne p h
    · obtain ⟨c, hcm, h⟩ := hm p hp; exact (hG c hcm).sorted p h
    · obtain ⟨c, hcm, h⟩ := hm p hp; exact (hG c hcm).conn p h
    · obtain ⟨c, hcm, h⟩ := hm p hp; exact (hG c hcm).arrow p h
    · obtain ⟨c, hcm, h⟩ := hm p hp; exact (hG c hcm).len p h
    · obtain ⟨c, hcm, h⟩ := hm p hp; exact (hG c hcm).within p h
    · obtain ⟨c, hcm, h⟩ := hm p hp; exact (hG c hcm).sats p h
    · exact nodup_flatMap_of hc.nodup (fun c hcm => (hG c hcm).nodup) fun c hcm p hp x hx => (hG c hcm).sub p hp x hx
    · obtain ⟨c, hcm, hxc⟩ := List.mem_flatten.1 ((hc.mem x).2 hx)
      have hst := wk_stays hc hwk hcm hxc hxc
      obtain ⟨p, hp, h⟩ := (hG c hcm).full x w hxc hne (hwk.mono fun k hk hp => ⟨hp.1, (mem_withinF.1 (hst k hk)).2.2.2⟩) hs
      exact ⟨p, List.mem_flatMap.2 ⟨c, hcm, hp⟩, h⟩
def CoreAt (ls : List Arrow) (all : List Nat) (pairs : List (Nat × Nat)) (P : Nat → Prop) (x : Nat) : Prop := ∃ w, w ≠ [] ∧ Wk ls P x w x ∧ Sats ls all pairs w
theorem sats_same {l l' : List Nat} (h : ∀ k, k ∈ l ↔ k ∈ l') (hs : Sats ls all pairs l) : Sats ls all pairs l' := by
  have e : ∀ m, (∃ k ∈ l, hasM ls k m = true) ↔ ∃ k ∈ l', hasM ls k m = true := fun m => ⟨fun ⟨k, hk, hm⟩ => ⟨k, (h k).1 hk, hm⟩, fun ⟨k, hk, hm⟩ => ⟨k, (h k).2 hk, hm⟩⟩
  exact ⟨fun m hm => (e m).1 (hs.1 m hm), fun p hp h1 => (e _).1 (hs.2 p hp ((e _).2 h1))⟩
theorem wk_tour {c l : List Nat} (hconn : ∀ x ∈ c, ∀ y ∈ c, ∃ w, Wk ls (· ∈ l) x w y) (hin : ∀ k ∈ l, k < ls.length ∧ frOf ls k ∈ c ∧ toOf ls k ∈ c) {x : Nat} (hx : x ∈ c) :
    ∀ l' : List Nat, (∀ k ∈ l', k ∈ l) → ∃ w, Wk ls (· ∈ l) x w x ∧ ∀ k ∈ l', k ∈ w
  | [], _ => ⟨[], .nil x, fun k h => by cases h⟩
  | k :: r, h => by
    obtain ⟨w, h1, h2⟩ := wk_tour hconn hin hx r fun j hj => h j (by simp [hj])
    have hk := h k (by simp)
    obtain ⟨h3, h4, h5⟩ := hin k hk
    obtain ⟨u, hu⟩ := hconn x hx _ h4
    obtain ⟨v, hv⟩ := hconn _ h5 x hx
    refine ⟨u ++ ([k] ++ (v ++ w)), hu.app ((Wk.one h3 hk).app (hv.app h1)), fun j hj => ?_⟩
    rcases List.mem_cons.1 hj with e | hj
    · rw [e]; simp
    · have := h2 j hj; simp [this]
theorem GoodOk.core {nodes : List Nat} {on : List Bool} {xs : GL} (h : GoodOk ls all pairs nodes on xs) {p : List Nat × List Nat} (hp : p ∈ xs) {x : Nat} (hx : x ∈ p.1) : CoreAt ls all pairs (fun k => on.getD k false = true ∧ toOf ls k ∈ nodes) x := by
  obtain ⟨w, h1, h2⟩ := wk_tour (h.conn p hp) (fun k hk => ⟨(h.within p hp k hk).1, (h.within p hp k hk).2.2⟩) hx p.2 fun k hk => hk
  refine ⟨w, fun e => ?_, h1.mono fun k _ hk => ⟨(h.within p hp k hk).2.1, h.sub p hp _ (h.within p hp k hk).2.2.2⟩, sats_same (fun k => ⟨h2 k, fun hk => (h1.all k hk).2⟩) (h.sats p hp)⟩
  obtain ⟨k, r, hk⟩ := List.exists_cons_of_ne_nil (h.arrow p hp)
  have := h2 k (by rw [hk]; simp)
  rw [e] at this
  cases this
theorem Wk.head {P : Nat → Prop} {x y k : Nat} {w : List Nat} (h : Wk ls P x (k :: w) y) : frOf ls k = x := by cases h; rfl
theorem GoodOk.core_iff {nodes : List Nat} {on : List Bool} {xs : GL} (h : GoodOk ls all pairs nodes on xs) (x : Nat) : x ∈ xs.flatMap (·.1) ↔ x ∈ nodes ∧ CoreAt ls all pairs (fun k => on.getD k false = true ∧ toOf ls k ∈ nodes) x := by
  constructor
  · intro hx
    obtain ⟨p, hp, hx⟩ := List.mem_flatMap.1 hx
    exact ⟨h.sub p hp x hx, h.core hp hx⟩
  · rintro ⟨hx, w, hne, hwk, hs⟩
    obtain ⟨p, hp, hk⟩ := h.full x w hx hne hwk hs
    obtain ⟨k, r, rfl⟩ := List.exists_cons_of_ne_nil hne
    refine List.mem_flatMap.2 ⟨p, hp, ?_⟩
    have := (h.within p hp k (hk k (by simp))).2.2.1
    rw [hwk.head] at this
    exact this
theorem strictly_of {c : List Nat} (h : c.Pairwise (· < ·)) : strictly c = true := by
  unfold strictly
  rw [List.all_eq_true]
  intro i hi
  have hi' := List.mem_range.1 hi
  have h1 : i < c.length := by omega
  have h2 : i + 1 < c.length := by omega
  have := List.pairwise_iff_getElem.1 h i (i + 1) h1 h2 (by omega)
  simpa [h1, h2] using this
theorem whole_on {k : Nat} (h : k < ls.length) : (List.replicate ls.length true).getD k false = true := by simp [List.getD_eq_getElem?_getD, h]
theorem onCnt_le (on : List Bool) : onCnt ls on ≤ ls.length := by
  have := List.countP_le_length (p := fun k => on.getD k false) (l := List.range ls.length)
  simpa [onCnt] using this
def AllA (_ : Nat) : Prop := True
theorem wk_whole {n : Nat} (hv : ValidG n ls) {x y : Nat} {w : List Nat} : Wk ls (fun k => (List.replicate ls.length true).getD k false = true ∧ toOf ls k ∈ List.range n) x w y ↔ Wk ls AllA x w y := by
  constructor
  · exact fun h => h.mono fun _ _ _ => trivial
  · intro h
    refine h.mono fun k hk _ => ?_
    have hkl := (h.all k hk).1
    refine ⟨whole_on hkl, List.mem_range.2 ?_⟩
    rw [toOf_at hkl]
    exact (hv.ok _ (List.getElem_mem hkl)).2.1
theorem cores_total {n : Nat} (hv : ValidG n ls) (hw : ValidW all pairs) (hl : ls.length < 400) (hb : n * (ls.length + 3) ≤ 1000000) :
    ∃ out, coresR n ls all pairs = some out ∧ out.Pairwise (· < ·) ∧ ∀ x, x ∈ out ↔ x < n ∧ CoreAt ls all pairs AllA x := by
  obtain ⟨xs, h1, h2⟩ := good_total hw hv.size hb 400 (List.range n) (List.replicate ls.length true) (Nat.lt_of_le_of_lt (onCnt_le _) hl) (fun x hx => List.mem_range.1 hx) (by simp)
  have hs := asc_of (sortN_sorted (xs.flatMap (·.1))) ((sortN_perm _).nodup_iff.2 h2.nodup)
  have hlen := ndLen h2.nodup fun x hx => List.mem_range.1 ((h2.core_iff x).1 hx).1
  have hsz := hv.size
  refine ⟨sortN (xs.flatMap (·.1)), ?_, hs, fun x => ?_⟩
  · unfold coresR
    rw [h1]
    simp only
    rw [if_pos]
    rw [strictly_of hs, Bool.true_and, decide_eq_true_eq]
    omega
  · rw [(sortN_perm _).mem_iff, h2.core_iff]
    unfold CoreAt
    simp only [wk_whole hv]
    rw [List.mem_range]
end
end Go.Proofs.Ytnanffbjmfgafaa.S
namespace Go.Proofs.Ytnanffbjmfgafaa.S
open Go.RowKit
theorem mem_addS {x : Nat} : ∀ (l seen : List Nat), x ∈ addS seen l ↔ x ∈ seen ∨ x ∈ l
  | [], seen => by simp [addS]
  | y :: l, seen => by
    have e : addS seen (y :: l) = addS (if y ∈ seen then seen else seen ++ [y]) l := rfl
    rw [e, mem_addS l]
    split
    · rename_i h
      constructor
      · rintro (h1 | h1)
        · exact .inl h1
        · exact .inr (List.mem_cons_of_mem _ h1)
      · rintro (h1 | h1)
        · exact .inl h1
        · rcases List.mem_cons.1 h1 with e | h1
          · rw [e]; exact .inl h
          · exact .inr h1
    · rw [List.mem_append, List.mem_singleton, List.mem_cons]
      constructor
      · rintro ((h1 | h1) | h1)
        · exact .inl h1
        · exact .inr (.inl h1)
        · exact .inr (.inr h1)
      · rintro (h1 | h1 | h1)
        · exact .inl (.inl h1)
        · exact .inl (.inr h1)
        · exact .inr h1
section
variable {nx : Nat → List Nat} {n : Nat} {from_ : List Nat}
abbrev RcN (nx : Nat → List Nat) : Nat → Nat → Prop := Rc fun x y => y ∈ nx x
theorem closR_total (hnx : ∀ x, x < n → ∀ y ∈ nx x, y < n) : ∀ (f : Nat) (seen : List Nat) (i : Nat), seen.Nodup → (∀ x ∈ seen, x < n) → (∀ x ∈ from_, x ∈ seen) → (∀ x ∈ seen, ∃ s ∈ from_, RcN nx s x) →
    (∀ j (h : j < seen.length), j < i → ∀ y ∈ nx seen[j], y ∈ seen) → i ≤ seen.length → n + 1 - i ≤ f → ∃ r, closR nx f seen i = some r ∧ r.Nodup ∧ (∀ x ∈ r, x < n) ∧ ∀ x, x ∈ r ↔ ∃ s ∈ from_, RcN nx s x
  | 0, seen, i, h1, h2, _, _, _, h6, h7 => by
    have := nodup_len n seen h1 h2
    omega
  | f + 1, seen, i, h1, h2, h3, h4, h5, h6, h7 => by
    have hlen := nodup_len n seen h1 h2
    unfold closR
    by_cases hi : i < seen.length
    · rw [List.getElem?_eq_getElem hi]
      simp only
      obtain ⟨t, ht⟩ := addS_pre (nx seen[i]) seen
      have hx := h2 _ (List.getElem_mem hi)
      refine closR_total hnx f _ (i + 1) (addS_nodup _ _ h1) (fun x hx' => ?_) (fun x hx' => (mem_addS _ _).2 (.inl (h3 x hx'))) (fun x hx' => ?_) (fun j hj hji y hy => ?_) (by rw [ht, List.length_append]; omega) (by omega)
      · rcases (mem_addS _ _).1 hx' with h | h
        · exact h2 x h
        · exact hnx _ hx x h
      · rcases (mem_addS _ _).1 hx' with h | h
        · exact h4 x h
        · obtain ⟨s, hs, hr⟩ := h4 _ (List.getElem_mem hi)
          exact ⟨s, hs, .tail hr h⟩
      · have hj2 : j < seen.length := by omega
        have e : (addS seen (nx seen[i]))[j] = seen[j] := by
          simp only [ht]
          exact List.getElem_append_left hj2
        rw [e] at hy
        by_cases hje : j = i
        · subst hje; exact (mem_addS _ _).2 (.inr hy)
        · exact (mem_addS _ _).2 (.inl (h5 j hj2 (by omega) y hy))
    · have hie : i = seen.length := by omega
      rw [List.getElem?_eq_none (by omega)]
      refine ⟨seen, rfl, h1, h2, fun x => ⟨h4 x, ?_⟩⟩
      rintro ⟨s, hs, hr⟩
      induction hr with
      | refl => exact h3 s hs
      | tail _ e ih =>
        obtain ⟨j, hj, rfl⟩ := List.getElem_of_mem ih
        exact h5 j hj (by omega) _ e
theorem addS_sub (hn : ∀ x ∈ from_, x < n) : ∀ x ∈ addS [] from_, x < n := fun x hx => by
  rcases (mem_addS _ _).1 hx with h | h
  · cases h
  · exact hn x h
theorem closure_total (hnx : ∀ x, x < n → ∀ y ∈ nx x, y < n) (hn : n ≤ 20000) (hf : ∀ x ∈ from_, x < n) : ∃ r, closureR nx from_ = some r ∧ r.Pairwise (· < ·) ∧ (∀ x ∈ r, x < n) ∧ ∀ x, x ∈ r ↔ ∃ s ∈ from_, RcN nx s x := by
  obtain ⟨r, e, h1, h2, h3⟩ := closR_total (from_ := from_) hnx 30000 (addS [] from_) 0 (addS_nodup _ _ List.nodup_nil) (addS_sub hf) (fun x hx => (mem_addS _ _).2 (.inr hx)) (fun x hx => by
    rcases (mem_addS _ _).1 hx with h | h
    · cases h
    · exact ⟨x, h, .refl x⟩) (fun j _ h => by omega) (Nat.zero_le _) (by omega)
  refine ⟨sortN r, by unfold closureR; rw [e]; rfl, asc_of (sortN_sorted r) ((sortN_perm r).nodup_iff.2 h1), fun x hx => h2 x ((sortN_perm r).mem_iff.1 hx), fun x => by rw [(sortN_perm r).mem_iff, h3]⟩
end
section
variable {ls : List Arrow} {n : Nat}
theorem mem_nxF {x y : Nat} : y ∈ nxF ls x ↔ ∃ k, k < ls.length ∧ frOf ls k = x ∧ toOf ls k = y := by
  unfold nxF
  rw [List.mem_map]
  constructor
  · rintro ⟨k, hk, rfl⟩
    obtain ⟨h1, h2⟩ := mem_outAt.1 hk
    exact ⟨k, h1, h2, rfl⟩
  · rintro ⟨k, h1, h2, rfl⟩
    exact ⟨k, mem_outAt.2 ⟨h1, h2⟩, rfl⟩
end
end Go.Proofs.Ytnanffbjmfgafaa.S
namespace Go.Proofs.Ytnanffbjmfgafaa.S
open Go.RowKit
section
variable {ls : List Arrow} {inn en : Nat → Bool} {fr n : Nat}
end
end Go.Proofs.Ytnanffbjmfgafaa.S
namespace Go.Proofs.Ytnanffbjmfgafaa.S
open Go.RowKit
section
variable {ls : List Arrow} {n : Nat} {all : List Nat} {pairs : List (Nat × Nat)}
end
end Go.Proofs.Ytnanffbjmfgafaa.S
namespace Go.Proofs.Ytnanffbjmfgafaa.S
open Go.RowKit
section
variable {ls : List Arrow} {n : Nat} {all : List Nat} {pairs : List (Nat × Nat)}
end
end Go.Proofs.Ytnanffbjmfgafaa.S
namespace Go.Proofs.Ytnanffbjmfgafaa.S
open Go.RowKit
theorem check_init {n : Int} {init : List Int} {ls : List ArrowI} {all : List Int} {pairs : List (Int × Int)} (h : checkI n init ls all pairs = 0) {init' : List Int} (hi : rises n init' = true) : checkI n init' ls all pairs = 0 := by
  unfold checkI at h ⊢
  split at h
  · cases h
  · rename_i k1
    rw [if_neg]
    · exact h
    · simp only [Bool.or_eq_true, not_or] at k1 ⊢
      exact ⟨k1.1, by rw [hi]; simp⟩
theorem small_bound {n l : Nat} (hn : n ≤ 12) (hl : l ≤ 41) : n * (l + 3) ≤ 1000000 := by
  have := Nat.mul_le_mul hn (show l + 3 ≤ 44 by omega)
  omega
abbrev CoreI (ls : List ArrowI) (all : List Int) (pairs : List (Int × Int)) (x : Nat) : Prop := CoreAt (ls.map toA) (all.map Int.toNat) (pairs.map toP) AllA x
theorem coresI_small {n : Int} {init : List Int} {ls : List ArrowI} {all : List Int} {pairs : List (Int × Int)} (hC : checkI n init ls all pairs = 0) (hn : n ≤ 12) (hl : ls.length ≤ 41) :
    ∃ c, coresI n ls all pairs = some (c, 0) ∧ c.Pairwise (· < ·) ∧ c.length ≤ 12 ∧ ∀ x, x ∈ c ↔ x < n.toNat ∧ CoreI ls all pairs x := by
  have hk := checked hC
  obtain ⟨c, h1, h2, h3⟩ := cores_total hk.validG hk.validW (by simpa using Nat.lt_of_le_of_lt hl (by decide)) (by simpa using small_bound (n := n.toNat) (by omega) hl)
  refine ⟨c, ?_, h2, ?_, h3⟩
  · unfold coresI
    rw [if_pos (check_init hC (rises_nil _)), h1]
    rfl
  · have := ndLen (h2.imp fun h => Nat.ne_of_lt h) fun x hx => ((h3 x).1 hx).1
    omega
theorem hasM_at {ls : List Arrow} {k m : Nat} (h : k < ls.length) : hasM ls k m = (ls[k]).ms.testBit m := by unfold hasM; rw [List.getElem?_eq_getElem h]
end Go.Proofs.Ytnanffbjmfgafaa.S
namespace Go.Proofs.Ytnanffbjmfgafaa.S
open Go.RowKit
section
variable {ls : List Arrow}
end
section
variable {n : Int} {init : List Int} {ls : List ArrowI} {all : List Int} {pairs : List (Int × Int)}
end
end Go.Proofs.Ytnanffbjmfgafaa.S
namespace Go.Proofs.Ytnanffbjmfgafaa.S
open Go.RowKit
section
variable {ls : List Arrow} {n : Nat}
theorem turn_at {k : Nat} : frOf (ls.map turnA) k = toOf ls k ∧ toOf (ls.map turnA) k = frOf ls k := by
  unfold frOf toOf
  rw [List.getElem?_map]
  cases ls[k]? <;> exact ⟨rfl, rfl⟩
theorem mem_turn {x y : Nat} : y ∈ nxF (ls.map turnA) x ↔ ∃ k, k < ls.length ∧ toOf ls k = x ∧ frOf ls k = y := by
  rw [mem_nxF]
  simp only [List.length_map, turn_at.1, turn_at.2]
theorem rc_turn {x y : Nat} : RcN (nxF (ls.map turnA)) y x ↔ ∃ w, Wk ls AllA x w y := by
  constructor
  · intro h
    induction h with
    | refl => exact ⟨[], .nil _⟩
    | tail _ e ih =>
      obtain ⟨w, hw⟩ := ih
      obtain ⟨k, h1, rfl, rfl⟩ := mem_turn.1 e
      exact ⟨k :: w, .cons h1 trivial hw⟩
  · rintro ⟨w, hw⟩
    induction hw with
    | nil x => exact .refl x
    | @cons k y w hk _ _ ih => exact .tail ih (mem_turn.2 ⟨k, hk, rfl, rfl⟩)
theorem wk_split {P : Nat → Prop} {x y k : Nat} {B : List Nat} : ∀ {A : List Nat}, Wk ls P x (A ++ k :: B) y → Wk ls P x A (frOf ls k) ∧ Wk ls P (frOf ls k) (k :: B) y := by
  intro A
  induction A generalizing x with
  | nil =>
    intro h
    have := h.head
    rw [this]
    exact ⟨.nil x, h⟩
  | cons j A ih =>
    intro h
    rw [List.cons_append] at h
    cases h with
    | cons hk hp hw =>
      obtain ⟨h1, h2⟩ := ih hw
      exact ⟨.cons hk hp h1, h2⟩
end
section
variable {n : Int} {init : List Int} {ls : List ArrowI} {all : List Int} {pairs : List (Int × Int)}
theorem fromI_small (hC : checkI n init ls all pairs = 0) (hn : n ≤ 12) (hl : ls.length ≤ 41) :
    ∃ f, fromI n ls all pairs = some (f, 0) ∧ f.Pairwise (· < ·) ∧ f.length ≤ 12 ∧ (∀ x ∈ f, x < n.toNat) ∧ ∀ x, x ∈ f ↔ ∃ c, c < n.toNat ∧ CoreI ls all pairs c ∧ ∃ w, Wk (ls.map toA) AllA x w c := by
  have hk := checked hC
  obtain ⟨c, h1, h2, h3, h4⟩ := coresI_small hC hn hl
  have hv := hk.validG
  obtain ⟨f, q1, q2, q3, q4⟩ := closure_total (nx := nxF ((ls.map toA).map turnA)) (n := n.toNat) (from_ := c) (fun x _ y hy => by
    obtain ⟨k, hkl, _, rfl⟩ := mem_turn.1 hy
    rw [frOf_at hkl]
    exact (hv.ok _ (List.getElem_mem hkl)).1) hv.size (fun x hx => ((h4 x).1 hx).1)
  refine ⟨f, ?_, q2, ?_, q3, fun x => ?_⟩
  · unfold fromI
    rw [h1]
    simp only [if_true]
    rw [q1]
    rfl
  · have := nodup_len n.toNat f (q2.imp fun h => Nat.ne_of_lt h) q3
    omega
  · rw [q4]
    constructor
    · rintro ⟨s, hs, hr⟩
      obtain ⟨a, b⟩ := (h4 s).1 hs
      exact ⟨s, a, b, rc_turn.1 hr⟩
    · rintro ⟨s, a, b, hr⟩
      exact ⟨s, (h4 s).2 ⟨a, b⟩, rc_turn.2 hr⟩
end
end Go.Proofs.Ytnanffbjmfgafaa.S
namespace Go.Proofs.Ytnanffbjmfgafaa.S
open Go.RowKit
section
variable (ls : List Arrow)
def someR (inn : List Bool) (m : Nat) : Bool := (List.range ls.length).any fun i => inn.getD i false && hasM ls i m
def satR (all : List Nat) (pairs : List (Nat × Nat)) (inn : List Bool) : Bool := all.all (fun m => someR ls inn m) && pairs.all fun p => !(someR ls inn p.1 && !someR ls inn p.2)
def srcR (back : Bool) (i : Nat) : Nat := if back = true then toOf ls i else frOf ls i
def dstR (back : Bool) (i : Nat) : Nat := if back = true then frOf ls i else toOf ls i
def rCond (inn : List Bool) (back : Bool) (out : List Bool) (i : Nat) : Bool := inn.getD i false && out.getD (srcR ls back i) false && !out.getD (dstR ls back i) false
def rStep (inn : List Bool) (back : Bool) (s : List Bool × Bool) (i : Nat) : List Bool × Bool :=
  if rCond ls inn back s.1 i = true then (s.1.set (dstR ls back i) true, true) else s
def rTo (inn : List Bool) (back : Bool) (out : List Bool) (k : Nat) : List Bool × Bool := (List.range k).foldl (rStep ls inn back) (out, false)
def rchR (inn : List Bool) (back : Bool) : Nat → List Bool → List Bool
  | 0, out => out
  | k + 1, out => if (rTo ls inn back out ls.length).2 = true then rchR inn back k (rTo ls inn back out ls.length).1 else (rTo ls inn back out ls.length).1
end
def ER (ls : List Arrow) (inn : List Bool) (back : Bool) (x y : Nat) : Prop := ∃ i, i < ls.length ∧ inn.getD i false = true ∧ srcR ls back i = x ∧ dstR ls back i = y
def cntB (n : Nat) (out : List Bool) : Nat := (List.range n).countP fun x => out.getD x false
theorem getD_setB {l : List Bool} {k j : Nat} (hk : k < l.length) : (l.set k true).getD j false = if j = k then true else l.getD j false := by
  rw [List.getD_eq_getElem?_getD, List.getD_eq_getElem?_getD, List.getElem?_set]
  by_cases h : k = j
  · subst h; simp [hk]
  · rw [if_neg h, if_neg (fun e => h e.symm)]
section
variable {ls : List Arrow} {n : Nat} {inn : List Bool} {back : Bool}
theorem dst_lt (hv : ValidG n ls) {i : Nat} (hi : i < ls.length) : dstR ls back i < n := by
  have := hv.ok _ (List.getElem_mem hi)
  unfold dstR
  split
  · rw [frOf_at hi]; exact this.1
  · rw [toOf_at hi]; exact this.2.1
theorem src_lt (hv : ValidG n ls) {i : Nat} (hi : i < ls.length) : srcR ls back i < n := by
  have := hv.ok _ (List.getElem_mem hi)
  unfold srcR
  split
  · rw [toOf_at hi]; exact this.2.1
  · rw [frOf_at hi]; exact this.1
theorem cnt_set {out : List Bool} (hl : out.length = n) {k : Nat} (hk : k < n) (h : out.getD k false = false) : cntB n out < cntB n (out.set k true) :=
  countP_lt (fun x _ hx => by rw [getD_setB (by omega)]; split <;> simp_all) ⟨k, List.mem_range.2 hk, by rw [getD_setB (by omega), if_pos rfl], h⟩
theorem rTo_inv (hv : ValidG n ls) {out : List Bool} (hl : out.length = n) (P : Nat → Prop) (hP : ∀ i, i < ls.length → inn.getD i false = true → P (srcR ls back i) → P (dstR ls back i)) (h0 : ∀ x, out.getD x false = true → P x) : ∀ k, k ≤ ls.length →
    (rTo ls inn back out k).1.length = n ∧ (∀ x, out.getD x false = true → (rTo ls inn back out k).1.getD x false = true) ∧ (∀ x, (rTo ls inn back out k).1.getD x false = true → P x) ∧
    ((rTo ls inn back out k).2 = false → (rTo ls inn back out k).1 = out ∧ ∀ i, i < k → rCond ls inn back out i = false) ∧ ((rTo ls inn back out k).2 = true → cntB n out < cntB n (rTo ls inn back out k).1) ∧ cntB n out ≤ cntB n (rTo ls inn back out k).1
  | 0, _ => ⟨hl, fun _ h => h, h0, fun _ => ⟨rfl, fun i hi => by omega⟩, (by intro h; cases h), Nat.le_refl _⟩
  | k + 1, hk => by
    obtain ⟨h1, h2, h3, h4, h5, h6⟩ := rTo_inv hv hl P hP h0 k (by omega)
    have e : rTo ls inn back out (k + 1) = rStep ls inn back (rTo ls inn back out k) k := by unfold rTo; rw [List.range_succ, List.foldl_append]; rfl
    rw [e]
    generalize rTo ls inn back out k = s at *
    obtain ⟨o, c⟩ := s
    unfold rStep
    by_cases hc : rCond ls inn back o k = true
    · rw [if_pos hc]
      have hc' := hc
      simp only [rCond, Bool.and_eq_true, Bool.not_eq_true'] at hc'
      obtain ⟨⟨q1, q2⟩, q3⟩ := hc'
      have hd := dst_lt (back := back) hv (show k < ls.length by omega)
      have hcn := cnt_set h1 hd q3
      simp only at h1 h2 h3 h5 h6 hcn ⊢
      refine ⟨by simpa using h1, fun x hx => ?_, fun x hx => ?_, (by intro h; cases h), fun _ => by omega, by omega⟩
      · rw [getD_setB (by omega)]
        split
        · rfl
        · exact h2 x hx
      · rw [getD_setB (by omega)] at hx
        split at hx
        · rename_i e; subst e; exact hP k (by omega) q1 (h3 _ q2)
        · exact h3 x hx
    · rw [if_neg hc]
      refine ⟨h1, h2, h3, fun h => ?_, h5, h6⟩
      obtain ⟨a, b⟩ := h4 h
      refine ⟨a, fun i hi => ?_⟩
      by_cases hik : i = k
      · subst hik
        have a' : o = out := a
        rw [a'] at hc
        simpa using hc
      · exact b i (by omega)
theorem rchR_inv (hv : ValidG n ls) (P : Nat → Prop) (hP : ∀ i, i < ls.length → inn.getD i false = true → P (srcR ls back i) → P (dstR ls back i)) : ∀ (k : Nat) (out : List Bool), out.length = n → (∀ x, out.getD x false = true → P x) →
    (rchR ls inn back k out).length = n ∧ (∀ x, out.getD x false = true → (rchR ls inn back k out).getD x false = true) ∧ (∀ x, (rchR ls inn back k out).getD x false = true → P x) ∧
    (n + 1 ≤ cntB n out + k → ∀ i, i < ls.length → inn.getD i false = true → (rchR ls inn back k out).getD (srcR ls back i) false = true → (rchR ls inn back k out).getD (dstR ls back i) false = true)
  | 0, out, hl, h0 => ⟨hl, fun _ h => h, h0, fun h => by
      have : cntB n out ≤ n := by have := List.countP_le_length (p := fun x => out.getD x false) (l := List.range n); simpa [cntB] using this
      omega⟩
  | k + 1, out, hl, h0 => by
    obtain ⟨h1, h2, h3, h4, h5, _⟩ := rTo_inv (inn := inn) (back := back) hv hl P hP h0 ls.length (Nat.le_refl _)
    unfold rchR
    split
    · rename_i hc
      obtain ⟨a, b, c, d⟩ := rchR_inv hv P hP k _ h1 h3
      have := h5 hc
      exact ⟨a, fun x hx => b x (h2 x hx), c, fun hk => d (by omega)⟩
    · rename_i hc
      obtain ⟨a, b⟩ := h4 (by simpa using hc)
      refine ⟨h1, h2, h3, fun _ i hi hin hs => ?_⟩
      rw [a] at hs ⊢
      have := b i hi
      unfold rCond at this
      rw [hin, hs] at this
      simpa using this
theorem cnt_pos {out : List Bool} {s : Nat} (hs : s < n) (h : out.getD s false = true) : 1 ≤ cntB n out := by
  have : 0 < cntB n out := List.countP_pos_iff.2 ⟨s, List.mem_range.2 hs, h⟩
  omega
theorem rchR_iff (hv : ValidG n ls) {out : List Bool} (hl : out.length = n) (x : Nat) : (rchR ls inn back n out).getD x false = true ↔ ∃ s, out.getD s false = true ∧ Rc (ER ls inn back) s x := by
  obtain ⟨h1, h2, h3, h4⟩ := rchR_inv (inn := inn) (back := back) hv (fun x => ∃ s, out.getD s false = true ∧ Rc (ER ls inn back) s x) (fun i hi hin ⟨s, hs, hr⟩ => ⟨s, hs, .tail hr ⟨i, hi, hin, rfl, rfl⟩⟩) n out hl (fun x hx => ⟨x, hx, .refl x⟩)
  refine ⟨h3 x, ?_⟩
  rintro ⟨s, hs, hr⟩
  have hsn : s < n := by
    rw [← hl]
    rcases Nat.lt_or_ge s out.length with h | h
    · exact h
    · rw [List.getD_eq_getElem?_getD, List.getElem?_eq_none h] at hs; cases hs
  have hcl := h4 (by have := cnt_pos hsn hs; omega)
  induction hr with
  | refl => exact h2 s hs
  | tail _ e ih =>
    obtain ⟨i, hi, hin, rfl, rfl⟩ := e
    exact hcl i hi hin ih
theorem rchR_len (hv : ValidG n ls) {out : List Bool} (hl : out.length = n) (k : Nat) : (rchR ls inn back k out).length = n := (rchR_inv (inn := inn) (back := back) hv (fun _ => True) (fun _ _ _ _ => trivial) k out hl (fun _ _ => trivial)).1
abbrev On (inn : List Bool) : Nat → Prop := fun k => inn.getD k false = true
theorem rc_fwd {x y : Nat} : Rc (ER ls inn false) x y ↔ ∃ w, Wk ls (On inn) x w y := by
  constructor
  · intro h
    induction h with
    | refl => exact ⟨[], .nil _⟩
    | tail _ e ih =>
      obtain ⟨w, hw⟩ := ih
      obtain ⟨k, h1, h2, rfl, rfl⟩ := e
      exact ⟨_, hw.app (.one h1 h2)⟩
  · rintro ⟨w, hw⟩
    induction hw with
    | nil x => exact .refl x
    | @cons k y w hk hp _ ih => exact (Rc.one ⟨k, hk, hp, rfl, rfl⟩).trans ih
theorem rc_bwd {x y : Nat} : Rc (ER ls inn true) x y ↔ ∃ w, Wk ls (On inn) y w x := by
  constructor
  · intro h
    induction h with
    | refl => exact ⟨[], .nil _⟩
    | tail _ e ih =>
      obtain ⟨w, hw⟩ := ih
      obtain ⟨k, h1, h2, rfl, rfl⟩ := e
      exact ⟨k :: w, .cons h1 h2 hw⟩
  · rintro ⟨w, hw⟩
    induction hw with
    | nil x => exact .refl x
    | @cons k y w hk hp _ ih => exact .tail ih ⟨k, hk, hp, rfl, rfl⟩
end
def oneR (n k : Nat) : List Bool := (List.replicate n false).set k true
def andB (n : Nat) (a b : List Bool) : List Bool := (List.range n).map fun i => a.getD i false && b.getD i false
def orB (n : Nat) (a b : List Bool) : List Bool := (List.range n).map fun i => a.getD i false || b.getD i false
theorem getD_rangeB {n : Nat} {f : Nat → Bool} {x : Nat} : ((List.range n).map f).getD x false = (decide (x < n) && f x) := by
  rw [List.getD_eq_getElem?_getD, List.getElem?_map]
  by_cases h : x < n
  · rw [List.getElem?_range h, decide_eq_true h]; simp
  · rw [List.getElem?_eq_none (by simpa using h), decide_eq_false h]; rfl
section
variable (n : Nat) (ls : List Arrow) (all : List Nat) (pairs : List (Nat × Nat))
def compR (inn : List Bool) (k : Nat) : List Bool := andB n (rchR ls inn false n (oneR n k)) (rchR ls inn true n (oneR n k))
def withinR (inn nodes : List Bool) : List Bool := (List.range ls.length).map fun i => inn.getD i false && nodes.getD (frOf ls i) false && nodes.getD (toOf ls i) false
def pairStep (inn : List Bool) (p : Nat × Nat) : List Bool := if (someR ls inn p.1 && !someR ls inn p.2) = true then withoutF ls inn p.1 else inn
def pairsR (inn : List Bool) : List Bool := pairs.foldl (pairStep ls) inn
def cStep (rec : List Bool → List Bool) (inn : List Bool) (s : List Bool × List Bool) (k : Nat) : List Bool × List Bool :=
  if s.2.getD k false = true then s
  else if (withinR ls inn (compR n ls inn k)).any id = false then (s.1, orB n s.2 (compR n ls inn k))
  else if all.any (fun m => !someR ls (withinR ls inn (compR n ls inn k)) m) = true then (s.1, orB n s.2 (compR n ls inn k))
  else if satR ls all pairs (withinR ls inn (compR n ls inn k)) = true then (orB n s.1 (compR n ls inn k), orB n s.2 (compR n ls inn k))
  else (orB n s.1 (andB n (compR n ls inn k) (rec (pairsR ls pairs (withinR ls inn (compR n ls inn k))))), orB n s.2 (compR n ls inn k))
def cTo (rec : List Bool → List Bool) (inn : List Bool) (k : Nat) : List Bool × List Bool := (List.range k).foldl (cStep n ls all pairs rec inn) (List.replicate n false, List.replicate n false)
def coresS : Nat → List Bool → List Bool
  | 0, _ => List.replicate n false
  | f + 1, inn => (cTo n ls all pairs (coresS f) inn n).1
end
section
variable {n : Nat} {ls : List Arrow} {all : List Nat} {pairs : List (Nat × Nat)} {inn : List Bool}
theorem oneR_at {k x : Nat} (hk : k < n) : (oneR n k).getD x false = true ↔ x = k := by
  unfold oneR
  rw [getD_setB (by simpa using hk)]
  split
  · simp_all
  · rename_i h
    simp only [h, iff_false]
    rw [List.getD_eq_getElem?_getD, List.getElem?_replicate]
    split <;> simp
theorem andB_at {a b : List Bool} {x : Nat} : (andB n a b).getD x false = true ↔ x < n ∧ a.getD x false = true ∧ b.getD x false = true := by unfold andB; rw [getD_rangeB]; simp
theorem orB_at {a b : List Bool} {x : Nat} : (orB n a b).getD x false = true ↔ x < n ∧ (a.getD x false = true ∨ b.getD x false = true) := by unfold orB; rw [getD_rangeB]; simp
theorem compR_at (hv : ValidG n ls) {k x : Nat} (hk : k < n) : (compR n ls inn k).getD x false = true ↔ x < n ∧ (∃ w, Wk ls (On inn) k w x) ∧ ∃ w, Wk ls (On inn) x w k := by
  unfold compR
  rw [andB_at, rchR_iff hv (by simp [oneR]), rchR_iff hv (by simp [oneR])]
  simp only [oneR_at hk, exists_eq_left, rc_fwd, rc_bwd]
theorem withinR_at {nodes : List Bool} {i : Nat} : (withinR ls inn nodes).getD i false = true ↔ i < ls.length ∧ inn.getD i false = true ∧ nodes.getD (frOf ls i) false = true ∧ nodes.getD (toOf ls i) false = true := by unfold withinR; rw [getD_rangeB]; simp [and_assoc]
theorem someR_iff {m : Nat} : someR ls inn m = true ↔ ∃ k, k < ls.length ∧ inn.getD k false = true ∧ hasM ls k m = true := by
  unfold someR
  rw [List.any_eq_true]
  constructor
  · rintro ⟨k, h1, h2⟩
    rw [Bool.and_eq_true] at h2
    exact ⟨k, List.mem_range.1 h1, h2⟩
  · rintro ⟨k, h1, h2⟩
    exact ⟨k, List.mem_range.2 h1, by rw [Bool.and_eq_true]; exact h2⟩
theorem Wk.next {P : Nat → Prop} {x y k : Nat} {w : List Nat} (h : Wk ls P x (k :: w) y) : Wk ls P (toOf ls k) w y := by cases h; assumption
theorem walk_inner (hv : ValidG n ls) {k x y : Nat} (hk : k < n) (hx : (compR n ls inn k).getD x false = true) (hy : (compR n ls inn k).getD y false = true) {w : List Nat} (hw : Wk ls (On inn) x w y) : Wk ls (On (withinR ls inn (compR n ls inn k))) x w y := by
  refine hw.mono fun j hj hp => ?_
  obtain ⟨hxn, ⟨a, ha⟩, b, hb⟩ := (compR_at hv hk).1 hx
  obtain ⟨hyn, ⟨c, hc⟩, d, hd⟩ := (compR_at hv hk).1 hy
  obtain ⟨A, B, rfl⟩ := List.append_of_mem hj
  obtain ⟨h1, h2⟩ := wk_split hw
  have hjl := (hw.all j hj).1
  obtain ⟨hv1, hv2, _⟩ := hv.ok _ (List.getElem_mem hjl)
  rw [← frOf_at hjl] at hv1
  rw [← toOf_at hjl] at hv2
  refine withinR_at.2 ⟨hjl, hp, (compR_at hv hk).2 ⟨hv1, ⟨_, ha.app h1⟩, _, h2.app hd⟩, (compR_at hv hk).2 ⟨hv2, ⟨_, (ha.app h1).app (.one hjl hp)⟩, ?_⟩⟩
  exact ⟨_, h2.next.app hd⟩
theorem core_mono {P Q : Nat → Prop} (h : ∀ k, P k → Q k) {x : Nat} (hc : CoreAt ls all pairs P x) : CoreAt ls all pairs Q x := by
  obtain ⟨w, h1, h2, h3⟩ := hc
  exact ⟨w, h1, h2.mono fun k _ => h k, h3⟩
theorem core_inner (hv : ValidG n ls) {k x : Nat} (hk : k < n) (hx : (compR n ls inn k).getD x false = true) : CoreAt ls all pairs (On inn) x ↔ CoreAt ls all pairs (On (withinR ls inn (compR n ls inn k))) x := by
  constructor
  · rintro ⟨w, h1, h2, h3⟩
    exact ⟨w, h1, walk_inner hv hk hx hx h2, h3⟩
  · exact core_mono fun j hj => (withinR_at.1 hj).2.1
theorem pairStep_core {p : Nat × Nat} (hp : p ∈ pairs) {x : Nat} : CoreAt ls all pairs (On inn) x ↔ CoreAt ls all pairs (On (pairStep ls inn p)) x := by
  unfold pairStep
  split
  · rename_i h
    simp only [Bool.and_eq_true, Bool.not_eq_true'] at h
    constructor
    · rintro ⟨w, h1, h2, h3⟩
      refine ⟨w, h1, h2.mono fun k hk hp' => ?_, h3⟩
      show (withoutF ls inn p.1).getD k false = true
      rw [withoutF_at (h2.all k hk).1, show inn.getD k false = true from hp']
      by_cases hm : hasM ls k p.1 = true
      · obtain ⟨j, hj, hm2⟩ := h3.2 p hp ⟨k, hk, hm⟩
        have := h2.all j hj
        have h9 := someR_iff.2 ⟨j, this.1, this.2, hm2⟩
        rw [h.2] at h9; cases h9
      · simpa using hm
    · refine core_mono fun k hk => ?_
      by_cases hkl : k < ls.length
      · have hk' : (withoutF ls inn p.1).getD k false = true := hk
        rw [withoutF_at hkl, Bool.and_eq_true] at hk'
        exact hk'.1
      · exfalso
        have hk' : (withoutF ls inn p.1).getD k false = true := hk
        unfold withoutF at hk'
        rw [List.getD_eq_getElem?_getD, List.getElem?_eq_none (by simpa using hkl)] at hk'
        cases hk'
  · exact Iff.rfl
theorem pairsR_core {x : Nat} : ∀ (ps : List (Nat × Nat)) (inn : List Bool), (∀ p ∈ ps, p ∈ pairs) → (CoreAt ls all pairs (On inn) x ↔ CoreAt ls all pairs (On (ps.foldl (pairStep ls) inn)) x)
  | [], _, _ => Iff.rfl
  | p :: ps, inn, h => (pairStep_core (h p (by simp))).trans (pairsR_core ps _ fun q hq => h q (by simp [hq]))
theorem pairStep_cnt (inn : List Bool) (p : Nat × Nat) : onCnt ls (pairStep ls inn p) < onCnt ls inn ∨ pairStep ls inn p = inn ∧ (someR ls inn p.1 && !someR ls inn p.2) = false := by
  unfold pairStep
  split
  · rename_i h
    rw [Bool.and_eq_true] at h
    obtain ⟨k, h1, h2, h3⟩ := someR_iff.1 h.1
    exact .inl (onCnt_without h1 h2 h3)
  · rename_i h
    exact .inr ⟨rfl, by simpa using h⟩
theorem pairsR_cnt : ∀ (ps : List (Nat × Nat)) (inn : List Bool), onCnt ls (ps.foldl (pairStep ls) inn) < onCnt ls inn ∨ ps.foldl (pairStep ls) inn = inn ∧ ∀ p ∈ ps, (someR ls inn p.1 && !someR ls inn p.2) = false
  | [], _ => .inr ⟨rfl, fun _ h => by cases h⟩
  | p :: ps, inn => by
    rw [List.foldl_cons]
    rcases pairsR_cnt ps (pairStep ls inn p) with h | ⟨h, h'⟩ <;> rcases pairStep_cnt (ls := ls) inn p with q | ⟨q, q'⟩
    · exact .inl (by omega)
    · rw [q] at h ⊢; exact .inl h
    · rw [h]; exact .inl q
    · rw [h]
      rw [q] at h'
      exact .inr ⟨q, fun r hr => by
        rcases List.mem_cons.1 hr with e | hr
        · rw [e]; exact q'
        · exact h' r hr⟩
theorem onCnt_within (nodes : List Bool) : onCnt ls (withinR ls inn nodes) ≤ onCnt ls inn := List.countP_mono_left fun x _ h => (withinR_at.1 h).2.1
theorem pairs_less {nodes : List Bool} (h1 : all.any (fun m => !someR ls (withinR ls inn nodes) m) = false) (h2 : satR ls all pairs (withinR ls inn nodes) = false) : onCnt ls (pairsR ls pairs (withinR ls inn nodes)) < onCnt ls inn := by
  have h3 := onCnt_within (ls := ls) (inn := inn) nodes
  rcases pairsR_cnt (ls := ls) pairs (withinR ls inn nodes) with h | ⟨_, h⟩
  · exact Nat.lt_of_lt_of_le h h3
  · exfalso
    have : satR ls all pairs (withinR ls inn nodes) = true := by
      unfold satR
      rw [Bool.and_eq_true, List.all_eq_true, List.all_eq_true]
      refine ⟨fun m hm => ?_, fun p hp => by rw [h p hp]; rfl⟩
      have := List.any_eq_false.1 h1 m hm
      simpa using this
    rw [h2] at this; cases this
theorem satR_sats {inn : List Bool} (h : satR ls all pairs inn = true) {w : List Nat} (hw : ∀ k, k ∈ w ↔ k < ls.length ∧ inn.getD k false = true) : Sats ls all pairs w := by
  simp only [satR, Bool.and_eq_true, List.all_eq_true] at h
  have e : ∀ m, (∃ k ∈ w, hasM ls k m = true) ↔ someR ls inn m = true := fun m => by
    rw [someR_iff]
    constructor
    · rintro ⟨k, hk, hm⟩; obtain ⟨a, b⟩ := (hw k).1 hk; exact ⟨k, a, b, hm⟩
    · rintro ⟨k, a, b, hm⟩; exact ⟨k, (hw k).2 ⟨a, b⟩, hm⟩
  refine ⟨fun m hm => (e m).2 (h.1 m hm), fun p hp h1 => (e _).2 ?_⟩
  have := h.2 p hp
  rw [(e _).1 h1] at this
  simpa using this
theorem core_all (hv : ValidG n ls) {k x : Nat} (hk : k < n) (hx : (compR n ls inn k).getD x false = true) (hne : (withinR ls inn (compR n ls inn k)).any id = true) (hs : satR ls all pairs (withinR ls inn (compR n ls inn k)) = true) : CoreAt ls all pairs (On inn) x := by
  rw [core_inner hv hk hx]
  obtain ⟨I, hI⟩ : ∃ I, I = withinR ls inn (compR n ls inn k) := ⟨_, rfl⟩
  rw [← hI] at hne hs ⊢
  have hIa : ∀ j, I.getD j false = true → j < ls.length ∧ inn.getD j false = true ∧ (compR n ls inn k).getD (frOf ls j) false = true ∧ (compR n ls inn k).getD (toOf ls j) false = true := fun j hj => by rw [hI] at hj; exact withinR_at.1 hj
  have hm : ∀ j, j ∈ (List.range ls.length).filter (fun j => I.getD j false) ↔ j < ls.length ∧ I.getD j false = true := fun j => by rw [List.mem_filter, List.mem_range]
  have hcm : ∀ y, y ∈ (List.range n).filter (fun y => (compR n ls inn k).getD y false) ↔ (compR n ls inn k).getD y false = true := fun y => by
    rw [List.mem_filter, List.mem_range]
    exact ⟨fun h => h.2, fun h => ⟨((compR_at hv hk).1 h).1, h⟩⟩
  obtain ⟨w, hw1, hw2⟩ := wk_tour (ls := ls) (c := (List.range n).filter fun y => (compR n ls inn k).getD y false) (l := (List.range ls.length).filter fun j => I.getD j false) (fun a ha b hb => by
    have ha' := (hcm a).1 ha
    have hb' := (hcm b).1 hb
    obtain ⟨_, _, u, hu⟩ := (compR_at hv hk).1 ha'
    obtain ⟨_, ⟨v, hv2⟩, _⟩ := (compR_at hv hk).1 hb'
    have hwk := walk_inner hv hk ha' hb' (hu.app hv2)
    rw [← hI] at hwk
    exact ⟨_, hwk.mono fun j hj hp => (hm j).2 ⟨(hwk.all j hj).1, hp⟩⟩) (fun j hj => by
      obtain ⟨h1, h2⟩ := (hm j).1 hj
      obtain ⟨_, _, h3, h4⟩ := hIa j h2
      exact ⟨h1, (hcm _).2 h3, (hcm _).2 h4⟩) ((hcm x).2 hx) ((List.range ls.length).filter fun j => I.getD j false) (fun j hj => hj)
  refine ⟨w, fun e => ?_, hw1.mono fun j _ hp => ((hm j).1 hp).2, satR_sats hs fun j => ⟨fun hj => (hm j).1 (hw1.all j hj).2, fun hj => hw2 j ((hm j).2 hj)⟩⟩
  rw [List.any_eq_true] at hne
  obtain ⟨b, hb, hbt⟩ := hne
  obtain ⟨j, hj, rfl⟩ := List.getElem_of_mem hb
  have hjt : I.getD j false = true := by rw [List.getD_eq_getElem?_getD, List.getElem?_eq_getElem hj]; exact hbt
  have := hw2 j ((hm j).2 ⟨(hIa j hjt).1, hjt⟩)
  rw [e] at this
  cases this
theorem any_id {l : List Bool} {j : Nat} (h : l.getD j false = true) : l.any id = true := by
  rw [List.any_eq_true]
  have hj : j < l.length := by
    rcases Nat.lt_or_ge j l.length with h' | h'
    · exact h'
    · rw [List.getD_eq_getElem?_getD, List.getElem?_eq_none h'] at h; cases h
  rw [List.getD_eq_getElem?_getD, List.getElem?_eq_getElem hj] at h
  exact ⟨_, List.getElem_mem hj, h⟩
theorem cTo_inv (hv : ValidG n ls) {rec : List Bool → List Bool} (hrec : ∀ inn', onCnt ls inn' < onCnt ls inn → ∀ x, (rec inn').getD x false = true ↔ x < n ∧ CoreAt ls all pairs (On inn') x) : ∀ k, k ≤ n →
    (∀ x, (cTo n ls all pairs rec inn k).1.getD x false = true ↔ (cTo n ls all pairs rec inn k).2.getD x false = true ∧ CoreAt ls all pairs (On inn) x) ∧ (∀ x, x < k → (cTo n ls all pairs rec inn k).2.getD x false = true) ∧ (∀ x, (cTo n ls all pairs rec inn k).2.getD x false = true → x < n)
  | 0, _ => by
    have hz : ∀ x, (List.replicate n false).getD x false = false := fun x => by
      rw [List.getD_eq_getElem?_getD, List.getElem?_replicate]
      split <;> simp
    refine ⟨fun x => ?_, fun x h => by omega, fun x h => ?_⟩
    · show (List.replicate n false).getD x false = true ↔ (List.replicate n false).getD x false = true ∧ _
      rw [hz]; simp
    · have h' : (List.replicate n false).getD x false = true := h
      rw [hz] at h'; cases h'
  | k + 1, hk => by
    obtain ⟨h1, h2, h3⟩ := cTo_inv hv hrec k (by omega)
    have hkn : k < n := by omega
    have e : cTo n ls all pairs rec inn (k + 1) = cStep n ls all pairs rec inn (cTo n ls all pairs rec inn k) k := by unfold cTo; rw [List.range_succ, List.foldl_append]; rfl
    rw [e]
    generalize cTo n ls all pairs rec inn k = s at *
    obtain ⟨out, done⟩ := s
    simp only at h1 h2 h3
    have hck : (compR n ls inn k).getD k false = true := (compR_at hv hkn).2 ⟨hkn, ⟨[], .nil k⟩, [], .nil k⟩
    have hcn : ∀ x, (compR n ls inn k).getD x false = true → x < n := fun x hx => ((compR_at hv hkn).1 hx).1
    have hd2 : ∀ x, x < k + 1 → (orB n done (compR n ls inn k)).getD x false = true := fun x hx => by
      rw [orB_at]
      refine ⟨by omega, ?_⟩
      by_cases hxk : x = k
      · subst hxk; exact .inr hck
      · exact .inl (h2 x (by omega))
    have hd3 : ∀ x, (orB n done (compR n ls inn k)).getD x false = true → x < n := fun x hx => (orB_at.1 hx).1

    have key : ∀ out' : List Bool, (∀ x, (out'.getD x false = true ↔ x < n ∧ (out.getD x false = true ∨ (compR n ls inn k).getD x false = true ∧ CoreAt ls all pairs (On inn) x))) → ∀ x, out'.getD x false = true ↔ (orB n done (compR n ls inn k)).getD x false = true ∧ CoreAt ls all pairs (On inn) x := fun out' h x => by
      rw [h, orB_at, h1]
      constructor
      · rintro ⟨a, ⟨b, c⟩ | ⟨b, c⟩⟩
        · exact ⟨⟨a, .inl b⟩, c⟩
        · exact ⟨⟨a, .inr b⟩, c⟩
      · rintro ⟨⟨a, b | b⟩, c⟩
        · exact ⟨a, .inl ⟨b, c⟩⟩
        · exact ⟨a, .inr ⟨b, c⟩⟩
    have keep : (∀ x, (compR n ls inn k).getD x false = true → ¬ CoreAt ls all pairs (On inn) x) → ∀ x, out.getD x false = true ↔ (orB n done (compR n ls inn k)).getD x false = true ∧ CoreAt ls all pairs (On inn) x := fun h => key out fun x => by
      constructor
      · intro hx
        exact ⟨h3 x ((h1 x).1 hx).1, .inl hx⟩
      · rintro ⟨_, a | ⟨a, b⟩⟩
        · exact a
        · exact absurd b (h x a)
    unfold cStep
    split
    · rename_i hdk
      refine ⟨h1, fun x hx => ?_, h3⟩
      by_cases hxk : x = k
      · subst hxk; exact hdk
      · exact h2 x (by omega)
    · split
      · rename_i _ hany
        refine ⟨keep fun x hx hc => ?_, hd2, hd3⟩
        rw [core_inner hv hkn hx] at hc
        obtain ⟨w, hne, hw, _⟩ := hc
        obtain ⟨j, r, rfl⟩ := List.exists_cons_of_ne_nil hne
        have := any_id (hw.all j (by simp)).2
        rw [hany] at this; cases this
      · split
        · rename_i _ hany hall
          refine ⟨keep fun x hx hc => ?_, hd2, hd3⟩
          rw [core_inner hv hkn hx] at hc
          obtain ⟨w, hne, hw, hs⟩ := hc
          rw [List.any_eq_true] at hall
          obtain ⟨m, hm, hno⟩ := hall
          obtain ⟨j, hj, hjm⟩ := hs.1 m hm
          have := someR_iff.2 ⟨j, (hw.all j hj).1, (hw.all j hj).2, hjm⟩
          rw [this] at hno; cases hno
        · split
          · rename_i _ hany hall hsat
            refine ⟨key _ fun x => ?_, hd2, hd3⟩
            rw [orB_at]
            constructor
            · rintro ⟨a, b | b⟩
              · exact ⟨a, .inl b⟩
              · exact ⟨a, .inr ⟨b, core_all hv hkn b (by simpa using hany) hsat⟩⟩
            · rintro ⟨a, b | b⟩
              · exact ⟨a, .inl b⟩
              · exact ⟨a, .inr b.1⟩
          · rename_i _ hany hall hsat
            have hlt := pairs_less (ls := ls) (all := all) (pairs := pairs) (inn := inn) (nodes := compR n ls inn k) (by simpa using hall) (by simpa using hsat)
            have hr := hrec _ hlt
            refine ⟨key _ fun x => ?_, hd2, hd3⟩
            rw [orB_at, andB_at, hr]
            have hcx : ∀ x, (compR n ls inn k).getD x false = true → (CoreAt ls all pairs (On (pairsR ls pairs (withinR ls inn (compR n ls inn k)))) x ↔ CoreAt ls all pairs (On inn) x) := fun x hx => by
              rw [core_inner hv hkn hx]
              exact (pairsR_core pairs _ fun p hp => hp).symm
            constructor
            · rintro ⟨a, b | ⟨_, b, _, c⟩⟩
              · exact ⟨a, .inl b⟩
              · exact ⟨a, .inr ⟨b, (hcx x b).1 c⟩⟩
            · rintro ⟨a, b | ⟨b, c⟩⟩
              · exact ⟨a, .inl b⟩
              · exact ⟨a, .inr ⟨a, b, a, (hcx x b).2 c⟩⟩
theorem coresS_iff (hv : ValidG n ls) : ∀ (f : Nat) (inn : List Bool), onCnt ls inn < f → ∀ x, (coresS n ls all pairs f inn).getD x false = true ↔ x < n ∧ CoreAt ls all pairs (On inn) x
  | 0, _, h => by omega
  | f + 1, inn, h => fun x => by
    obtain ⟨h1, h2, h3⟩ := cTo_inv (inn := inn) (all := all) (pairs := pairs) hv (rec := coresS n ls all pairs f) (fun inn' hlt => coresS_iff hv f inn' (by omega)) n (Nat.le_refl _)
    show (cTo n ls all pairs (coresS n ls all pairs f) inn n).1.getD x false = true ↔ _
    rw [h1]
    exact ⟨fun ⟨a, b⟩ => ⟨h3 x a, b⟩, fun ⟨a, b⟩ => ⟨h2 x a, b⟩⟩
end
end Go.Proofs.Ytnanffbjmfgafaa.S
namespace Go.Proofs.Ytnanffbjmfgafaa.S
open Go.RowKit
section
variable {ls : List Arrow} {all : List Nat} {pairs : List (Nat × Nat)}
end
end Go.Proofs.Ytnanffbjmfgafaa.S
namespace Go.Proofs.Ytnanffbjmfgafaa.S
open Go.RowKit
section
variable {ls : List Arrow} {nodes : List Nat} {on : List Bool}
end
end Go.Proofs.Ytnanffbjmfgafaa.S
namespace Go.Proofs.Ytnanffbjmfgafaa.S
open Go.RowKit
theorem asc_ext : ∀ {l1 l2 : List Nat}, l1.Pairwise (· < ·) → l2.Pairwise (· < ·) → (∀ x, x ∈ l1 ↔ x ∈ l2) → l1 = l2
  | [], [], _, _, _ => rfl
  | [], y :: l2, _, _, h => by have := (h y).2 (by simp); cases this
  | x :: l1, [], _, _, h => by have := (h x).1 (by simp); cases this
  | x :: l1, y :: l2, h1, h2, h => by
    obtain ⟨a1, a2⟩ := List.pairwise_cons.1 h1
    obtain ⟨b1, b2⟩ := List.pairwise_cons.1 h2
    have e : x = y := by
      have q1 := (h x).1 (by simp)
      have q2 := (h y).2 (by simp)
      rcases List.mem_cons.1 q1 with e | q1
      · exact e
      · rcases List.mem_cons.1 q2 with e | q2
        · exact e.symm
        · have := a1 y q2; have := b1 x q1; omega
    subst e
    rw [asc_ext a2 b2 fun z => ⟨fun hz => by
      have := (h z).1 (by simp [hz])
      rcases List.mem_cons.1 this with e | this
      · have := a1 z hz; omega
      · exact this, fun hz => by
      have := (h z).2 (by simp [hz])
      rcases List.mem_cons.1 this with e | this
      · have := b1 z hz; omega
      · exact this⟩]
section
variable (n : Nat) (ls : List Arrow) (all : List Nat) (pairs : List (Nat × Nat))
end
end Go.Proofs.Ytnanffbjmfgafaa.S
namespace Go.Proofs.Ytnanffbjmfgafaa.S
open Go.RowKit
section
variable {n : Nat} {ls : List Arrow} {all : List Nat} {pairs : List (Nat × Nat)}
end
end Go.Proofs.Ytnanffbjmfgafaa.S
namespace Go.Proofs.Ytnanffbjmfgafaa.S
open Go.RowKit
section
variable {n : Nat} {ls : List Arrow} {all : List Nat} {pairs : List (Nat × Nat)}
end
end Go.Proofs.Ytnanffbjmfgafaa.S
namespace Go.Proofs.Ytnanffbjmfgafaa.S
open Go.RowKit
section
variable {n : Int} {init : List Int} {ls : List ArrowI} {all : List Int} {pairs : List (Int × Int)}
end
end Go.Proofs.Ytnanffbjmfgafaa.S
namespace Go.Proofs.Ytnanffbjmfgafaa.S
open Go.RowKit
def numsR (l : List Bool) : List Nat := (List.range l.length).filter fun i => l.getD i false
theorem nums_asc (l : List Bool) : (numsR l).Pairwise (· < ·) := List.pairwise_lt_range.filter _
theorem getD_lt {l : List Bool} {j : Nat} (h : l.getD j false = true) : j < l.length := by
  rcases Nat.lt_or_ge j l.length with h' | h'
  · exact h'
  · rw [List.getD_eq_getElem?_getD, List.getElem?_eq_none h'] at h; cases h
theorem mem_numsR {l : List Bool} {x : Nat} : x ∈ numsR l ↔ l.getD x false = true := by
  unfold numsR
  rw [List.mem_filter, List.mem_range]
  exact ⟨fun h => h.2, fun h => ⟨getD_lt h, h⟩⟩
theorem nums_len (l : List Bool) : (numsR l).length ≤ l.length := by
  have := List.length_filter_le (fun i => l.getD i false) (List.range l.length)
  simpa [numsR] using this
def everyR (ls : List Arrow) : List Bool := List.replicate ls.length true
def coresM (n : Nat) (ls : List Arrow) (all : List Nat) (pairs : List (Nat × Nat)) : List Bool := coresS n ls all pairs (ls.length + 1) (everyR ls)
theorem orB_len (n : Nat) (a b : List Bool) : (orB n a b).length = n := by simp [orB]
theorem cTo_len {n : Nat} {ls : List Arrow} {all : List Nat} {pairs : List (Nat × Nat)} {rec : List Bool → List Bool} {inn : List Bool} : ∀ k, (cTo n ls all pairs rec inn k).1.length = n ∧ (cTo n ls all pairs rec inn k).2.length = n
  | 0 => ⟨by simp [cTo], by simp [cTo]⟩
  | k + 1 => by
    obtain ⟨h1, h2⟩ := cTo_len (n := n) (ls := ls) (all := all) (pairs := pairs) (rec := rec) (inn := inn) k
    have e : cTo n ls all pairs rec inn (k + 1) = cStep n ls all pairs rec inn (cTo n ls all pairs rec inn k) k := by unfold cTo; rw [List.range_succ, List.foldl_append]; rfl
    rw [e]
    unfold cStep
    split
    · exact ⟨h1, h2⟩
    · split
      · exact ⟨h1, orB_len _ _ _⟩
      · split
        · exact ⟨h1, orB_len _ _ _⟩
        · split
          · exact ⟨orB_len _ _ _, orB_len _ _ _⟩
          · exact ⟨orB_len _ _ _, orB_len _ _ _⟩
theorem coresS_len (n : Nat) (ls : List Arrow) (all : List Nat) (pairs : List (Nat × Nat)) : ∀ (f : Nat) (inn : List Bool), (coresS n ls all pairs f inn).length = n
  | 0, _ => by simp [coresS]
  | f + 1, inn => (cTo_len n).1
section
variable {n : Nat} {ls : List Arrow} {all : List Nat} {pairs : List (Nat × Nat)}
theorem on_every {k : Nat} : On (everyR ls) k ↔ k < ls.length := by
  unfold On everyR
  rw [List.getD_eq_getElem?_getD, List.getElem?_replicate]
  split <;> simp_all
theorem wk_every {x y : Nat} {w : List Nat} : Wk ls (On (everyR ls)) x w y ↔ Wk ls AllA x w y := ⟨fun h => h.mono fun _ _ _ => trivial, fun h => h.mono fun k hk _ => on_every.2 (h.all k hk).1⟩
theorem core_every {x : Nat} : CoreAt ls all pairs (On (everyR ls)) x ↔ CoreAt ls all pairs AllA x := by unfold CoreAt; simp only [wk_every]
theorem coresM_iff (hv : ValidG n ls) {x : Nat} : (coresM n ls all pairs).getD x false = true ↔ x < n ∧ CoreAt ls all pairs AllA x := by
  unfold coresM
  rw [coresS_iff hv _ _ (Nat.lt_succ_of_le (onCnt_le _)), core_every]
theorem coresM_len : (coresM n ls all pairs).length = n := coresS_len _ _ _ _ _ _
end
section
variable {n : Int} {init : List Int} {ls : List ArrowI} {all : List Int} {pairs : List (Int × Int)}
def refCoresI (n : Int) (ls : List ArrowI) (all : List Int) (pairs : List (Int × Int)) : List Nat × Int :=
  if checkI n [] ls all pairs = 0 then (numsR (coresM n.toNat (ls.map toA) (all.map Int.toNat) (pairs.map toP)), 0) else ([], checkI n [] ls all pairs)
def refFromI (n : Int) (ls : List ArrowI) (all : List Int) (pairs : List (Int × Int)) : List Nat × Int :=
  if checkI n [] ls all pairs = 0 then (numsR (rchR (ls.map toA) (everyR (ls.map toA)) true n.toNat (coresM n.toNat (ls.map toA) (all.map Int.toNat) (pairs.map toP))), 0) else ([], checkI n [] ls all pairs)
theorem cores_same (hn : n ≤ 12 ∨ n > 20000) (hl : ls.length ≤ 41) : coresI n ls all pairs = some (refCoresI n ls all pairs) := by
  by_cases hC : checkI n [] ls all pairs = 0
  · have hk := checked hC
    have h12 : n ≤ 12 := by have := hk.n1; omega
    obtain ⟨c, h1, h2, h3, h4⟩ := coresI_small hC h12 hl
    rw [h1]
    unfold refCoresI
    rw [if_pos hC]
    congr 2
    refine asc_ext h2 (nums_asc _) fun x => ?_
    rw [h4, mem_numsR, coresM_iff hk.validG]
  · unfold coresI refCoresI
    rw [if_neg hC, if_neg hC]
theorem from_same (hn : n ≤ 12 ∨ n > 20000) (hl : ls.length ≤ 41) : fromI n ls all pairs = some (refFromI n ls all pairs) := by
  by_cases hC : checkI n [] ls all pairs = 0
  · have hk := checked hC
    have h12 : n ≤ 12 := by have := hk.n1; omega
    obtain ⟨f, h1, h2, h3, h4, h5⟩ := fromI_small hC h12 hl
    rw [h1]
    unfold refFromI
    rw [if_pos hC]
    congr 2
    refine asc_ext h2 (nums_asc _) fun x => ?_
    rw [h5, mem_numsR, rchR_iff hk.validG coresM_len]
    simp only [coresM_iff hk.validG, rc_bwd, wk_every, and_assoc]
  · unfold fromI coresI refFromI
    rw [if_neg hC, if_neg hC]
    simp only
    rw [if_neg hC]
end
end Go.Proofs.Ytnanffbjmfgafaa.S
namespace Go.Proofs.Ytnanffbjmfgafaa.S
open Go.RowKit
section
variable (n : Nat) (ls : List Arrow) (all : List Nat) (pairs : List (Nat × Nat))
end
section
variable {n : Nat} {ls : List Arrow} {all : List Nat} {pairs : List (Nat × Nat)}
end
section
variable {n : Int} {init : List Int} {ls : List ArrowI} {all : List Int} {pairs : List (Int × Int)}
end
end Go.Proofs.Ytnanffbjmfgafaa.S
namespace Go.Proofs.Ytnanffbjmfgafaa.S
open Go.RowKit
def OwnB (v : Value) (l : List Bool) (H : Own) : Prop := OwnS 4 1 v l.length (l.map .bool) H
theorem OwnB.open' {v : Value} {l : List Bool} {H : Own} (h : OwnB v l H) (hl : 0 < l.length) : ∃ b cap cs, v = .slice (some ⟨b, 0, none⟩) l.length cap ∧ H = [(b, cellsO cs 4)] ∧ (∀ i (h : i < l.length), cs[i]? = some (.bool l[i])) ∧
    ∀ i c, i < l.length → OwnB (.slice (some ⟨b, 0, none⟩) l.length cap) (l.set i c) [(b, cellsO (cs.set i (.bool c)) 4)] := by
  obtain ⟨b, cap, pad, rfl, h1, h2, h3, rfl⟩ := h.pos hl
  refine ⟨b, cap, _, rfl, rfl, fun i hi => ?_, fun i c hi => ?_⟩
  · rw [List.getElem?_append_left (by simpa using hi)]; simp [hi]
  · refine .inr ⟨b, cap, pad, by rw [List.length_set], by simp, ?_, by rw [List.length_set]; exact h3, ?_⟩
    · simpa using h2
    · rw [List.map_set, List.set_append_left _ _ (by simpa using hi)]
theorem OwnB.form {v : Value} {l : List Bool} {H : Own} (h : OwnB v l H) : ∃ a cap, v = .slice a l.length cap := OwnS.form h
theorem OwnB.lendB {v : Value} {l : List Bool} {H L : Own} {g : Ghost} {w : World} (h : OwnB v l H) (hs : St g w (H ++ L)) : ∃ g', g ≤ g' ∧ St g' w L ∧ RS kBool g' v l ∧ ∀ gc w' L', g' ≤ gc → St gc w' L' → ∃ ga, g ≤ ga ∧ ga ≤ gc ∧ St ga w' (H ++ L') :=
  OwnS.lend (e := eBool) (h0 := fun _ => rfl) (by rw [flat_bools]; exact h) hs
theorem OwnB.freezeB {v : Value} {l : List Bool} {H L : Own} {g : Ghost} {w : World} (h : OwnB v l H) (hs : St g w (H ++ L)) : ∃ g', g ≤ g' ∧ St g' w L ∧ RS kBool g' v l :=
  OwnS.freezeE (e := eBool) (h0 := fun _ => rfl) (by rw [flat_bools]; exact h) hs
theorem getD_at {l : List Bool} {i : Nat} (h : i < l.length) : l.getD i false = l[i] := by rw [List.getD_eq_getElem?_getD, List.getElem?_eq_getElem h]; rfl
theorem refHas_spec (g : Ghost) (f t : Value) (x m : Nat) (hx : x < 4294967296) (hf : f.oneCell' = true) (ht : t.oneCell' = true) :
    Cl PP 31 [.agg #[f, t, .int .u32 x], .int .i64 m] g [] (Det (.bool (x.testBit m))) := by
  refine cl_intro Try.func31 rfl rfl Try.ntmps31 rfl ?_
  intro w F hs
  repeat (refine wc_seq ?_)
  refine wc_region ?_
  refine wl_box hs rfl rfl rfl rfl ?_; clear hs; intro b w hs
  repeat (refine wl_p rfl rfl rfl ?_)
  refine wl_nil (wk_seq ?_)
  repeat (refine wc_seq ?_)
  refine wc_region ?_
  repeat (refine wl_p rfl rfl rfl ?_)
  refine wl_ldO hs 0 rfl rfl rfl rfl rfl rfl rfl ?_
  repeat (refine wl_p rfl rfl rfl ?_)
  refine wl_shr rfl rfl (by omega) rfl rfl ?_
  refine wl_and rfl rfl rfl rfl ?_
  repeat (refine wl_p rfl rfl rfl ?_)
  refine wl_nil (wk_seq ?_)
  exact wc_retV (res1 rfl rfl) ⟨g, [], Ghost.rfl', hs.drop, rfl, congrArg Value.bool (bit_eq x m hx)⟩
theorem hasM_arr {ls : List Arrow} {i : Nat} (h : i < ls.length) (m : Nat) : hasM ls i m = (ls[i]).ms.testBit m := hasM_at h
theorem any_to {f : Nat → Bool} {n i : Nat} (hi : i < n) (h : f i = true) : (List.range n).any f = true := List.any_eq_true.2 ⟨i, List.mem_range.2 hi, h⟩
theorem any_none {f : Nat → Bool} {n : Nat} (h : ∀ j, j < n → f j = false) : (List.range n).any f = false := List.any_eq_false.2 fun j hj => by rw [h j (List.mem_range.1 hj)]; simp
theorem refSome_spec (g : Ghost) (vl vin : Value) (n m : Nat) (ls : List Arrow) (inn : List Bool) (hl : RS kArr g vl ls) (hv : ValidG n ls) (hin : RS kBool g vin inn) (hlen : inn.length = ls.length) :
    Cl PP 98 [vl, vin, .int .i64 (m : Int)] g [] (Det (.bool (someR ls inn m))) := by
  obtain ⟨al, cl, rfl⟩ := hl.form
  obtain ⟨ai, ci, rfl⟩ := hin.form
  have hl0 := hv.len
  refine cl_intro Try.func98 rfl rfl Try.ntmps98 rfl ?_
  intro w F hs
  repeat (refine wc_seq ?_)
  refine wc_region ?_
  repeat (refine wl_p rfl rfl rfl ?_)
  refine wl_nil (wk_seq ?_)
  repeat (refine wc_seq ?_)
  refine wc_region ?_
  repeat (refine wl_p rfl rfl rfl ?_)
  refine wl_nil (wk_seq ?_)
  repeat (refine wc_seq ?_)
  refine wc_fori ls.length (fun _ (_ : Unit) => [(0, .slice al ls.length cl), (1, .slice ai inn.length ci), (2, .int .i64 (m : Int))]) (fun i (_ : Unit) w => ∃ g', g ≤ g' ∧ St g' w F ∧ ∀ j, j < i → (inn.getD j false && hasM ls j m) = false) () (by repeat (first | exact trivial | refine ⟨rfl, ?_⟩)) ⟨g, Ghost.rfl', hs, fun j h => by omega⟩ ?_ ?_ ?_
  · intro i _ w s' hi hJ hk
    repeat (refine wl_p rfl rfl rfl ?_)
    exact wl_nil (wk_weak (by repeat (first | exact trivial | refine ⟨rfl, ?_⟩)) hk)
  · rintro i _ w hi ⟨g1, hg1, hs, hj⟩
    have hi2 : i < inn.length := by omega
    have hb := hl.base hi
    have hc := (hl.mono hg1).enc hi
    have hb2 := hin.base hi2
    have hc2 := (hin.mono hg1).bool hi2
    have hgd := getD_at hi2
    generalize inn[i] = q at hc2 hgd
    repeat (refine wc_seq ?_)
    refine wc_region ?_
    repeat (refine wl_p rfl rfl rfl ?_)
    refine wl_ix rfl rfl rfl rfl rfl (by omega) (hb2) rfl rfl ?_
    refine wl_ldG hs (hc2) rfl rfl rfl rfl rfl ?_
    repeat (refine wl_p rfl rfl rfl ?_)
    cases q with
    | true =>
      repeat (first | refine wl_p rfl rfl rfl ?_ | refine wl_skip rfl rfl rfl ?_)
      refine wl_ix rfl rfl rfl rfl rfl (by omega) hb rfl rfl ?_
      refine wl_ldGN hs (hc.of_eaddr) rfl rfl rfl rfl rfl rfl ?_
      repeat (first | refine wl_p rfl rfl rfl ?_ | refine wl_skip rfl rfl rfl ?_)
      refine wl_call rfl rfl rfl (L := []) hs (refHas_spec g1 _ _ ls[i].ms m (by have := (hv.ok _ (List.getElem_mem hi)).2.2; omega) rfl rfl) ?_
      rintro u g2 L' w hg2 hs ⟨rfl, rfl⟩
      repeat (first | refine wl_p rfl rfl rfl ?_ | refine wl_skip rfl rfl rfl ?_)
      refine wl_nil (wk_seq ?_)
      refine wc_cond rfl (fun h => ?_) (fun h => ?_)
      · repeat (refine wc_seq ?_)
        refine wc_region ?_
        repeat (refine wl_p rfl rfl rfl ?_)
        refine wl_nil (wk_seq ?_)
        refine wc_retV (res1 rfl rfl) ⟨g2, [], Ghost.tr hg1 hg2, hs, rfl, ?_⟩
        have h' : (ls[i]).ms.testBit m = true := h
        unfold someR
        rw [any_to hi (by rw [hgd, hasM_arr hi, h']; rfl)]
      · have h' : (ls[i]).ms.testBit m = false := h
        refine wc_skip (wk_blk (wk_nexti () hi (by omega) ⟨g2, Ghost.tr hg1 hg2, hs, fun j h => ?_⟩ rfl rfl rfl rfl (by repeat (first | exact trivial | refine ⟨rfl, ?_⟩))))
        by_cases e : j = i
        · subst e; rw [hgd, hasM_arr hi, h']; rfl
        · exact hj j (by omega)
    | false =>
      repeat (first | refine wl_p rfl rfl rfl ?_ | refine wl_skip rfl rfl rfl ?_)
      refine wl_nil (wk_seq ?_)
      refine wc_condF rfl rfl (wc_skip (wk_blk (wk_nexti () hi (by omega) ⟨g1, hg1, hs, fun j h => ?_⟩ rfl rfl rfl rfl (by repeat (first | exact trivial | refine ⟨rfl, ?_⟩)))))
      by_cases e : j = i
      · subst e; rw [hgd]; rfl
      · exact hj j (by omega)
  · rintro _ w ⟨g1, hg1, hs, hj⟩
    refine wk_seq ?_
    repeat (refine wc_seq ?_)
    refine wc_region ?_
    repeat (refine wl_p rfl rfl rfl ?_)
    refine wl_nil (wk_seq ?_)
    exact wc_retV (res1 rfl rfl) ⟨g1, [], hg1, hs, rfl, by unfold someR; rw [any_none hj]⟩
theorem every_spec (g : Ghost) (vl : Value) (ls : List Arrow) (hl : RS kArr g vl ls) (hl0 : ls.length ≤ 200000) : Cl PP 65 [vl] g [] fun g' L' r => L' = [] ∧ RS kBool g' r (everyR ls) := by
  obtain ⟨al, cl, rfl⟩ := hl.form
  refine cl_intro Try.func65 rfl rfl Try.ntmps65 rfl ?_
  intro w F hs
  repeat (refine wc_seq ?_)
  refine wc_region ?_
  repeat (refine wl_p rfl rfl rfl ?_)
  refine wl_nil (wk_seq ?_)
  repeat (refine wc_seq ?_)
  refine wc_region ?_
  repeat (refine wl_p rfl rfl rfl ?_)
  refine wl_make hs rfl (by omega) rfl rfl rfl rfl rfl rfl rfl ?_
  clear hs; intro ob w hs
  rw [zero_boolsN] at hs
  repeat (refine wl_p rfl rfl rfl ?_)
  refine wl_nil (wk_seq ?_)
  repeat (refine wc_seq ?_)
  refine wc_region ?_
  repeat (refine wl_p rfl rfl rfl ?_)
  refine wl_nil (wk_seq ?_)
  repeat (refine wc_seq ?_)
  refine wc_fori ls.length (fun _ (_ : List Bool) => [(0, .slice al ls.length cl), (3, .slice (some ⟨ob, 0, none⟩) ls.length ls.length)]) (fun i (x : List Bool) w => x.length = ls.length ∧ (∀ j, j < i → x.getD j false = true) ∧ St g w ((ob, cellsO (x.map .bool) 4) :: F)) (List.replicate ls.length false) (by repeat (first | exact trivial | refine ⟨rfl, ?_⟩)) ⟨by simp, fun j h => by omega, hs⟩ ?_ ?_ ?_
  · intro i _ w s' hi hJ hk
    repeat (refine wl_p rfl rfl rfl ?_)
    exact wl_nil (wk_weak (by repeat (first | exact trivial | refine ⟨rfl, ?_⟩)) hk)
  · rintro i x w hi ⟨hx, hj, hs⟩
    repeat (refine wc_seq ?_)
    refine wc_region ?_
    repeat (refine wl_p rfl rfl rfl ?_)
    refine wl_ixJ _ rfl rfl rfl rfl rfl (hi) rfl rfl rfl ?_
    refine wl_st (u := .bool (x[i]'(by omega))) hs 0 rfl rfl rfl (by simp [hx, hi]) rfl rfl rfl rfl ?_
    clear hs; intro w hs
    refine wl_nil (wk_blk (wk_nexti (x.set i true) hi (by omega) ⟨by rw [List.length_set]; exact hx, fun j h => ?_, ?_⟩ rfl rfl rfl rfl (by repeat (first | exact trivial | refine ⟨rfl, ?_⟩))))
    · rw [getD_setB (by omega)]
      split
      · rfl
      · exact hj j (by omega)
    · rw [List.map_set]; exact hs
  · rintro x w ⟨hx, hj, hs⟩
    refine wk_seq ?_
    repeat (refine wc_seq ?_)
    refine wc_region ?_
    repeat (refine wl_p rfl rfl rfl ?_)
    refine wl_nil (wk_seq ?_)
    have e : x = everyR ls := by
      apply List.ext_getElem
      · simp [everyR, hx]
      · intro i h1 h2
        have := hj i (by omega)
        rw [getD_at h1] at this
        simp [everyR, this]
    subst e
    obtain ⟨g2, hg2, hs1, hr3⟩ := OwnS.freezeE (e := eBool) (h0 := fun _ => rfl) (xs := everyR ls) (own_bools hx) hs
    exact wc_retV (res1 rfl rfl) ⟨g2, [], hg2, hs1, rfl, hr3⟩
theorem refOne_spec (g : Ghost) (n k : Nat) (hn : n ≤ 20000) (hk : k < n) : Cl PP 108 [.int .i64 (n : Int), .int .i64 (k : Int)] g [] fun g' L' r => L' = [] ∧ RS kBool g' r (oneR n k) := by
  refine cl_intro Try.func108 rfl rfl Try.ntmps108 rfl ?_
  intro w F hs
  repeat (refine wc_seq ?_)
  refine wc_region ?_
  repeat (refine wl_p rfl rfl rfl ?_)
  refine wl_nil (wk_seq ?_)
  repeat (refine wc_seq ?_)
  refine wc_region ?_
  repeat (refine wl_p rfl rfl rfl ?_)
  refine wl_make hs rfl (by omega) rfl rfl rfl rfl rfl rfl rfl ?_
  clear hs; intro ob w hs
  rw [zero_boolsN] at hs
  repeat (refine wl_p rfl rfl rfl ?_)
  refine wl_nil (wk_seq ?_)
  repeat (refine wc_seq ?_)
  refine wc_region ?_
  repeat (refine wl_p rfl rfl rfl ?_)
  refine wl_ixJ _ rfl rfl rfl rfl rfl (hk) rfl rfl rfl ?_
  refine wl_st (u := .bool false) hs 0 rfl rfl rfl (by simp [hk]) rfl rfl rfl rfl ?_
  clear hs; intro w hs
  refine wl_nil (wk_seq ?_)
  repeat (refine wc_seq ?_)
  refine wc_region ?_
  repeat (refine wl_p rfl rfl rfl ?_)
  refine wl_nil (wk_seq ?_)
  obtain ⟨g2, hg2, hs1, hr3⟩ := OwnS.freezeE (e := eBool) (h0 := fun _ => rfl) (xs := oneR n k) (own_bools (n := n) (by simp [oneR])) (by rw [oneR, List.map_set]; exact hs)
  exact wc_retV (res1 rfl rfl) ⟨g2, [], hg2, hs1, rfl, hr3⟩
theorem nums_snoc {l : List Bool} {i : Nat} (hi : i < l.length) : (List.range (i + 1)).filter (fun j => l.getD j false) = (List.range i).filter (fun j => l.getD j false) ++ if l[i] = true then [i] else [] := by
  rw [List.range_succ, List.filter_append, List.filter_cons, getD_at hi]
  rfl
theorem refNumbers_spec (g : Ghost) (vl : Value) (l : List Bool) (hl : RS kBool g vl l) (hl0 : l.length ≤ 4000000000) : Cl PP 63 [vl] g [] fun g' L' r => L' = [] ∧ RS kNat g' r (numsR l) := by
  obtain ⟨al, cl, rfl⟩ := hl.form
  refine cl_intro Try.func63 rfl rfl Try.ntmps63 rfl ?_
  intro w F hs
  repeat (refine wc_seq ?_)
  refine wc_region ?_
  repeat (refine wl_p rfl rfl rfl ?_)
  refine wl_nil (wk_seq ?_)
  repeat (refine wc_seq ?_)
  refine wc_region ?_
  repeat (refine wl_p rfl rfl rfl ?_)
  refine wl_nil (wk_seq ?_)
  repeat (refine wc_seq ?_)
  refine wc_region ?_
  repeat (refine wl_p rfl rfl rfl ?_)
  refine wl_nil (wk_seq ?_)
  repeat (refine wc_seq ?_)
  refine wc_fori l.length (fun _ (x : Value × Own) => [(0, .slice al l.length cl), (3, x.1)]) (fun i (x : Value × Own) w => OwnS 3 1 x.1 ((List.range i).filter fun j => l.getD j false).length (((List.range i).filter fun j => l.getD j false).flatMap eNat) x.2 ∧ St g w (x.2 ++ F)) (.slice none 0 0, []) (by repeat (first | exact trivial | refine ⟨rfl, ?_⟩)) ⟨OwnS.nil _ _, hs⟩ ?_ ?_ ?_
  · rintro i ⟨v, H⟩ w s' hi hJ hk
    repeat (refine wl_p rfl rfl rfl ?_)
    exact wl_nil (wk_weak (by repeat (first | exact trivial | refine ⟨rfl, ?_⟩)) hk)
  · rintro i ⟨v, H⟩ w hi ⟨hown, hs⟩
    simp only at hown hs
    have hb := hl.base hi
    have hc := hl.bool hi
    have hsn := nums_snoc hi
    have hcnt : ((List.range i).filter fun j => l.getD j false).length ≤ i := by
      have := List.length_filter_le (fun j => l.getD j false) (List.range i)
      simpa using this
    generalize l[i] = q at hc hsn
    repeat (refine wc_seq ?_)
    refine wc_region ?_
    repeat (refine wl_p rfl rfl rfl ?_)
    refine wl_ix rfl rfl rfl rfl rfl (by omega) (hb) rfl rfl ?_
    refine wl_ldG hs (hc) rfl rfl rfl rfl rfl ?_
    refine wl_nil (wk_seq ?_)
    cases q with
    | true =>
      refine wc_condT rfl rfl ?_
      repeat (refine wc_seq ?_)
      refine wc_region ?_
      repeat (refine wl_p rfl rfl rfl ?_)
      refine wl_push hs hown (by omega) rfl rfl rfl rfl rfl rfl rfl rfl rfl rfl rfl rfl rfl rfl ?_
      clear hs; rintro v' w H' hown' hs
      repeat (refine wl_p rfl rfl rfl ?_)
      refine wl_nil (wk_blk (wk_nexti (v', H') hi (by omega) ⟨?_, hs⟩ rfl rfl rfl rfl (by repeat (first | exact trivial | refine ⟨rfl, ?_⟩))))
      simp only [hsn, if_true, List.length_append, List.length_singleton, List.flatMap_append]
      exact hown'
    | false =>
      refine wc_condF rfl rfl (wc_skip (wk_blk (wk_nexti (v, H) hi (by omega) ⟨?_, hs⟩ rfl rfl rfl rfl (by repeat (first | exact trivial | refine ⟨rfl, ?_⟩)))))
      simp only [hsn, Bool.false_eq_true, if_false, List.append_nil]
      exact hown
  · rintro ⟨v, H⟩ w ⟨hown, hs⟩
    simp only at hown hs
    refine wk_seq ?_
    repeat (refine wc_seq ?_)
    refine wc_region ?_
    repeat (refine wl_p rfl rfl rfl ?_)
    refine wl_nil (wk_seq ?_)
    obtain ⟨g2, hg2, hs1, hr3⟩ := OwnS.freezeE (e := eNat) (h0 := fun _ => rfl) (xs := numsR l) hown hs
    exact wc_retV (res1 rfl rfl) ⟨g2, [], hg2, hs1, rfl, hr3⟩
end Go.Proofs.Ytnanffbjmfgafaa.S
namespace Go.Proofs.Ytnanffbjmfgafaa.S
open Go.RowKit
theorem refSatisfied_spec (g : Ghost) (vl vin va vp : Value) (n : Nat) (ls : List Arrow) (inn : List Bool) (all : List Nat) (pairs : List (Nat × Nat)) (hl : RS kArr g vl ls) (hv : ValidG n ls) (hin : RS kBool g vin inn) (hlen : inn.length = ls.length) (ha : RS kNat g va all) (hp : RS kPair g vp pairs)
    (ha0 : all.length ≤ 4611686018427387904) (hp0 : pairs.length ≤ 4611686018427387904) :
    Cl PP 99 [vl, vin, .agg #[va, vp]] g [] (Det (.bool (satR ls all pairs inn))) := by
  obtain ⟨aa, ca, rfl⟩ := ha.form
  obtain ⟨ap, cp, rfl⟩ := hp.form
  refine cl_intro Try.func99 rfl rfl Try.ntmps99 rfl ?_
  intro w F hs
  repeat (refine wc_seq ?_)
  refine wc_region ?_
  refine wl_box hs rfl rfl rfl rfl ?_; clear hs; intro wb w hs
  repeat (refine wl_p rfl rfl rfl ?_)
  refine wl_nil (wk_seq ?_)
  obtain ⟨g1, hg1, hs, hwb⟩ := freezeB hs
  replace hs := (show St g1 w F from hs)
  replace hwb := (show Lies g1 wb 0 [.slice aa all.length ca, .slice ap pairs.length cp] from hwb)
  have e : satR ls all pairs inn = (all.all (fun m => someR ls inn m) && pairs.all fun p => !(someR ls inn p.1 && !someR ls inn p.2)) := rfl
  repeat (refine wc_seq ?_)
  refine wc_region ?_
  repeat (refine wl_p rfl rfl rfl ?_)
  refine wl_nil (wk_seq ?_)
  repeat (refine wc_seq ?_)
  refine wc_fori all.length (fun _ (_ : Unit) => [(0, vl), (1, vin), (5, .pointer (some ⟨wb, 0, none⟩))]) (fun i (_ : Unit) w => ∃ g', g1 ≤ g' ∧ St g' w F ∧ ∀ j (h : j < i) (h' : j < all.length), someR ls inn all[j] = true) () (by repeat (first | exact trivial | refine ⟨rfl, ?_⟩)) ⟨g1, Ghost.rfl', hs, fun j h => by omega⟩ ?_ ?_ ?_
  · rintro i _ w s' hi ⟨g2, hg2, hs, hj⟩ hk
    repeat (refine wl_p rfl rfl rfl ?_)
    refine wl_ldG hs (hwb.mono hg2 0 _ rfl) rfl rfl rfl rfl rfl ?_
    repeat (refine wl_p rfl rfl rfl ?_)
    exact wl_nil (wk_weak (by repeat (first | exact trivial | refine ⟨rfl, ?_⟩)) hk)
  · rintro i _ w hi ⟨g2, hg2, hs, hj⟩
    have hg02 := Ghost.tr hg1 hg2
    have hb := ha.base hi
    have hc := (ha.mono hg02).nat hi
    repeat (refine wc_seq ?_)
    refine wc_region ?_
    repeat (refine wl_p rfl rfl rfl ?_)
    refine wl_ldG hs (hwb.mono hg2 0 _ rfl) rfl rfl rfl rfl rfl ?_
    repeat (refine wl_p rfl rfl rfl ?_)
    refine wl_ix rfl rfl rfl rfl rfl (by omega) (hb) rfl rfl ?_
    refine wl_ldG hs (hc) rfl rfl rfl rfl rfl ?_
    refine wl_call rfl rfl rfl (L := []) hs (refSome_spec g2 vl vin n all[i] ls inn (hl.mono hg02) hv (hin.mono hg02) hlen) ?_
    rintro u g3 L' w hg3 hs ⟨rfl, rfl⟩
    repeat (refine wl_p rfl rfl rfl ?_)
    refine wl_nil (wk_seq ?_)
    have hg03 := Ghost.tr hg02 hg3
    refine wc_cond rfl (fun h => ?_) (fun h => ?_)
    · have h' : someR ls inn all[i] = false := by simpa using h
      repeat (refine wc_seq ?_)
      refine wc_region ?_
      repeat (refine wl_p rfl rfl rfl ?_)
      refine wl_nil (wk_seq ?_)
      refine wc_retV (res1 rfl rfl) ⟨g3, [], hg03, hs, rfl, ?_⟩
      have : all.all (fun m => someR ls inn m) = false := List.all_eq_false.2 ⟨_, List.getElem_mem hi, by rw [h']; simp⟩
      rw [e, this]
      rfl
    · have h' : someR ls inn all[i] = true := by simpa using h
      refine wc_skip (wk_blk (wk_nexti () hi (by omega) ⟨g3, Ghost.tr hg2 hg3, hs, fun j h h2 => ?_⟩ rfl rfl rfl rfl (by repeat (first | exact trivial | refine ⟨rfl, ?_⟩))))
      by_cases q : j = i
      · subst q; exact h'
      · exact hj j (by omega) h2
  · rintro _ w ⟨g2, hg2, hs, hj⟩
    have hA : all.all (fun m => someR ls inn m) = true := by
      rw [List.all_eq_true]
      intro m hm
      obtain ⟨j, h, rfl⟩ := List.getElem_of_mem hm
      exact hj j h h
    rw [hA, Bool.true_and] at e
    refine wk_seq ?_
    repeat (refine wc_seq ?_)
    refine wc_region ?_
    repeat (refine wl_p rfl rfl rfl ?_)
    refine wl_nil (wk_seq ?_)
    repeat (refine wc_seq ?_)
    refine wc_fori pairs.length (fun _ (_ : Unit) => [(0, vl), (1, vin), (5, .pointer (some ⟨wb, 0, none⟩))]) (fun i (_ : Unit) w => ∃ g', g2 ≤ g' ∧ St g' w F ∧ ∀ j (h : j < i) (h' : j < pairs.length), (someR ls inn pairs[j].1 && !someR ls inn pairs[j].2) = false) () (by repeat (first | exact trivial | refine ⟨rfl, ?_⟩)) ⟨g2, Ghost.rfl', hs, fun j h => by omega⟩ ?_ ?_ ?_
    · rintro i _ w s' hi ⟨g3, hg3, hs, hj⟩ hk
      repeat (refine wl_p rfl rfl rfl ?_)
      refine wl_ldG hs (hwb.mono (Ghost.tr hg2 hg3) 1 _ rfl) rfl rfl rfl rfl rfl ?_
      repeat (refine wl_p rfl rfl rfl ?_)
      exact wl_nil (wk_weak (by repeat (first | exact trivial | refine ⟨rfl, ?_⟩)) hk)
    · rintro i _ w hi ⟨g3, hg3, hs, hj⟩
      have hg13 := Ghost.tr hg2 hg3
      have hg03 := Ghost.tr hg1 hg13
      obtain ⟨pb, po, rfl⟩ := hp.base hi
      replace hs : St g3 w F := by assumption
      have hb : ∃ b o, some (⟨pb, po, none⟩ : Addr) = some ⟨b, o, none⟩ := ⟨pb, po, rfl⟩
      have hc := (hp.mono hg03).enc hi
      have bad : (someR ls inn pairs[i].1 && !someR ls inn pairs[i].2) = true → satR ls all pairs inn = false := fun h => by
        rw [e, List.all_eq_false]
        exact ⟨_, List.getElem_mem hi, by rw [h]; simp⟩
      have go : (someR ls inn pairs[i].1 && !someR ls inn pairs[i].2) = false → ∀ j (h : j < i + 1) (h' : j < pairs.length), (someR ls inn pairs[j].1 && !someR ls inn pairs[j].2) = false := fun h j h1 h2 => by
        by_cases q : j = i
        · subst q; exact h
        · exact hj j (by omega) h2
      obtain ⟨m1, hm1⟩ : ∃ m, m = pairs[i].1 := ⟨_, rfl⟩
      obtain ⟨m2, hm2⟩ : ∃ m, m = pairs[i].2 := ⟨_, rfl⟩
      have hcc : Lies g3 pb (po + i * 2) [.int .i64 (m1 : Int), .int .i64 (m2 : Int)] := by rw [hm1, hm2]; exact hc
      rw [← hm1, ← hm2] at bad go
      repeat (refine wc_seq ?_)
      refine wc_region ?_
      repeat (refine wl_p rfl rfl rfl ?_)
      refine wl_ldG hs (hwb.mono hg13 1 _ rfl) rfl rfl rfl rfl rfl ?_
      repeat (refine wl_p rfl rfl rfl ?_)
      refine wl_ix rfl rfl rfl rfl rfl (by omega) (hb) rfl rfl ?_
      refine wl_ixA rfl rfl rfl rfl rfl (by omega) rfl rfl ?_
      refine wl_ldG hs (hcc 0 _ rfl) rfl rfl rfl rfl rfl ?_
      refine wl_call rfl rfl rfl (L := []) hs (refSome_spec g3 vl vin n m1 ls inn (hl.mono hg03) hv (hin.mono hg03) hlen) ?_
      rintro u g4 L' w hg4 hs ⟨rfl, rfl⟩
      have hg04 := Ghost.tr hg03 hg4
      repeat (refine wl_p rfl rfl rfl ?_)
      refine wl_case 41 rfl (fun q1 => ?_) (fun q1 => ?_)
      · rw [q1, Bool.true_and] at bad go
        repeat (first | refine wl_p rfl rfl rfl ?_ | refine wl_skip rfl rfl rfl ?_)
        refine wl_ldG hs (hwb.mono (Ghost.tr hg13 hg4) 1 _ rfl) rfl rfl rfl rfl rfl ?_
        repeat (first | refine wl_p rfl rfl rfl ?_ | refine wl_skip rfl rfl rfl ?_)
        refine wl_ix rfl rfl rfl rfl rfl (by omega) (hb) rfl rfl ?_
        repeat (first | refine wl_p rfl rfl rfl ?_ | refine wl_skip rfl rfl rfl ?_)
        refine wl_ixA rfl rfl rfl rfl rfl (by omega) rfl rfl ?_
        refine wl_ldG hs (hcc.mono hg4 1 _ rfl) rfl rfl rfl rfl rfl ?_
        refine wl_call rfl rfl rfl (L := []) hs (refSome_spec g4 vl vin n m2 ls inn (hl.mono hg04) hv (hin.mono hg04) hlen) ?_
        rintro u g5 L' w hg5 hs ⟨rfl, rfl⟩
        repeat (first | refine wl_p rfl rfl rfl ?_ | refine wl_skip rfl rfl rfl ?_)
        refine wl_nil (wk_seq ?_)
        refine wc_cond rfl (fun h => ?_) (fun h => ?_)
        · repeat (refine wc_seq ?_)
          refine wc_region ?_
          repeat (refine wl_p rfl rfl rfl ?_)
          refine wl_nil (wk_seq ?_)
          exact wc_retV (res1 rfl rfl) ⟨g5, [], Ghost.tr hg04 hg5, hs, rfl, by rw [bad h]⟩
        · exact wc_skip (wk_blk (wk_nexti () hi (by omega) ⟨g5, Ghost.tr hg3 (Ghost.tr hg4 hg5), hs, go h⟩ rfl rfl rfl rfl (by repeat (first | exact trivial | refine ⟨rfl, ?_⟩))))
      · rw [q1, Bool.false_and] at go
        repeat (first | refine wl_p rfl rfl rfl ?_ | refine wl_skip rfl rfl rfl ?_)
        refine wl_nil (wk_seq ?_)
        exact wc_condF rfl rfl (wc_skip (wk_blk (wk_nexti () hi (by omega) ⟨g4, Ghost.tr hg3 hg4, hs, go rfl⟩ rfl rfl rfl rfl (by repeat (first | exact trivial | refine ⟨rfl, ?_⟩)))))
    · rintro _ w ⟨g3, hg3, hs, hj⟩
      refine wk_seq ?_
      repeat (refine wc_seq ?_)
      refine wc_region ?_
      repeat (refine wl_p rfl rfl rfl ?_)
      refine wl_nil (wk_seq ?_)
      refine wc_retV (res1 rfl rfl) ⟨g3, [], Ghost.tr hg1 (Ghost.tr hg2 hg3), hs, rfl, ?_⟩
      rw [e, List.all_eq_true.2]
      intro p hm
      obtain ⟨j, h, rfl⟩ := List.getElem_of_mem hm
      rw [hj j h h]; rfl
def Part (n i : Nat) (x0 T x : List Bool) : Prop := x.length = n ∧ ∀ j, j < n → x.getD j false = if j < i then T.getD j false else x0.getD j false
theorem Part.start {n : Nat} {x0 T : List Bool} (h : x0.length = n) : Part n 0 x0 T x0 := ⟨h, fun j _ => by rw [if_neg (by omega)]⟩
theorem Part.at_ {n i : Nat} {x0 T x : List Bool} (h : Part n i x0 T x) (hi : i < n) : x.getD i false = x0.getD i false := by rw [h.2 i hi, if_neg (by omega)]
theorem Part.set {n i : Nat} {x0 T x : List Bool} {c : Bool} (h : Part n i x0 T x) (hi : i < n) (hc : c = T.getD i false) : Part n (i + 1) x0 T (x.set i c) := by
  refine ⟨by rw [List.length_set]; exact h.1, fun j hj => ?_⟩
  rw [List.getD_eq_getElem?_getD, List.getElem?_set]
  by_cases q : i = j
  · subst q
    rw [if_pos rfl, if_pos (by rw [h.1]; exact hi), if_pos (by omega)]
    exact hc
  · rw [if_neg q, ← List.getD_eq_getElem?_getD, h.2 j hj]
    by_cases q2 : j < i
    · rw [if_pos q2, if_pos (by omega)]
    · rw [if_neg q2, if_neg (by omega)]
theorem Part.done {n : Nat} {x0 T x : List Bool} (h : Part n n x0 T x) (ht : T.length = n) : x = T := by
  apply List.ext_getElem
  · rw [h.1, ht]
  · intro j h1 h2
    have := h.2 j (by have := h.1; omega)
    rw [if_pos (by have := h.1; omega), getD_at h1, getD_at h2] at this
    exact this
theorem withinR_len (ls : List Arrow) (inn nodes : List Bool) : (withinR ls inn nodes).length = ls.length := by simp [withinR]
theorem refWithin_spec (g : Ghost) (vl vin vn : Value) (n : Nat) (ls : List Arrow) (inn nodes : List Bool) (hl : RS kArr g vl ls) (hv : ValidG n ls) (hin : RS kBool g vin inn) (hlen : inn.length = ls.length) (hn : RS kBool g vn nodes) (hnl : nodes.length = n) :
    Cl PP 96 [vl, vin, vn] g [] fun _ L' r => OwnB r (withinR ls inn nodes) L' := by
  obtain ⟨al, cl, rfl⟩ := hl.form
  obtain ⟨ai, ci, rfl⟩ := hin.form
  obtain ⟨an, cn, rfl⟩ := hn.form
  have hl0 := hv.len
  refine cl_intro Try.func96 rfl rfl Try.ntmps96 rfl ?_
  intro w F hs
  repeat (refine wc_seq ?_)
  refine wc_region ?_
  repeat (refine wl_p rfl rfl rfl ?_)
  refine wl_nil (wk_seq ?_)
  repeat (refine wc_seq ?_)
  refine wc_region ?_
  repeat (refine wl_p rfl rfl rfl ?_)
  refine wl_make hs rfl (by omega) rfl rfl rfl rfl rfl rfl rfl ?_
  clear hs; intro ob w hs
  rw [zero_boolsN] at hs
  repeat (refine wl_p rfl rfl rfl ?_)
  refine wl_nil (wk_seq ?_)
  repeat (refine wc_seq ?_)
  refine wc_region ?_
  repeat (refine wl_p rfl rfl rfl ?_)
  refine wl_nil (wk_seq ?_)
  repeat (refine wc_seq ?_)
  refine wc_fori ls.length (fun _ (_ : List Bool) => [(0, .slice al ls.length cl), (1, .slice ai inn.length ci), (2, .slice an nodes.length cn), (7, .slice (some ⟨ob, 0, none⟩) ls.length ls.length)]) (fun i (x : List Bool) w => Part ls.length i (List.replicate ls.length false) (withinR ls inn nodes) x ∧ St g w ((ob, cellsO (x.map .bool) 4) :: F)) (List.replicate ls.length false) (by repeat (first | exact trivial | refine ⟨rfl, ?_⟩)) ⟨Part.start (by simp), hs⟩ ?_ ?_ ?_
  · intro i _ w s' hi hJ hk
    repeat (refine wl_p rfl rfl rfl ?_)
    exact wl_nil (wk_weak (by repeat (first | exact trivial | refine ⟨rfl, ?_⟩)) hk)
  · rintro i x w hi ⟨hpt, hs⟩
    have hx := hpt.1
    have hi2 : i < inn.length := by omega
    have hb := hl.base hi
    have hc := hl.enc hi
    have hb2 := hin.base hi2
    have hc2 := hin.bool hi2
    obtain ⟨v1, v2, _⟩ := hv.ok _ (List.getElem_mem hi)
    obtain ⟨fr, hfr⟩ : ∃ fr, fr = frOf ls i := ⟨_, rfl⟩
    obtain ⟨to, hto⟩ : ∃ to, to = toOf ls i := ⟨_, rfl⟩
    have hcc : Lies g (eaddr al 3 i).block (eaddr al 3 i).off [.int .i64 (fr : Int), .int .i64 (to : Int), .int .u32 (ls[i].ms : Int)] := by rw [hfr, hto, frOf_at hi, toOf_at hi]; exact hc
    rw [← frOf_at hi, ← hfr] at v1
    rw [← toOf_at hi, ← hto] at v2
    have hf1 : fr < nodes.length := by omega
    have ht1 : to < nodes.length := by omega
    have hb3 := hn.base hf1
    have hc3 := hn.bool hf1
    have hc4 := hn.bool ht1
    have hst : (withinR ls inn nodes).getD i false = (inn[i] && nodes[fr] && nodes[to]) := by
      unfold withinR
      rw [getD_rangeB, decide_eq_true hi, Bool.true_and, getD_at hi2, ← hfr, ← hto, getD_at hf1, getD_at ht1]
    have hcell : (x.map Value.bool)[i]? = some (.bool (x[i]'(by omega))) := by simp [hx, hi]
    generalize nodes[fr] = q3 at hc3 hst
    generalize nodes[to] = q4 at hc4 hst
    generalize inn[i] = q at hc2 hst
    repeat (refine wc_seq ?_)
    refine wc_region ?_
    repeat (refine wl_p rfl rfl rfl ?_)
    refine wl_ix rfl rfl rfl rfl rfl (by omega) (hb2) rfl rfl ?_
    refine wl_ldG hs (hc2) rfl rfl rfl rfl rfl ?_
    repeat (refine wl_p rfl rfl rfl ?_)
    cases q with
    | false =>
      repeat (first | refine wl_p rfl rfl rfl ?_ | refine wl_skip rfl rfl rfl ?_)
      refine wl_ixJ _ rfl rfl rfl rfl rfl (hi) rfl rfl rfl ?_
      refine wl_st hs 0 rfl rfl rfl hcell rfl rfl rfl rfl ?_
      clear hs; intro w hs
      exact wl_nil (wk_blk (wk_nexti (x.set i false) hi (by omega) ⟨hpt.set hi (by rw [hst]; rfl), by rw [List.map_set]; exact hs⟩ rfl rfl rfl rfl (by repeat (first | exact trivial | refine ⟨rfl, ?_⟩))))
    | true =>
      repeat (first | refine wl_p rfl rfl rfl ?_ | refine wl_skip rfl rfl rfl ?_)
      refine wl_ix rfl rfl rfl rfl rfl (by omega) hb rfl rfl ?_
      repeat (first | refine wl_p rfl rfl rfl ?_ | refine wl_skip rfl rfl rfl ?_)
      refine wl_ldG hs (hcc.of_eaddr 0 _ rfl) rfl rfl rfl rfl rfl ?_
      refine wl_ix rfl rfl rfl rfl rfl (by omega) hb3 rfl rfl ?_
      refine wl_ldG hs (hc3) rfl rfl rfl rfl rfl ?_
      repeat (first | refine wl_p rfl rfl rfl ?_ | refine wl_skip rfl rfl rfl ?_)
      cases q3 with
      | false =>
        repeat (first | refine wl_p rfl rfl rfl ?_ | refine wl_skip rfl rfl rfl ?_)
        refine wl_ixJ _ rfl rfl rfl rfl rfl (hi) rfl rfl rfl ?_
        refine wl_st hs 0 rfl rfl rfl hcell rfl rfl rfl rfl ?_
        clear hs; intro w hs
        exact wl_nil (wk_blk (wk_nexti (x.set i false) hi (by omega) ⟨hpt.set hi (by rw [hst]; rfl), by rw [List.map_set]; exact hs⟩ rfl rfl rfl rfl (by repeat (first | exact trivial | refine ⟨rfl, ?_⟩))))
      | true =>
        repeat (first | refine wl_p rfl rfl rfl ?_ | refine wl_skip rfl rfl rfl ?_)
        refine wl_ix rfl rfl rfl rfl rfl (by omega) hb rfl rfl ?_
        repeat (first | refine wl_p rfl rfl rfl ?_ | refine wl_skip rfl rfl rfl ?_)
        refine wl_ldG hs (hcc.of_eaddr 1 _ rfl) rfl rfl rfl rfl rfl ?_
        refine wl_ix rfl rfl rfl rfl rfl (by omega) hb3 rfl rfl ?_
        refine wl_ldG hs (hc4) rfl rfl rfl rfl rfl ?_
        repeat (first | refine wl_p rfl rfl rfl ?_ | refine wl_skip rfl rfl rfl ?_)
        refine wl_ixJ _ rfl rfl rfl rfl rfl (hi) rfl rfl rfl ?_
        refine wl_st hs 0 rfl rfl rfl hcell rfl rfl rfl rfl ?_
        clear hs; intro w hs
        exact wl_nil (wk_blk (wk_nexti (x.set i q4) hi (by omega) ⟨hpt.set hi (by rw [hst]; cases q4 <;> rfl), by rw [List.map_set]; exact hs⟩ rfl rfl rfl rfl (by repeat (first | exact trivial | refine ⟨rfl, ?_⟩))))
  · rintro x w ⟨hpt, hs⟩
    refine wk_seq ?_
    repeat (refine wc_seq ?_)
    refine wc_region ?_
    repeat (refine wl_p rfl rfl rfl ?_)
    refine wl_nil (wk_seq ?_)
    have ex := hpt.done (withinR_len _ _ _)
    have hwl : ls.length = (withinR ls inn nodes).length := (withinR_len _ _ _).symm
    refine wc_retV (res1 rfl rfl) ⟨g, [(ob, cellsO (x.map .bool) 4)], Ghost.rfl', hs, ?_⟩
    unfold OwnB
    rw [ex, ← hwl]
    exact OwnS.lit (by simp; omega)
theorem rTo_succ (ls : List Arrow) (inn : List Bool) (back : Bool) (out : List Bool) (k : Nat) : rTo ls inn back out (k + 1) = rStep ls inn back (rTo ls inn back out k) k := by unfold rTo; rw [List.range_succ, List.foldl_append]; rfl
theorem rTo_len (ls : List Arrow) (inn : List Bool) (back : Bool) (out : List Bool) : ∀ k, (rTo ls inn back out k).1.length = out.length
  | 0 => rfl
  | k + 1 => by
    rw [rTo_succ]
    unfold rStep
    split
    · rw [List.length_set, rTo_len ls inn back out k]
    · exact rTo_len ls inn back out k
theorem refReach_spec (g : Ghost) (vl vin vf : Value) (n : Nat) (ls : List Arrow) (inn from_ : List Bool) (back : Bool) (hl : RS kArr g vl ls) (hv : ValidG n ls) (hin : RS kBool g vin inn) (hlen : inn.length = ls.length) (hf : RS kBool g vf from_) (hfl : from_.length = n) :
    Cl PP 67 [.int .i64 (n : Int), vl, vin, vf, .bool back] g [] fun _ L' r => OwnB r (rchR ls inn back n from_) L' := by
  obtain ⟨al, cl, rfl⟩ := hl.form
  obtain ⟨ai, ci, rfl⟩ := hin.form
  have hl0 := hv.len
  have hn0 := hv.size
  refine cl_intro Try.func67 rfl rfl Try.ntmps67 rfl ?_
  intro w F hs
  repeat (refine wc_seq ?_)
  refine wc_region ?_
  repeat (refine wl_p rfl rfl rfl ?_)
  refine wl_nil (wk_seq ?_)
  repeat (refine wc_seq ?_)
  refine wc_region ?_
  repeat (refine wl_p rfl rfl rfl ?_)
  refine wl_call rfl rfl rfl (L := []) hs (cloneBool_spec g vf from_ hf (by omega)) ?_
  rintro v g1 H0 w hg1 hs hown
  replace hown : OwnB v from_ H0 := by rw [flat_bools] at hown; exact hown
  obtain ⟨av, cv, rfl⟩ := hown.form
  rw [hfl] at hown ⊢
  repeat (refine wl_p rfl rfl rfl ?_)
  refine wl_nil (wk_seq ?_)
  repeat (refine wc_seq ?_)
  refine wc_region ?_
  repeat (refine wl_p rfl rfl rfl ?_)
  refine wl_nil (wk_seq ?_)
  repeat (refine wc_seq ?_)
  refine wc_meetK (fun (_ : Own) => [(11, .slice av n cv)]) (fun H w => OwnB (.slice av n cv) (rchR ls inn back n from_) H ∧ St g1 w (H ++ F)) ?_ ?_
  · refine wc_fori n (fun _ (_ : List Bool × Own) => [(0, .int .i64 (n : Int)), (1, .slice al ls.length cl), (2, .slice ai inn.length ci), (4, .bool back), (11, .slice av n cv)])
      (fun i (x : List Bool × Own) w => x.1.length = n ∧ rchR ls inn back (n - i) x.1 = rchR ls inn back n from_ ∧ OwnB (.slice av n cv) x.1 x.2 ∧ St g1 w (x.2 ++ F)) (from_, H0) (by repeat (first | exact trivial | refine ⟨rfl, ?_⟩)) ⟨hfl, rfl, hown, hs⟩ ?_ ?_ ?_
    · rintro i x w s' hi hJ hk
      repeat (refine wl_p rfl rfl rfl ?_)
      exact wl_nil (wk_weak (by repeat (first | exact trivial | refine ⟨rfl, ?_⟩)) hk)
    · rintro i ⟨out, H⟩ w hi ⟨hol, hr, hown, hs⟩
      simp only at hol hr hown hs
      have hni : n - i = (n - (i + 1)) + 1 := by omega
      rw [hni] at hr
      repeat (refine wc_seq ?_)
      refine wc_region ?_
      repeat (refine wl_p rfl rfl rfl ?_)
      refine wl_nil (wk_seq ?_)
      repeat (refine wc_seq ?_)
      refine wc_region ?_
      repeat (refine wl_p rfl rfl rfl ?_)
      refine wl_nil (wk_seq ?_)
      repeat (refine wc_seq ?_)
      refine wc_fori ls.length (fun _ (x : List Bool × Bool × Own) => [(0, .int .i64 (n : Int)), (1, .slice al ls.length cl), (2, .slice ai inn.length ci), (4, .bool back), (11, .slice av n cv), (12, .int .i64 (i : Int)), (13, .bool x.2.1)])
        (fun k (x : List Bool × Bool × Own) w => (x.1, x.2.1) = rTo ls inn back out k ∧ OwnB (.slice av n cv) x.1 x.2.2 ∧ St g1 w (x.2.2 ++ F)) (out, false, H) (by repeat (first | exact trivial | refine ⟨rfl, ?_⟩)) ⟨rfl, hown, hs⟩ ?_ ?_ ?_
      · rintro k ⟨o, c, H1⟩ w s' hk hJ hk2
        repeat (refine wl_p rfl rfl rfl ?_)
        exact wl_nil (wk_weak (by repeat (first | exact trivial | refine ⟨rfl, ?_⟩)) hk2)
      · rintro k ⟨o, c, H1⟩ w hk ⟨ho, hown, hs⟩
        simp only at ho hown hs
        have hol2 : o.length = n := by
          have := rTo_len ls inn back out k
          rw [← ho] at this
          exact this.trans hol
        have hk2 : k < inn.length := by omega
        have hb := hl.base hk
        have hc := (hl.mono hg1).enc hk
        have hb2 := hin.base hk2
        have hc2 := (hin.mono hg1).bool hk2
        obtain ⟨fr, hfr⟩ : ∃ fr, fr = frOf ls k := ⟨_, rfl⟩
        obtain ⟨to, hto⟩ : ∃ to, to = toOf ls k := ⟨_, rfl⟩
        have hcc : Lies g1 (eaddr al 3 k).block (eaddr al 3 k).off [.int .i64 (fr : Int), .int .i64 (to : Int), .int .u32 (ls[k].ms : Int)] := by rw [hfr, hto, frOf_at hk, toOf_at hk]; exact hc
        have hsl := src_lt (back := back) hv hk
        have hdl := dst_lt (back := back) hv hk
        obtain ⟨b, cap, cs, hve, rfl, hcs, hset⟩ := hown.open' (by omega)
        rw [hol2] at hve
        simp only [Value.slice.injEq, true_and] at hve
        obtain ⟨rfl, rfl⟩ := hve
        have hcnd : rCond ls inn back o k = (inn[k] && o[srcR ls back k]'(by omega) && !o[dstR ls back k]'(by omega)) := by
          unfold rCond
          rw [getD_at hk2, getD_at (show srcR ls back k < o.length by omega), getD_at (show dstR ls back k < o.length by omega)]
        have hyes : rCond ls inn back o k = true → ((o.set (dstR ls back k) true, true) : List Bool × Bool) = rTo ls inn back out (k + 1) := fun h => by rw [rTo_succ, ← ho]; unfold rStep; rw [if_pos h]
        have hno : rCond ls inn back o k = false → ((o, c) : List Bool × Bool) = rTo ls inn back out (k + 1) := fun h => by rw [rTo_succ, ← ho]; unfold rStep; rw [if_neg (by rw [h]; decide)]
        have cell1 := hcs (srcR ls back k) (by omega)
        have cell2 := hcs (dstR ls back k) (by omega)
        have hset2 := hset (dstR ls back k) true (by omega)
        rw [hol2] at hset2
        generalize inn[k] = q1 at hc2 hcnd
        generalize o[srcR ls back k]'(by omega) = q2 at cell1 hcnd
        generalize o[dstR ls back k]'(by omega) = q3 at cell2 hcnd
        repeat (refine wc_seq ?_)
        refine wc_region ?_
        repeat (refine wl_p rfl rfl rfl ?_)
        refine wl_ix rfl rfl rfl rfl rfl (by omega) hb rfl rfl ?_
        repeat (refine wl_p rfl rfl rfl ?_)
        refine wl_ldG hs (hcc.of_eaddr 0 _ rfl) rfl rfl rfl rfl rfl ?_
        repeat (refine wl_p rfl rfl rfl ?_)
        refine wl_nil (wk_seq ?_)
        repeat (refine wc_seq ?_)
        refine wc_region ?_
        repeat (refine wl_p rfl rfl rfl ?_)
        refine wl_ix rfl rfl rfl rfl rfl (by omega) hb rfl rfl ?_
        repeat (refine wl_p rfl rfl rfl ?_)
        refine wl_ldG hs (hcc.of_eaddr 1 _ rfl) rfl rfl rfl rfl rfl ?_
        repeat (refine wl_p rfl rfl rfl ?_)
        refine wl_nil (wk_seq ?_)
        repeat (refine wc_seq ?_)
        refine wc_region ?_
        repeat (refine wl_p rfl rfl rfl ?_)
        refine wl_nil (wk_seq ?_)
        cases back
        · have e1 : srcR ls false k = fr := hfr.symm
          have e2 : dstR ls false k = to := hto.symm
          rw [e1] at cell1 hsl
          rw [e2] at cell2 hdl hyes hset2
          refine wc_condF rfl rfl (wc_skip (wk_seq ?_))
          repeat (refine wc_seq ?_)
          refine wc_region ?_
          repeat (refine wl_p rfl rfl rfl ?_)
          refine wl_ix rfl rfl rfl rfl rfl (by omega) hb2 rfl rfl ?_
          refine wl_ldG hs (hc2) rfl rfl rfl rfl rfl ?_
          repeat (refine wl_p rfl rfl rfl ?_)
          cases q1 with
          | false =>
            repeat (first | refine wl_p rfl rfl rfl ?_ | refine wl_skip rfl rfl rfl ?_)
            refine wl_nil (wk_seq ?_)
            exact wc_condF rfl rfl (wc_skip (wk_blk (wk_nexti (o, c, [(b, cellsO cs 4)]) hk (by omega) ⟨hno hcnd, hown, hs⟩ rfl rfl rfl rfl (by repeat (first | exact trivial | refine ⟨rfl, ?_⟩)))))
          | true =>
            repeat (first | refine wl_p rfl rfl rfl ?_ | refine wl_skip rfl rfl rfl ?_)
            refine wl_ixJ _ rfl rfl rfl rfl rfl (hsl) rfl rfl rfl ?_
            repeat (first | refine wl_p rfl rfl rfl ?_ | refine wl_skip rfl rfl rfl ?_)
            refine wl_ldO hs 0 rfl rfl cell1 rfl rfl rfl rfl ?_
            repeat (first | refine wl_p rfl rfl rfl ?_ | refine wl_skip rfl rfl rfl ?_)
            cases q2 with
            | false =>
              repeat (first | refine wl_p rfl rfl rfl ?_ | refine wl_skip rfl rfl rfl ?_)
              refine wl_nil (wk_seq ?_)
              exact wc_condF rfl rfl (wc_skip (wk_blk (wk_nexti (o, c, [(b, cellsO cs 4)]) hk (by omega) ⟨hno hcnd, hown, hs⟩ rfl rfl rfl rfl (by repeat (first | exact trivial | refine ⟨rfl, ?_⟩)))))
            | true =>
              repeat (first | refine wl_p rfl rfl rfl ?_ | refine wl_skip rfl rfl rfl ?_)
              refine wl_ixJ _ rfl rfl rfl rfl rfl (hdl) rfl rfl rfl ?_
              repeat (first | refine wl_p rfl rfl rfl ?_ | refine wl_skip rfl rfl rfl ?_)
              refine wl_ldO hs 0 rfl rfl cell2 rfl rfl rfl rfl ?_
              repeat (first | refine wl_p rfl rfl rfl ?_ | refine wl_skip rfl rfl rfl ?_)
              refine wl_nil (wk_seq ?_)
              cases q3 with
              | true => exact wc_condF rfl rfl (wc_skip (wk_blk (wk_nexti (o, c, [(b, cellsO cs 4)]) hk (by omega) ⟨hno hcnd, hown, hs⟩ rfl rfl rfl rfl (by repeat (first | exact trivial | refine ⟨rfl, ?_⟩)))))
              | false =>
                refine wc_condT rfl rfl ?_
                repeat (refine wc_seq ?_)
                refine wc_region ?_
                repeat (refine wl_p rfl rfl rfl ?_)
                refine wl_ixJ _ rfl rfl rfl rfl rfl (hdl) rfl rfl rfl ?_
                refine wl_st hs 0 rfl rfl rfl cell2 rfl rfl rfl rfl ?_
                clear hs; intro w hs
                refine wl_nil (wk_seq ?_)
                repeat (refine wc_seq ?_)
                refine wc_region ?_
                repeat (refine wl_p rfl rfl rfl ?_)
                exact wl_nil (wk_blk (wk_nexti (o.set to true, true, [(b, cellsO (cs.set to (.bool true)) 4)]) hk (by omega) ⟨hyes hcnd, by simpa [List.length_set] using hset2, hs⟩ rfl rfl rfl rfl (by repeat (first | exact trivial | refine ⟨rfl, ?_⟩))))
        · have e1 : srcR ls true k = to := hto.symm
          have e2 : dstR ls true k = fr := hfr.symm
          rw [e1] at cell1 hsl
          rw [e2] at cell2 hdl hyes hset2
          refine wc_condT rfl rfl ?_
          repeat (refine wc_seq ?_)
          refine wc_region ?_
          repeat (refine wl_p rfl rfl rfl ?_)
          refine wl_ix rfl rfl rfl rfl rfl (by omega) hb rfl rfl ?_
          repeat (refine wl_p rfl rfl rfl ?_)
          refine wl_ldG hs (hcc.of_eaddr 1 _ rfl) rfl rfl rfl rfl rfl ?_
          repeat (refine wl_p rfl rfl rfl ?_)
          refine wl_nil (wk_seq ?_)
          repeat (refine wc_seq ?_)
          refine wc_region ?_
          repeat (refine wl_p rfl rfl rfl ?_)
          refine wl_ix rfl rfl rfl rfl rfl (by omega) hb rfl rfl ?_
          repeat (refine wl_p rfl rfl rfl ?_)
          refine wl_ldG hs (hcc.of_eaddr 0 _ rfl) rfl rfl rfl rfl rfl ?_
          repeat (refine wl_p rfl rfl rfl ?_)
          refine wl_nil (wk_seq ?_)
          repeat (refine wc_seq ?_)
          refine wc_region ?_
          repeat (refine wl_p rfl rfl rfl ?_)
          refine wl_ix rfl rfl rfl rfl rfl (by omega) hb2 rfl rfl ?_
          refine wl_ldG hs (hc2) rfl rfl rfl rfl rfl ?_
          repeat (refine wl_p rfl rfl rfl ?_)
          cases q1 with
          | false =>
            repeat (first | refine wl_p rfl rfl rfl ?_ | refine wl_skip rfl rfl rfl ?_)
            refine wl_nil (wk_seq ?_)
            exact wc_condF rfl rfl (wc_skip (wk_blk (wk_nexti (o, c, [(b, cellsO cs 4)]) hk (by omega) ⟨hno hcnd, hown, hs⟩ rfl rfl rfl rfl (by repeat (first | exact trivial | refine ⟨rfl, ?_⟩)))))
          | true =>
            repeat (first | refine wl_p rfl rfl rfl ?_ | refine wl_skip rfl rfl rfl ?_)
            refine wl_ixJ _ rfl rfl rfl rfl rfl (hsl) rfl rfl rfl ?_
            repeat (first | refine wl_p rfl rfl rfl ?_ | refine wl_skip rfl rfl rfl ?_)
            refine wl_ldO hs 0 rfl rfl cell1 rfl rfl rfl rfl ?_
            repeat (first | refine wl_p rfl rfl rfl ?_ | refine wl_skip rfl rfl rfl ?_)
            cases q2 with
            | false =>
              repeat (first | refine wl_p rfl rfl rfl ?_ | refine wl_skip rfl rfl rfl ?_)
              refine wl_nil (wk_seq ?_)
              exact wc_condF rfl rfl (wc_skip (wk_blk (wk_nexti (o, c, [(b, cellsO cs 4)]) hk (by omega) ⟨hno hcnd, hown, hs⟩ rfl rfl rfl rfl (by repeat (first | exact trivial | refine ⟨rfl, ?_⟩)))))
            | true =>
              repeat (first | refine wl_p rfl rfl rfl ?_ | refine wl_skip rfl rfl rfl ?_)
              refine wl_ixJ _ rfl rfl rfl rfl rfl (hdl) rfl rfl rfl ?_
              repeat (first | refine wl_p rfl rfl rfl ?_ | refine wl_skip rfl rfl rfl ?_)
              refine wl_ldO hs 0 rfl rfl cell2 rfl rfl rfl rfl ?_
              repeat (first | refine wl_p rfl rfl rfl ?_ | refine wl_skip rfl rfl rfl ?_)
              refine wl_nil (wk_seq ?_)
              cases q3 with
              | true => exact wc_condF rfl rfl (wc_skip (wk_blk (wk_nexti (o, c, [(b, cellsO cs 4)]) hk (by omega) ⟨hno hcnd, hown, hs⟩ rfl rfl rfl rfl (by repeat (first | exact trivial | refine ⟨rfl, ?_⟩)))))
              | false =>
                refine wc_condT rfl rfl ?_
                repeat (refine wc_seq ?_)
                refine wc_region ?_
                repeat (refine wl_p rfl rfl rfl ?_)
                refine wl_ixJ _ rfl rfl rfl rfl rfl (hdl) rfl rfl rfl ?_
                refine wl_st hs 0 rfl rfl rfl cell2 rfl rfl rfl rfl ?_
                clear hs; intro w hs
                refine wl_nil (wk_seq ?_)
                repeat (refine wc_seq ?_)
                refine wc_region ?_
                repeat (refine wl_p rfl rfl rfl ?_)
                exact wl_nil (wk_blk (wk_nexti (o.set fr true, true, [(b, cellsO (cs.set fr (.bool true)) 4)]) hk (by omega) ⟨hyes hcnd, by simpa [List.length_set] using hset2, hs⟩ rfl rfl rfl rfl (by repeat (first | exact trivial | refine ⟨rfl, ?_⟩))))
      · rintro ⟨o, c, H1⟩ w ⟨ho, hown, hs⟩
        simp only at ho hown hs
        refine wk_seq ?_
        repeat (refine wc_seq ?_)
        refine wc_region ?_
        repeat (refine wl_p rfl rfl rfl ?_)
        refine wl_nil (wk_seq ?_)
        have h1 : (rTo ls inn back out ls.length).1 = o := by rw [← ho]
        have h2 : (rTo ls inn back out ls.length).2 = c := by rw [← ho]
        replace hr : (if (rTo ls inn back out ls.length).2 = true then rchR ls inn back (n - (i + 1)) (rTo ls inn back out ls.length).1 else (rTo ls inn back out ls.length).1) = rchR ls inn back n from_ := hr
        rw [h1, h2] at hr
        have hol2 : o.length = n := by rw [← h1, rTo_len]; exact hol
        cases c with
        | false =>
          refine wc_condT rfl rfl ?_
          exact wc_exit rfl (wk_meet H1 (by repeat (first | exact trivial | refine ⟨rfl, ?_⟩)) ⟨by rw [← hr]; exact hown, hs⟩)
        | true => exact wc_condF rfl rfl (wc_skip (wk_blk (wk_nexti (o, H1) hi (by omega) ⟨hol2, hr, hown, hs⟩ rfl rfl rfl rfl (by repeat (first | exact trivial | refine ⟨rfl, ?_⟩)))))
    · rintro ⟨out, H⟩ w ⟨hol, hr, hown, hs⟩
      simp only at hol hr hown hs
      rw [Nat.sub_self] at hr
      exact wk_meet H (by repeat (first | exact trivial | refine ⟨rfl, ?_⟩)) ⟨by rw [← hr]; exact hown, hs⟩
  · clear hs hown
    rintro H w ⟨hown, hs⟩
    repeat (refine wc_seq ?_)
    refine wc_region ?_
    repeat (refine wl_p rfl rfl rfl ?_)
    refine wl_nil (wk_seq ?_)
    exact wc_retV (res1 rfl rfl) ⟨g1, H, hg1, hs, hown⟩
end Go.Proofs.Ytnanffbjmfgafaa.S
namespace Go.Proofs.Ytnanffbjmfgafaa.S
open Go.RowKit
theorem compR_len (n : Nat) (ls : List Arrow) (inn : List Bool) (k : Nat) : (compR n ls inn k).length = n := by simp [compR, andB]
theorem refComponent_spec (g : Ghost) (vl vin : Value) (n k : Nat) (ls : List Arrow) (inn : List Bool) (hl : RS kArr g vl ls) (hv : ValidG n ls) (hin : RS kBool g vin inn) (hlen : inn.length = ls.length) (hk : k < n) :
    Cl PP 95 [.int .i64 (n : Int), vl, vin, .int .i64 (k : Int)] g [] fun _ L' r => OwnB r (compR n ls inn k) L' := by
  have hn0 := hv.size
  have ho : (oneR n k).length = n := by simp [oneR]
  have hA := rchR_len (inn := inn) (back := false) hv ho n
  have hB := rchR_len (inn := inn) (back := true) hv ho n
  have hT : ∀ i, i < n → (compR n ls inn k).getD i false = ((rchR ls inn false n (oneR n k)).getD i false && (rchR ls inn true n (oneR n k)).getD i false) := fun i hi => by
    unfold compR andB
    rw [getD_rangeB, decide_eq_true hi, Bool.true_and]
  obtain ⟨A, hAe⟩ : ∃ A, A = rchR ls inn false n (oneR n k) := ⟨_, rfl⟩
  obtain ⟨B, hBe⟩ : ∃ B, B = rchR ls inn true n (oneR n k) := ⟨_, rfl⟩
  rw [← hAe] at hA hT
  rw [← hBe] at hB hT
  refine cl_intro Try.func95 rfl rfl Try.ntmps95 rfl ?_
  intro w F hs
  repeat (refine wc_seq ?_)
  refine wc_region ?_
  repeat (refine wl_p rfl rfl rfl ?_)
  refine wl_nil (wk_seq ?_)
  repeat (refine wc_seq ?_)
  refine wc_region ?_
  repeat (refine wl_p rfl rfl rfl ?_)
  refine wl_call rfl rfl rfl (L := []) hs (refOne_spec g n k hn0 hk) ?_
  rintro u g1 L' w hg1 hs ⟨rfl, r1⟩
  refine wl_call rfl rfl rfl (L := []) hs (refReach_spec g1 vl vin u n ls inn _ false (hl.mono hg1) hv (hin.mono hg1) hlen r1 ho) ?_
  rintro va g2 Ha w hg2 hs hown
  rw [← hAe] at hown
  repeat (refine wl_p rfl rfl rfl ?_)
  refine wl_nil (wk_seq ?_)
  repeat (refine wc_seq ?_)
  refine wc_region ?_
  repeat (refine wl_p rfl rfl rfl ?_)
  refine wl_call rfl rfl rfl (L := []) hs (refOne_spec g2 n k hn0 hk) ?_
  rintro u2 g3 L' w hg3 hs ⟨rfl, r3⟩
  have hg03 := Ghost.tr hg1 (Ghost.tr hg2 hg3)
  refine wl_call rfl rfl rfl (L := []) hs (refReach_spec g3 vl vin u2 n ls inn _ true (hl.mono hg03) hv (hin.mono hg03) hlen r3 ho) ?_
  rintro vb g4 Hb w hg4 hs hownb
  rw [← hBe] at hownb
  repeat (refine wl_p rfl rfl rfl ?_)
  refine wl_nil (wk_seq ?_)
  obtain ⟨g5, hg5, hs, rb⟩ := hownb.freezeB hs
  have hg05 := Ghost.tr hg03 (Ghost.tr hg4 hg5)
  replace hs := (show St g5 w (Ha ++ F) from hs)
  obtain ⟨ab, cb, rfl⟩ := rb.form
  obtain ⟨aa, ca, rfl⟩ := hown.form
  rw [hA] at hown ⊢
  repeat (refine wc_seq ?_)
  refine wc_region ?_
  repeat (refine wl_p rfl rfl rfl ?_)
  refine wl_nil (wk_seq ?_)
  repeat (refine wc_seq ?_)
  refine wc_fori n (fun _ (_ : List Bool × Own) => [(0, .int .i64 (n : Int)), (9, .slice aa n ca), (10, .slice ab B.length cb)]) (fun i (x : List Bool × Own) w => Part n i A (compR n ls inn k) x.1 ∧ OwnB (.slice aa n ca) x.1 x.2 ∧ St g5 w (x.2 ++ F)) (A, Ha) (by repeat (first | exact trivial | refine ⟨rfl, ?_⟩)) ⟨Part.start hA, hown, hs⟩ ?_ ?_ ?_
  · intro i _ w s' hi hJ hk
    repeat (refine wl_p rfl rfl rfl ?_)
    exact wl_nil (wk_weak (by repeat (first | exact trivial | refine ⟨rfl, ?_⟩)) hk)
  · rintro i ⟨x, H⟩ w hi ⟨hp, hown, hs⟩
    simp only at hp hown hs
    have hxl := hp.1
    have hiB : i < B.length := by omega
    have hb2 := rb.base hiB
    have hc2 := rb.bool hiB
    obtain ⟨b, cap, cs, hve, rfl, hcs, hset⟩ := hown.open' (by omega)
    rw [hxl] at hve
    simp only [Value.slice.injEq, true_and] at hve
    obtain ⟨rfl, rfl⟩ := hve
    have cell := hcs i (by omega)
    have hq := hp.at_ hi
    rw [getD_at (show i < x.length by omega)] at hq
    have hTi := hT i hi
    rw [← hq, getD_at hiB] at hTi
    generalize B[i] = q2 at hc2 hTi
    have hs1 := fun c => hset i c (by omega)
    rw [hxl] at hs1
    generalize x[i]'(by omega) = q1 at cell hTi
    repeat (refine wc_seq ?_)
    refine wc_region ?_
    repeat (refine wl_p rfl rfl rfl ?_)
    refine wl_ixJ _ rfl rfl rfl rfl rfl (hi) rfl rfl rfl ?_
    refine wl_ldO hs 0 rfl rfl cell rfl rfl rfl rfl ?_
    repeat (refine wl_p rfl rfl rfl ?_)
    cases q1 with
    | false =>
      repeat (first | refine wl_p rfl rfl rfl ?_ | refine wl_skip rfl rfl rfl ?_)
      refine wl_ixJ _ rfl rfl rfl rfl rfl (hi) rfl rfl rfl ?_
      refine wl_st hs 0 rfl rfl rfl cell rfl rfl rfl rfl ?_
      clear hs; intro w hs
      exact wl_nil (wk_blk (wk_nexti (x.set i false, [(b, cellsO (cs.set i (.bool false)) 4)]) hi (by omega) ⟨hp.set hi hTi.symm, by simpa [List.length_set] using hs1 false, hs⟩ rfl rfl rfl rfl (by repeat (first | exact trivial | refine ⟨rfl, ?_⟩))))
    | true =>
      repeat (first | refine wl_p rfl rfl rfl ?_ | refine wl_skip rfl rfl rfl ?_)
      refine wl_ix rfl rfl rfl rfl rfl (by omega) hb2 rfl rfl ?_
      refine wl_ldG hs (hc2) rfl rfl rfl rfl rfl ?_
      repeat (first | refine wl_p rfl rfl rfl ?_ | refine wl_skip rfl rfl rfl ?_)
      refine wl_ixJ _ rfl rfl rfl rfl rfl (hi) rfl rfl rfl ?_
      refine wl_st hs 0 rfl rfl rfl cell rfl rfl rfl rfl ?_
      clear hs; intro w hs
      exact wl_nil (wk_blk (wk_nexti (x.set i q2, [(b, cellsO (cs.set i (.bool q2)) 4)]) hi (by omega) ⟨hp.set hi (by rw [hTi, Bool.true_and]), by simpa [List.length_set] using hs1 q2, hs⟩ rfl rfl rfl rfl (by repeat (first | exact trivial | refine ⟨rfl, ?_⟩))))
  · rintro ⟨x, H⟩ w ⟨hp, hown, hs⟩
    simp only at hp hown hs
    have := hp.done (compR_len _ _ _ _)
    subst this
    refine wk_seq ?_
    repeat (refine wc_seq ?_)
    refine wc_region ?_
    repeat (refine wl_p rfl rfl rfl ?_)
    refine wl_nil (wk_seq ?_)
    exact wc_retV (res1 rfl rfl) ⟨g5, H, hg05, hs, hown⟩
theorem indexB_spec (g : Ghost) (v : Value) (xs : List Bool) (x : Bool) (hv : RS kBool g v xs) (hl : xs.length ≤ 4611686018427387904) :
    Cl PP 109 [v, .bool x] g [] (Det (.int .i64 (firstI (fun y => x == y) xs))) := by
  obtain ⟨a, cap, rfl⟩ := hv.form
  refine cl_intro Try.func109 rfl rfl Try.ntmps109 rfl ?_
  intro w F hs
  repeat (refine wc_seq ?_)
  refine wc_region ?_
  repeat (refine wl_p rfl rfl rfl ?_)
  refine wl_nil (wk_seq ?_)
  repeat (refine wc_seq ?_)
  refine wc_region ?_
  repeat (refine wl_p rfl rfl rfl ?_)
  refine wl_nil (wk_seq ?_)
  refine wc_for xs.length (fun _ _ => [(7, .int .i64 xs.length), (0, .slice a xs.length cap), (1, .bool x)]) (fun i (_ : Unit) w => St g w F ∧ ∀ j (h : j < i) (h' : j < xs.length), (x == xs[j]) = false) () hl (by repeat (first | exact trivial | refine ⟨rfl, ?_⟩)) ⟨hs, fun j h => by omega⟩ (fun _ _ => rfl) rfl rfl rfl ?_ ?_ (fun _ _ => rfl) rfl
  · rintro i _ w hi ⟨hs, hj⟩
    have hb := hv.base hi
    have hc := hv.bool hi
    repeat (refine wc_seq ?_)
    refine wc_region ?_
    repeat (first | refine wl_p rfl rfl rfl ?_ | refine wl_skip rfl rfl rfl ?_ | refine wl_ldO hs 0 rfl rfl rfl rfl rfl rfl rfl ?_ | refine wl_ldO hs 1 rfl rfl rfl rfl rfl rfl rfl ?_ | refine wl_ldO hs 2 rfl rfl rfl rfl rfl rfl rfl ?_ | refine wl_ldO hs 3 rfl rfl rfl rfl rfl rfl rfl ?_ | refine wl_ldG hs (by assumption) rfl rfl rfl rfl rfl ?_ | refine wl_ix rfl rfl rfl rfl rfl (by omega) (by assumption) rfl rfl ?_ | refine wl_ixAJ _ rfl rfl rfl rfl rfl (by omega) rfl rfl rfl ?_ | refine wl_ixA rfl rfl rfl rfl rfl (by omega) rfl rfl ?_)
    refine wl_nil (wk_seq ?_)
    repeat (refine wc_seq ?_)
    refine wc_region ?_
    repeat (first | refine wl_p rfl rfl rfl ?_ | refine wl_skip rfl rfl rfl ?_ | refine wl_ldO hs 0 rfl rfl rfl rfl rfl rfl rfl ?_ | refine wl_ldO hs 1 rfl rfl rfl rfl rfl rfl rfl ?_ | refine wl_ldO hs 2 rfl rfl rfl rfl rfl rfl rfl ?_ | refine wl_ldO hs 3 rfl rfl rfl rfl rfl rfl rfl ?_ | refine wl_ldG hs (by assumption) rfl rfl rfl rfl rfl ?_ | refine wl_ix rfl rfl rfl rfl rfl (by omega) (by assumption) rfl rfl ?_ | refine wl_ixAJ _ rfl rfl rfl rfl rfl (by omega) rfl rfl rfl ?_ | refine wl_ixA rfl rfl rfl rfl rfl (by omega) rfl rfl ?_)
    refine wl_eqB _ rfl rfl rfl rfl rfl rfl rfl ?_
    refine wl_nil (wk_seq ?_)
    refine wc_cond rfl (fun h => ?_) (fun h => ?_)
    · repeat (refine wc_seq ?_)
      refine wc_region ?_
      repeat (first | refine wl_p rfl rfl rfl ?_ | refine wl_skip rfl rfl rfl ?_ | refine wl_ldO hs 0 rfl rfl rfl rfl rfl rfl rfl ?_ | refine wl_ldO hs 1 rfl rfl rfl rfl rfl rfl rfl ?_ | refine wl_ldO hs 2 rfl rfl rfl rfl rfl rfl rfl ?_ | refine wl_ldO hs 3 rfl rfl rfl rfl rfl rfl rfl ?_ | refine wl_ldG hs (by assumption) rfl rfl rfl rfl rfl ?_ | refine wl_ix rfl rfl rfl rfl rfl (by omega) (by assumption) rfl rfl ?_ | refine wl_ixAJ _ rfl rfl rfl rfl rfl (by omega) rfl rfl rfl ?_ | refine wl_ixA rfl rfl rfl rfl rfl (by omega) rfl rfl ?_)
      refine wl_nil (wk_seq ?_)
      refine wc_retV (res1 rfl rfl) ⟨g, [], Ghost.rfl', hs, rfl, ?_⟩
      rw [firstI_at hi (fun j h' => hj j h' (by omega)) h]
    · refine wc_skip (wk_blk (wk_next () hi hl ⟨hs, fun j h1 h2 => ?_⟩ rfl rfl rfl (by repeat (first | exact trivial | refine ⟨rfl, ?_⟩))))
      by_cases e : j = i
      · subst e; exact h
      · exact hj j (by omega) h2
  · rintro _ w ⟨hs, hj⟩
    refine wk_seq ?_
    repeat (refine wc_seq ?_)
    refine wc_region ?_
    repeat (refine wl_p rfl rfl rfl ?_)
    refine wl_nil (wk_seq ?_)
    refine wc_retV (res1 rfl rfl) ⟨g, [], Ghost.rfl', hs, rfl, ?_⟩
    rw [firstI_none fun j h => hj j h h]
theorem containsB_spec (g : Ghost) (v : Value) (xs : List Bool) (hv : RS kBool g v xs) (hl : xs.length ≤ 4611686018427387904) :
    Cl PP 97 [v, .bool true] g [] (Det (.bool (xs.any id))) := by
  refine cl_intro Try.func97 rfl rfl Try.ntmps97 rfl ?_
  intro w F hs
  repeat (refine wc_seq ?_)
  refine wc_region ?_
  repeat (refine wl_p rfl rfl rfl ?_)
  refine wl_nil (wk_seq ?_)
  repeat (refine wc_seq ?_)
  refine wc_region ?_
  repeat (refine wl_p rfl rfl rfl ?_)
  refine wl_call rfl rfl rfl (L := []) hs (indexB_spec g v xs true hv hl) ?_
  rintro u g' L' w' hg hs ⟨rfl, rfl⟩
  repeat (refine wl_p rfl rfl rfl ?_)
  refine wl_nil (wk_seq ?_)
  refine wc_retV (res1 rfl rfl) ⟨g', [], hg, hs, rfl, ?_⟩
  have e : (fun y => true == y) = (id : Bool → Bool) := by funext y; cases y <;> rfl
  rw [← firstI_ge, e]
end Go.Proofs.Ytnanffbjmfgafaa.S
namespace Go.Proofs.Ytnanffbjmfgafaa.S
open Go.RowKit
theorem pairs_take (ls : List Arrow) (pairs : List (Nat × Nat)) (inn : List Bool) {i : Nat} (hi : i < pairs.length) : (pairs.take (i + 1)).foldl (pairStep ls) inn = pairStep ls ((pairs.take i).foldl (pairStep ls) inn) pairs[i] := by
  rw [take_snoc hi, List.foldl_append]; rfl
theorem without_part {ls : List Arrow} {inn : List Bool} {m a : Nat} (ha : a < ls.length) : (withoutF ls inn m).getD a false = (inn.getD a false && !(ls[a]).ms.testBit m) := by
  rw [withoutF_at ha, hasM_arr ha]
theorem refCores_spec (n : Nat) (ls : List Arrow) (all : List Nat) (pairs : List (Nat × Nat)) (hv : ValidG n ls) (hw : ValidW all pairs) (hal : all.length ≤ 4611686018427387904) (hpl : pairs.length ≤ 4611686018427387904) : ∀ (f : Nat) (g : Ghost) (vl vin va vp : Value) (inn : List Bool), RS kArr g vl ls → RS kBool g vin inn → inn.length = ls.length → RS kNat g va all → RS kPair g vp pairs → onCnt ls inn < f →
    Cl PP 64 [.int .i64 (n : Int), vl, vin, .agg #[va, vp]] g [] fun _ L' r => OwnB r (coresS n ls all pairs f inn) L' := by
  intro f
  induction f with
  | zero => intro g vl vin va vp inn _ _ _ _ _ h; omega
  | succ f ih =>
  intro g vl vin va vp inn hl hin hlen ha hp hcnt
  obtain ⟨aa, ca, rfl⟩ := ha.form
  obtain ⟨ap, cp, rfl⟩ := hp.form
  have hn0 := hv.size
  have hl0 := hv.len
  show Cl PP 64 _ g [] fun _ L' r => OwnB r (cTo n ls all pairs (coresS n ls all pairs f) inn n).1 L'
  obtain ⟨rec, hrec⟩ : ∃ rec, rec = coresS n ls all pairs f := ⟨_, rfl⟩
  have hrl : ∀ i, (rec i).length = n := fun i => by rw [hrec]; exact coresS_len _ _ _ _ _ _
  rw [← hrec] at ih ⊢
  refine cl_intro Try.func64 rfl rfl Try.ntmps64 rfl ?_
  intro w F hs
  repeat (refine wc_seq ?_)
  refine wc_region ?_
  refine wl_box hs rfl rfl rfl rfl ?_; clear hs; intro wb w hs
  repeat (refine wl_p rfl rfl rfl ?_)
  refine wl_nil (wk_seq ?_)
  obtain ⟨g1, hg1, hs, hwb⟩ := freezeB hs
  replace hs := (show St g1 w F from hs)
  replace hwb := (show Lies g1 wb 0 [.slice aa all.length ca, .slice ap pairs.length cp] from hwb)
  repeat (refine wc_seq ?_)
  refine wc_region ?_
  repeat (refine wl_p rfl rfl rfl ?_)
  refine wl_make hs rfl (by omega) rfl rfl rfl rfl rfl rfl rfl ?_
  clear hs; intro ob w hs
  rw [zero_boolsN] at hs
  repeat (refine wl_p rfl rfl rfl ?_)
  refine wl_nil (wk_seq ?_)
  repeat (refine wc_seq ?_)
  refine wc_region ?_
  repeat (refine wl_p rfl rfl rfl ?_)
  refine wl_make hs rfl (by omega) rfl rfl rfl rfl rfl rfl rfl ?_
  clear hs; intro db w hs
  rw [zero_boolsN] at hs
  repeat (refine wl_p rfl rfl rfl ?_)
  refine wl_nil (wk_seq ?_)
  repeat (refine wc_seq ?_)
  refine wc_region ?_
  repeat (refine wl_p rfl rfl rfl ?_)
  refine wl_nil (wk_seq ?_)
  repeat (refine wc_seq ?_)
  refine wc_fori n (fun _ (_ : List Bool × List Bool) => [(0, .int .i64 (n : Int)), (1, vl), (2, vin), (7, .pointer (some ⟨wb, 0, none⟩)), (9, .slice (some ⟨ob, 0, none⟩) n n), (10, .slice (some ⟨db, 0, none⟩) n n)])
    (fun k (x : List Bool × List Bool) w => x = cTo n ls all pairs rec inn k ∧ ∃ g', g1 ≤ g' ∧ St g' w ((db, cellsO (x.2.map .bool) 4) :: (ob, cellsO (x.1.map .bool) 4) :: F)) (List.replicate n false, List.replicate n false) (by repeat (first | exact trivial | refine ⟨rfl, ?_⟩)) ⟨rfl, g1, Ghost.rfl', hs⟩ ?_ ?_ ?_
  · intro i _ w s' hi hJ hk
    repeat (refine wl_p rfl rfl rfl ?_)
    exact wl_nil (wk_weak (by repeat (first | exact trivial | refine ⟨rfl, ?_⟩)) hk)
  · rintro k ⟨out, done⟩ w hk ⟨hx, g2, hg12, hs⟩
    have hcl := cTo_len (n := n) (ls := ls) (all := all) (pairs := pairs) (rec := rec) (inn := inn) k
    rw [← hx] at hcl
    obtain ⟨hol, hdl⟩ := hcl
    simp only at hol hdl hs
    have hg02 := Ghost.tr hg1 hg12
    have hstep : cTo n ls all pairs rec inn (k + 1) = cStep n ls all pairs rec inn (out, done) k := by
      unfold cTo at hx ⊢
      rw [List.range_succ, List.foldl_append, ← hx]
      rfl
    have cell : (done.map Value.bool)[k]? = some (.bool (done[k]'(by omega))) := by simp [hdl, hk]
    have hdk : done.getD k false = done[k]'(by omega) := getD_at (by omega)
    unfold cStep at hstep
    rw [hdk] at hstep
    generalize done[k]'(by omega) = q0 at cell hstep
    repeat (refine wc_seq ?_)
    refine wc_region ?_
    repeat (refine wl_p rfl rfl rfl ?_)
    refine wl_ixJ _ rfl rfl rfl rfl rfl (hk) rfl rfl rfl ?_
    refine wl_ldO hs 0 rfl rfl cell rfl rfl rfl rfl ?_
    refine wl_nil (wk_seq ?_)
    cases q0 with
    | true =>
      refine wc_condT rfl rfl ?_
      exact wc_exit rfl (wk_nexti (out, done) hk (by omega) ⟨by rw [hstep]; rfl, g2, hg12, hs⟩ rfl rfl rfl rfl (by repeat (first | exact trivial | refine ⟨rfl, ?_⟩)))
    | false =>
    rw [if_neg (by decide)] at hstep
    refine wc_condF rfl rfl (wc_skip (wk_seq ?_))
    obtain ⟨c, hc⟩ : ∃ c, c = compR n ls inn k := ⟨_, rfl⟩
    have hcn : c.length = n := by rw [hc]; exact compR_len _ _ _ _
    repeat (refine wc_seq ?_)
    refine wc_region ?_
    repeat (refine wl_p rfl rfl rfl ?_)
    refine wl_call rfl rfl rfl (L := []) hs (refComponent_spec g2 vl vin n k ls inn (hl.mono hg02) hv (hin.mono hg02) hlen hk) ?_
    rintro vc g3 Hc w hg3 hs hownc
    rw [← hc] at hownc hstep
    repeat (refine wl_p rfl rfl rfl ?_)
    refine wl_nil (wk_seq ?_)
    obtain ⟨g4, hg4, hs, rc⟩ := hownc.freezeB hs
    replace hs := (show St g4 w ((db, cellsO (done.map .bool) 4) :: (ob, cellsO (out.map .bool) 4) :: F) from hs)
    have hg14 := Ghost.tr hg12 (Ghost.tr hg3 hg4)
    obtain ⟨ac, cc, rfl⟩ := rc.form
    rw [hcn] at rc ⊢
    have hT1 : (orB n done c).length = n := orB_len _ _ _
    repeat (refine wc_seq ?_)
    refine wc_region ?_
    repeat (refine wl_p rfl rfl rfl ?_)
    refine wl_nil (wk_seq ?_)
    repeat (refine wc_seq ?_)
    refine wc_fori n (fun _ (_ : List Bool) => [(0, .int .i64 (n : Int)), (1, vl), (2, vin), (7, .pointer (some ⟨wb, 0, none⟩)), (9, .slice (some ⟨ob, 0, none⟩) n n), (10, .slice (some ⟨db, 0, none⟩) n n), (11, .int .i64 (k : Int)), (12, .slice ac n cc)]) (fun i (x : List Bool) w => Part n i done (orB n done c) x ∧ St g4 w ((db, cellsO (x.map .bool) 4) :: (ob, cellsO (out.map .bool) 4) :: F)) done (by repeat (first | exact trivial | refine ⟨rfl, ?_⟩)) ⟨Part.start hdl, hs⟩ ?_ ?_ ?_
    · intro i _ w s' hi hJ hk
      repeat (refine wl_p rfl rfl rfl ?_)
      exact wl_nil (wk_weak (by repeat (first | exact trivial | refine ⟨rfl, ?_⟩)) hk)
    · clear hs
      rintro i x w hi ⟨hp1, hs⟩
      have hxl := hp1.1
      have hb2 := rc.base (i := i) (by omega)
      have hc2 := rc.bool (i := i) (by omega)
      have cell : (x.map Value.bool)[i]? = some (.bool (x[i]'(by omega))) := by simp [hxl, hi]
      have hq := hp1.at_ hi
      rw [getD_at (show i < x.length by omega)] at hq
      have hTi : (orB n done c).getD i false = (done.getD i false || c.getD i false) := by unfold orB; rw [getD_rangeB, decide_eq_true hi, Bool.true_and]
      rw [← hq, getD_at (show i < c.length by omega)] at hTi
      generalize c[i]'(by omega) = q2 at hc2 hTi
      generalize x[i]'(by omega) = q1 at cell hTi
      repeat (refine wc_seq ?_)
      refine wc_region ?_
      repeat (refine wl_p rfl rfl rfl ?_)
      refine wl_ixJ _ rfl rfl rfl rfl rfl (hi) rfl rfl rfl ?_
      refine wl_ldO hs 0 rfl rfl cell rfl rfl rfl rfl ?_
      repeat (refine wl_p rfl rfl rfl ?_)
      cases q1 with
      | true =>
        repeat (first | refine wl_p rfl rfl rfl ?_ | refine wl_skip rfl rfl rfl ?_)
        refine wl_ixJ _ rfl rfl rfl rfl rfl (hi) rfl rfl rfl ?_
        refine wl_st hs 0 rfl rfl rfl cell rfl rfl rfl rfl ?_
        clear hs; intro w hs
        exact wl_nil (wk_blk (wk_nexti (x.set i true) hi (by omega) ⟨hp1.set hi (by rw [hTi]; rfl), by rw [List.map_set]; exact hs⟩ rfl rfl rfl rfl (by repeat (first | exact trivial | refine ⟨rfl, ?_⟩))))
      | false =>
        repeat (first | refine wl_p rfl rfl rfl ?_ | refine wl_skip rfl rfl rfl ?_)
        refine wl_ix rfl rfl rfl rfl rfl (by omega) hb2 rfl rfl ?_
        refine wl_ldG hs (hc2) rfl rfl rfl rfl rfl ?_
        repeat (first | refine wl_p rfl rfl rfl ?_ | refine wl_skip rfl rfl rfl ?_)
        refine wl_ixJ _ rfl rfl rfl rfl rfl (hi) rfl rfl rfl ?_
        refine wl_st hs 0 rfl rfl rfl cell rfl rfl rfl rfl ?_
        clear hs; intro w hs
        exact wl_nil (wk_blk (wk_nexti (x.set i q2) hi (by omega) ⟨hp1.set hi (by rw [hTi, Bool.false_or]), by rw [List.map_set]; exact hs⟩ rfl rfl rfl rfl (by repeat (first | exact trivial | refine ⟨rfl, ?_⟩))))
    clear hs
    rintro x w ⟨hp1, hs⟩
    have := hp1.done hT1
    subst this
    clear hp1
    obtain ⟨D', hD'⟩ : ∃ D', D' = orB n done c := ⟨_, rfl⟩
    rw [← hD'] at hs hstep
    obtain ⟨inner, hI⟩ : ∃ inner, inner = withinR ls inn c := ⟨_, rfl⟩
    have hil : inner.length = ls.length := by rw [hI]; simp [withinR]
    have hg04 := Ghost.tr hg1 hg14
    refine wk_seq ?_
    repeat (refine wc_seq ?_)
    refine wc_region ?_
    repeat (refine wl_p rfl rfl rfl ?_)
    refine wl_call rfl rfl rfl (L := []) hs (refWithin_spec g4 vl vin (.slice ac n cc) n ls inn c (hl.mono hg04) hv (hin.mono hg04) hlen rc hcn) ?_
    rintro vi g5 Hi w hg5 hs howni
    rw [← hI] at howni hstep
    repeat (refine wl_p rfl rfl rfl ?_)
    refine wl_nil (wk_seq ?_)
    obtain ⟨g6, hg6, hs, ri, hback⟩ := howni.lendB hs
    obtain ⟨ai, ci, rfl⟩ := howni.form
    replace hs := (show St g6 w ((db, cellsO (D'.map .bool) 4) :: (ob, cellsO (out.map .bool) 4) :: F) from hs)
    have hg46 := Ghost.tr hg5 hg6
    have hg16 := Ghost.tr hg14 hg46
    have hg06 := Ghost.tr hg1 hg16
    repeat (refine wc_seq ?_)
    refine wc_region ?_
    repeat (refine wl_p rfl rfl rfl ?_)
    refine wl_call rfl rfl rfl (L := []) hs (containsB_spec g6 _ inner ri (by omega)) ?_
    rintro u g7 L' w hg7 hs ⟨rfl, rfl⟩
    replace hs := (show St g7 w ((db, cellsO (D'.map .bool) 4) :: (ob, cellsO (out.map .bool) 4) :: F) from hs)
    have hg17 := Ghost.tr hg16 hg7
    have hg07 := Ghost.tr hg1 hg17
    repeat (refine wl_p rfl rfl rfl ?_)
    refine wl_nil (wk_seq ?_)
    refine wc_cond rfl (fun h1 => ?_) (fun h1 => ?_)
    · have h1' : inner.any id = false := by simpa using h1
      rw [if_pos h1'] at hstep
      exact wc_exit rfl (wk_nexti (out, D') hk (by omega) ⟨hstep.symm, g7, hg17, hs⟩ rfl rfl rfl rfl (by repeat (first | exact trivial | refine ⟨rfl, ?_⟩)))
    have h1' : ¬ inner.any id = false := by
      have : (!inner.any id) = false := h1
      simpa using this
    rw [if_neg h1'] at hstep
    refine wc_skip (wk_seq ?_)
    repeat (refine wc_seq ?_)
    refine wc_region ?_
    repeat (refine wl_p rfl rfl rfl ?_)
    refine wl_nil (wk_seq ?_)
    repeat (refine wc_seq ?_)
    refine wc_region ?_
    repeat (refine wl_p rfl rfl rfl ?_)
    refine wl_nil (wk_seq ?_)
    repeat (refine wc_seq ?_)
    have hm0 : (all.take 0).any (fun m => !someR ls inner m) = false := rfl
    refine wc_fori all.length (fun i (_ : Unit) => [(0, .int .i64 (n : Int)), (1, vl), (2, vin), (7, .pointer (some ⟨wb, 0, none⟩)), (9, .slice (some ⟨ob, 0, none⟩) n n), (10, .slice (some ⟨db, 0, none⟩) n n), (11, .int .i64 (k : Int)), (12, .slice ac n cc), (14, .slice ai inner.length ci), (15, .bool ((all.take i).any fun m => !someR ls inner m))]) (fun i (_ : Unit) w => ∃ g', g7 ≤ g' ∧ St g' w ((db, cellsO (D'.map .bool) 4) :: (ob, cellsO (out.map .bool) 4) :: F)) () (by repeat (first | exact trivial | refine ⟨rfl, ?_⟩)) ⟨g7, Ghost.rfl', hs⟩ ?_ ?_ ?_
    · rintro i _ w s' hi ⟨g8, hg8, hs⟩ hk
      repeat (refine wl_p rfl rfl rfl ?_)
      refine wl_ldG hs (hwb.mono (Ghost.tr hg17 hg8) 0 _ rfl) rfl rfl rfl rfl rfl ?_
      repeat (refine wl_p rfl rfl rfl ?_)
      exact wl_nil (wk_weak (by repeat (first | exact trivial | refine ⟨rfl, ?_⟩)) hk)
    · clear hs
      rintro i _ w hi ⟨g8, hg8, hs⟩
      have hg18 := Ghost.tr hg17 hg8
      have hg08 := Ghost.tr hg1 hg18
      have hb := ha.base hi
      have hcx := (ha.mono hg08).nat hi
      have hsn : (all.take (i + 1)).any (fun m => !someR ls inner m) = ((all.take i).any (fun m => !someR ls inner m) || !someR ls inner all[i]) := by rw [take_snoc hi, List.any_append]; simp
      generalize (all.take i).any (fun m => !someR ls inner m) = q1 at hsn ⊢
      repeat (refine wc_seq ?_)
      refine wc_region ?_
      repeat (refine wl_p rfl rfl rfl ?_)
      cases q1 with
      | true =>
        repeat (first | refine wl_p rfl rfl rfl ?_ | refine wl_skip rfl rfl rfl ?_)
        exact wl_nil (wk_blk (wk_nexti () hi (by omega) ⟨g8, hg8, hs⟩ rfl rfl rfl rfl (by rw [hsn, Bool.true_or]; exact (by repeat (first | exact trivial | refine ⟨rfl, ?_⟩)))))
      | false =>
        repeat (first | refine wl_p rfl rfl rfl ?_ | refine wl_skip rfl rfl rfl ?_)
        refine wl_ldG hs (hwb.mono hg18 0 _ rfl) rfl rfl rfl rfl rfl ?_
        repeat (first | refine wl_p rfl rfl rfl ?_ | refine wl_skip rfl rfl rfl ?_)
        refine wl_ix rfl rfl rfl rfl rfl (by omega) hb rfl rfl ?_
        refine wl_ldG hs (hcx) rfl rfl rfl rfl rfl ?_
        repeat (first | refine wl_p rfl rfl rfl ?_ | refine wl_skip rfl rfl rfl ?_)
        refine wl_call rfl rfl rfl (L := []) hs (refSome_spec g8 vl _ n all[i] ls inner (hl.mono hg08) hv (ri.mono (Ghost.tr hg7 hg8)) hil) ?_
        rintro u g9 L' w hg9 hs ⟨rfl, rfl⟩
        repeat (first | refine wl_p rfl rfl rfl ?_ | refine wl_skip rfl rfl rfl ?_)
        exact wl_nil (wk_blk (wk_nexti () hi (by omega) ⟨g9, Ghost.tr hg8 hg9, hs⟩ rfl rfl rfl rfl (by rw [hsn, Bool.false_or]; exact (by repeat (first | exact trivial | refine ⟨rfl, ?_⟩)))))
    clear hs
    rintro _ w ⟨g8, hg8, hs⟩
    rw [List.take_length]
    have hg18 := Ghost.tr hg17 hg8
    have hg08 := Ghost.tr hg1 hg18
    refine wk_seq ?_
    repeat (refine wc_seq ?_)
    refine wc_region ?_
    repeat (refine wl_p rfl rfl rfl ?_)
    refine wl_nil (wk_seq ?_)
    refine wc_cond rfl (fun h2 => ?_) (fun h2 => ?_)
    · rw [if_pos h2] at hstep
      exact wc_exit rfl (wk_nexti (out, D') hk (by omega) ⟨hstep.symm, g8, hg18, hs⟩ rfl rfl rfl rfl (by repeat (first | exact trivial | refine ⟨rfl, ?_⟩)))
    rw [if_neg (by rw [h2]; decide)] at hstep
    refine wc_skip (wk_seq ?_)
    repeat (refine wc_seq ?_)
    refine wc_region ?_
    repeat (refine wl_p rfl rfl rfl ?_)
    refine wl_ldGN (cs := [.slice aa all.length ca, .slice ap pairs.length cp]) hs (hwb.mono hg18).at' rfl rfl rfl rfl rfl rfl ?_
    refine wl_call rfl rfl rfl (L := []) hs (refSatisfied_spec g8 vl _ _ _ n ls inner all pairs (hl.mono hg08) hv (ri.mono (Ghost.tr hg7 hg8)) hil (ha.mono hg08) (hp.mono hg08) hal hpl) ?_
    rintro u g9 L' w hg9 hs ⟨rfl, rfl⟩
    replace hs := (show St g9 w ((db, cellsO (D'.map .bool) 4) :: (ob, cellsO (out.map .bool) 4) :: F) from hs)
    have hg89 := Ghost.tr hg8 hg9
    have hg19 := Ghost.tr hg17 hg89
    have hg09 := Ghost.tr hg1 hg19
    refine wl_nil (wk_seq ?_)
    have rc9 := rc.mono (Ghost.tr hg46 (Ghost.tr hg7 hg89))
    refine wc_cond rfl (fun h3 => ?_) (fun h3 => ?_)
    · rw [if_pos h3] at hstep
      have hT2 : (orB n out c).length = n := orB_len _ _ _
      repeat (refine wc_seq ?_)
      refine wc_region ?_
      repeat (refine wl_p rfl rfl rfl ?_)
      refine wl_nil (wk_seq ?_)
      repeat (refine wc_seq ?_)
      refine wc_fori n (fun _ (_ : List Bool) => [(0, .int .i64 (n : Int)), (1, vl), (2, vin), (7, .pointer (some ⟨wb, 0, none⟩)), (9, .slice (some ⟨ob, 0, none⟩) n n), (10, .slice (some ⟨db, 0, none⟩) n n), (11, .int .i64 (k : Int)), (12, .slice ac n cc)]) (fun i (x : List Bool) w => Part n i out (orB n out c) x ∧ St g9 w ((db, cellsO (D'.map .bool) 4) :: (ob, cellsO (x.map .bool) 4) :: F)) out (by repeat (first | exact trivial | refine ⟨rfl, ?_⟩)) ⟨Part.start hol, hs⟩ ?_ ?_ ?_
      · intro i _ w s' hi hJ hk
        repeat (refine wl_p rfl rfl rfl ?_)
        exact wl_nil (wk_weak (by repeat (first | exact trivial | refine ⟨rfl, ?_⟩)) hk)
      · clear hs
        rintro i x w hi ⟨hp1, hs⟩
        have hxl := hp1.1
        have hb2 := rc.base (i := i) (by omega)
        have hc2 := rc9.bool (i := i) (by omega)
        have cell : (x.map Value.bool)[i]? = some (.bool (x[i]'(by omega))) := by simp [hxl, hi]
        have hq := hp1.at_ hi
        rw [getD_at (show i < x.length by omega)] at hq
        have hTi : (orB n out c).getD i false = (out.getD i false || c.getD i false) := by unfold orB; rw [getD_rangeB, decide_eq_true hi, Bool.true_and]
        rw [← hq, getD_at (show i < c.length by omega)] at hTi
        generalize c[i]'(by omega) = q2 at hc2 hTi
        generalize x[i]'(by omega) = q1 at cell hTi
        repeat (refine wc_seq ?_)
        refine wc_region ?_
        repeat (refine wl_p rfl rfl rfl ?_)
        refine wl_ixJ _ rfl rfl rfl rfl rfl (hi) rfl rfl rfl ?_
        refine wl_ldO hs 1 rfl rfl cell rfl rfl rfl rfl ?_
        repeat (refine wl_p rfl rfl rfl ?_)
        cases q1 with
        | true =>
          repeat (first | refine wl_p rfl rfl rfl ?_ | refine wl_skip rfl rfl rfl ?_)
          refine wl_ixJ _ rfl rfl rfl rfl rfl (hi) rfl rfl rfl ?_
          refine wl_st hs 1 rfl rfl rfl cell rfl rfl rfl rfl ?_
          clear hs; intro w hs
          exact wl_nil (wk_blk (wk_nexti (x.set i true) hi (by omega) ⟨hp1.set hi (by rw [hTi]; rfl), by rw [List.map_set]; exact hs⟩ rfl rfl rfl rfl (by repeat (first | exact trivial | refine ⟨rfl, ?_⟩))))
        | false =>
          repeat (first | refine wl_p rfl rfl rfl ?_ | refine wl_skip rfl rfl rfl ?_)
          refine wl_ix rfl rfl rfl rfl rfl (by omega) hb2 rfl rfl ?_
          refine wl_ldG hs (hc2) rfl rfl rfl rfl rfl ?_
          repeat (first | refine wl_p rfl rfl rfl ?_ | refine wl_skip rfl rfl rfl ?_)
          refine wl_ixJ _ rfl rfl rfl rfl rfl (hi) rfl rfl rfl ?_
          refine wl_st hs 1 rfl rfl rfl cell rfl rfl rfl rfl ?_
          clear hs; intro w hs
          exact wl_nil (wk_blk (wk_nexti (x.set i q2) hi (by omega) ⟨hp1.set hi (by rw [hTi, Bool.false_or]), by rw [List.map_set]; exact hs⟩ rfl rfl rfl rfl (by repeat (first | exact trivial | refine ⟨rfl, ?_⟩))))
      · clear hs
        rintro x w ⟨hp1, hs⟩
        have := hp1.done hT2
        subst this
        exact wk_seq (wc_exit rfl (wk_nexti (_, D') hk (by omega) ⟨hstep.symm, g9, hg19, hs⟩ rfl rfl rfl rfl (by repeat (first | exact trivial | refine ⟨rfl, ?_⟩))))
    rw [if_neg (by rw [h3]; decide)] at hstep
    have hless := pairs_less (ls := ls) (all := all) (pairs := pairs) (inn := inn) (nodes := c) (by rw [← hI]; exact h2) (by rw [← hI]; exact h3)
    rw [← hI] at hless
    obtain ⟨ga, hga1, hga2, hs⟩ := hback g9 w _ (Ghost.tr hg7 hg89) hs
    have hg4a := Ghost.tr hg5 hga1
    have hg1a := Ghost.tr hg14 hg4a
    have hg0a := Ghost.tr hg1 hg1a
    refine wc_skip (wk_seq ?_)
    rw [hil] at howni ⊢
    repeat (refine wc_seq ?_)
    refine wc_region ?_
    repeat (refine wl_p rfl rfl rfl ?_)
    refine wl_nil (wk_seq ?_)
    repeat (refine wc_seq ?_)
    refine wc_fori pairs.length (fun i (_ : List Bool × Own) => [(0, .int .i64 (n : Int)), (1, vl), (2, vin), (7, .pointer (some ⟨wb, 0, none⟩)), (9, .slice (some ⟨ob, 0, none⟩) n n), (10, .slice (some ⟨db, 0, none⟩) n n), (11, .int .i64 (k : Int)), (12, .slice ac n cc), (14, .slice ai ls.length ci)]) (fun i (x : List Bool × Own) w => x.1 = (pairs.take i).foldl (pairStep ls) inner ∧ x.1.length = ls.length ∧ OwnB (.slice ai ls.length ci) x.1 x.2 ∧ ∃ g', ga ≤ g' ∧ St g' w (x.2 ++ (db, cellsO (D'.map .bool) 4) :: (ob, cellsO (out.map .bool) 4) :: F)) (inner, Hi) (by repeat (first | exact trivial | refine ⟨rfl, ?_⟩)) ⟨rfl, hil, howni, ga, Ghost.rfl', hs⟩ ?_ ?_ ?_
    · rintro i x w s' hi ⟨_, _, _, g8, hg8, hs⟩ hk
      repeat (refine wl_p rfl rfl rfl ?_)
      refine wl_ldG hs (hwb.mono (Ghost.tr hg1a hg8) 1 _ rfl) rfl rfl rfl rfl rfl ?_
      repeat (refine wl_p rfl rfl rfl ?_)
      exact wl_nil (wk_weak (by repeat (first | exact trivial | refine ⟨rfl, ?_⟩)) hk)
    · clear hs
      rintro i ⟨I, H⟩ w hi ⟨hIe, hIl, hown, gb, hgb, hs⟩
      simp only at hIe hIl hown hs
      have hg1b := Ghost.tr hg1a hgb
      have hg0b := Ghost.tr hg1 hg1b
      have hnx : (pairs.take (i + 1)).foldl (pairStep ls) inner = pairStep ls I pairs[i] := by rw [pairs_take ls pairs inner hi, hIe]
      obtain ⟨pb, po, rfl⟩ := hp.base hi
      replace hs : St gb w (H ++ (db, cellsO (D'.map .bool) 4) :: (ob, cellsO (out.map .bool) 4) :: F) := by assumption
      have hb : ∃ b o, some (⟨pb, po, none⟩ : Addr) = some ⟨b, o, none⟩ := ⟨pb, po, rfl⟩
      obtain ⟨m1, hm1⟩ : ∃ m, m = pairs[i].1 := ⟨_, rfl⟩
      obtain ⟨m2, hm2⟩ : ∃ m, m = pairs[i].2 := ⟨_, rfl⟩
      have hcc : Lies gb pb (po + i * 2) [.int .i64 (m1 : Int), .int .i64 (m2 : Int)] := by rw [hm1, hm2]; exact (hp.mono hg0b).enc hi
      unfold pairStep at hnx
      rw [← hm1, ← hm2] at hnx
      obtain ⟨gc, hgc, hs, rI, hbk⟩ := hown.lendB hs
      have hgbc := Ghost.tr hgb hgc
      have hg1c := Ghost.tr hg1b hgc
      have hg0c := Ghost.tr hg0b hgc
      repeat (refine wc_seq ?_)
      refine wc_region ?_
      repeat (refine wl_p rfl rfl rfl ?_)
      refine wl_ldG hs (hwb.mono hg1c 1 _ rfl) rfl rfl rfl rfl rfl ?_
      repeat (refine wl_p rfl rfl rfl ?_)
      refine wl_ix rfl rfl rfl rfl rfl (by omega) (hb) rfl rfl ?_
      refine wl_ixA rfl rfl rfl rfl rfl (by omega) rfl rfl ?_
      refine wl_ldG hs (hcc.mono hgc 0 _ rfl) rfl rfl rfl rfl rfl ?_
      refine wl_call rfl rfl rfl (L := []) hs (refSome_spec gc vl _ n m1 ls I (hl.mono hg0c) hv rI hIl) ?_
      rintro u gd L' w hgd hs ⟨rfl, rfl⟩
      replace hs := (show St gd w ((db, cellsO (D'.map .bool) 4) :: (ob, cellsO (out.map .bool) 4) :: F) from hs)
      have hg0d := Ghost.tr hg0c hgd
      repeat (refine wl_p rfl rfl rfl ?_)
      refine wl_case 123 rfl (fun q1 => ?_) (fun q1 => ?_)
      · rw [q1, Bool.true_and] at hnx
        repeat (first | refine wl_p rfl rfl rfl ?_ | refine wl_skip rfl rfl rfl ?_)
        refine wl_ldG hs (hwb.mono (Ghost.tr hg1c hgd) 1 _ rfl) rfl rfl rfl rfl rfl ?_
        repeat (first | refine wl_p rfl rfl rfl ?_ | refine wl_skip rfl rfl rfl ?_)
        refine wl_ix rfl rfl rfl rfl rfl (by omega) (hb) rfl rfl ?_
        repeat (first | refine wl_p rfl rfl rfl ?_ | refine wl_skip rfl rfl rfl ?_)
        refine wl_ixA rfl rfl rfl rfl rfl (by omega) rfl rfl ?_
        refine wl_ldG hs (hcc.mono (Ghost.tr hgc hgd) 1 _ rfl) rfl rfl rfl rfl rfl ?_
        refine wl_call rfl rfl rfl (L := []) hs (refSome_spec gd vl _ n m2 ls I (hl.mono hg0d) hv (rI.mono hgd) hIl) ?_
        rintro u ge L' w hge hs ⟨rfl, rfl⟩
        replace hs := (show St ge w ((db, cellsO (D'.map .bool) 4) :: (ob, cellsO (out.map .bool) 4) :: F) from hs)
        repeat (first | refine wl_p rfl rfl rfl ?_ | refine wl_skip rfl rfl rfl ?_)
        refine wl_nil (wk_seq ?_)
        obtain ⟨gf, hgf1, hgf2, hs⟩ := hbk ge w _ (Ghost.tr hgd hge) hs
        have hgaf := Ghost.tr hgb hgf1
        have hg1f := Ghost.tr hg1b hgf1
        have hg0f := Ghost.tr hg1 hg1f
        replace hcc := hcc.mono hgf1
        refine wc_cond rfl (fun h => ?_) (fun h => ?_)
        · rw [if_pos h] at hnx
          have hTl : (withoutF ls I m1).length = ls.length := by simp [withoutF]
          repeat (refine wc_seq ?_)
          refine wc_region ?_
          repeat (refine wl_p rfl rfl rfl ?_)
          refine wl_nil (wk_seq ?_)
          repeat (refine wc_seq ?_)
          refine wc_fori ls.length (fun _ (_ : List Bool × Own) => [(0, .int .i64 (n : Int)), (1, vl), (2, vin), (7, .pointer (some ⟨wb, 0, none⟩)), (9, .slice (some ⟨ob, 0, none⟩) n n), (10, .slice (some ⟨db, 0, none⟩) n n), (11, .int .i64 (k : Int)), (12, .slice ac n cc), (14, .slice ai ls.length ci), (18, .int .i64 (i : Int))]) (fun a (x : List Bool × Own) w => Part ls.length a I (withoutF ls I m1) x.1 ∧ OwnB (.slice ai ls.length ci) x.1 x.2 ∧ ∃ g', gf ≤ g' ∧ St g' w (x.2 ++ (db, cellsO (D'.map .bool) 4) :: (ob, cellsO (out.map .bool) 4) :: F)) (I, H) (by repeat (first | exact trivial | refine ⟨rfl, ?_⟩)) ⟨Part.start hIl, hown, gf, Ghost.rfl', hs⟩ ?_ ?_ ?_
          · rintro a x w s' hi2 _ hk2
            obtain ⟨al, cl, rfl⟩ := hl.form
            repeat (refine wl_p rfl rfl rfl ?_)
            exact wl_nil (wk_weak (by repeat (first | exact trivial | refine ⟨rfl, ?_⟩)) hk2)
          · clear hs hown
            rintro a ⟨J, H⟩ w hla ⟨hpt, hown, gg, hgg, hs⟩
            simp only at hpt hown hs
            have hJl := hpt.1
            have hg0g := Ghost.tr hg0f hgg
            obtain ⟨al, cl, rfl⟩ := hl.form
            have hbl := hl.base hla
            have hcl2 := (hl.mono hg0g).enc hla
            obtain ⟨b, cap, cs, hve, rfl, hcs, hset⟩ := hown.open' (by omega)
            rw [hJl] at hve
            simp only [Value.slice.injEq, true_and] at hve
            obtain ⟨rfl, rfl⟩ := hve
            have cell := hcs a (by omega)
            have hq := hpt.at_ hla
            rw [getD_at (show a < J.length by omega)] at hq
            have hTi := without_part (ls := ls) (inn := I) (m := m1) hla
            rw [← hq] at hTi
            have hs1 := fun c => hset a c (by omega)
            rw [hJl] at hs1
            generalize J[a]'(by omega) = q2 at cell hTi
            have hwg := hwb.mono (Ghost.tr hg1f hgg)
            have hms := (hv.ok _ (List.getElem_mem hla)).2.2
            repeat (refine wc_seq ?_)
            refine wc_draw 20 [] pp_mix (by kernel_rfl) rfl hs ?_
            repeat (first | refine sg_p rfl rfl ?_ | refine sg_skip rfl rfl ?_)
            refine sg_ixJ _ rfl rfl rfl rfl rfl (hla) rfl rfl ?_
            refine sg_ldO 0 rfl rfl cell rfl rfl rfl ?_
            repeat (first | refine sg_p rfl rfl ?_ | refine sg_skip rfl rfl ?_)
            cases q2 with
            | true =>
              repeat (first | refine sg_p rfl rfl ?_ | refine sg_skip rfl rfl ?_)
              refine sg_ix rfl rfl rfl rfl rfl (by omega) hbl rfl ?_
              refine sg_ldGN (hcl2.of_eaddr) rfl rfl rfl rfl rfl ?_
              repeat (first | refine sg_p rfl rfl ?_ | refine sg_skip rfl rfl ?_)
              refine sg_ldG (hwg 1 _ rfl) rfl rfl rfl rfl ?_
              repeat (first | refine sg_p rfl rfl ?_ | refine sg_skip rfl rfl ?_)
              refine sg_ix rfl rfl rfl rfl rfl (by omega) hb rfl ?_
              repeat (first | refine sg_p rfl rfl ?_ | refine sg_skip rfl rfl ?_)
              refine sg_ixA rfl rfl rfl rfl rfl (by omega) rfl ?_
              refine sg_ldG (hcc.mono hgg 0 _ rfl) rfl rfl rfl rfl ?_
              refine sg_callK (vs := [.agg #[.int .i64 (ls[a].fr : Int), .int .i64 (ls[a].to : Int), .int .u32 (ls[a].ms : Int)], .int .i64 (m1 : Int)]) [] [] rfl rfl rfl (fun g' hg' => refHas_spec g' _ _ ls[a].ms m1 (by omega) rfl rfl) (fun g' L' v' h => h) ?_
              repeat (first | refine sg_p rfl rfl ?_ | refine sg_skip rfl rfl ?_)
              refine sg_end ?_
              intro gh w hgh
              intro hs
              refine wl_ixJ _ rfl rfl rfl rfl rfl (hla) rfl rfl rfl ?_
              refine wl_st hs 0 rfl rfl rfl cell rfl rfl rfl rfl ?_
              clear hs; intro w hs
              exact wl_nil (wk_blk (wk_nexti (J.set a (!ls[a].ms.testBit m1), [(b, cellsO (cs.set a (.bool (!ls[a].ms.testBit m1))) 4)]) hla (by omega) ⟨hpt.set hla (by rw [hTi, Bool.true_and]), by simpa [List.length_set] using hs1 _, gh, Ghost.tr hgg hgh, hs⟩ rfl rfl rfl rfl (by repeat (first | exact trivial | refine ⟨rfl, ?_⟩))))
            | false =>
              repeat (first | refine sg_p rfl rfl ?_ | refine sg_skip rfl rfl ?_)
              refine sg_end ?_
              intro gh w hgh
              intro hs
              refine wl_ixJ _ rfl rfl rfl rfl rfl (hla) rfl rfl rfl ?_
              refine wl_st hs 0 rfl rfl rfl cell rfl rfl rfl rfl ?_
              clear hs; intro w hs
              exact wl_nil (wk_blk (wk_nexti (J.set a false, [(b, cellsO (cs.set a (.bool false)) 4)]) hla (by omega) ⟨hpt.set hla (by rw [hTi]; rfl), by simpa [List.length_set] using hs1 _, gh, Ghost.tr hgg hgh, hs⟩ rfl rfl rfl rfl (by repeat (first | exact trivial | refine ⟨rfl, ?_⟩))))
          · clear hs hown
            rintro ⟨J, H⟩ w ⟨hpt, hown, gg, hgg, hs⟩
            simp only at hpt hown hs
            have := hpt.done hTl
            subst this
            exact wk_blk (wk_nexti (_, H) hi (by omega) ⟨hnx.symm, hTl, hown, gg, Ghost.tr hgaf hgg, hs⟩ rfl rfl rfl rfl (by repeat (first | exact trivial | refine ⟨rfl, ?_⟩)))
        · rw [if_neg (by rw [h]; decide)] at hnx
          exact wc_skip (wk_blk (wk_nexti (I, H) hi (by omega) ⟨hnx.symm, hIl, hown, gf, hgaf, hs⟩ rfl rfl rfl rfl (by repeat (first | exact trivial | refine ⟨rfl, ?_⟩))))
      · rw [q1, Bool.false_and, if_neg (by decide)] at hnx
        repeat (first | refine wl_p rfl rfl rfl ?_ | refine wl_skip rfl rfl rfl ?_)
        refine wl_nil (wk_seq ?_)
        obtain ⟨gf, hgf1, hgf2, hs⟩ := hbk gd w _ hgd hs
        exact wc_condF rfl rfl (wc_skip (wk_blk (wk_nexti (I, H) hi (by omega) ⟨hnx.symm, hIl, hown, gf, Ghost.tr hgb hgf1, hs⟩ rfl rfl rfl rfl (by repeat (first | exact trivial | refine ⟨rfl, ?_⟩)))))
    clear hs
    rintro ⟨I, H⟩ w ⟨hIe, hIl, hown, gb, hgb, hs⟩
    simp only at hIe hIl hown hs
    rw [List.take_length] at hIe
    have hIe' : I = pairsR ls pairs inner := hIe
    rw [← hIe'] at hstep hless
    clear hIe hIe'
    obtain ⟨gc, hgc, hs, rI⟩ := hown.freezeB hs
    have hg4c := Ghost.tr hg4a (Ghost.tr hgb hgc)
    have hg1c := Ghost.tr hg14 hg4c
    have hg0c := Ghost.tr hg1 hg1c
    refine wk_seq ?_
    repeat (refine wc_seq ?_)
    refine wc_region ?_
    repeat (refine wl_p rfl rfl rfl ?_)
    refine wl_ldGN (cs := [.slice aa all.length ca, .slice ap pairs.length cp]) hs (hwb.mono hg1c).at' rfl rfl rfl rfl rfl rfl ?_
    refine wl_call rfl rfl rfl (L := []) hs (ih gc vl _ _ _ I (hl.mono hg0c) rI hIl (ha.mono hg0c) (hp.mono hg0c) (by omega)) ?_
    rintro vr gd Hr w hgd hs hownr
    repeat (refine wl_p rfl rfl rfl ?_)
    refine wl_nil (wk_seq ?_)
    obtain ⟨ge, hge, hs, rr⟩ := hownr.freezeB hs
    obtain ⟨ar, cr, rfl⟩ := rr.form
    replace hs := (show St ge w ((db, cellsO (D'.map .bool) 4) :: (ob, cellsO (out.map .bool) 4) :: F) from hs)
    have hg4e := Ghost.tr hg4c (Ghost.tr hgd hge)
    have hg1e := Ghost.tr hg14 hg4e
    have hrl' := hrl I
    obtain ⟨R, hR⟩ : ∃ R, R = rec I := ⟨_, rfl⟩
    rw [← hR] at rr hrl' hstep ⊢
    have rce := rc.mono hg4e
    have hT3 : (orB n out (andB n c R)).length = n := orB_len _ _ _
    repeat (refine wc_seq ?_)
    refine wc_region ?_
    repeat (refine wl_p rfl rfl rfl ?_)
    refine wl_nil (wk_seq ?_)
    repeat (refine wc_seq ?_)
    refine wc_fori n (fun _ (_ : List Bool) => [(0, .int .i64 (n : Int)), (1, vl), (2, vin), (7, .pointer (some ⟨wb, 0, none⟩)), (9, .slice (some ⟨ob, 0, none⟩) n n), (10, .slice (some ⟨db, 0, none⟩) n n), (11, .int .i64 (k : Int)), (12, .slice ac n cc), (20, .slice ar R.length cr)]) (fun i (x : List Bool) w => Part n i out (orB n out (andB n c R)) x ∧ St ge w ((db, cellsO (D'.map .bool) 4) :: (ob, cellsO (x.map .bool) 4) :: F)) out (by repeat (first | exact trivial | refine ⟨rfl, ?_⟩)) ⟨Part.start hol, hs⟩ ?_ ?_ ?_
    · intro i _ w s' hi hJ hk
      repeat (refine wl_p rfl rfl rfl ?_)
      exact wl_nil (wk_weak (by repeat (first | exact trivial | refine ⟨rfl, ?_⟩)) hk)
    · clear hs
      rintro i x w hi ⟨hp1, hs⟩
      have hxl := hp1.1
      have hb2 := rc.base (i := i) (by omega)
      have hc2 := rce.bool (i := i) (by omega)
      have hb3 := rr.base (i := i) (by omega)
      have hc3 := rr.bool (i := i) (by omega)
      have cell : (x.map Value.bool)[i]? = some (.bool (x[i]'(by omega))) := by simp [hxl, hi]
      have hq := hp1.at_ hi
      rw [getD_at (show i < x.length by omega)] at hq
      have hTi : (orB n out (andB n c R)).getD i false = (out.getD i false || c.getD i false && R.getD i false) := by unfold orB andB; rw [getD_rangeB, getD_rangeB, decide_eq_true hi, Bool.true_and, Bool.true_and]
      rw [← hq, getD_at (show i < c.length by omega), getD_at (show i < R.length by omega)] at hTi
      generalize c[i]'(by omega) = q2 at hc2 hTi
      generalize R[i]'(by omega) = q3 at hc3 hTi
      generalize x[i]'(by omega) = q1 at cell hTi
      repeat (refine wc_seq ?_)
      refine wc_region ?_
      repeat (refine wl_p rfl rfl rfl ?_)
      refine wl_ixJ _ rfl rfl rfl rfl rfl (hi) rfl rfl rfl ?_
      refine wl_ldO hs 1 rfl rfl cell rfl rfl rfl rfl ?_
      repeat (refine wl_p rfl rfl rfl ?_)
      cases q1 with
      | true =>
        repeat (first | refine wl_p rfl rfl rfl ?_ | refine wl_skip rfl rfl rfl ?_)
        refine wl_ixJ _ rfl rfl rfl rfl rfl (hi) rfl rfl rfl ?_
        refine wl_st hs 1 rfl rfl rfl cell rfl rfl rfl rfl ?_
        clear hs; intro w hs
        exact wl_nil (wk_blk (wk_nexti (x.set i true) hi (by omega) ⟨hp1.set hi (by rw [hTi]; rfl), by rw [List.map_set]; exact hs⟩ rfl rfl rfl rfl (by repeat (first | exact trivial | refine ⟨rfl, ?_⟩))))
      | false =>
        repeat (first | refine wl_p rfl rfl rfl ?_ | refine wl_skip rfl rfl rfl ?_)
        refine wl_ix rfl rfl rfl rfl rfl (by omega) hb2 rfl rfl ?_
        refine wl_ldG hs (hc2) rfl rfl rfl rfl rfl ?_
        repeat (first | refine wl_p rfl rfl rfl ?_ | refine wl_skip rfl rfl rfl ?_)
        cases q2 with
        | false =>
          repeat (first | refine wl_p rfl rfl rfl ?_ | refine wl_skip rfl rfl rfl ?_)
          refine wl_ixJ _ rfl rfl rfl rfl rfl (hi) rfl rfl rfl ?_
          refine wl_st hs 1 rfl rfl rfl cell rfl rfl rfl rfl ?_
          clear hs; intro w hs
          exact wl_nil (wk_blk (wk_nexti (x.set i false) hi (by omega) ⟨hp1.set hi (by rw [hTi]; rfl), by rw [List.map_set]; exact hs⟩ rfl rfl rfl rfl (by repeat (first | exact trivial | refine ⟨rfl, ?_⟩))))
        | true =>
          repeat (first | refine wl_p rfl rfl rfl ?_ | refine wl_skip rfl rfl rfl ?_)
          refine wl_ix rfl rfl rfl rfl rfl (by omega) hb3 rfl rfl ?_
          refine wl_ldG hs (hc3) rfl rfl rfl rfl rfl ?_
          repeat (first | refine wl_p rfl rfl rfl ?_ | refine wl_skip rfl rfl rfl ?_)
          refine wl_ixJ _ rfl rfl rfl rfl rfl (hi) rfl rfl rfl ?_
          refine wl_st hs 1 rfl rfl rfl cell rfl rfl rfl rfl ?_
          clear hs; intro w hs
          exact wl_nil (wk_blk (wk_nexti (x.set i q3) hi (by omega) ⟨hp1.set hi (by rw [hTi]; simp), by rw [List.map_set]; exact hs⟩ rfl rfl rfl rfl (by repeat (first | exact trivial | refine ⟨rfl, ?_⟩))))
    · clear hs
      rintro x w ⟨hp1, hs⟩
      have := hp1.done hT3
      subst this
      exact wk_blk (wk_nexti (_, D') hk (by omega) ⟨hstep.symm, ge, hg1e, hs⟩ rfl rfl rfl rfl (by repeat (first | exact trivial | refine ⟨rfl, ?_⟩)))
  · clear hs
    rintro ⟨out, done⟩ w ⟨hx, g2, hg12, hs⟩
    have hcl := cTo_len (n := n) (ls := ls) (all := all) (pairs := pairs) (rec := rec) (inn := inn) n
    rw [← hx] at hcl
    refine wk_seq ?_
    repeat (refine wc_seq ?_)
    refine wc_region ?_
    repeat (refine wl_p rfl rfl rfl ?_)
    refine wl_nil (wk_seq ?_)
    refine wc_retV (res1 rfl rfl) ⟨g2, [(ob, cellsO (out.map .bool) 4)], Ghost.tr hg1 hg12, hs.drop, ?_⟩
    rw [← hx]
    show OwnS 4 1 _ out.length (out.map .bool) _
    rw [hcl.1]
    exact OwnS.lit (by simp [hcl.1])
end Go.Proofs.Ytnanffbjmfgafaa.S
namespace Go.Proofs.Ytnanffbjmfgafaa.S
open Go.RowKit
theorem Cl.freezeB {f : FuncId} {vs : List Value} {g : Ghost} {l : List Bool} (h : Cl PP f vs g [] fun _ L' r => OwnB r l L') : Cl PP f vs g [] fun g' L' r => L' = [] ∧ RS kBool g' r l :=
  ⟨h.enters, fun w F hs => (h.call w F hs).mono fun _ _ ⟨v, g', L', e1, e2, e3, e4⟩ => by
    obtain ⟨g2, h1, h2, h3⟩ := OwnB.freezeB e4 e3
    exact ⟨v, g2, [], e1, Ghost.tr e2 h1, h2, rfl, h3⟩⟩
section
variable {n : Int} {init : List Int} {ls : List ArrowI} {all : List Int} {pairs : List (Int × Int)}
theorem refEvery_I (hC : Checked n init ls all pairs) {g : Ghost} {vl : Value} (hl : RS kArrI g vl ls) : Cl PP 65 [vl] g [] fun g' L' r => L' = [] ∧ RS kBool g' r (everyR (ls.map toA)) := every_spec g vl _ (hC.rsA hl) hC.validG.len
theorem refCores_I (hC : Checked n init ls all pairs) {g : Ghost} {vl vin va vp : Value} (hl : RS kArrI g vl ls) (ha : RS kInt g va all) (hp : RS kPairI g vp pairs) (ha0 : all.length ≤ 4611686018427387904) (hin : RS kBool g vin (everyR (ls.map toA))) :
    Cl PP 64 [.int .i64 (n.toNat : Int), vl, vin, .agg #[va, vp]] g [] fun g' L' r => L' = [] ∧ RS kBool g' r (coresM n.toNat (ls.map toA) (all.map Int.toNat) (pairs.map toP)) :=
  (refCores_spec n.toNat _ _ _ hC.validG hC.validW (by simpa using ha0) (by have := hC.plen; simp; omega) _ g vl vin va vp _ (hC.rsA hl) hin (by simp [everyR]) (hC.all.rs ha) (hC.rsP hp) (Nat.lt_succ_of_le (onCnt_le _))).freezeB
theorem refReach_I (hC : Checked n init ls all pairs) {g : Ghost} {vl vin vf : Value} {back : Bool} {fr : List Bool} (hl : RS kArrI g vl ls) (hin : RS kBool g vin (everyR (ls.map toA))) (hf : RS kBool g vf fr) (hfl : fr.length = n.toNat) :
    Cl PP 67 [.int .i64 (n.toNat : Int), vl, vin, vf, .bool back] g [] fun g' L' r => L' = [] ∧ RS kBool g' r (rchR (ls.map toA) (everyR (ls.map toA)) back n.toNat fr) :=
  (refReach_spec g vl vin vf n.toNat _ _ _ back (hC.rsA hl) hC.validG hin (by simp [everyR]) hf hfl).freezeB
theorem refCoresT_spec (g : Ghost) (vl va vp : Value) (hl : RS kArrI g vl ls) (ha : RS kInt g va all) (hp : RS kPairI g vp pairs)
    (hl0 : ls.length ≤ 4611686018427387904) (ha0 : all.length ≤ 4611686018427387904) (hp0 : pairs.length ≤ 4611686018427387904) :
    Cl PP 33 [.int .i64 n, vl, .agg #[va, vp]] g [] fun g' L' r => L' = [] ∧ ∃ v, r = .tuple #[v, .int .i64 (refCoresI n ls all pairs).2] ∧ RS kNat g' v (refCoresI n ls all pairs).1 := by
  refine cl_intro Try.func33 rfl rfl Try.ntmps33 rfl ?_
  intro w F hs
  repeat (refine wc_seq ?_)
  refine wc_region ?_
  refine wl_box hs rfl rfl rfl rfl ?_; clear hs; intro wb w hs
  repeat (refine wl_p rfl rfl rfl ?_)
  refine wl_nil (wk_seq ?_)
  repeat (refine wc_seq ?_)
  refine wc_region ?_
  repeat (refine wl_p rfl rfl rfl ?_)
  refine wl_ldW hs 0 rfl rfl rfl rfl rfl rfl rfl ?_
  refine wl_call (L := []) rfl rfl rfl hs (refCheck_spec g n (.slice none 0 0) vl va vp [] ls all pairs (RS.nil _ _ _ _) hl ha hp (by simp) hl0 ha0 hp0) ?_
  rintro u g1 L' w hg1 hs ⟨rfl, rfl⟩
  repeat (refine wl_p rfl rfl rfl ?_)
  refine wl_nil (wk_seq ?_)
  repeat (refine wc_seq ?_)
  refine wc_region ?_
  repeat (refine wl_p rfl rfl rfl ?_)
  refine wl_nil (wk_seq ?_)
  refine wc_cond rfl (fun h1 => ?_) (fun h1 => ?_)
  · repeat (refine wc_seq ?_)
    refine wc_region ?_
    repeat (refine wl_p rfl rfl rfl ?_)
    refine wl_nil (wk_seq ?_)
    have h9 : ¬ checkI n [] ls all pairs = 0 := by simpa using h1
    have e : refCoresI n ls all pairs = ([], checkI n [] ls all pairs) := by unfold refCoresI; rw [if_neg h9]
    rw [e]
    exact wc_retV (res2 rfl rfl rfl) ⟨g1, [], hg1, hs.drop, rfl, _, rfl, RS.nil _ _ _ _⟩
  · have hc : checkI n [] ls all pairs = 0 := by simpa using h1
    have hC := checked hc
    have hnn : n = (n.toNat : Int) := (Int.toNat_of_nonneg hC.n0).symm
    have e : refCoresI n ls all pairs = (numsR (coresM n.toNat (ls.map toA) (all.map Int.toNat) (pairs.map toP)), 0) := by unfold refCoresI; rw [if_pos hc]
    rw [e]
    have hn1 := hC.n1
    refine wc_skip (wk_seq ?_)
    repeat (refine wc_seq ?_)
    refine wc_draw 7 [] pp_mix (by kernel_rfl) rfl hs ?_
    repeat (first | refine sg_p rfl rfl ?_ | refine sg_skip rfl rfl ?_)
    refine sg_call [] [] rfl rfl rfl (fun g' hg' => refEvery_I hC (hl.mono (Ghost.tr hg1 hg'))) ?_
    refine sg_ldW 0 rfl rfl rfl rfl rfl rfl ?_
    refine sg_callW (vs := fun v => [.int .i64 (n.toNat : Int), vl, v, .agg #[va, vp]]) (post := fun g' L' r => L' = [] ∧ RS kBool g' r (coresM n.toNat (ls.map toA) (all.map Int.toNat) (pairs.map toP))) 19 [] [] rfl rfl rfl (fun _ => by rw [← hnn]; rfl) (fun _ => rfl) (fun g' g2 v L' hg2 ⟨g3, hg3, hL, hr⟩ hg' =>
      refCores_I hC (hl.mono (Ghost.tr hg1 (Ghost.tr hg2 hg'))) (ha.mono (Ghost.tr hg1 (Ghost.tr hg2 hg'))) (hp.mono (Ghost.tr hg1 (Ghost.tr hg2 hg'))) ha0 (hr.mono (Ghost.tr hg3 hg'))) ?_
    refine sg_callW (post := fun g' L' r => L' = [] ∧ RS kNat g' r (numsR (coresM n.toNat (ls.map toA) (all.map Int.toNat) (pairs.map toP)))) 21 [] [] rfl rfl rfl (fun _ => rfl) (fun _ => rfl) (fun g' g2 v L' hg2 ⟨g3, hg3, hL, hr⟩ hg' => refNumbers_spec g' v _ (hr.mono (Ghost.tr hg3 hg')) (by rw [coresM_len]; omega)) ?_
    refine sg_end ?_
    intro g4 w hg4
    rintro _ _ ⟨_, _, rfl, _⟩ _ _ ⟨_, _, rfl, _⟩ v _ ⟨g5, hg5, rfl, hr⟩ hs
    repeat (refine wl_p rfl rfl rfl ?_)
    refine wl_nil (wk_seq ?_)
    exact wc_retV (res2 rfl rfl rfl) ⟨g4, [], Ghost.tr hg1 hg4, hs.drop, rfl, _, rfl, hr.mono hg5⟩
theorem refFromT_spec (g : Ghost) (vl va vp : Value) (hl : RS kArrI g vl ls) (ha : RS kInt g va all) (hp : RS kPairI g vp pairs)
    (hl0 : ls.length ≤ 4611686018427387904) (ha0 : all.length ≤ 4611686018427387904) (hp0 : pairs.length ≤ 4611686018427387904) :
    Cl PP 36 [.int .i64 n, vl, .agg #[va, vp]] g [] fun g' L' r => L' = [] ∧ ∃ v, r = .tuple #[v, .int .i64 (refFromI n ls all pairs).2] ∧ RS kNat g' v (refFromI n ls all pairs).1 := by
  refine cl_intro Try.func36 rfl rfl Try.ntmps36 rfl ?_
  intro w F hs
  repeat (refine wc_seq ?_)
  refine wc_region ?_
  refine wl_box hs rfl rfl rfl rfl ?_; clear hs; intro wb w hs
  repeat (refine wl_p rfl rfl rfl ?_)
  refine wl_nil (wk_seq ?_)
  repeat (refine wc_seq ?_)
  refine wc_region ?_
  repeat (refine wl_p rfl rfl rfl ?_)
  refine wl_ldW hs 0 rfl rfl rfl rfl rfl rfl rfl ?_
  refine wl_call (L := []) rfl rfl rfl hs (refCheck_spec g n (.slice none 0 0) vl va vp [] ls all pairs (RS.nil _ _ _ _) hl ha hp (by simp) hl0 ha0 hp0) ?_
  rintro u g1 L' w hg1 hs ⟨rfl, rfl⟩
  repeat (refine wl_p rfl rfl rfl ?_)
  refine wl_nil (wk_seq ?_)
  repeat (refine wc_seq ?_)
  refine wc_region ?_
  repeat (refine wl_p rfl rfl rfl ?_)
  refine wl_nil (wk_seq ?_)
  refine wc_cond rfl (fun h1 => ?_) (fun h1 => ?_)
  · repeat (refine wc_seq ?_)
    refine wc_region ?_
    repeat (refine wl_p rfl rfl rfl ?_)
    refine wl_nil (wk_seq ?_)
    have h9 : ¬ checkI n [] ls all pairs = 0 := by simpa using h1
    have e : refFromI n ls all pairs = ([], checkI n [] ls all pairs) := by unfold refFromI; rw [if_neg h9]
    rw [e]
    exact wc_retV (res2 rfl rfl rfl) ⟨g1, [], hg1, hs.drop, rfl, _, rfl, RS.nil _ _ _ _⟩
  · have hc : checkI n [] ls all pairs = 0 := by simpa using h1
    have hC := checked hc
    have hnn : n = (n.toNat : Int) := (Int.toNat_of_nonneg hC.n0).symm
    obtain ⟨out, hout⟩ : ∃ out, out = rchR (ls.map toA) (everyR (ls.map toA)) true n.toNat (coresM n.toNat (ls.map toA) (all.map Int.toNat) (pairs.map toP)) := ⟨_, rfl⟩
    have e : refFromI n ls all pairs = (numsR out, 0) := by unfold refFromI; rw [if_pos hc, hout]
    have hol : out.length = n.toNat := by rw [hout]; exact rchR_len hC.validG coresM_len _
    rw [e]
    have hn1 := hC.n1
    refine wc_skip (wk_seq ?_)
    repeat (refine wc_seq ?_)
    refine wc_draw 12 [] pp_mix (by kernel_rfl) rfl hs ?_
    repeat (first | refine sg_p rfl rfl ?_ | refine sg_skip rfl rfl ?_)
    refine sg_call [] [] rfl rfl rfl (fun g' hg' => refEvery_I hC (hl.mono (Ghost.tr hg1 hg'))) ?_
    repeat (first | refine sg_p rfl rfl ?_ | refine sg_skip rfl rfl ?_)
    refine sg_call [] [] rfl rfl rfl (fun g' hg' => refEvery_I hC (hl.mono (Ghost.tr hg1 hg'))) ?_
    refine sg_ldW 0 rfl rfl rfl rfl rfl rfl ?_
    refine sg_callW (vs := fun v => [.int .i64 (n.toNat : Int), vl, v, .agg #[va, vp]]) (post := fun g' L' r => L' = [] ∧ RS kBool g' r (coresM n.toNat (ls.map toA) (all.map Int.toNat) (pairs.map toP))) 23 [] [] rfl rfl rfl (fun _ => by rw [← hnn]; rfl) (fun _ => rfl) (fun g' g2 v L' hg2 ⟨g3, hg3, hL, hr⟩ hg' =>
      refCores_I hC (hl.mono (Ghost.tr hg1 (Ghost.tr hg2 hg'))) (ha.mono (Ghost.tr hg1 (Ghost.tr hg2 hg'))) (hp.mono (Ghost.tr hg1 (Ghost.tr hg2 hg'))) ha0 (hr.mono (Ghost.tr hg3 hg'))) ?_
    refine sg_callW2 (vs := fun v u => [.int .i64 (n.toNat : Int), vl, v, u, .bool true]) (post := fun g' L' r => L' = [] ∧ RS kBool g' r out) 19 25 [] [] rfl rfl rfl rfl rfl (fun _ _ => by rw [← hnn]; rfl) (fun _ _ => rfl) (fun g' g2 v L' u L2 hg2 ⟨g4, hg4, _, hr⟩ ⟨g5, hg5, _, hr2⟩ hle => by
      rw [hout]
      exact refReach_I hC (hl.mono (Ghost.tr hg1 (Ghost.tr hg2 hle))) (hr.mono (Ghost.tr hg4 hle)) (hr2.mono (Ghost.tr hg5 hle)) coresM_len) ?_
    refine sg_callW (post := fun g' L' r => L' = [] ∧ RS kNat g' r (numsR out)) 26 [] [] rfl rfl rfl (fun _ => rfl) (fun _ => rfl) (fun g' g2 v L' hg2 ⟨g3, hg3, hL, hr⟩ hg' => refNumbers_spec g' v _ (hr.mono (Ghost.tr hg3 hg')) (by omega)) ?_
    refine sg_end ?_
    intro g4 w hg4
    rintro _ _ ⟨_, _, rfl, _⟩ _ _ ⟨_, _, rfl, _⟩ _ _ ⟨_, _, rfl, _⟩ _ _ ⟨_, _, rfl, _⟩ v _ ⟨g5, hg5, rfl, hr⟩ hs
    repeat (refine wl_p rfl rfl rfl ?_)
    refine wl_nil (wk_seq ?_)
    exact wc_retV (res2 rfl rfl rfl) ⟨g4, [], Ghost.tr hg1 hg4, hs.drop, rfl, _, rfl, hr.mono hg5⟩
end
theorem lawCores_spec (g : Ghost) (n : Int) (vi vl va vp : Value) (init : List Int) (ls : List ArrowI) (all : List Int) (pairs : List (Int × Int))
    (hi : RS kInt g vi init) (hl : RS kArrI g vl ls) (ha : RS kInt g va all) (hp : RS kPairI g vp pairs) :
    Cl PP 8 [.agg #[.int .i64 n, vi, vl, va, vp]] g [] (Det (.bool true)) := by
  refine cl_intro Try.func8 rfl rfl Try.ntmps8 rfl ?_
  intro w F hs
  repeat (refine wc_seq ?_)
  refine wc_region ?_
  refine wl_box hs rfl rfl rfl rfl ?_; clear hs; intro nb w hs
  repeat (refine wl_p rfl rfl rfl ?_)
  refine wl_nil (wk_seq ?_)
  obtain ⟨g1, hg1, hs, hnb⟩ := freezeB hs
  replace hs := (show St g1 w F from hs)
  replace hnb := (show Lies g1 nb 0 [.int .i64 n, vi, vl, va, vp] from hnb)
  repeat (refine wc_seq ?_)
  refine wc_region ?_
  refine wl_call (L := []) rfl rfl rfl hs (sane_spec g1) ?_
  rintro u g2 L' w hg2 hs ⟨rfl, rfl⟩
  replace hnb := hnb.mono hg2
  have hg02 := Ghost.tr hg1 hg2
  repeat (refine wl_p rfl rfl rfl ?_)
  refine wl_nil (wk_seq ?_)
  refine wc_condF rfl rfl (wc_skip (wk_seq ?_))
  repeat (refine wc_seq ?_)
  refine wc_region ?_
  refine wl_ldGN (cs := [.int .i64 n, vi, vl, va, vp]) hs hnb.at' rfl rfl rfl rfl rfl rfl ?_
  refine wl_call (L := []) rfl rfl rfl hs (small_spec g2 n _ _ _ _ init ls all pairs (hi.mono hg02) (hl.mono hg02) (ha.mono hg02) (hp.mono hg02)) ?_
  rintro u g3 L' w hg3 hs ⟨rfl, rfl⟩
  have hg03 := Ghost.tr hg02 hg3
  repeat (refine wl_p rfl rfl rfl ?_)
  refine wl_nil (wk_seq ?_)
  refine wc_cond rfl (fun q1 => ?_) (fun q1 => ?_)
  · repeat (refine wc_seq ?_)
    refine wc_region ?_
    repeat (refine wl_p rfl rfl rfl ?_)
    refine wl_nil (wk_seq ?_)
    exact wc_retV (res1 rfl rfl) ⟨g3, [], hg03, hs, rfl, rfl⟩
  obtain ⟨hn12, l1, l2, l3, l4⟩ := small_lens (by
    have : (!smallB n init ls all pairs) = false := q1
    simpa using this)
  have hcs := cores_same (all := all) (pairs := pairs) hn12 (show ls.length ≤ 41 by omega)
  have hfs := from_same (all := all) (pairs := pairs) hn12 (show ls.length ≤ 41 by omega)
  have hcl : (refCoresI n ls all pairs).1.length ≤ 20000 ∧ (refFromI n ls all pairs).1.length ≤ 20000 := by
    unfold refCoresI refFromI
    split
    · rename_i hc
      have hC := checked hc
      have h1 := nums_len (coresM n.toNat (ls.map toA) (all.map Int.toNat) (pairs.map toP))
      have h2 := nums_len (rchR (ls.map toA) (everyR (ls.map toA)) true n.toNat (coresM n.toNat (ls.map toA) (all.map Int.toNat) (pairs.map toP)))
      rw [coresM_len] at h1
      rw [rchR_len hC.validG coresM_len] at h2
      have := hC.n1
      exact ⟨by show (numsR _).length ≤ _; omega, by show (numsR _).length ≤ _; omega⟩
    · exact ⟨by simp, by simp⟩
  refine wc_skip (wk_seq ?_)
  replace hnb := hnb.mono hg3
  replace hs := (show St g3 w F from hs)
  repeat (refine wc_seq ?_)
  refine wc_region ?_
  repeat (refine wl_p rfl rfl rfl ?_)
  refine wl_ldG hs (hnb 0 _ rfl) rfl rfl rfl rfl rfl ?_
  repeat (refine wl_p rfl rfl rfl ?_)
  refine wl_ldG hs (hnb 2 _ rfl) rfl rfl rfl rfl rfl ?_
  repeat (refine wl_p rfl rfl rfl ?_)
  refine wl_ldGN (cs := [va, vp]) hs hnb.at3 rfl rfl rfl rfl rfl rfl ?_
  refine wl_call (L := []) rfl rfl rfl hs (Cores_spec g3 n _ _ _ ls all pairs (hl.mono hg03) (ha.mono hg03) (hp.mono hg03) (by omega) (by omega) (by omega) _ hcs) ?_
  rintro u g4 L' w hg4 hs ⟨rfl, vc, rfl, rc⟩
  have hg04 := Ghost.tr hg03 hg4
  replace hnb := hnb.mono hg4
  repeat (refine wl_p rfl rfl rfl ?_)
  refine wl_nil (wk_seq ?_)
  repeat (refine wc_seq ?_)
  refine wc_region ?_
  repeat (refine wl_p rfl rfl rfl ?_)
  refine wl_ldG hs (hnb 0 _ rfl) rfl rfl rfl rfl rfl ?_
  repeat (refine wl_p rfl rfl rfl ?_)
  refine wl_ldG hs (hnb 2 _ rfl) rfl rfl rfl rfl rfl ?_
  repeat (refine wl_p rfl rfl rfl ?_)
  refine wl_ldGN (cs := [va, vp]) hs hnb.at3 rfl rfl rfl rfl rfl rfl ?_
  refine wl_call (L := []) rfl rfl rfl hs (refCoresT_spec g4 _ _ _ (hl.mono hg04) (ha.mono hg04) (hp.mono hg04) (by omega) (by omega) (by omega)) ?_
  rintro u g5 L' w hg5 hs ⟨rfl, vk, rfl, rk⟩
  have hg05 := Ghost.tr hg04 hg5
  replace hnb := hnb.mono hg5
  replace rc := rc.mono hg5
  repeat (refine wl_p rfl rfl rfl ?_)
  refine wl_nil (wk_seq ?_)
  repeat (refine wc_seq ?_)
  refine wc_region ?_
  repeat (refine wl_p rfl rfl rfl ?_)
  refine wl_call (L := []) rfl rfl rfl hs (equal_spec g5 vc vk _ _ rc.ofNat rk.ofNat (by simp; omega)) ?_
  rintro u g6 L' w hg6 hs ⟨rfl, rfl⟩
  have hg06 := Ghost.tr hg05 hg6
  replace hnb := hnb.mono hg6
  rw [decide_eq_true rfl]
  repeat (first | refine wl_p rfl rfl rfl ?_ | refine wl_skip rfl rfl rfl ?_)
  refine wl_nil (wk_seq ?_)
  refine wc_condF rfl (by simp) (wc_skip (wk_seq ?_))
  replace hs := (show St g6 w F from hs)
  repeat (refine wc_seq ?_)
  refine wc_region ?_
  repeat (refine wl_p rfl rfl rfl ?_)
  refine wl_ldG hs (hnb 0 _ rfl) rfl rfl rfl rfl rfl ?_
  repeat (refine wl_p rfl rfl rfl ?_)
  refine wl_ldG hs (hnb 2 _ rfl) rfl rfl rfl rfl rfl ?_
  repeat (refine wl_p rfl rfl rfl ?_)
  refine wl_ldGN (cs := [va, vp]) hs hnb.at3 rfl rfl rfl rfl rfl rfl ?_
  refine wl_call (L := []) rfl rfl rfl hs (From_spec g6 n _ _ _ ls all pairs (hl.mono hg06) (ha.mono hg06) (hp.mono hg06) (by omega) (by omega) (by omega) _ hfs) ?_
  rintro u g7 L' w hg7 hs ⟨rfl, vf, rfl, rf⟩
  have hg07 := Ghost.tr hg06 hg7
  replace hnb := hnb.mono hg7
  repeat (refine wl_p rfl rfl rfl ?_)
  refine wl_nil (wk_seq ?_)
  repeat (refine wc_seq ?_)
  refine wc_region ?_
  repeat (refine wl_p rfl rfl rfl ?_)
  refine wl_ldG hs (hnb 0 _ rfl) rfl rfl rfl rfl rfl ?_
  repeat (refine wl_p rfl rfl rfl ?_)
  refine wl_ldG hs (hnb 2 _ rfl) rfl rfl rfl rfl rfl ?_
  repeat (refine wl_p rfl rfl rfl ?_)
  refine wl_ldGN (cs := [va, vp]) hs hnb.at3 rfl rfl rfl rfl rfl rfl ?_
  refine wl_call (L := []) rfl rfl rfl hs (refFromT_spec g7 _ _ _ (hl.mono hg07) (ha.mono hg07) (hp.mono hg07) (by omega) (by omega) (by omega)) ?_
  rintro u g8 L' w hg8 hs ⟨rfl, vh, rfl, rh⟩
  have hg08 := Ghost.tr hg07 hg8
  replace hnb := hnb.mono hg8
  replace rf := rf.mono hg8
  repeat (refine wl_p rfl rfl rfl ?_)
  refine wl_nil (wk_seq ?_)
  repeat (refine wc_seq ?_)
  refine wc_region ?_
  repeat (refine wl_p rfl rfl rfl ?_)
  refine wl_call (L := []) rfl rfl rfl hs (equal_spec g8 vf vh _ _ rf.ofNat rh.ofNat (by simp; omega)) ?_
  rintro u g9 L' w hg9 hs ⟨rfl, rfl⟩
  rw [decide_eq_true rfl]
  repeat (first | refine wl_p rfl rfl rfl ?_ | refine wl_skip rfl rfl rfl ?_)
  refine wl_nil (wk_seq ?_)
  refine wc_retV (res1 rfl rfl) ⟨g9, [], Ghost.tr hg08 hg9, hs, rfl, ?_⟩
  simp
end Go.Proofs.Ytnanffbjmfgafaa.S
