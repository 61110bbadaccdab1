/- What the statement FairProofs is proved with, part 5: walks of the code, each against a pure version of it. -/
import Derived.SizedLaws
import Derived.Test.YtnanffbjmfgafaaGreatWFairProofs4
set_option linter.all false
namespace Go.Proofs.YtnanffbjmfgafaaGreat.S
open Go.RowKit
inductive Wk (ls : List Arrow) (P : Nat → Prop) : Nat → List Nat → Nat → Prop
  | nil (x : Nat) : Wk ls P x [] x
  | cons {k y : Nat} {w : List Nat} : k < ls.length → P k → Wk ls P (toOf ls k) w y → Wk ls P (frOf ls k) (k :: w) y
section
variable {ls : List Arrow} {P Q : Nat → Prop}
theorem Wk.mono {x y : Nat} {w : List Nat} (h : Wk ls P x w y) (hPQ : ∀ k ∈ w, P k → Q k) : Wk ls Q x w y := by
  induction h with
  | nil x => exact .nil x
  | cons hk hp _ ih => exact .cons hk (hPQ _ (by simp) hp) (ih fun k hk h => hPQ k (by simp [hk]) h)
theorem Wk.all {x y : Nat} {w : List Nat} (h : Wk ls P x w y) : ∀ k ∈ w, k < ls.length ∧ P k := by
  induction h with
  | nil x => intro k hk; cases hk
  | cons hk hp _ ih =>
    intro k hk2
    rcases List.mem_cons.1 hk2 with e | h
    · rw [e]; exact ⟨hk, hp⟩
    · exact ih k h
theorem Wk.app {x y z : Nat} {w v : List Nat} (h : Wk ls P x w y) (k : Wk ls P y v z) : Wk ls P x (w ++ v) z := by
  induction h with
  | nil x => exact k
  | cons hk hp _ ih => exact .cons hk hp (ih k)
theorem Wk.one {k : Nat} (hk : k < ls.length) (hp : P k) : Wk ls P (frOf ls k) [k] (toOf ls k) := .cons hk hp (.nil _)
theorem frOf_at {k : Nat} (h : k < ls.length) : frOf ls k = (ls[k]).fr := by unfold frOf; rw [List.getElem?_eq_getElem h]
theorem toOf_at {k : Nat} (h : k < ls.length) : toOf ls k = (ls[k]).to := by unfold toOf; rw [List.getElem?_eq_getElem h]
theorem mem_outAt {x k : Nat} : k ∈ outAt ls ls.length x ↔ k < ls.length ∧ frOf ls k = x := by
  unfold outAt
  rw [List.mem_filter, List.mem_range]
  constructor
  · rintro ⟨h1, h2⟩
    rw [List.getElem?_eq_getElem h1] at h2
    exact ⟨h1, by rw [frOf_at h1]; simpa using h2⟩
  · rintro ⟨h1, h2⟩
    rw [frOf_at h1] at h2
    exact ⟨h1, by rw [List.getElem?_eq_getElem h1]; simpa using h2⟩
theorem arrIn_iff {nodes : List Nat} {on : List Bool} {k : Nat} (hk : k < ls.length) : arrIn ls nodes on k = true ↔ on.getD k false = true ∧ toOf ls k ∈ nodes := by
  unfold arrIn
  rw [toOf_at hk, List.getElem?_eq_getElem hk]
  simp
theorem mem_withinF {nodes : List Nat} {on : List Bool} {k : Nat} : k ∈ withinF ls nodes on ↔ k < ls.length ∧ frOf ls k ∈ nodes ∧ on.getD k false = true ∧ toOf ls k ∈ nodes := by
  unfold withinF
  rw [List.mem_flatMap]
  constructor
  · rintro ⟨x, hx, h⟩
    obtain ⟨h1, h2⟩ := List.mem_filter.1 h
    obtain ⟨h3, h4⟩ := mem_outAt.1 h1
    exact ⟨h3, h4 ▸ hx, (arrIn_iff h3).1 h2⟩
  · rintro ⟨h1, h2, h3⟩
    exact ⟨_, h2, List.mem_filter.2 ⟨mem_outAt.2 ⟨h1, rfl⟩, (arrIn_iff h1).2 h3⟩⟩
theorem edge_iff {nodes : List Nat} {on : List Bool} {x y : Nat} : EdgeP ls nodes on x y ↔ ∃ k, k < ls.length ∧ frOf ls k = x ∧ toOf ls k = y ∧ on.getD k false = true ∧ y ∈ nodes := by
  unfold EdgeP
  constructor
  · rintro ⟨k, h1, h2, rfl⟩
    obtain ⟨h3, h4⟩ := mem_outAt.1 h1
    obtain ⟨h5, h6⟩ := (arrIn_iff h3).1 h2
    exact ⟨k, h3, h4, rfl, h5, h6⟩
  · rintro ⟨k, h1, h2, rfl, h3, h4⟩
    exact ⟨k, mem_outAt.2 ⟨h1, h2⟩, (arrIn_iff h1).2 ⟨h3, h4⟩, rfl⟩
theorem rc_wk {nodes : List Nat} {on : List Bool} {x y : Nat} (h : Rc (EdgeP ls nodes on) x y) : ∃ w, Wk ls (fun k => on.getD k false = true ∧ toOf ls k ∈ nodes) x w y := by
  induction h with
  | refl => exact ⟨[], .nil _⟩
  | tail _ e ih =>
    obtain ⟨w, hw⟩ := ih
    obtain ⟨k, h1, rfl, rfl, h2, h3⟩ := edge_iff.1 e
    exact ⟨_, hw.app (.one h1 ⟨h2, h3⟩)⟩
end
def Sats (ls : List Arrow) (all : List Nat) (pairs : List (Nat × Nat)) (l : List Nat) : Prop :=
  (∀ m ∈ all, ∃ k ∈ l, hasM ls k m = true) ∧ ∀ p ∈ pairs, (∃ k ∈ l, hasM ls k p.1 = true) → ∃ k ∈ l, hasM ls k p.2 = true
theorem metF_at (ls : List Arrow) (l : List Nat) {m : Nat} (h : m < 16) : (metF ls l).getD m false = l.any fun k => hasM ls k m := by
  unfold metF
  rw [List.getD_eq_getElem?_getD, List.getElem?_map, List.getElem?_range h]
  rfl
section
variable {ls : List Arrow} {all : List Nat} {pairs : List (Nat × Nat)} {l : List Nat}
theorem met_yes {m : Nat} (h : m < 16) : (metF ls l).getD m false = true ↔ ∃ k ∈ l, hasM ls k m = true := by rw [metF_at _ _ h]; simp
theorem met_no {m : Nat} (h : m < 16) : (metF ls l).getD m false = false ↔ ∀ k ∈ l, hasM ls k m = false := by rw [metF_at _ _ h]; simp
theorem lack_cases (hw : ValidW all pairs) :
    (∃ i, lackingF (metF ls l) all pairs = (3, i) ∧ ∃ m ∈ all, ∀ k ∈ l, hasM ls k m = false) ∨
    (∃ i, ∃ h : i < pairs.length, lackingF (metF ls l) all pairs = (4, i) ∧ (∃ k ∈ l, hasM ls k pairs[i].1 = true) ∧ ∀ k ∈ l, hasM ls k pairs[i].2 = false) ∨
    (lackingF (metF ls l) all pairs = (0, 0) ∧ Sats ls all pairs l) := by
  unfold lackingF
  split
  · rename_i i h
    obtain ⟨h1, h2, _⟩ := List.findIdx?_eq_some_iff_getElem.1 h
    refine .inl ⟨i, rfl, all[i], List.getElem_mem h1, ?_⟩
    exact (met_no (hw.all_ok _ (List.getElem_mem h1))).1 (by simpa using h2)
  · rename_i h
    have hall := List.findIdx?_eq_none_iff.1 h
    split
    · rename_i i h
      obtain ⟨h1, h2, _⟩ := List.findIdx?_eq_some_iff_getElem.1 h
      have hp := hw.pairs_ok _ (List.getElem_mem h1)
      simp only [Bool.and_eq_true, Bool.not_eq_true'] at h2
      exact .inr (.inl ⟨i, h1, rfl, (met_yes hp.1).1 h2.1, (met_no hp.2).1 h2.2⟩)
    · rename_i h
      have hprs := List.findIdx?_eq_none_iff.1 h
      refine .inr (.inr ⟨rfl, fun m hm => (met_yes (hw.all_ok m hm)).1 (by simpa using hall m hm), fun p hp h1 => ?_⟩)
      have h2 := hprs p hp
      have hpo := hw.pairs_ok p hp
      rw [(met_yes hpo.1).2 h1] at h2
      exact (met_yes hpo.2).1 (by simpa using h2)
end
theorem comp_uniq {cs : List (List Nat)} (h : cs.flatten.Nodup) {i j : Nat} (hi : i < cs.length) (hj : j < cs.length) {x : Nat} (h1 : x ∈ cs[i]) (h2 : x ∈ cs[j]) : i = j := by
  have hp := (List.pairwise_flatten.1 h).2
  rcases Nat.lt_trichotomy i j with hlt | e | hlt
  · exact absurd rfl (List.pairwise_iff_getElem.1 hp i j hi hj hlt x h1 x h2)
  · exact e
  · exact absurd rfl (List.pairwise_iff_getElem.1 hp j i hj hi hlt x h2 x h1)
section
variable {ls : List Arrow} {nodes : List Nat} {on : List Bool} {cs : List (List Nat)}
theorem wk_ord (hc : CompsOk ls nodes on cs) {x y : Nat} {w : List Nat} (h : Wk ls (fun k => on.getD k false = true ∧ toOf ls k ∈ nodes) x w y) : ∀ a (ha : a < cs.length), x ∈ cs[a] →
    ∃ b, ∃ hb : b < cs.length, b ≤ a ∧ y ∈ cs[b] ∧ ∀ k ∈ w, ∃ j, ∃ hj : j < cs.length, ∃ j', ∃ hj' : j' < cs.length, b ≤ j' ∧ j' ≤ j ∧ j ≤ a ∧ frOf ls k ∈ cs[j] ∧ toOf ls k ∈ cs[j'] := by
  induction h with
  | nil x => intro a ha hx; exact ⟨a, ha, Nat.le_refl _, hx, fun k hk => by cases hk⟩
  | @cons k y w hk hp _ ih =>
    intro a ha hx
    obtain ⟨c, hc1, hc2, hc3⟩ := hc.ord a ha _ hx (toOf ls k) (edge_iff.2 ⟨k, hk, rfl, rfl, hp.1, hp.2⟩)
    obtain ⟨b, hb, h1, h2, h3⟩ := ih c hc1 hc3
    refine ⟨b, hb, by omega, h2, fun q hq => ?_⟩
    rcases List.mem_cons.1 hq with e | hq
    · rw [e]; exact ⟨a, ha, c, hc1, h1, hc2, Nat.le_refl _, hx, hc3⟩
    · obtain ⟨j, hj, j', hj', h4, h5, h6, h7⟩ := h3 q hq
      exact ⟨j, hj, j', hj', h4, h5, by omega, h7⟩
theorem wk_stays (hc : CompsOk ls nodes on cs) {x y : Nat} {w : List Nat} (h : Wk ls (fun k => on.getD k false = true ∧ toOf ls k ∈ nodes) x w y) {c : List Nat} (hcm : c ∈ cs) (hx : x ∈ c) (hy : y ∈ c) : ∀ k ∈ w, k ∈ withinF ls c on := by
  obtain ⟨i, hi, rfl⟩ := List.getElem_of_mem hcm
  obtain ⟨b, hb, h1, h2, h3⟩ := wk_ord hc h i hi hx
  have e := comp_uniq hc.nodup hb hi h2 hy
  subst e
  intro k hk
  obtain ⟨j, hj, j', hj', h4, h5, h6, h7, h8⟩ := h3 k hk
  have e1 : j = b := by omega
  have e2 : j' = b := by omega
  subst e1; subst e2
  have := h.all k hk
  exact mem_withinF.2 ⟨this.1, h7, this.2.1, h8⟩
theorem comp_conn (hc : CompsOk ls nodes on cs) {c : List Nat} (hcm : c ∈ cs) {x y : Nat} (hx : x ∈ c) (hy : y ∈ c) : ∃ w, Wk ls (· ∈ withinF ls c on) x w y := by
  obtain ⟨w, hw⟩ := rc_wk ((hc.scc c hcm).2.2 x hx y hy)
  exact ⟨w, hw.mono fun k hk _ => wk_stays hc hw hcm hx hy k hk⟩
end
structure GoodOk (ls : List Arrow) (all : List Nat) (pairs : List (Nat × Nat)) (nodes : List Nat) (on : List Bool) (xs : GL) : Prop where
  sub : ∀ p ∈ xs, ∀ x ∈ p.1, x ∈ nodes
  ne : ∀ p ∈ xs, p.1 ≠ []
  sorted : ∀ p ∈ xs, p.1.Pairwise (· ≤ ·)
  conn : ∀ p ∈ xs, ∀ x ∈ p.1, ∀ y ∈ p.1, ∃ w, Wk ls (· ∈ p.2) x w y
  arrow : ∀ p ∈ xs, p.2 ≠ []
  len : ∀ p ∈ xs, p.2.length ≤ p.1.length * ls.length
  within : ∀ p ∈ xs, ∀ k ∈ p.2, k < ls.length ∧ on.getD k false = true ∧ frOf ls k ∈ p.1 ∧ toOf ls k ∈ p.1
  sats : ∀ p ∈ xs, Sats ls all pairs p.2
  nodup : (xs.flatMap (·.1)).Nodup
  full : ∀ x w, x ∈ nodes → w ≠ [] → Wk ls (fun k => on.getD k false = true ∧ toOf ls k ∈ nodes) x w x → Sats ls all pairs w → ∃ p ∈ xs, ∀ k ∈ w, k ∈ p.2
def onCnt (ls : List Arrow) (on : List Bool) : Nat := (List.range ls.length).countP fun k => on.getD k false
theorem withoutF_at {ls : List Arrow} {on : List Bool} {m k : Nat} (h : k < ls.length) : (withoutF ls on m).getD k false = (on.getD k false && !hasM ls k m) := by
  unfold withoutF
  rw [List.getD_eq_getElem?_getD, List.getElem?_map, List.getElem?_range h]
  rfl
theorem countP_lt {α : Type} {p q : α → Bool} : ∀ {l : List α}, (∀ x ∈ l, p x = true → q x = true) → (∃ x ∈ l, q x = true ∧ p x = false) → l.countP p < l.countP q
  | [], _, ⟨_, h, _⟩ => by cases h
  | a :: l, h, ⟨x, hx, h1, h2⟩ => by
    have hle : l.countP p ≤ l.countP q := List.countP_mono_left fun x hx => h x (by simp [hx])
    rw [List.countP_cons, List.countP_cons]
    rcases List.mem_cons.1 hx with e | hx
    · subst e
      rw [h1, h2]
      simp only [Bool.false_eq_true, if_false, if_true]
      omega
    · have ih := countP_lt (fun x hx => h x (by simp [hx])) ⟨x, hx, h1, h2⟩
      have := h a (by simp)
      by_cases hp : p a = true
      · rw [hp, this hp]; omega
      · rw [if_neg hp]; omega
theorem onCnt_without {ls : List Arrow} {on : List Bool} {m k : Nat} (hk : k < ls.length) (h1 : on.getD k false = true) (h2 : hasM ls k m = true) : onCnt ls (withoutF ls on m) < onCnt ls on := by
  refine countP_lt (fun j hj h => ?_) ⟨k, List.mem_range.2 hk, h1, by rw [withoutF_at hk, h2]; simp⟩
  rw [withoutF_at (List.mem_range.1 hj)] at h
  exact (Bool.and_eq_true _ _ ▸ h).1
theorem seqO_ok {α β : Type} {f : α → Option (List β)} : ∀ {cs : List α}, (∀ c ∈ cs, ∃ x, f c = some x) → seqO (cs.map f) = some (cs.flatMap fun c => (f c).getD [])
  | [], _ => rfl
  | c :: cs, h => by
    obtain ⟨x, hx⟩ := h c (by simp)
    have ih := seqO_ok (f := f) (cs := cs) fun d hd => h d (List.mem_cons_of_mem _ hd)
    simp only [List.map_cons, seqO, hx, ih, List.flatMap_cons, Option.getD_some]
end Go.Proofs.YtnanffbjmfgafaaGreat.S
namespace Go.Proofs.YtnanffbjmfgafaaGreat.S
open Go.RowKit
theorem asc_len : ∀ (l : List Nat) (n b : Nat), l.Pairwise (· < ·) → (∀ x ∈ l, b ≤ x ∧ x < n) → l.length ≤ n - b
  | [], _, _, _, _ => Nat.zero_le _
  | x :: r, n, b, h, hb => by
    obtain ⟨h1, h2⟩ := List.pairwise_cons.1 h
    have hx := hb x (by simp)
    have ih := asc_len r n (b + 1) h2 fun y hy => by
      have := h1 y hy
      have := (hb y (by simp [hy])).2
      omega
    simp only [List.length_cons]
    omega
theorem asc_of {l : List Nat} (h : l.Pairwise (· ≤ ·)) (hn : l.Nodup) : l.Pairwise (· < ·) := (List.pairwise_and_iff.2 ⟨h, hn⟩).imp fun ⟨h1, h2⟩ => Nat.lt_of_le_of_ne h1 h2
theorem ndLen {l : List Nat} {n : Nat} (hn : l.Nodup) (hb : ∀ x ∈ l, x < n) : l.length ≤ n := by
  have h := asc_len (sortN l) n 0 (asc_of (sortN_sorted l) ((sortN_perm l).nodup_iff.2 hn)) fun x hx => ⟨Nat.zero_le _, hb x ((sortN_perm l).mem_iff.1 hx)⟩
  rw [sortN_length] at h
  omega
section
variable {ls : List Arrow} {all : List Nat} {pairs : List (Nat × Nat)}
theorem wk_within {c : List Nat} {on : List Bool} {x y : Nat} {w : List Nat} (h : Wk ls (fun k => on.getD k false = true ∧ toOf ls k ∈ c) x w y) : x ∈ c → ∀ k ∈ w, k ∈ withinF ls c on := by
  induction h with
  | nil x => intro _ k hk; cases hk
  | cons hk hp _ ih =>
    intro hx k hk2
    rcases List.mem_cons.1 hk2 with e | h
    · rw [e]; exact mem_withinF.2 ⟨hk, hx, hp.1, hp.2⟩
    · exact ih hp.2 k h
theorem good_none {c : List Nat} {on : List Bool} (h : ∀ x w, x ∈ c → w ≠ [] → Wk ls (fun k => on.getD k false = true ∧ toOf ls k ∈ c) x w x → ¬ Sats ls all pairs w) : GoodOk ls all pairs c on [] :=
  ⟨fun p h => by (cases h), fun p h => by (cases h), fun p h => by (cases h), fun p h => by (cases h), fun p h => by (cases h), fun p h => by (cases h), fun p h => by (cases h), fun p h => by (cases h), by simp, fun x w h1 h2 h3 h4 => absurd h4 (h x w h1 h2 h3)⟩
theorem comp_nodup {cs : List (List Nat)} (h : cs.flatten.Nodup) {c : List Nat} (hc : c ∈ cs) : c.Nodup := (List.pairwise_flatten.1 h).1 c hc
theorem goodC_ok {n f : Nat} {nodes : List Nat} {on : List Bool} {cs : List (List Nat)} (hw : ValidW all pairs) (hn : n ≤ 20000) (hc : CompsOk ls nodes on cs) {c : List Nat} (hcm : c ∈ cs) (hcn : ∀ x ∈ c, x < n) (hf : onCnt ls on < f + 1)
    (ih : ∀ on', onCnt ls on' < f → ∃ xs, goodR n ls all pairs f c on' = some xs ∧ GoodOk ls all pairs c on' xs) : ∃ xs, goodC n ls all pairs (goodR n ls all pairs f) on c = some xs ∧ GoodOk ls all pairs c on xs := by
  have hlen := ndLen (comp_nodup hc.nodup hcm) hcn
  have h0 : (c.all (fun x => decide (x < n)) && decide (c.length ≤ 20000)) = true := by
    simp only [Bool.and_eq_true, List.all_eq_true, decide_eq_true_eq]
    exact ⟨hcn, by omega⟩
  unfold goodC
  rw [if_pos h0]
  by_cases hwi : (withinF ls c on).length = 0
  · rw [if_pos hwi]
    refine ⟨_, rfl, good_none fun x w hx hne hwk _ => ?_⟩
    obtain ⟨k, r, rfl⟩ := List.exists_cons_of_ne_nil hne
    have := wk_within hwk hx k (by simp)
    rw [List.length_eq_zero_iff.1 hwi] at this
    cases this
  · rw [if_neg hwi]
    rcases lack_cases (ls := ls) (l := withinF ls c on) hw with ⟨i, e, m, hm, h⟩ | ⟨i, hi, e, h1, h2⟩ | ⟨e, h⟩
    · rw [e]
      refine ⟨_, rfl, good_none fun x w hx hne hwk hs => ?_⟩
      obtain ⟨k, hk, h3⟩ := hs.1 m hm
      rw [h k (wk_within hwk hx k hk)] at h3
      cases h3
    · rw [e]
      simp only
      obtain ⟨k0, hk0, hm0⟩ := h1
      have hk1 := mem_withinF.1 hk0
      have hpd : pairs.getD i (0, 0) = pairs[i] := by rw [List.getD_eq_getElem?_getD, List.getElem?_eq_getElem hi]; rfl
      rw [hpd]
      have hlt := onCnt_without hk1.1 hk1.2.2.1 hm0
      obtain ⟨xs, hx1, hx2⟩ := ih (withoutF ls on pairs[i].1) (by omega)
      refine ⟨xs, hx1, hx2.sub, hx2.ne, hx2.sorted, hx2.conn, hx2.arrow, hx2.len, fun p hp k hk => ?_, hx2.sats, hx2.nodup, fun x w hx hne hwk hs => ?_⟩
      · obtain ⟨h3, h4, h5⟩ := hx2.within p hp k hk
        rw [withoutF_at h3] at h4
        exact ⟨h3, (Bool.and_eq_true _ _ ▸ h4).1, h5⟩
      · refine hx2.full x w hx hne (hwk.mono fun k hk hp => ⟨?_, hp.2⟩) hs
        have hkl := (hwk.all k hk).1
        rw [withoutF_at hkl, hp.1]
        by_cases hm : hasM ls k pairs[i].1 = true
        · exfalso
          obtain ⟨j, hj, h3⟩ := hs.2 _ (List.getElem_mem hi) ⟨k, hk, hm⟩
          rw [h2 j (wk_within hwk hx j hj)] at h3
          cases h3
        · simpa using hm
    · rw [e]
      simp only
      refine ⟨_, rfl, fun p hp => ?_, fun p hp => ?_, fun p hp => ?_, fun p hp => ?_, fun p hp => ?_, fun p hp => ?_, fun p hp => ?_, fun p hp => ?_, ?_, fun x w hx hne hwk hs => ?_⟩
      · rw [List.mem_singleton.1 hp]; exact fun x h => h
      · rw [List.mem_singleton.1 hp]; exact (hc.scc c hcm).1
      · rw [List.mem_singleton.1 hp]; exact (hc.scc c hcm).2.1
      · rw [List.mem_singleton.1 hp]; exact fun x hx y hy => comp_conn hc hcm hx hy
      · rw [List.mem_singleton.1 hp]; exact fun e => hwi (by rw [show withinF ls c on = [] from e]; rfl)
      · rw [List.mem_singleton.1 hp]; exact flat_len (fun x => (outAt ls ls.length x).filter (arrIn ls c on)) ls.length c (fun x _ => Nat.le_trans (List.length_filter_le _ _) (outAt_len _ _ _))
      · rw [List.mem_singleton.1 hp]
        intro k hk
        obtain ⟨h1, h2, h3, h4⟩ := mem_withinF.1 hk
        exact ⟨h1, h3, h2, h4⟩
      · rw [List.mem_singleton.1 hp]; exact h
      · simpa using comp_nodup hc.nodup hcm
      · exact ⟨(c, withinF ls c on), by simp, fun k hk => wk_within hwk hx k hk⟩
theorem nodup_flatMap_of {α : Type} {f : List Nat → List α} {fn : α → List Nat} {cs : List (List Nat)} (h : cs.flatten.Nodup) (h1 : ∀ c ∈ cs, ((f c).flatMap fn).Nodup) (h2 : ∀ c ∈ cs, ∀ p ∈ f c, ∀ x ∈ fn p, x ∈ c) : ((cs.flatMap f).flatMap fn).Nodup := by
  rw [List.flatMap_assoc, List.flatMap_def]
  refine List.pairwise_flatten.2 ⟨fun l hl => ?_, ?_⟩
  · obtain ⟨c, hc, rfl⟩ := List.mem_map.1 hl
    exact h1 c hc
  · rw [List.pairwise_map]
    refine (List.pairwise_flatten.1 h).2.imp_of_mem fun {a b} ha hb hab x hx y hy => ?_
    obtain ⟨p, hp, hxp⟩ := List.mem_flatMap.1 hx
    obtain ⟨q, hq, hyq⟩ := List.mem_flatMap.1 hy
    exact hab x (h2 a ha p hp x hxp) y (h2 b hb q hq y hyq)
theorem good_total {n : Nat} (hw : ValidW all pairs) (hn : n ≤ 20000) (hb : n * (ls.length + 3) ≤ 1000000) : ∀ (f : Nat) (nodes : List Nat) (on : List Bool), onCnt ls on < f → (∀ x ∈ nodes, x < n) → nodes.length ≤ n →
    ∃ xs, goodR n ls all pairs f nodes on = some xs ∧ GoodOk ls all pairs nodes on xs
  | 0, _, _, h, _, _ => by omega
  | f + 1, nodes, on, hf, hnn, hnl => by
    obtain ⟨cs, e, hc⟩ := comps_total ls nodes on (Nat.le_trans (Nat.mul_le_mul_right _ hnl) hb)
    have hcn : ∀ c ∈ cs, ∀ x ∈ c, x < n := fun c hcm x hx => hnn x ((hc.mem x).1 (List.mem_flatten.2 ⟨c, hcm, hx⟩))
    have hg : ∀ c ∈ cs, ∃ xs, goodC n ls all pairs (goodR n ls all pairs f) on c = some xs ∧ GoodOk ls all pairs c on xs := fun c hcm =>
      goodC_ok hw hn hc hcm (hcn c hcm) hf fun on' ho => good_total hw hn hb f c on' ho (hcn c hcm) (ndLen (comp_nodup hc.nodup hcm) (hcn c hcm))
    have hG : ∀ c ∈ cs, GoodOk ls all pairs c on ((goodC n ls all pairs (goodR n ls all pairs f) on c).getD []) := fun c hcm => by
      obtain ⟨xs, h1, h2⟩ := hg c hcm
      rw [h1]; exact h2
    have hm : ∀ p ∈ cs.flatMap fun c => (goodC n ls all pairs (goodR n ls all pairs f) on c).getD [], ∃ c ∈ cs, p ∈ (goodC n ls all pairs (goodR n ls all pairs f) on c).getD [] := fun p hp => List.mem_flatMap.1 hp
    refine ⟨_, by simp only [goodR, e]; exact seqO_ok fun c hcm => (hg c hcm).imp fun _ h => h.1, fun p hp => ?_, fun p hp => ?_, fun p hp => ?_, fun p hp => ?_, fun p hp => ?_, fun p hp => ?_, fun p hp => ?_, fun p hp => ?_, ?_, fun x w hx hne hwk hs => ?_⟩
    · obtain ⟨c, hcm, h⟩ := hm p hp
      exact fun x hx => (hc.mem x).1 (List.mem_flatten.2 ⟨c, hcm, (hG c hcm).sub p h x hx⟩)
    · obtain ⟨c, hcm, h⟩ := hm p hp; exact (hG c hcm).ne p h
    · obtain ⟨c, hcm, h⟩ := hm p hp; exact (hG c hcm).sorted p h
    · obtain ⟨c, hcm, h⟩ := hm p hp; exact (hG c hcm).conn p h
    · obtain ⟨c, hcm, h⟩ := hm p hp; exact (hG c hcm).arrow p h
    · obtain ⟨c, hcm, h⟩ := hm p hp; exact (hG c hcm).len p h
    · obtain ⟨c, hcm, h⟩ := hm p hp; exact (hG c hcm).within p h
    · obtain ⟨c, hcm, h⟩ := hm p hp; exact (hG c hcm).sats p h
    · exact nodup_flatMap_of hc.nodup (fun c hcm => (hG c hcm).nodup) fun c hcm p hp x hx => (hG c hcm).sub p hp x hx
    · obtain ⟨c, hcm, hxc⟩ := List.mem_flatten.1 ((hc.mem x).2 hx)
      have hst := wk_stays hc hwk hcm hxc hxc
      obtain ⟨p, hp, h⟩ := (hG c hcm).full x w hxc hne (hwk.mono fun k hk hp => ⟨hp.1, (mem_withinF.1 (hst k hk)).2.2.2⟩) hs
      exact ⟨p, List.mem_flatMap.2 ⟨c, hcm, hp⟩, h⟩
def CoreAt (ls : List Arrow) (all : List Nat) (pairs : List (Nat × Nat)) (P : Nat → Prop) (x : Nat) : Prop := ∃ w, w ≠ [] ∧ Wk ls P x w x ∧ Sats ls all pairs w
theorem sats_same {l l' : List Nat} (h : ∀ k, k ∈ l ↔ k ∈ l') (hs : Sats ls all pairs l) : Sats ls all pairs l' := by
  have e : ∀ m, (∃ k ∈ l, hasM ls k m = true) ↔ ∃ k ∈ l', hasM ls k m = true := fun m => ⟨fun ⟨k, hk, hm⟩ => ⟨k, (h k).1 hk, hm⟩, fun ⟨k, hk, hm⟩ => ⟨k, (h k).2 hk, hm⟩⟩
  exact ⟨fun m hm => (e m).1 (hs.1 m hm), fun p hp h1 => (e _).1 (hs.2 p hp ((e _).2 h1))⟩
theorem wk_tour {c l : List Nat} (hconn : ∀ x ∈ c, ∀ y ∈ c, ∃ w, Wk ls (· ∈ l) x w y) (hin : ∀ k ∈ l, k < ls.length ∧ frOf ls k ∈ c ∧ toOf ls k ∈ c) {x : Nat} (hx : x ∈ c) :
    ∀ l' : List Nat, (∀ k ∈ l', k ∈ l) → ∃ w, Wk ls (· ∈ l) x w x ∧ ∀ k ∈ l', k ∈ w
  | [], _ => ⟨[], .nil x, fun k h => by cases h⟩
  | k :: r, h => by
    obtain ⟨w, h1, h2⟩ := wk_tour hconn hin hx r fun j hj => h j (by simp [hj])
    have hk := h k (by simp)
    obtain ⟨h3, h4, h5⟩ := hin k hk
    obtain ⟨u, hu⟩ := hconn x hx _ h4
    obtain ⟨v, hv⟩ := hconn _ h5 x hx
    refine ⟨u ++ ([k] ++ (v ++ w)), hu.app ((Wk.one h3 hk).app (hv.app h1)), fun j hj => ?_⟩
    rcases List.mem_cons.1 hj with e | hj
    · rw [e]; simp
    · have := h2 j hj; simp [this]
theorem Wk.head {P : Nat → Prop} {x y k : Nat} {w : List Nat} (h : Wk ls P x (k :: w) y) : frOf ls k = x := by cases h; rfl
theorem strictly_of {c : List Nat} (h : c.Pairwise (· < ·)) : strictly c = true := by
  unfold strictly
  rw [List.all_eq_true]
  intro i hi
  have hi' := List.mem_range.1 hi
  have h1 : i < c.length := by omega
  have h2 : i + 1 < c.length := by omega
  have := List.pairwise_iff_getElem.1 h i (i + 1) h1 h2 (by omega)
  simpa [h1, h2] using this
theorem whole_on {k : Nat} (h : k < ls.length) : (List.replicate ls.length true).getD k false = true := by simp [List.getD_eq_getElem?_getD, h]
theorem onCnt_le (on : List Bool) : onCnt ls on ≤ ls.length := by
  have := List.countP_le_length (p := fun k => on.getD k false) (l := List.range ls.length)
  simpa [onCnt] using this
def AllA (_ : Nat) : Prop := True
end
end Go.Proofs.YtnanffbjmfgafaaGreat.S
namespace Go.Proofs.YtnanffbjmfgafaaGreat.S
open Go.RowKit
theorem small_bound {n l : Nat} (hn : n ≤ 12) (hl : l ≤ 41) : n * (l + 3) ≤ 1000000 := by
  have := Nat.mul_le_mul hn (show l + 3 ≤ 44 by omega)
  omega
theorem hasM_at {ls : List Arrow} {k m : Nat} (h : k < ls.length) : hasM ls k m = (ls[k]).ms.testBit m := by unfold hasM; rw [List.getElem?_eq_getElem h]
end Go.Proofs.YtnanffbjmfgafaaGreat.S
namespace Go.Proofs.YtnanffbjmfgafaaGreat.S
open Go.RowKit
end Go.Proofs.YtnanffbjmfgafaaGreat.S
namespace Go.Proofs.YtnanffbjmfgafaaGreat.S
open Go.RowKit
def lightL (rec : Drop → Int → Bool × Int) : List Drop → Int → Bool × Int
  | [], left => (true, left)
  | x :: xs, left => if (rec x left).1 = true then lightL rec xs (rec x left).2 else (false, (rec x left).2)
def lightF : Nat → Drop → Int → Nat → Bool × Int
  | 0, _, left, _ => (false, left)
  | k + 1, d, left, deep =>
    if left - (1 + d.nodes.length + d.rank.length) < 0 ∨ deep > 120 then (false, left - (1 + d.nodes.length + d.rank.length))
    else lightL (fun x l => lightF k x l (deep + 1)) d.l (left - (1 + d.nodes.length + d.rank.length))
theorem lightL_snoc (rec : Drop → Int → Bool × Int) (x : Drop) : ∀ (xs : List Drop) (left : Int), lightL rec (xs ++ [x]) left = if (lightL rec xs left).1 = true then rec x (lightL rec xs left).2 else lightL rec xs left
  | [], left => by
    simp only [List.nil_append, lightL, if_true]
    split
    · rename_i h; exact Prod.ext h.symm rfl
    · rename_i h; exact Prod.ext (by simpa using h) rfl
  | y :: xs, left => by
    simp only [List.cons_append, lightL]
    split
    · exact lightL_snoc rec x xs _
    · rw [if_neg (by simp)]
theorem lightL_no (rec : Drop → Int → Bool × Int) : ∀ (xs : List Drop) (i : Nat) (left : Int), (lightL rec (xs.take i) left).1 = false → lightL rec xs left = lightL rec (xs.take i) left
  | [], i, left, h => by simp
  | x :: xs, 0, left, h => by simp [lightL] at h
  | x :: xs, i + 1, left, h => by
    simp only [List.take_succ_cons, lightL] at h ⊢
    split
    · rename_i hh
      rw [if_pos hh] at h
      exact lightL_no rec xs i _ h
    · rfl
theorem lightF_le : ∀ (k : Nat) (d : Drop) (left : Int) (deep : Nat), 0 ≤ left → (lightF k d left deep).2 ≤ left ∧ ((lightF k d left deep).1 = true → 0 ≤ (lightF k d left deep).2)
  | 0, d, left, deep, h => ⟨Int.le_refl _, fun h => by simp [lightF] at h⟩
  | k + 1, d, left, deep, h => by
    unfold lightF
    split
    · exact ⟨by simp only; omega, fun h => by simp at h⟩
    · rename_i hc
      have hc' : 0 ≤ left - (1 + d.nodes.length + d.rank.length : Int) := by
        by_cases hh : left - (1 + d.nodes.length + d.rank.length : Int) < 0
        · exact absurd (Or.inl hh) hc
        · omega
      have key : ∀ (xs : List Drop) (l : Int), 0 ≤ l → (lightL (fun x l => lightF k x l (deep + 1)) xs l).2 ≤ l ∧ ((lightL (fun x l => lightF k x l (deep + 1)) xs l).1 = true → 0 ≤ (lightL (fun x l => lightF k x l (deep + 1)) xs l).2) := by
        intro xs
        induction xs with
        | nil => intro l hl; exact ⟨Int.le_refl _, fun _ => hl⟩
        | cons x xs ih =>
          intro l hl
          obtain ⟨h1, h2⟩ := lightF_le k x l (deep + 1) hl
          simp only [lightL]
          split
          · rename_i hh
            obtain ⟨h3, h4⟩ := ih _ (h2 hh)
            exact ⟨Int.le_trans h3 h1, h4⟩
          · exact ⟨h1, fun h => by cases h⟩
      obtain ⟨h1, h2⟩ := key d.l _ hc'
      exact ⟨by omega, h2⟩
def DropW : Nat → Drop → Prop
  | 0, _ => False
  | k + 1, d => d.l.length ≤ 35184372088832 ∧ d.nodes.length ≤ 35184372088832 ∧ d.rank.length ≤ 35184372088832 ∧ ∀ i (h : i < d.l.length), DropW k d.l[i]
theorem DropOk.toW : ∀ {k : Nat} {d : Drop}, DropOk k d → DropW k d
  | 0, _, h => h.elim
  | k + 1, d, ⟨h1, h2, h3, h4⟩ => ⟨by omega, by omega, by omega, fun i hi => (h4 i hi).toW⟩
theorem light_ok : ∀ (k : Nat) (d : Drop) (left : Int) (deep : Nat), DropW k d → 0 ≤ left → left ≤ 4000 → (lightF k d left deep).1 = true → DropOk k d ∧ (lightF k d left deep).2 + 1 ≤ left
  | 0, d, left, deep, h, _, _, _ => h.elim
  | k + 1, d, left, deep, ⟨w1, w2, w3, w4⟩, h0, h1, ht => by
    unfold lightF at ht ⊢
    split at ht
    · cases ht
    · rename_i hc
      rw [if_neg hc]
      have hc' : 0 ≤ left - (1 + d.nodes.length + d.rank.length : Int) := by
        by_cases hh : left - (1 + d.nodes.length + d.rank.length : Int) < 0
        · exact absurd (Or.inl hh) hc
        · omega
      have key : ∀ (xs : List Drop) (l : Int), 0 ≤ l → l ≤ 4000 → (∀ x ∈ xs, DropW k x) → (lightL (fun x l => lightF k x l (deep + 1)) xs l).1 = true → (∀ x ∈ xs, DropOk k x) ∧ (lightL (fun x l => lightF k x l (deep + 1)) xs l).2 + xs.length ≤ l := by
        intro xs
        induction xs with
        | nil => intro l _ _ _ _; exact ⟨(fun x hx => by cases hx), by simp [lightL]⟩
        | cons x xs ih =>
          intro l hl hl4 hw hx
          simp only [lightL] at hx ⊢
          split at hx
          · rename_i hh
            rw [if_pos hh]
            obtain ⟨q1, q2⟩ := light_ok k x l (deep + 1) (hw x (by simp)) hl hl4 hh
            obtain ⟨q3, q4⟩ := lightF_le k x l (deep + 1) hl
            obtain ⟨q5, q6⟩ := ih _ (q4 hh) (by omega) (fun y hy => hw y (by simp [hy])) hx
            refine ⟨fun y hy => ?_, by simp only [List.length_cons]; omega⟩
            rcases List.mem_cons.1 hy with e | hy
            · rw [e]; exact q1
            · exact q5 y hy
          · cases hx
      obtain ⟨q1, q2⟩ := key d.l _ hc' (by omega) (fun x hx => by
        obtain ⟨i, hi, rfl⟩ := List.getElem_of_mem hx
        exact w4 i hi) ht
      have hle : ∀ (xs : List Drop) (l : Int), 0 ≤ l → (lightL (fun x l => lightF k x l (deep + 1)) xs l).1 = true → 0 ≤ (lightL (fun x l => lightF k x l (deep + 1)) xs l).2 := by
        intro xs
        induction xs with
        | nil => intro l hl _; exact hl
        | cons x xs ih =>
          intro l hl hx
          simp only [lightL] at hx ⊢
          split at hx
          · rename_i hh
            rw [if_pos hh]
            exact ih _ ((lightF_le k x l (deep + 1) hl).2 hh) hx
          · cases hx
      have h3 := hle d.l _ hc' ht
      exact ⟨⟨by omega, by omega, by omega, fun i hi => q1 _ (List.getElem_mem hi)⟩, by omega⟩
theorem light_spec : ∀ (k : Nat) (g : Ghost) (cs : List Value) (d : Drop) (lb : Nat) (left : Int) (deep : Nat), DropRn k g cs d → DropW k d → 0 ≤ left → left ≤ 4000 → deep ≤ 121 →
    Cl PP 18 [.agg cs.toArray, .pointer (some ⟨lb, 0, none⟩), .int .i64 (deep : Int)] g [(lb, cellsO [.int .i64 left] 3)] fun _ L' r => L' = [(lb, cellsO [.int .i64 (lightF k d left deep).2] 3)] ∧ r = .bool (lightF k d left deep).1 := by
  intro k
  induction k with
  | zero => intro g cs d lb left deep hd; exact hd.elim
  | succ k ih =>
    intro g cs d lb left deep hd hok hl0 hl1 hdp
    obtain ⟨hk1, hk2, hk3, hk4⟩ := hok
    obtain ⟨vn, vr, vL, rfl, r1, r2, r3⟩ := hd.open'
    obtain ⟨an, cn, rfl⟩ := r1.form
    obtain ⟨ar, cr, rfl⟩ := r2.form
    obtain ⟨aL, cL, rfl⟩ := r3.form
    refine cl_intro Tryz.func18 rfl rfl Tryz.ntmps18 rfl ?_
    intro w F hs
    repeat (refine wc_seq ?_)
    refine wc_region ?_
    refine wl_box hs rfl rfl rfl rfl ?_; clear hs; intro db w hs
    repeat (refine wl_p rfl rfl rfl ?_)
    refine wl_nil (wk_seq ?_)
    obtain ⟨g1, hg1, hs, hdb⟩ := freezeB hs
    replace hs := (show St g1 w ((lb, cellsO [.int .i64 left] 3) :: F) from hs)
    replace hdb := (show Lies g1 db 0 [.int .i64 d.kind, .int .i64 d.n, .slice an d.nodes.length cn, .slice ar d.rank.length cr, .slice aL d.l.length cL] from hdb)
    repeat (refine wc_seq ?_)
    refine wc_draw 13 [] pp_mix (by kernel_rfl) rfl hs ?_
    repeat (first | refine sg_p rfl rfl ?_ | refine sg_skip rfl rfl ?_)
    refine sg_ldO 0 rfl rfl rfl rfl rfl rfl ?_
    repeat (first | refine sg_p rfl rfl ?_ | refine sg_skip rfl rfl ?_)
    refine sg_ldG (hdb 2 _ rfl) rfl rfl rfl rfl ?_
    repeat (first | refine sg_p rfl rfl ?_ | refine sg_skip rfl rfl ?_)
    refine sg_arK (1 + d.nodes.length : Int) rfl rfl rfl (by omega) rfl ?_
    repeat (first | refine sg_p rfl rfl ?_ | refine sg_skip rfl rfl ?_)
    refine sg_ldG (hdb 3 _ rfl) rfl rfl rfl rfl ?_
    repeat (first | refine sg_p rfl rfl ?_ | refine sg_skip rfl rfl ?_)
    refine sg_arK (1 + d.nodes.length + d.rank.length : Int) rfl rfl rfl (by omega) rfl ?_
    refine sg_arK (left - (1 + d.nodes.length + d.rank.length) : Int) rfl rfl rfl (by omega) rfl ?_
    repeat (first | refine sg_p rfl rfl ?_ | refine sg_skip rfl rfl ?_)
    refine sg_end ?_
    intro g2 w hg2
    intro hs
    replace hs := (show St g2 w ((lb, cellsO [.int .i64 left] 3) :: F) from hs)
    refine wl_st hs 0 rfl rfl rfl rfl rfl rfl rfl rfl ?_; clear hs; intro w hs
    refine wl_nil (wk_seq ?_)
    replace hs := (show St g2 w ((lb, cellsO [.int .i64 (left - (1 + d.nodes.length + d.rank.length) : Int)] 3) :: F) from hs)
    have hg02 := Ghost.tr hg1 hg2
    replace hdb := hdb.mono hg2
    have hF : lightF (k + 1) d left deep = if (left - (1 + d.nodes.length + d.rank.length) : Int) < 0 ∨ deep > 120 then (false, (left - (1 + d.nodes.length + d.rank.length) : Int)) else lightL (fun x l => lightF k x l (deep + 1)) d.l (left - (1 + d.nodes.length + d.rank.length) : Int) := rfl
    repeat (refine wc_seq ?_)
    refine wc_region ?_
    repeat (refine wl_p rfl rfl rfl ?_)
    refine wl_ldO hs 0 rfl rfl rfl rfl rfl rfl rfl ?_
    repeat (refine wl_p rfl rfl rfl ?_)
    refine wl_case 26 rfl (fun q1 => ?_) (fun q1 => ?_)
    · repeat (first | refine wl_p rfl rfl rfl ?_ | refine wl_skip rfl rfl rfl ?_)
      refine wl_nil (wk_seq ?_)
      refine wc_condT rfl rfl ?_
      repeat (refine wc_seq ?_)
      refine wc_region ?_
      repeat (refine wl_p rfl rfl rfl ?_)
      refine wl_nil (wk_seq ?_)
      have hq : (left - (1 + d.nodes.length + d.rank.length) : Int) < 0 := of_decide_eq_true q1
      rw [if_pos (Or.inl hq)] at hF
      refine wc_retV (res1 rfl rfl) ⟨g2, [(lb, cellsO [.int .i64 (left - (1 + d.nodes.length + d.rank.length) : Int)] 3)], hg02, hs, ?_⟩
      rw [hF]
      exact ⟨rfl, rfl⟩
    · repeat (first | refine wl_p rfl rfl rfl ?_ | refine wl_skip rfl rfl rfl ?_)
      refine wl_nil (wk_seq ?_)
      have hq : ¬ (left - (1 + d.nodes.length + d.rank.length) : Int) < 0 := of_decide_eq_false q1
      refine wc_cond rfl (fun q2 => ?_) (fun q2 => ?_)
      · have hq2 : deep > 120 := by have := of_decide_eq_true q2; omega
        repeat (refine wc_seq ?_)
        refine wc_region ?_
        repeat (refine wl_p rfl rfl rfl ?_)
        refine wl_nil (wk_seq ?_)
        rw [if_pos (Or.inr hq2)] at hF
        refine wc_retV (res1 rfl rfl) ⟨g2, [(lb, cellsO [.int .i64 (left - (1 + d.nodes.length + d.rank.length) : Int)] 3)], hg02, hs, ?_⟩
        rw [hF]
        exact ⟨rfl, rfl⟩
      · have hq2 : ¬ deep > 120 := by have := of_decide_eq_false q2; omega
        rw [if_neg (by omega)] at hF
        refine wc_skip (wk_seq ?_)
        repeat (refine wc_seq ?_)
        refine wc_region ?_
        repeat (refine wl_p rfl rfl rfl ?_)
        refine wl_ldG hs (hdb 4 _ rfl) rfl rfl rfl rfl rfl ?_
        repeat (refine wl_p rfl rfl rfl ?_)
        refine wl_nil (wk_seq ?_)
        have hb4 : ∀ i, (lightL (fun x l => lightF k x l (deep + 1)) (d.l.take i) (left - (1 + d.nodes.length + d.rank.length) : Int)).1 = true → 0 ≤ (lightL (fun x l => lightF k x l (deep + 1)) (d.l.take i) (left - (1 + d.nodes.length + d.rank.length) : Int)).2 ∧ (lightL (fun x l => lightF k x l (deep + 1)) (d.l.take i) (left - (1 + d.nodes.length + d.rank.length) : Int)).2 ≤ 4000 := by
          intro i
          induction i with
          | zero => intro _; simp only [List.take_zero, lightL]; omega
          | succ i ihi =>
            by_cases hil : i < d.l.length
            · rw [take_snoc hil, lightL_snoc]
              split
              · rename_i hh
                intro h
                obtain ⟨b1, b2⟩ := ihi hh
                obtain ⟨b3, b4⟩ := lightF_le k d.l[i] _ (deep + 1) b1
                exact ⟨b4 h, by omega⟩
              · rename_i hh; intro h; exact absurd h hh
            · rw [List.take_of_length_le (by omega)]
              rw [List.take_of_length_le (by omega)] at ihi
              exact ihi
        refine wc_for d.l.length (fun _ (_ : Unit) => [(32, .int .i64 d.l.length), (31, .slice aL d.l.length cL), (1, .pointer (some ⟨lb, 0, none⟩)), (2, .int .i64 (deep : Int)), (3, .pointer (some ⟨db, 0, none⟩))])
          (fun i (_ : Unit) w => ∃ g', g2 ≤ g' ∧ (lightL (fun x l => lightF k x l (deep + 1)) (d.l.take i) (left - (1 + d.nodes.length + d.rank.length) : Int)).1 = true ∧ St g' w ((lb, cellsO [.int .i64 (lightL (fun x l => lightF k x l (deep + 1)) (d.l.take i) (left - (1 + d.nodes.length + d.rank.length) : Int)).2] 3) :: F)) () (by omega) (by repeat (first | exact trivial | refine ⟨rfl, ?_⟩)) ⟨g2, Ghost.rfl', rfl, hs⟩ (fun _ _ => rfl) rfl rfl rfl ?_ ?_ (fun _ _ => rfl) rfl
        · clear hs
          rintro i _ w hii ⟨g3, hg3, ht, hs⟩
          have hg03 := Ghost.tr hg02 hg3
          obtain ⟨b1, b2⟩ := hb4 i ht
          have hsn := lightL_snoc (fun x l => lightF k x l (deep + 1)) d.l[i] (d.l.take i) (left - (1 + d.nodes.length + d.rank.length) : Int)
          rw [← take_snoc hii, if_pos ht] at hsn
          have hno := lightL_no (fun x l => lightF k x l (deep + 1)) d.l (i + 1) (left - (1 + d.nodes.length + d.rank.length) : Int)
          have hb := r3.base hii
          obtain ⟨ec, hec, hel⟩ := (r3.mono hg03).get hii
          have hec2 : DropRn k g3 ec d.l[i] := hec
          obtain ⟨e1, e2, e3, e4, e5, rfl, hone⟩ := hec2.cells5
          repeat (refine wc_seq ?_)
          refine wc_region ?_
          refine wl_ix rfl rfl rfl rfl rfl (by omega) hb rfl rfl ?_
          refine wl_ldGN (cs := [e1, e2, e3, e4, e5]) hs (Lies.of_eaddr hel) rfl rfl rfl rfl rfl rfl ?_
          refine wl_new hs rfl rfl rfl ?_; clear hs; intro eb w hs
          refine wl_stN (cs := [e1, e2, e3, e4, e5]) hs 0 rfl rfl rfl rfl rfl (Nat.le_of_ble_eq_true rfl) hone rfl ?_
          clear hs; intro w hs
          refine wl_nil (wk_seq ?_)
          generalize hrl : lightL (fun x l => lightF k x l (deep + 1)) (d.l.take i) (left - (1 + d.nodes.length + d.rank.length) : Int) = rl at hs ht b1 b2 hsn
          obtain ⟨rb, rv⟩ := rl
          simp only at ht b1 b2 hs hsn
          replace hs := (show St g3 w ((eb, cellsO [e1, e2, e3, e4, e5] 31) :: (lb, cellsO [.int .i64 rv] 3) :: F) from hs)
          repeat (refine wc_seq ?_)
          refine wc_region ?_
          refine wl_ldW hs 0 rfl rfl rfl rfl rfl rfl rfl ?_
          repeat (refine wl_p rfl rfl rfl ?_)
          refine wl_arK ((deep + 1 : Nat) : Int) rfl rfl rfl (by omega) rfl rfl ?_
          replace hs := (show St g3 w ([(lb, cellsO [.int .i64 rv] 3)] ++ ((eb, cellsO [e1, e2, e3, e4, e5] 31) :: F)) from St.perm hs (by classical exact List.perm_iff_count.2 fun x => by simp only [List.append_eq, List.set_cons_succ, List.set_cons_zero, List.eraseIdx_cons_zero, List.eraseIdx_cons_succ, List.count_cons, List.count_append, List.cons_append, List.nil_append, List.append_nil, List.append_assoc] <;> ac_rfl))
          refine wl_call (L := [(lb, cellsO [.int .i64 rv] 3)]) rfl rfl rfl hs (ih g3 _ d.l[i] lb rv (deep + 1) hec2 (hk4 i hii) b1 b2 (by omega)) ?_
          rintro u g4 L' w hg4 hs ⟨rfl, rfl⟩
          replace hs := (show St g4 w ((eb, cellsO [e1, e2, e3, e4, e5] 31) :: (lb, cellsO [.int .i64 (lightF k d.l[i] rv (deep + 1)).2] 3) :: F) from St.perm hs (by classical exact List.perm_iff_count.2 fun x => by simp only [List.append_eq, List.set_cons_succ, List.set_cons_zero, List.eraseIdx_cons_zero, List.eraseIdx_cons_succ, List.count_cons, List.count_append, List.cons_append, List.nil_append, List.append_nil, List.append_assoc] <;> ac_rfl)).drop
          repeat (refine wl_p rfl rfl rfl ?_)
          refine wl_nil (wk_seq ?_)
          refine wc_cond rfl (fun p1 => ?_) (fun p1 => ?_)
          · have hp1 : (lightF k d.l[i] rv (deep + 1)).1 = false := by simpa using p1
            repeat (refine wc_seq ?_)
            refine wc_region ?_
            repeat (refine wl_p rfl rfl rfl ?_)
            refine wl_nil (wk_seq ?_)
            have h9 := hno (by rw [hsn]; exact hp1)
            refine wc_retV (res1 rfl rfl) ⟨g4, [(lb, cellsO [.int .i64 (lightF k d.l[i] rv (deep + 1)).2] 3)], Ghost.tr hg03 hg4, hs, ?_⟩
            rw [hF, h9, hsn]
            exact ⟨rfl, by rw [hp1]⟩
          · have hp1 : (lightF k d.l[i] rv (deep + 1)).1 = true := by simpa using p1
            refine wc_skip (wk_blk (wk_next () hii (by omega) ⟨g4, Ghost.tr hg3 hg4, ?_, ?_⟩ rfl rfl rfl (by repeat (first | exact trivial | refine ⟨rfl, ?_⟩))))
            · rw [hsn]; exact hp1
            · rw [hsn]; exact hs
        · clear hs
          rintro _ w ⟨g3, hg3, ht, hs⟩
          rw [List.take_length] at ht hs
          refine wk_seq ?_
          repeat (refine wc_seq ?_)
          refine wc_region ?_
          repeat (refine wl_p rfl rfl rfl ?_)
          refine wl_nil (wk_seq ?_)
          refine wc_retV (res1 rfl rfl) ⟨g3, [(lb, cellsO [.int .i64 (lightL (fun x l => lightF k x l (deep + 1)) d.l (left - (1 + d.nodes.length + d.rank.length) : Int)).2] 3)], Ghost.tr hg02 hg3, hs, ?_⟩
          rw [hF]
          exact ⟨rfl, by rw [ht]⟩
def slimB (k : Nat) (d : Drop) : Bool := (lightF k d 4000 1).1
theorem slim_ok {k : Nat} {d : Drop} (hw : DropW k d) (h : slimB k d = true) : DropOk k d := (light_ok k d 4000 1 hw (by omega) (by omega) h).1
theorem slim_spec (k : Nat) (g : Ghost) (cs : List Value) (d : Drop) (hd : DropRn k g cs d) (hw : DropW k d) :
    Cl PP 6 [.agg cs.toArray] g [] (Det (.bool (slimB k d))) := by
  obtain ⟨e1, e2, e3, e4, e5, rfl, hone⟩ := hd.cells5
  refine cl_intro Tryz.func6 rfl rfl Tryz.ntmps6 rfl ?_
  intro w F hs
  repeat (refine wc_seq ?_)
  refine wc_region ?_
  refine wl_box hs rfl rfl rfl rfl ?_; clear hs; intro db w hs
  repeat (refine wl_p rfl rfl rfl ?_)
  refine wl_nil (wk_seq ?_)
  repeat (refine wc_seq ?_)
  refine wc_region ?_
  refine wl_new hs rfl rfl rfl ?_; clear hs; intro lb w hs
  refine wl_st hs 0 rfl rfl rfl rfl rfl rfl rfl rfl ?_; clear hs; intro w hs
  refine wl_nil (wk_seq ?_)
  replace hs := (show St g w ((lb, cellsO [.int .i64 4000] 3) :: (db, cellsO [e1, e2, e3, e4, e5] 31) :: F) from hs)
  repeat (refine wc_seq ?_)
  refine wc_region ?_
  refine wl_ldW hs 1 rfl rfl rfl rfl rfl rfl rfl ?_
  replace hs := (show St g w ([(lb, cellsO [.int .i64 4000] 3)] ++ ((db, cellsO [e1, e2, e3, e4, e5] 31) :: F)) from hs)
  refine wl_call (L := [(lb, cellsO [.int .i64 4000] 3)]) rfl rfl rfl hs (light_spec k g [e1, e2, e3, e4, e5] d lb 4000 1 hd hw (by omega) (by omega) (by omega)) ?_
  rintro u g4 L' w hg4 hs ⟨rfl, rfl⟩
  repeat (refine wl_p rfl rfl rfl ?_)
  refine wl_nil (wk_seq ?_)
  exact wc_retV (res1 rfl rfl) ⟨g4, [], hg4, hs.drop.drop, rfl, rfl⟩
end Go.Proofs.YtnanffbjmfgafaaGreat.S
namespace Go.Proofs.YtnanffbjmfgafaaGreat.S
open Go.RowKit
section
variable {P : Program} [Tabbed P] {H : Type} {enc : TypeId × Value → H} {W : World} {spare : Nat → Bool} {held : Bool} {fuel : Nat} {cs : List Value} {x : DataW H × List MemPlace}
theorem weightsAll_mem {P : Program} {e : TypeId} : ∀ {l : List (DataW H)} {d : DataW H}, d ∈ l → ∀ m ∈ d.weights P e, m ∈ DataW.weightsAll P e l
  | [], _, h, _, _ => by cases h
  | d0 :: l, d, h, m, hm => by
    rw [DataW.weightsAll, List.mem_append]
    rcases List.mem_cons.1 h with e' | h
    · rw [← e']; exact .inl hm
    · exact .inr (weightsAll_mem h m hm)
theorem in_sliceQ {α : Type} {K : Kd α} {Q : α → Prop} {t e : Nat} {te ee : TE} (h : tabAt (tb P) t = some te) (hd : te.td = .slice e) (he : tabAt (tb P) e = some ee) (hz : ee.zs.length = K.sz) (hpos : 0 < K.sz)
    (hel : ∀ n cs' y, fuel = n + 1 → DataW.trod enc P W 0 spare held n e cs' = some y → (∀ m ∈ y.1.weights P e, m ∈ x.1.weights P t) → ∃ z, K.R (ghostOf W) cs' z ∧ Q z) (hx : DataW.trod enc P W 0 spare held fuel t cs = some x) :
    ∃ a xs cap, cs = [.slice a xs.length cap] ∧ RS K (ghostOf W) (.slice a xs.length cap) xs ∧ xs.length ≤ cap ∧ (∀ z ∈ xs, Q z) ∧ (xs = [] ∨ ∃ m ∈ x.1.weights P t, xs.length * ee.bytes ≤ m) := by
  have hc : P.cellsOf e = K.sz := (tab_cells he).trans hz
  have hu := und_slice h hd
  have hbe : P.bytesOf e = ee.bytes := by
    obtain ⟨i, h1, _, h3, _⟩ := tab_info he
    simp [Program.bytesOf, h1, h3]
  rcases DataW.trod_slice hu hx with ⟨rfl, _⟩ | ⟨a, len, cap, elems, rest, n, hf, rfl, rfl, _, hl, _, hlen, hall, _, _⟩
  · exact ⟨none, [], 0, rfl, RS.nil _ _ _ _, Nat.le_refl _, (fun z hz => by cases hz), .inl rfl⟩
  · rw [hc] at hall
    have hwt : ∀ y ∈ elems, ∀ m ∈ y.1.weights P e, m ∈ (DataW.slice (elems.map (·.1)) (rest.map (·.1))).weights P t := fun y hy m hm => by
      rw [DataW.weights, hu]
      simp only [List.mem_cons, List.mem_append]
      exact .inr (.inl (weightsAll_mem (List.mem_map.2 ⟨y, hy, rfl⟩) m hm))
    have key : ∀ k, k ≤ len → ∃ xs : List α, xs.length = k ∧ (∀ z ∈ xs, Q z) ∧ ∀ i (hi : i < xs.length), ∃ cs', W.cells? 0 (a.add (i * K.sz)) K.sz = some cs' ∧ K.R (ghostOf W) cs' xs[i] := by
      intro k
      induction k with
      | zero => intro _; exact ⟨[], rfl, (fun z hz => by cases hz), fun i hi => by simp at hi⟩
      | succ k ih =>
        intro hk
        obtain ⟨xs, h1, h0, h2⟩ := ih (by omega)
        have h3 := hall k (by omega)
        have hkl : k < elems.length := by omega
        rw [List.getElem?_eq_getElem hkl] at h3
        obtain ⟨cs', q1, q2⟩ := Option.bind_eq_some_iff.1 h3
        obtain ⟨y, hy, hq⟩ := hel n cs' _ hf q2 (hwt _ (List.getElem_mem hkl))
        refine ⟨xs ++ [y], by simp [h1], fun z hz => ?_, fun i hi => ?_⟩
        · rcases List.mem_append.1 hz with hz | hz
          · exact h0 z hz
          · rw [List.mem_singleton.1 hz]; exact hq
        · by_cases hik : i < xs.length
          · rw [List.getElem_append_left hik]; exact h2 i hik
          · have : i = xs.length := by simp at hi; omega
            subst this
            rw [List.getElem_append_right (Nat.le_refl _)]
            simp only [Nat.sub_self, List.getElem_cons_zero]
            rw [h1]
            exact ⟨cs', q1, hy⟩
    obtain ⟨xs, h1, hQ, h2⟩ := key len (Nat.le_refl _)
    subst h1
    refine ⟨some a, xs, cap, rfl, ⟨some a, cap, rfl, ?_⟩, hl, hQ, ?_⟩
    · by_cases hx0 : xs = []
      · exact .inl hx0
      · right
        have h0 : 0 < xs.length := List.length_pos_iff.2 hx0
        obtain ⟨cs0, q1, _⟩ := h2 0 h0
        obtain ⟨_, q2, q3⟩ := World.cells?_some q1
        have hsp : a.spot = none := by
          have := q3 0 hpos
          rw [Nat.zero_mul] at this
          have ea : (a.add 0).add 0 = a := by simp [Addr.add]
          rw [ea, List.getElem?_eq_getElem (by omega)] at this
          unfold World.cell? at this
          split at this
          · split at this
            · cases this
            · rename_i hs; simpa using hs
          · cases this
        obtain ⟨b, o, sp⟩ := a
        simp only at hsp
        subst hsp
        refine ⟨b, o, rfl, fun i hi => ?_⟩
        obtain ⟨cs', q1, q2⟩ := h2 i hi
        obtain ⟨_, q3, q4⟩ := World.cells?_some q1
        refine ⟨cs', q2, fun j u hu => ?_⟩
        have hj : j < K.sz := by rw [← q3]; exact (List.getElem?_eq_some_iff.1 hu).1
        have := q4 j hj
        rw [hu, addr_add, addr_add] at this
        exact this
    · right
      refine ⟨(elems.length + rest.length) * ee.bytes, ?_, Nat.mul_le_mul_right _ (by omega)⟩
      simp only
      rw [DataW.weights, hu]
      simp only [List.length_map, hbe]
      exact List.mem_cons_self
theorem in_fieldQ {t : Nat} {te : TE} {fs : List (Nat × Nat)} (h : tabAt (tb P) t = some te) (hd : te.td = .struct fs) (hx : DataW.trod enc P W 0 spare held fuel t cs = some x) :
    cs.length = te.zs.length ∧ ∃ n, fuel = n + 1 ∧ ∀ (j off ft : Nat) (fte : TE), fs[j]? = some (off, ft) → tabAt (tb P) ft = some fte → ∃ y, DataW.trod enc P W 0 spare held n ft ((cs.drop off).take fte.zs.length) = some y ∧ ∀ m ∈ y.1.weights P ft, m ∈ x.1.weights P t := by
  obtain ⟨l, hl1, hl2⟩ := und_struct h hd
  obtain ⟨xs, n, hf, hxx, h1, h2, h3⟩ := DataW.trod_struct hl1 hx
  refine ⟨h1.trans (tab_cells h), n, hf, fun j off ft fte hj hfte => ?_⟩
  rw [← hl2, List.getElem?_map, Option.map_eq_some_iff] at hj
  obtain ⟨f, hf1, hf2⟩ := hj
  simp only [Prod.mk.injEq] at hf2
  have hj' : l[j]? = some f := by simpa using hf1
  have := h3 j f hj'
  rw [hf2.1, hf2.2, tab_cells hfte] at this
  have hlt : j < xs.length := by rw [h2]; exact (Array.getElem?_eq_some_iff.1 hj').1
  refine ⟨xs[j], by rw [this, List.getElem?_eq_getElem hlt], fun m hm => ?_⟩
  rw [hxx, DataW.weights, hl1]
  refine DataW.weights_mem_each (j := j) (t := ft) (d := xs[j].1) ?_ ?_ m hm
  · rw [List.getElem?_map, hf1]; simp [hf2.2]
  · rw [List.getElem?_map, List.getElem?_eq_getElem hlt]; rfl
end
section
variable {H : Type} {enc : TypeId × Value → H} {W : World} {spare : Nat → Bool} {held : Bool}
theorem in_dropK : ∀ (k fuel : Nat) (cs : List Value) (x : DataW H × List MemPlace), fuel ≤ k → DataW.trod enc PP W 0 spare held fuel 31 cs = some x → (∀ m ∈ x.1.weights PP 31, m ≤ reachBytes) → ∃ d, DropRn k (ghostOf W) cs d ∧ DropW k d := by
  intro k
  induction k with
  | zero => intro fuel cs x hf h; cases Nat.le_zero.1 hf; simp [DataW.trod] at h
  | succ k ih =>
    intro fuel cs x hf h hw
    obtain ⟨h1, n, rfl, h2⟩ := in_fieldQ (P := PP) (t := 31) rfl rfl h
    obtain ⟨c1, c2, c3, c4, c5, rfl⟩ := list5 h1
    obtain ⟨y1, q1, _⟩ := h2 0 _ _ _ rfl rfl
    obtain ⟨y2, q2, _⟩ := h2 1 _ _ _ rfl rfl
    obtain ⟨y3, q3, w3⟩ := h2 2 _ _ _ rfl rfl
    obtain ⟨y4, q4, w4⟩ := h2 3 _ _ _ rfl rfl
    obtain ⟨y5, q5, w5⟩ := h2 4 _ _ _ rfl rfl
    obtain ⟨i1, e1, _⟩ := in_int rfl rfl q1
    obtain ⟨i2, e2, _⟩ := in_int rfl rfl q2
    obtain ⟨a3, n3, k3, e3, r3, _, _, b3⟩ := in_sliceQ (P := PP) (K := kInt) (Q := fun _ => True) rfl rfl rfl rfl (by decide) (fun n cs' y _ hy _ => by
      obtain ⟨m, hm, _⟩ := in_int rfl rfl hy
      exact ⟨m, hm, trivial⟩) q3
    obtain ⟨a4, n4, k4, e4, r4, _, _, b4⟩ := in_sliceQ (P := PP) (K := kInt) (Q := fun _ => True) rfl rfl rfl rfl (by decide) (fun n cs' y _ hy _ => by
      obtain ⟨m, hm, _⟩ := in_int rfl rfl hy
      exact ⟨m, hm, trivial⟩) q4
    obtain ⟨a5, n5, k5, e5, r5, _, Q5, b5⟩ := in_sliceQ (P := PP) (K := kDrop k) (Q := fun d => DropW k d) rfl rfl rfl rfl (show 0 < 5 by decide) (fun n' cs' y hn' hy hwy => by
      obtain ⟨d, hd1, hd2⟩ := ih n' cs' y (by omega) hy (fun m hm => hw m (w5 m (hwy m hm)))
      exact ⟨d, hd1, hd2⟩) q5
    cases e1
    cases e2
    cases e3
    cases e4
    cases e5
    have hb : ∀ {l b : Nat} {ws : List Nat}, 8 ≤ b → (∀ m ∈ ws, m ≤ reachBytes) → (∃ m ∈ ws, l * b ≤ m) → l ≤ 35184372088832 := fun {l b ws} hb hws ⟨m, hm, hlm⟩ => by
      have h3 : m ≤ 0x7ffffffff000 := hws m hm
      have h4 := Nat.mul_le_mul_left l hb
      omega
    refine ⟨.mk i1 i2 n3 n4 n5, DropRn.close (d := .mk i1 i2 n3 n4 n5) r3 r4 r5, ?_, ?_, ?_, fun i hi => Q5 _ (List.getElem_mem hi)⟩
    · rcases b5 with e | b5
      · show n5.length ≤ _; rw [e]; simp
      · exact hb (by decide) (fun m hm => hw m (w5 m hm)) b5
    · rcases b3 with e | b3
      · show n3.length ≤ _; rw [e]; simp
      · exact hb (by decide) (fun m hm => hw m (w3 m hm)) b3
    · rcases b4 with e | b4
      · show n4.length ≤ _; rw [e]; simp
      · exact hb (by decide) (fun m hm => hw m (w4 m hm)) b4
theorem in_drop {fuel : Nat} {cs : List Value} {x : DataW H × List MemPlace} (hw : ∀ m ∈ x.1.weights PP 31, m ≤ reachBytes) (h : DataW.trod enc PP W 0 spare held fuel 31 cs = some x) : ∃ k d, DropRn k (ghostOf W) cs d ∧ DropW k d := by
  obtain ⟨d, h⟩ := in_dropK fuel fuel cs x (Nat.le_refl _) h hw
  exact ⟨fuel, d, h⟩
end
end Go.Proofs.YtnanffbjmfgafaaGreat.S
namespace Go.Proofs.YtnanffbjmfgafaaGreat.S
open Go.RowKit
theorem mem_addS {x : Nat} : ∀ (l seen : List Nat), x ∈ addS seen l ↔ x ∈ seen ∨ x ∈ l
  | [], seen => by simp [addS]
  | y :: l, seen => by
    have e : addS seen (y :: l) = addS (if y ∈ seen then seen else seen ++ [y]) l := rfl
    rw [e, mem_addS l]
    split
    · rename_i h
      constructor
      · rintro (h1 | h1)
        · exact .inl h1
        · exact .inr (List.mem_cons_of_mem _ h1)
      · rintro (h1 | h1)
        · exact .inl h1
        · rcases List.mem_cons.1 h1 with e | h1
          · rw [e]; exact .inl h
          · exact .inr h1
    · rw [List.mem_append, List.mem_singleton, List.mem_cons]
      constructor
      · rintro ((h1 | h1) | h1)
        · exact .inl h1
        · exact .inr (.inl h1)
        · exact .inr (.inr h1)
      · rintro (h1 | h1 | h1)
        · exact .inl (.inl h1)
        · exact .inl (.inr h1)
        · exact .inr h1
section
variable {nx : Nat → List Nat} {n : Nat} {from_ : List Nat}
abbrev RcN (nx : Nat → List Nat) : Nat → Nat → Prop := Rc fun x y => y ∈ nx x
theorem closR_total (hnx : ∀ x, x < n → ∀ y ∈ nx x, y < n) : ∀ (f : Nat) (seen : List Nat) (i : Nat), seen.Nodup → (∀ x ∈ seen, x < n) → (∀ x ∈ from_, x ∈ seen) → (∀ x ∈ seen, ∃ s ∈ from_, RcN nx s x) →
    (∀ j (h : j < seen.length), j < i → ∀ y ∈ nx seen[j], y ∈ seen) → i ≤ seen.length → n + 1 - i ≤ f → ∃ r, closR nx f seen i = some r ∧ r.Nodup ∧ (∀ x ∈ r, x < n) ∧ ∀ x, x ∈ r ↔ ∃ s ∈ from_, RcN nx s x
  | 0, seen, i, h1, h2, _, _, _, h6, h7 => by
    have := nodup_len n seen h1 h2
    omega
  | f + 1, seen, i, h1, h2, h3, h4, h5, h6, h7 => by
    have hlen := nodup_len n seen h1 h2
    unfold closR
    by_cases hi : i < seen.length
    · rw [List.getElem?_eq_getElem hi]
      simp only
      obtain ⟨t, ht⟩ := addS_pre (nx seen[i]) seen
      have hx := h2 _ (List.getElem_mem hi)
      refine closR_total hnx f _ (i + 1) (addS_nodup _ _ h1) (fun x hx' => ?_) (fun x hx' => (mem_addS _ _).2 (.inl (h3 x hx'))) (fun x hx' => ?_) (fun j hj hji y hy => ?_) (by rw [ht, List.length_append]; omega) (by omega)
      · rcases (mem_addS _ _).1 hx' with h | h
        · exact h2 x h
        · exact hnx _ hx x h
      · rcases (mem_addS _ _).1 hx' with h | h
        · exact h4 x h
        · obtain ⟨s, hs, hr⟩ := h4 _ (List.getElem_mem hi)
          exact ⟨s, hs, .tail hr h⟩
      · have hj2 : j < seen.length := by omega
        have e : (addS seen (nx seen[i]))[j] = seen[j] := by
          simp only [ht]
          exact List.getElem_append_left hj2
        rw [e] at hy
        by_cases hje : j = i
        · subst hje; exact (mem_addS _ _).2 (.inr hy)
        · exact (mem_addS _ _).2 (.inl (h5 j hj2 (by omega) y hy))
    · have hie : i = seen.length := by omega
      rw [List.getElem?_eq_none (by omega)]
      refine ⟨seen, rfl, h1, h2, fun x => ⟨h4 x, ?_⟩⟩
      rintro ⟨s, hs, hr⟩
      induction hr with
      | refl => exact h3 s hs
      | tail _ e ih =>
        obtain ⟨j, hj, rfl⟩ := List.getElem_of_mem ih
        exact h5 j hj (by omega) _ e
theorem addS_sub (hn : ∀ x ∈ from_, x < n) : ∀ x ∈ addS [] from_, x < n := fun x hx => by
  rcases (mem_addS _ _).1 hx with h | h
  · cases h
  · exact hn x h
theorem closure_total (hnx : ∀ x, x < n → ∀ y ∈ nx x, y < n) (hn : n ≤ 20000) (hf : ∀ x ∈ from_, x < n) : ∃ r, closureR nx from_ = some r ∧ r.Pairwise (· < ·) ∧ (∀ x ∈ r, x < n) ∧ ∀ x, x ∈ r ↔ ∃ s ∈ from_, RcN nx s x := by
  obtain ⟨r, e, h1, h2, h3⟩ := closR_total (from_ := from_) hnx 30000 (addS [] from_) 0 (addS_nodup _ _ List.nodup_nil) (addS_sub hf) (fun x hx => (mem_addS _ _).2 (.inr hx)) (fun x hx => by
    rcases (mem_addS _ _).1 hx with h | h
    · cases h
    · exact ⟨x, h, .refl x⟩) (fun j _ h => by omega) (Nat.zero_le _) (by omega)
  refine ⟨sortN r, by unfold closureR; rw [e]; rfl, asc_of (sortN_sorted r) ((sortN_perm r).nodup_iff.2 h1), fun x hx => h2 x ((sortN_perm r).mem_iff.1 hx), fun x => by rw [(sortN_perm r).mem_iff, h3]⟩
end
section
variable {ls : List Arrow} {n : Nat}
theorem mem_nxF {x y : Nat} : y ∈ nxF ls x ↔ ∃ k, k < ls.length ∧ frOf ls k = x ∧ toOf ls k = y := by
  unfold nxF
  rw [List.mem_map]
  constructor
  · rintro ⟨k, hk, rfl⟩
    obtain ⟨h1, h2⟩ := mem_outAt.1 hk
    exact ⟨k, h1, h2, rfl⟩
  · rintro ⟨k, h1, h2, rfl⟩
    exact ⟨k, mem_outAt.2 ⟨h1, h2⟩, rfl⟩
theorem rcN_wk {x y : Nat} : RcN (nxF ls) x y ↔ ∃ w, Wk ls AllA x w y := by
  constructor
  · intro h
    induction h with
    | refl => exact ⟨[], .nil _⟩
    | tail _ e ih =>
      obtain ⟨w, hw⟩ := ih
      obtain ⟨k, h1, rfl, rfl⟩ := mem_nxF.1 e
      exact ⟨_, hw.app (.one h1 trivial)⟩
  · rintro ⟨w, hw⟩
    induction hw with
    | nil x => exact .refl x
    | @cons k y w hk _ _ ih => exact (Rc.one (mem_nxF.2 ⟨k, hk, rfl, rfl⟩)).trans ih
theorem nxF_lt' (hv : ValidG n ls) (x : Nat) : ∀ y ∈ nxF ls x, y < n := fun y hy => by
  obtain ⟨k, h1, _, rfl⟩ := mem_nxF.1 hy
  rw [toOf_at h1]
  exact (hv.ok _ (List.getElem_mem h1)).2.1
structure ReachOk (ls : List Arrow) (n : Nat) (init r : List Nat) : Prop where
  asc : r.Pairwise (· < ·)
  lt : ∀ x ∈ r, x < n
  mem : ∀ x, x ∈ r ↔ ∃ s ∈ init, ∃ w, Wk ls AllA s w x
theorem reach_closure (hv : ValidG n ls) {init : List Nat} (hi : ∀ x ∈ init, x < n) : ∃ r, closureR (nxF ls) init = some r ∧ ReachOk ls n init r := by
  obtain ⟨r, h1, h2, h3, h4⟩ := closure_total (nx := nxF ls) (fun x _ => nxF_lt' hv x) hv.size hi
  exact ⟨r, h1, h2, h3, fun x => by rw [h4]; exact exists_congr fun s => and_congr_right fun _ => rcN_wk⟩
theorem ReachOk.len {init r : List Nat} (h : ReachOk ls n init r) : r.length ≤ n := nodup_len n r (h.asc.imp fun h => Nat.ne_of_lt h) h.lt
theorem reachR_total (hv : ValidG n ls) {init : List Nat} (hi : ∀ x ∈ init, x < n) : ∃ r, reachR n ls init = some r ∧ ReachOk ls n init r := by
  obtain ⟨r, h1, h2⟩ := reach_closure hv hi
  refine ⟨r, ?_, h2⟩
  have hl := h2.len
  have hs := hv.size
  unfold reachR
  rw [h1]
  simp only
  rw [if_pos]
  simp only [Bool.and_eq_true, List.all_eq_true, decide_eq_true_eq]
  exact ⟨h2.lt, by omega⟩
theorem ReachOk.walk {init r : List Nat} (h : ReachOk ls n init r) {x y : Nat} {w : List Nat} (hw : Wk ls AllA x w y) : x ∈ r → Wk ls (fun k => (List.replicate ls.length true).getD k false = true ∧ toOf ls k ∈ r) x w y := by
  induction hw with
  | nil x => intro _; exact .nil x
  | @cons k y w hk _ _ ih =>
    intro hx
    have : toOf ls k ∈ r := by
      obtain ⟨s, hs, u, hu⟩ := (h.mem _).1 hx
      exact (h.mem _).2 ⟨s, hs, _, hu.app (.one hk trivial)⟩
    exact .cons hk ⟨whole_on hk, this⟩ (ih this)
end
end Go.Proofs.YtnanffbjmfgafaaGreat.S
namespace Go.Proofs.YtnanffbjmfgafaaGreat.S
open Go.RowKit
section
variable {ls : List Arrow} {inn en : Nat → Bool} {fr n : Nat}
abbrev InW (ls : List Arrow) (inn : Nat → Bool) := Wk ls fun k => inn k = true
structure Bf (ls : List Arrow) (inn : Nat → Bool) (fr n : Nat) (s : PS) : Prop where
  nodup : s.1.Nodup
  lt : ∀ x ∈ s.1, x < n
  head : s.1[0]? = some fr
  seen : ∀ y, (lk s.2.2 y).getD false = true ↔ y ∈ s.1
  by_ : ∀ j (h : j < s.1.length), 0 < j → lowOf s.2.1 s.1[j] < ls.length ∧ inn (lowOf s.2.1 s.1[j]) = true ∧ toOf ls (lowOf s.2.1 s.1[j]) = s.1[j] ∧ ∃ j', ∃ h' : j' < s.1.length, j' < j ∧ s.1[j'] = frOf ls (lowOf s.2.1 s.1[j])
theorem Bf.init (h : fr < n) : Bf ls inn fr n ([fr], [], [(fr, true)]) := by
  refine ⟨by simp, fun x hx => by simp at hx; omega, rfl, fun y => ?_, fun j hj h0 => by simp at hj; omega⟩
  simp only [lk, List.mem_singleton]
  by_cases e : y = fr
  · simp [e]
  · simp [e]
theorem Bf.step (hto : ∀ k, k < ls.length → toOf ls k < n) {s : PS} (h : Bf ls inn fr n s) {k : Nat} (hk : k < ls.length) (hfr : frOf ls k ∈ s.1) : Bf ls inn fr n (pathStep ls inn s k) ∧ (inn k = true → toOf ls k ∈ (pathStep ls inn s k).1) := by
  unfold pathStep
  split
  · rename_i hc
    simp only [Bool.and_eq_true, Bool.not_eq_true'] at hc
    have hny : toOf ls k ∉ s.1 := fun hm => by
      have := (h.seen _).2 hm
      rw [hc.2] at this
      cases this
    refine ⟨⟨?_, fun x hx => ?_, ?_, fun y => ?_, fun j hj h0 => ?_⟩, fun _ => by simp⟩
    · exact List.nodup_append.2 ⟨h.nodup, by simp, fun a ha b hb => by rw [List.mem_singleton.1 hb]; exact fun e => hny (e ▸ ha)⟩
    · rcases List.mem_append.1 hx with hx | hx
      · exact h.lt x hx
      · rw [List.mem_singleton.1 hx]; exact hto k hk
    · have : 0 < s.1.length := by
        have := h.head
        exact (List.getElem?_eq_some_iff.1 this).1
      simp only
      rw [List.getElem?_append_left this]; exact h.head
    · simp only
      rw [lk_sk]
      by_cases e : y = toOf ls k
      · simp [e]
      · rw [if_neg e, h.seen, List.mem_append, List.mem_singleton]
        exact ⟨.inl, fun h => h.resolve_right e⟩
    · simp only at hj ⊢
      by_cases hjl : j < s.1.length
      · have hne : s.1[j] ≠ toOf ls k := fun e => hny (e ▸ List.getElem_mem hjl)
        have hlow : lowOf (sk s.2.1 (toOf ls k) k) s.1[j] = lowOf s.2.1 s.1[j] := by rw [lowOf_sk, if_neg hne]
        rw [List.getElem_append_left hjl, hlow]
        obtain ⟨h1, h2, h3, j', hj', h4, h5⟩ := h.by_ j hjl h0
        exact ⟨h1, h2, h3, j', by rw [List.length_append]; omega, h4, by rw [List.getElem_append_left hj']; exact h5⟩
      · have hje : j = s.1.length := by rw [List.length_append, List.length_singleton] at hj; omega
        subst hje
        have e : (s.1 ++ [toOf ls k])[s.1.length] = toOf ls k := by simp
        rw [e, lowOf_sk, if_pos rfl]
        obtain ⟨j', hj', e'⟩ := List.getElem_of_mem hfr
        exact ⟨hk, hc.1, rfl, j', by rw [List.length_append]; omega, hj', by rw [List.getElem_append_left hj']; exact e'⟩
  · rename_i hc
    refine ⟨h, fun hi => ?_⟩
    simp only [Bool.and_eq_true, Bool.not_eq_true', not_and, Bool.not_eq_false] at hc
    exact (h.seen _).1 (hc hi)
theorem Bf.fold (hto : ∀ k, k < ls.length → toOf ls k < n) : ∀ (ks : List Nat) {s : PS}, Bf ls inn fr n s → (∀ k ∈ ks, k < ls.length ∧ frOf ls k ∈ s.1) →
    Bf ls inn fr n (ks.foldl (pathStep ls inn) s) ∧ (∃ t, (ks.foldl (pathStep ls inn) s).1 = s.1 ++ t) ∧ ∀ k ∈ ks, inn k = true → toOf ls k ∈ (ks.foldl (pathStep ls inn) s).1
  | [], s, h, _ => ⟨h, ⟨[], by simp⟩, fun k hk => by cases hk⟩
  | k :: ks, s, h, hks => by
    obtain ⟨hk, hfr⟩ := hks k (by simp)
    obtain ⟨h1, h2⟩ := h.step hto hk hfr
    obtain ⟨t0, ht0⟩ : ∃ t, (pathStep ls inn s k).1 = s.1 ++ t := by
      unfold pathStep
      split
      · exact ⟨_, rfl⟩
      · exact ⟨[], by simp⟩
    obtain ⟨h3, ⟨t, ht⟩, h4⟩ := Bf.fold hto ks h1 fun j hj => ⟨(hks j (by simp [hj])).1, by rw [ht0]; exact List.mem_append_left _ (hks j (by simp [hj])).2⟩
    rw [List.foldl_cons]
    refine ⟨h3, ⟨t0 ++ t, by rw [ht, ht0, List.append_assoc]⟩, fun j hj hi => ?_⟩
    rcases List.mem_cons.1 hj with e | hj
    · rw [e] at hi ⊢
      rw [ht]
      exact List.mem_append_left _ (h2 hi)
    · exact h4 j hj hi
theorem back_total {s : PS} (h : Bf ls inn fr n s) : ∀ (j f : Nat) (hj : j < s.1.length), j < f → ∃ out, backR ls fr s.2.1 f s.1[j] = some out ∧ InW ls inn fr out.reverse s.1[j] ∧ out.length ≤ j
  | j, 0, _, hf => by omega
  | j, f + 1, hj, hf => by
    unfold backR
    by_cases e : s.1[j] = fr
    · rw [if_pos e]
      exact ⟨[], rfl, by rw [e]; exact .nil _, Nat.zero_le _⟩
    · rw [if_neg e]
      have h0 : 0 < j := by
        rcases Nat.eq_zero_or_pos j with e0 | h0
        · subst e0
          have := h.head
          rw [List.getElem?_eq_getElem hj, Option.some.injEq] at this
          exact absurd this e
        · exact h0
      obtain ⟨h1, h2, h3, j', hj', h4, h5⟩ := h.by_ j hj h0
      rw [if_pos h1, ← h5]
      obtain ⟨out, e1, e2, e3⟩ := back_total h j' f hj' (by omega)
      rw [e1]
      refine ⟨_, rfl, ?_, by simp only [List.length_cons]; omega⟩
      rw [List.reverse_cons]
      refine e2.app ?_
      rw [h5, ← h3]
      rw [h3]
      have := Wk.one (P := fun k => inn k = true) h1 h2
      rw [h3] at this
      exact this
theorem bf_closed {s : PS} (hcl : ∀ x ∈ s.1, ∀ k, k < ls.length → frOf ls k = x → inn k = true → toOf ls k ∈ s.1) {x y : Nat} {w : List Nat} (hw : InW ls inn x w y) : x ∈ s.1 → y ∈ s.1 := by
  induction hw with
  | nil x => exact fun h => h
  | cons hk hp _ ih => exact fun h => ih (hcl _ h _ hk rfl hp)
theorem pathR_total (hto : ∀ k, k < ls.length → toOf ls k < n) (hn : n ≤ 20000) : ∀ (f : Nat) (s : PS) (i : Nat), Bf ls inn fr n s → i ≤ s.1.length → (∀ j (h : j < s.1.length), j < i → en s.1[j] = false ∧ ∀ k, k < ls.length → frOf ls k = s.1[j] → inn k = true → toOf ls k ∈ s.1) → n + 1 - i ≤ f →
    ∃ way b, pathR ls inn en fr f s i = some (way, b) ∧ (b = true → ∃ y, en y = true ∧ InW ls inn fr way y ∧ way.length < n) ∧ (b = false → way = [] ∧ ∀ w y, InW ls inn fr w y → en y = false)
  | 0, s, i, h, hi, _, hf => by
    have := nodup_len n s.1 h.nodup h.lt
    omega
  | f + 1, s, i, h, hi, hcl, hf => by
    have hlen := nodup_len n s.1 h.nodup h.lt
    unfold pathR
    by_cases hil : i < s.1.length
    · rw [List.getElem?_eq_getElem hil]
      simp only
      split
      · rename_i he
        obtain ⟨out, e1, e2, e3⟩ := back_total h i 100000 hil (by omega)
        rw [e1]
        exact ⟨_, _, rfl, fun _ => ⟨_, he, e2, by rw [List.length_reverse]; omega⟩, fun h => by cases h⟩
      · rename_i he
        obtain ⟨h1, ⟨t, ht⟩, h3⟩ := h.fold hto (outAt ls ls.length s.1[i]) fun k hk => by
          obtain ⟨q1, q2⟩ := mem_outAt.1 hk
          exact ⟨q1, by rw [q2]; exact List.getElem_mem hil⟩
        refine pathR_total hto hn f _ (i + 1) h1 (by rw [ht, List.length_append]; omega) (fun j hj hji => ?_) (by omega)
        have hj2 : j < s.1.length := by omega
        have ej : (List.foldl (pathStep ls inn) s (outAt ls ls.length s.1[i])).1[j] = s.1[j] := by
          simp only [ht]; exact List.getElem_append_left hj2
        rw [ej]
        by_cases hje : j = i
        · subst hje
          exact ⟨by simpa using he, fun k hk hfr hin => h3 k (mem_outAt.2 ⟨hk, hfr⟩) hin⟩
        · obtain ⟨q1, q2⟩ := hcl j hj2 (by omega)
          exact ⟨q1, fun k hk hfr hin => by rw [ht]; exact List.mem_append_left _ (q2 k hk hfr hin)⟩
    · have hie : i = s.1.length := by omega
      rw [List.getElem?_eq_none (by omega)]
      refine ⟨[], false, rfl, (fun h => by cases h), fun _ => ⟨rfl, fun w y hw => ?_⟩⟩
      have h0 : fr ∈ s.1 := List.mem_of_getElem? h.head
      have hm := bf_closed (s := s) (fun x hx k hk hfr hin => by
        obtain ⟨j, hj, rfl⟩ := List.getElem_of_mem hx
        exact (hcl j hj (by omega)).2 k hk hfr hin) hw h0
      obtain ⟨j, hj, rfl⟩ := List.getElem_of_mem hm
      exact (hcl j hj (by omega)).1
theorem path_total (hto : ∀ k, k < ls.length → toOf ls k < n) (hn : n ≤ 20000) (hfr : fr < n) : ∃ way b, pathF ls inn en fr = some (way, b) ∧ (b = true → ∃ y, en y = true ∧ InW ls inn fr way y ∧ way.length < n) ∧ (b = false → way = [] ∧ ∀ w y, InW ls inn fr w y → en y = false) :=
  pathR_total hto hn 20002 _ 0 (Bf.init hfr) (Nat.zero_le _) (fun j _ h => by omega) (by omega)
end
end Go.Proofs.YtnanffbjmfgafaaGreat.S
namespace Go.Proofs.YtnanffbjmfgafaaGreat.S
open Go.RowKit
section
variable {ls : List Arrow} {n : Nat} {all : List Nat} {pairs : List (Nat × Nat)}
abbrev InL (ls : List Arrow) (l : List Nat) := Wk ls fun k => k ∈ l
theorem inL_iff {l : List Nat} {x y : Nat} {w : List Nat} : InW ls (fun k => decide (k ∈ l)) x w y ↔ InL ls l x w y :=
  ⟨fun h => h.mono fun _ _ h => of_decide_eq_true h, fun h => h.mono fun _ _ h => decide_eq_true h⟩
structure Pc (ls : List Arrow) (n : Nat) (c l : List Nat) : Prop where
  conn : ∀ x ∈ c, ∀ y ∈ c, ∃ w, InL ls l x w y
  arr : ∀ k ∈ l, k < ls.length ∧ frOf ls k ∈ c ∧ toOf ls k ∈ c
  lt : ∀ x ∈ c, x < n
  ne : l ≠ []
theorem to_lt (hv : ValidG n ls) (k : Nat) (hk : k < ls.length) : toOf ls k < n := by
  rw [toOf_at hk]
  exact (hv.ok _ (List.getElem_mem hk)).2.1
structure Ar (ls : List Arrow) (c l : List Nat) (x : Nat) (s : Nat × List Nat) : Prop where
  at_ : s.1 ∈ c
  walk : InL ls l x s.2 s.1
theorem visit_total (hv : ValidG n ls) {c l : List Nat} (hp : Pc ls n c l) {x : Nat} {s : Nat × List Nat} (hs : Ar ls c l x s) {i : Nat} (hi : i ∈ l) (hb : s.2.length ≤ 1000000) :
    ∃ s', visitR ls (fun k => decide (k ∈ l)) s i = some s' ∧ Ar ls c l x s' ∧ s'.2.length ≤ s.2.length + n ∧ (∃ t, s'.2 = s.2 ++ t) ∧ i ∈ s'.2 := by
  obtain ⟨h1, h2, h3⟩ := hp.arr i hi
  have hsz := hv.size
  obtain ⟨way, b, e, h4, h5⟩ := path_total (inn := fun k => decide (k ∈ l)) (en := fun y => decide (y = frOf ls i)) (to_lt hv) hv.size (hp.lt _ hs.at_)
  obtain ⟨u, hu⟩ := hp.conn _ hs.at_ _ h2
  have hb' : b = true := by
    cases b with
    | true => rfl
    | false => have := (h5 rfl).2 u _ (inL_iff.2 hu); simp at this
  obtain ⟨y, hy, hw, hl⟩ := h4 hb'
  have hye : y = frOf ls i := of_decide_eq_true hy
  unfold visitR
  rw [e]
  simp only
  rw [if_pos (by omega)]
  refine ⟨_, rfl, ⟨h3, ?_⟩, by simp only [List.length_append, List.length_singleton]; omega, ⟨way ++ [i], by simp⟩, by simp⟩
  rw [List.append_assoc]
  refine hs.walk.app ((inL_iff.1 hw).app ?_)
  rw [hye]
  exact .one h1 hi
theorem through_total (hv : ValidG n ls) {c l : List Nat} (hp : Pc ls n c l) {x : Nat} : ∀ (ms : List Nat) (s : Nat × List Nat), Ar ls c l x s → s.2.length + ms.length * n ≤ 1000000 →
    ∃ s', foldO (throughR ls (fun k => decide (k ∈ l)) l) ms s = some s' ∧ Ar ls c l x s' ∧ s'.2.length ≤ s.2.length + ms.length * n ∧ (∃ t, s'.2 = s.2 ++ t) ∧ ∀ m ∈ ms, (∃ k ∈ l, hasM ls k m = true) → ∃ k ∈ s'.2, hasM ls k m = true
  | [], s, hs, hb => ⟨s, rfl, hs, by simp, ⟨[], by simp⟩, fun m hm => by cases hm⟩
  | m :: ms, s, hs, hb => by
    rw [List.length_cons, Nat.add_mul, Nat.one_mul] at hb
    obtain ⟨s1, e1, hs1, hl1, ⟨t1, ht1⟩, hm1⟩ : ∃ s1, throughR ls (fun k => decide (k ∈ l)) l s m = some s1 ∧ Ar ls c l x s1 ∧ s1.2.length ≤ s.2.length + n ∧ (∃ t, s1.2 = s.2 ++ t) ∧ ((∃ k ∈ l, hasM ls k m = true) → ∃ k ∈ s1.2, hasM ls k m = true) := by
      unfold throughR
      rcases hf : l.find? (fun i => hasM ls i m) with _ | i
      · refine ⟨s, rfl, hs, by omega, ⟨[], by simp⟩, fun ⟨k, hk, hm⟩ => ?_⟩
        have := List.find?_eq_none.1 hf k hk
        exact absurd hm this
      · obtain ⟨s1, e1, h2, h3, h4, h5⟩ := visit_total hv hp hs (List.mem_of_find?_eq_some hf) (by omega)
        have hfm : hasM ls i m = true := List.find?_some (p := fun i => hasM ls i m) hf
        exact ⟨s1, e1, h2, h3, h4, fun _ => ⟨i, h5, hfm⟩⟩
    obtain ⟨s', e2, hs', hl2, ⟨t2, ht2⟩, hm2⟩ := through_total hv hp ms s1 hs1 (by omega)
    refine ⟨s', by simp only [foldO, e1]; exact e2, hs', by rw [List.length_cons, Nat.add_mul, Nat.one_mul]; omega, ⟨t1 ++ t2, by rw [ht2, ht1, List.append_assoc]⟩, fun q hq hex => ?_⟩
    rcases List.mem_cons.1 hq with e | hq
    · rw [e] at hex ⊢
      obtain ⟨k, hk, hm⟩ := hm1 hex
      exact ⟨k, by rw [ht2]; exact List.mem_append_left _ hk, hm⟩
    · exact hm2 q hq hex
theorem metF_none {l : List Nat} (h : metF ls l = List.replicate 16 false) {m : Nat} (hm : m < 16) : ∀ k ∈ l, hasM ls k m = false := by
  refine (met_no hm).1 ?_
  rw [h]
  have : ∀ m, m < 16 → (List.replicate 16 false).getD m false = false := by decide
  exact this m hm
theorem around_total (hv : ValidG n ls) (hw : ValidW all pairs) {c l : List Nat} (hp : Pc ls n c l) (hs : Sats ls all pairs l) {x : Nat} (hx : x ∈ c) :
    ∃ w, aroundR ls x l all pairs = some w ∧ w ≠ [] ∧ InL ls l x w x ∧ Sats ls all pairs w ∧ w.length ≤ (n + 1) * 33 := by
  have hsz := hv.size
  have hml : (marksOf all pairs).length ≤ 32 := by
    unfold marksOf
    rw [List.length_append, List.length_map]
    have := hw.all_len
    have := hw.pairs_len
    omega
  have hm32 : (marksOf all pairs).length * n ≤ 32 * n := Nat.mul_le_mul_right _ hml
  obtain ⟨s1, e1, h1, hl1, hm1⟩ : ∃ s1, (if metF ls l = List.replicate 16 false then some (x, []) else foldO (throughR ls (fun k => decide (k ∈ l)) l) (marksOf all pairs) (x, [])) = some s1 ∧ Ar ls c l x s1 ∧ s1.2.length ≤ 32 * n ∧ ∀ m ∈ marksOf all pairs, m < 16 → (∃ k ∈ l, hasM ls k m = true) → ∃ k ∈ s1.2, hasM ls k m = true := by
    split
    · rename_i h0
      exact ⟨_, rfl, ⟨hx, .nil x⟩, Nat.zero_le _, fun m _ hm16 ⟨k, hk, hm⟩ => by rw [metF_none h0 hm16 k hk] at hm; cases hm⟩
    · obtain ⟨s1, q1, q2, q3, _, q4⟩ := through_total hv hp (marksOf all pairs) (x, []) ⟨hx, .nil x⟩ (by simp; omega)
      exact ⟨s1, q1, q2, by simp at q3; omega, fun m hm _ hex => q4 m hm hex⟩
  have hl0 : l.getD 0 0 ∈ l := by
    obtain ⟨k, r, e⟩ := List.exists_cons_of_ne_nil hp.ne
    rw [e]; simp
  obtain ⟨s2, e2, h2, hl2, ⟨t2, ht2⟩, hne2⟩ : ∃ s2, (if s1.2.length = 0 then visitR ls (fun k => decide (k ∈ l)) s1 (l.getD 0 0) else some s1) = some s2 ∧ Ar ls c l x s2 ∧ s2.2.length ≤ 32 * n ∧ (∃ t, s2.2 = s1.2 ++ t) ∧ s2.2 ≠ [] := by
    split
    · obtain ⟨s2, q1, q2, q3, q4, q5⟩ := visit_total hv hp h1 hl0 (by omega)
      exact ⟨s2, q1, q2, by omega, q4, List.ne_nil_of_mem q5⟩
    · rename_i h0
      exact ⟨s1, rfl, h1, by omega, ⟨[], by simp⟩, fun e => h0 (by rw [e]; rfl)⟩
  obtain ⟨way, b, e3, h4, h5⟩ := path_total (inn := fun k => decide (k ∈ l)) (en := fun y => decide (y = x)) (to_lt hv) hv.size (hp.lt _ h2.at_)
  obtain ⟨u, hu⟩ := hp.conn _ h2.at_ _ hx
  have hb' : b = true := by
    cases b with
    | true => rfl
    | false => have := (h5 rfl).2 u _ (inL_iff.2 hu); simp at this
  obtain ⟨y, hy, hwy, hwl⟩ := h4 hb'
  have hye : y = x := of_decide_eq_true hy
  subst hye
  have hwalk := h2.walk.app (inL_iff.1 hwy)
  have hmark : ∀ m ∈ marksOf all pairs, m < 16 → (∃ k ∈ l, hasM ls k m = true) → ∃ k ∈ s2.2 ++ way, hasM ls k m = true := fun m hm hm16 hex => by
    obtain ⟨k, hk, hmm⟩ := hm1 m hm hm16 hex
    exact ⟨k, List.mem_append_left _ (by rw [ht2]; exact List.mem_append_left _ hk), hmm⟩
  refine ⟨s2.2 ++ way, ?_, fun e => hne2 (List.append_eq_nil_iff.1 e).1, hwalk, ⟨fun m hm => ?_, fun p hpm ⟨k, hk, hmm⟩ => ?_⟩, ?_⟩
  · unfold aroundR
    rw [e1]
    simp only
    rw [e2]
    simp only
    rw [e3]
    simp only
    rw [if_pos (by omega)]
  · exact hmark m (List.mem_append_left _ hm) (hw.all_ok m hm) (hs.1 m hm)
  · exact hmark p.2 (List.mem_append_right _ (List.mem_map.2 ⟨p, hpm, rfl⟩)) (hw.pairs_ok p hpm).2 (hs.2 p hpm ⟨k, (hwalk.all k hk).2, hmm⟩)
  · rw [List.length_append, Nat.add_mul, Nat.mul_comm n 33]
    omega
end
end Go.Proofs.YtnanffbjmfgafaaGreat.S
namespace Go.Proofs.YtnanffbjmfgafaaGreat.S
open Go.RowKit
section
variable {ls : List Arrow} {n : Nat} {all : List Nat} {pairs : List (Nat × Nat)}
theorem wk_last {P : Nat → Prop} {x y : Nat} {w : List Nat} (h : Wk ls P x w y) : endOf ls w x = y := by
  induction h with
  | nil x => simp [endOf]
  | @cons k y w hk hp hw ih =>
    unfold endOf at ih ⊢
    rw [if_pos (by simp)]
    rcases w with _ | ⟨j, w⟩
    · simpa using ih
    · rw [if_pos (by simp)] at ih
      rw [← ih]
      have e : (k :: j :: w).length - 1 = (j :: w).length - 1 + 1 := by simp
      rw [e]
      rfl
structure RdOk (ls : List Arrow) (n : Nat) (all : List Nat) (pairs : List (Nat × Nat)) (init : List Nat) (r : Rd) : Prop where
  start : r.1 ∈ init
  round : ∃ y, Wk ls AllA r.1 r.2.1 y ∧ Wk ls AllA y r.2.2 y
  ne : r.2.2 ≠ []
  sats : Sats ls all pairs r.2.2
  stem : r.2.1.length ≤ n
  loop : r.2.2.length ≤ (n + 1) * 33
theorem any_all {x y : Nat} {w : List Nat} : InW ls (fun _ => true) x w y ↔ Wk ls AllA x w y := ⟨fun h => h.mono fun _ _ _ => trivial, fun h => h.mono fun _ _ _ => rfl⟩
theorem GoodOk.pc {nodes : List Nat} {on : List Bool} {xs : GL} (h : GoodOk ls all pairs nodes on xs) (hn : ∀ x ∈ nodes, x < n) {p : List Nat × List Nat} (hp : p ∈ xs) : Pc ls n p.1 p.2 :=
  ⟨h.conn p hp, fun k hk => ⟨(h.within p hp k hk).1, (h.within p hp k hk).2.2⟩, fun x hx => hn x (h.sub p hp x hx), h.arrow p hp⟩
theorem findC_total (hv : ValidG n ls) (hw : ValidW all pairs) {p : List Nat × List Nat} (hp : Pc ls n p.1 p.2) (hs : Sats ls all pairs p.2) : ∀ (xs : List Nat), (∀ x ∈ xs, x < n) → (∃ x ∈ xs, ∃ w y, Wk ls AllA x w y ∧ y ∈ p.1) → ∃ r, findC ls all pairs p xs = some (some r) ∧ RdOk ls n all pairs xs r
  | [], _, ⟨x, hx, _⟩ => by cases hx
  | x :: xs, hx, hex => by
    have hsz := hv.size
    obtain ⟨way, b, e, h1, h2⟩ := path_total (inn := fun _ => true) (en := fun y => p.1.contains y) (to_lt hv) hv.size (hx x (by simp))
    unfold findC
    rw [e]
    cases b with
    | true =>
      obtain ⟨y, hy, hwy, hl⟩ := h1 rfl
      have hyc : y ∈ p.1 := by simpa using hy
      simp only
      rw [if_pos (by
        simp only [Bool.and_eq_true, List.all_eq_true, decide_eq_true_eq]
        exact ⟨fun k hk => (hwy.all k hk).1, by omega⟩), wk_last hwy]
      obtain ⟨lo, e2, h3, h4, h5, h6⟩ := around_total hv hw hp hs hyc
      rw [e2]
      exact ⟨_, rfl, by simp, ⟨y, any_all.1 hwy, h4.mono fun _ _ _ => trivial⟩, h3, h5, by show way.length ≤ n; omega, h6⟩
    | false =>
      simp only
      obtain ⟨r, e2, h3⟩ := findC_total hv hw hp hs xs (fun y hy => hx y (by simp [hy])) (by
        obtain ⟨z, hz, w, y, hwy, hy⟩ := hex
        rcases List.mem_cons.1 hz with e | hz
        · subst e
          have := (h2 rfl).2 w y (any_all.2 hwy)
          simp [hy] at this
        · exact ⟨z, hz, w, y, hwy, hy⟩)
      exact ⟨r, e2, by simp [h3.start], h3.round, h3.ne, h3.sats, h3.stem, h3.loop⟩
def NoCore (ls : List Arrow) (all : List Nat) (pairs : List (Nat × Nat)) (init : List Nat) : Prop := ∀ x ∈ init, ∀ w y, Wk ls AllA x w y → ¬ CoreAt ls all pairs AllA y
theorem find_total (hv : ValidG n ls) (hw : ValidW all pairs) (hl : ls.length < 400) (hb : n * (ls.length + 3) ≤ 1000000) {init : List Nat} (hi : ∀ x ∈ init, x < n) :
    (∃ r, findR n ls all pairs init = some (some r) ∧ RdOk ls n all pairs init r) ∨ (findR n ls all pairs init = some none ∧ NoCore ls all pairs init) := by
  obtain ⟨reached, e1, hR⟩ := reach_closure hv hi
  have hsz := hv.size
  have hRl := hR.len
  obtain ⟨xs, e2, hG⟩ := good_total hw hv.size hb 400 reached (List.replicate ls.length true) (Nat.lt_of_le_of_lt (onCnt_le _) hl) hR.lt hRl
  have hstart : findR n ls all pairs init = findG ls all pairs init xs := by
    unfold findR
    rw [e1]
    simp only
    rw [if_pos (by
      simp only [Bool.and_eq_true, List.all_eq_true, decide_eq_true_eq]
      exact ⟨hR.lt, by omega⟩), e2]
  rw [hstart]
  rcases xs with _ | ⟨p, ps⟩
  · refine .inr ⟨rfl, fun x hx w y hwy ⟨v, hne, hv', hs⟩ => ?_⟩
    have hyr : y ∈ reached := (hR.mem y).2 ⟨x, hx, w, hwy⟩
    obtain ⟨p, hp, _⟩ := hG.full y v hyr hne (hR.walk hv' hyr) hs
    cases hp
  · have hp : p ∈ p :: ps := by simp
    have hpc := hG.pc hR.lt hp
    have hasc := asc_of (hG.sorted p hp) (by
      have := hG.nodup
      rw [List.flatMap_cons] at this
      exact (List.nodup_append.1 this).1)
    have hlen := nodup_len n p.1 (hasc.imp fun h => Nat.ne_of_lt h) hpc.lt
    have hok : okG ls p = true := by
      unfold okG
      simp only [Bool.and_eq_true, List.all_eq_true, decide_eq_true_eq]
      refine ⟨⟨⟨⟨strictly_of hasc, by omega⟩, fun k hk => (hpc.arr k hk).1⟩, List.length_pos_iff.2 hpc.ne⟩, ?_⟩
      have h1 := hG.len p hp
      have h2 := Nat.mul_le_mul (Nat.le_trans hlen hv.size) (show ls.length ≤ 200000 from hv.len)
      omega
    obtain ⟨y, yr, hy⟩ := List.exists_cons_of_ne_nil (hG.ne p hp)
    have hyp : y ∈ p.1 := by rw [hy]; simp
    obtain ⟨s, hs, u, hu⟩ := (hR.mem y).1 (hG.sub p hp y hyp)
    obtain ⟨r, e3, h3⟩ := findC_total hv hw hpc (hG.sats p hp) init hi ⟨s, hs, u, y, hu, hyp⟩
    refine .inl ⟨r, ?_, h3⟩
    unfold findG
    rw [if_pos hok, e3]
end
end Go.Proofs.YtnanffbjmfgafaaGreat.S
namespace Go.Proofs.YtnanffbjmfgafaaGreat.S
open Go.RowKit
section
variable {ls : List Arrow}
end
section
variable {n : Int} {init : List Int} {ls : List ArrowI} {all : List Int} {pairs : List (Int × Int)}
theorem findI_small (hC : checkI n init ls all pairs = 0) (hn : n ≤ 12) (hl : ls.length ≤ 41) :
    (∃ r, findI n init ls all pairs = some (some r, 0) ∧ RdOk (ls.map toA) n.toNat (all.map Int.toNat) (pairs.map toP) (init.map Int.toNat) r) ∨
    (findI n init ls all pairs = some (none, 0) ∧ NoCore (ls.map toA) (all.map Int.toNat) (pairs.map toP) (init.map Int.toNat)) := by
  have hk := checked hC
  have hi : ∀ x ∈ init.map Int.toNat, x < n.toNat := fun x hx => by
    obtain ⟨y, hy, rfl⟩ := List.mem_map.1 hx
    have := hk.init.low y hy
    omega
  unfold findI
  rw [if_pos hC]
  rcases find_total hk.validG hk.validW (by simpa using Nat.lt_of_le_of_lt hl (by decide)) (by simpa using small_bound (n := n.toNat) (by omega) hl) hi with ⟨r, e, h⟩ | ⟨e, h⟩
  · exact .inl ⟨r, by rw [e]; rfl, h⟩
  · exact .inr ⟨by rw [e]; rfl, h⟩
end
end Go.Proofs.YtnanffbjmfgafaaGreat.S
namespace Go.Proofs.YtnanffbjmfgafaaGreat.S
open Go.RowKit
section
variable {ls : List Arrow} {n : Nat}
theorem wk_split {P : Nat → Prop} {x y k : Nat} {B : List Nat} : ∀ {A : List Nat}, Wk ls P x (A ++ k :: B) y → Wk ls P x A (frOf ls k) ∧ Wk ls P (frOf ls k) (k :: B) y := by
  intro A
  induction A generalizing x with
  | nil =>
    intro h
    have := h.head
    rw [this]
    exact ⟨.nil x, h⟩
  | cons j A ih =>
    intro h
    rw [List.cons_append] at h
    cases h with
    | cons hk hp hw =>
      obtain ⟨h1, h2⟩ := ih hw
      exact ⟨.cons hk hp h1, h2⟩
end
section
variable {n : Int} {init : List Int} {ls : List ArrowI} {all : List Int} {pairs : List (Int × Int)}
end
end Go.Proofs.YtnanffbjmfgafaaGreat.S
namespace Go.Proofs.YtnanffbjmfgafaaGreat.S
open Go.RowKit
section
variable (ls : List Arrow)
def someR (inn : List Bool) (m : Nat) : Bool := (List.range ls.length).any fun i => inn.getD i false && hasM ls i m
def satR (all : List Nat) (pairs : List (Nat × Nat)) (inn : List Bool) : Bool := all.all (fun m => someR ls inn m) && pairs.all fun p => !(someR ls inn p.1 && !someR ls inn p.2)
def srcR (back : Bool) (i : Nat) : Nat := if back = true then toOf ls i else frOf ls i
def dstR (back : Bool) (i : Nat) : Nat := if back = true then frOf ls i else toOf ls i
def rCond (inn : List Bool) (back : Bool) (out : List Bool) (i : Nat) : Bool := inn.getD i false && out.getD (srcR ls back i) false && !out.getD (dstR ls back i) false
def rStep (inn : List Bool) (back : Bool) (s : List Bool × Bool) (i : Nat) : List Bool × Bool :=
  if rCond ls inn back s.1 i = true then (s.1.set (dstR ls back i) true, true) else s
def rTo (inn : List Bool) (back : Bool) (out : List Bool) (k : Nat) : List Bool × Bool := (List.range k).foldl (rStep ls inn back) (out, false)
def rchR (inn : List Bool) (back : Bool) : Nat → List Bool → List Bool
  | 0, out => out
  | k + 1, out => if (rTo ls inn back out ls.length).2 = true then rchR inn back k (rTo ls inn back out ls.length).1 else (rTo ls inn back out ls.length).1
end
def ER (ls : List Arrow) (inn : List Bool) (back : Bool) (x y : Nat) : Prop := ∃ i, i < ls.length ∧ inn.getD i false = true ∧ srcR ls back i = x ∧ dstR ls back i = y
def cntB (n : Nat) (out : List Bool) : Nat := (List.range n).countP fun x => out.getD x false
theorem getD_setB {l : List Bool} {k j : Nat} (hk : k < l.length) : (l.set k true).getD j false = if j = k then true else l.getD j false := by
  rw [List.getD_eq_getElem?_getD, List.getD_eq_getElem?_getD, List.getElem?_set]
  by_cases h : k = j
  · subst h; simp [hk]
  · rw [if_neg h, if_neg (fun e => h e.symm)]
section
variable {ls : List Arrow} {n : Nat} {inn : List Bool} {back : Bool}
theorem dst_lt (hv : ValidG n ls) {i : Nat} (hi : i < ls.length) : dstR ls back i < n := by
  have := hv.ok _ (List.getElem_mem hi)
  unfold dstR
  split
  · rw [frOf_at hi]; exact this.1
  · rw [toOf_at hi]; exact this.2.1
theorem src_lt (hv : ValidG n ls) {i : Nat} (hi : i < ls.length) : srcR ls back i < n := by
  have := hv.ok _ (List.getElem_mem hi)
  unfold srcR
  split
  · rw [toOf_at hi]; exact this.2.1
  · rw [frOf_at hi]; exact this.1
theorem cnt_set {out : List Bool} (hl : out.length = n) {k : Nat} (hk : k < n) (h : out.getD k false = false) : cntB n out < cntB n (out.set k true) :=
  countP_lt (fun x _ hx => by rw [getD_setB (by omega)]; split <;> simp_all) ⟨k, List.mem_range.2 hk, by rw [getD_setB (by omega), if_pos rfl], h⟩
theorem rTo_inv (hv : ValidG n ls) {out : List Bool} (hl : out.length = n) (P : Nat → Prop) (hP : ∀ i, i < ls.length → inn.getD i false = true → P (srcR ls back i) → P (dstR ls back i)) (h0 : ∀ x, out.getD x false = true → P x) : ∀ k, k ≤ ls.length →
    (rTo ls inn back out k).1.length = n ∧ (∀ x, out.getD x false = true → (rTo ls inn back out k).1.getD x false = true) ∧ (∀ x, (rTo ls inn back out k).1.getD x false = true → P x) ∧
    ((rTo ls inn back out k).2 = false → (rTo ls inn back out k).1 = out ∧ ∀ i, i < k → rCond ls inn back out i = false) ∧ ((rTo ls inn back out k).2 = true → cntB n out < cntB n (rTo ls inn back out k).1) ∧ cntB n out ≤ cntB n (rTo ls inn back out k).1
  | 0, _ => ⟨hl, fun _ h => h, h0, fun _ => ⟨rfl, fun i hi => by omega⟩, (by intro h; cases h), Nat.le_refl _⟩
  | k + 1, hk => by
    obtain ⟨h1, h2, h3, h4, h5, h6⟩ := rTo_inv hv hl P hP h0 k (by omega)
    have e : rTo ls inn back out (k + 1) = rStep ls inn back (rTo ls inn back out k) k := by unfold rTo; rw [List.range_succ, List.foldl_append]; rfl
    rw [e]
    generalize rTo ls inn back out k = s at *
    obtain ⟨o, c⟩ := s
    unfold rStep
    by_cases hc : rCond ls inn back o k = true
    · rw [if_pos hc]
      have hc' := hc
      simp only [rCond, Bool.and_eq_true, Bool.not_eq_true'] at hc'
      obtain ⟨⟨q1, q2⟩, q3⟩ := hc'
      have hd := dst_lt (back := back) hv (show k < ls.length by omega)
      have hcn := cnt_set h1 hd q3
      simp only at h1 h2 h3 h5 h6 hcn ⊢
      refine ⟨by simpa using h1, fun x hx => ?_, fun x hx => ?_, (by intro h; cases h), fun _ => by omega, by omega⟩
      · rw [getD_setB (by omega)]
        split
        · rfl
        · exact h2 x hx
      · rw [getD_setB (by omega)] at hx
        split at hx
        · rename_i e; subst e; exact hP k (by omega) q1 (h3 _ q2)
        · exact h3 x hx
    · rw [if_neg hc]
      refine ⟨h1, h2, h3, fun h => ?_, h5, h6⟩
      obtain ⟨a, b⟩ := h4 h
      refine ⟨a, fun i hi => ?_⟩
      by_cases hik : i = k
      · subst hik
        have a' : o = out := a
        rw [a'] at hc
        simpa using hc
      · exact b i (by omega)
theorem rchR_inv (hv : ValidG n ls) (P : Nat → Prop) (hP : ∀ i, i < ls.length → inn.getD i false = true → P (srcR ls back i) → P (dstR ls back i)) : ∀ (k : Nat) (out : List Bool), out.length = n → (∀ x, out.getD x false = true → P x) →
    (rchR ls inn back k out).length = n ∧ (∀ x, out.getD x false = true → (rchR ls inn back k out).getD x false = true) ∧ (∀ x, (rchR ls inn back k out).getD x false = true → P x) ∧
    (n + 1 ≤ cntB n out + k → ∀ i, i < ls.length → inn.getD i false = true → (rchR ls inn back k out).getD (srcR ls back i) false = true → (rchR ls inn back k out).getD (dstR ls back i) false = true)
  | 0, out, hl, h0 => ⟨hl, fun _ h => h, h0, fun h => by
      have : cntB n out ≤ n := by have := List.countP_le_length (p := fun x => out.getD x false) (l := List.range n); simpa [cntB] using this
      omega⟩
  | k + 1, out, hl, h0 => by
    obtain ⟨h1, h2, h3, h4, h5, _⟩ := rTo_inv (inn := inn) (back := back) hv hl P hP h0 ls.length (Nat.le_refl _)
    unfold rchR
    split
    · rename_i hc
      obtain ⟨a, b, c, d⟩ := rchR_inv hv P hP k _ h1 h3
      have := h5 hc
      exact ⟨a, fun x hx => b x (h2 x hx), c, fun hk => d (by omega)⟩
    · rename_i hc
      obtain ⟨a, b⟩ := h4 (by simpa using hc)
      refine ⟨h1, h2, h3, fun _ i hi hin hs => ?_⟩
      rw [a] at hs ⊢
      have := b i hi
      unfold rCond at this
      rw [hin, hs] at this
      simpa using this
theorem cnt_pos {out : List Bool} {s : Nat} (hs : s < n) (h : out.getD s false = true) : 1 ≤ cntB n out := by
  have : 0 < cntB n out := List.countP_pos_iff.2 ⟨s, List.mem_range.2 hs, h⟩
  omega
theorem rchR_iff (hv : ValidG n ls) {out : List Bool} (hl : out.length = n) (x : Nat) : (rchR ls inn back n out).getD x false = true ↔ ∃ s, out.getD s false = true ∧ Rc (ER ls inn back) s x := by
  obtain ⟨h1, h2, h3, h4⟩ := rchR_inv (inn := inn) (back := back) hv (fun x => ∃ s, out.getD s false = true ∧ Rc (ER ls inn back) s x) (fun i hi hin ⟨s, hs, hr⟩ => ⟨s, hs, .tail hr ⟨i, hi, hin, rfl, rfl⟩⟩) n out hl (fun x hx => ⟨x, hx, .refl x⟩)
  refine ⟨h3 x, ?_⟩
  rintro ⟨s, hs, hr⟩
  have hsn : s < n := by
    rw [← hl]
    rcases Nat.lt_or_ge s out.length with h | h
    · exact h
    · rw [List.getD_eq_getElem?_getD, List.getElem?_eq_none h] at hs; cases hs
  have hcl := h4 (by have := cnt_pos hsn hs; omega)
  induction hr with
  | refl => exact h2 s hs
  | tail _ e ih =>
    obtain ⟨i, hi, hin, rfl, rfl⟩ := e
    exact hcl i hi hin ih
theorem rchR_len (hv : ValidG n ls) {out : List Bool} (hl : out.length = n) (k : Nat) : (rchR ls inn back k out).length = n := (rchR_inv (inn := inn) (back := back) hv (fun _ => True) (fun _ _ _ _ => trivial) k out hl (fun _ _ => trivial)).1
abbrev On (inn : List Bool) : Nat → Prop := fun k => inn.getD k false = true
theorem rc_fwd {x y : Nat} : Rc (ER ls inn false) x y ↔ ∃ w, Wk ls (On inn) x w y := by
  constructor
  · intro h
    induction h with
    | refl => exact ⟨[], .nil _⟩
    | tail _ e ih =>
      obtain ⟨w, hw⟩ := ih
      obtain ⟨k, h1, h2, rfl, rfl⟩ := e
      exact ⟨_, hw.app (.one h1 h2)⟩
  · rintro ⟨w, hw⟩
    induction hw with
    | nil x => exact .refl x
    | @cons k y w hk hp _ ih => exact (Rc.one ⟨k, hk, hp, rfl, rfl⟩).trans ih
theorem rc_bwd {x y : Nat} : Rc (ER ls inn true) x y ↔ ∃ w, Wk ls (On inn) y w x := by
  constructor
  · intro h
    induction h with
    | refl => exact ⟨[], .nil _⟩
    | tail _ e ih =>
      obtain ⟨w, hw⟩ := ih
      obtain ⟨k, h1, h2, rfl, rfl⟩ := e
      exact ⟨k :: w, .cons h1 h2 hw⟩
  · rintro ⟨w, hw⟩
    induction hw with
    | nil x => exact .refl x
    | @cons k y w hk hp _ ih => exact .tail ih ⟨k, hk, hp, rfl, rfl⟩
end
def oneR (n k : Nat) : List Bool := (List.replicate n false).set k true
def andB (n : Nat) (a b : List Bool) : List Bool := (List.range n).map fun i => a.getD i false && b.getD i false
def orB (n : Nat) (a b : List Bool) : List Bool := (List.range n).map fun i => a.getD i false || b.getD i false
theorem getD_rangeB {n : Nat} {f : Nat → Bool} {x : Nat} : ((List.range n).map f).getD x false = (decide (x < n) && f x) := by
  rw [List.getD_eq_getElem?_getD, List.getElem?_map]
  by_cases h : x < n
  · rw [List.getElem?_range h, decide_eq_true h]; simp
  · rw [List.getElem?_eq_none (by simpa using h), decide_eq_false h]; rfl
section
variable (n : Nat) (ls : List Arrow) (all : List Nat) (pairs : List (Nat × Nat))
def compR (inn : List Bool) (k : Nat) : List Bool := andB n (rchR ls inn false n (oneR n k)) (rchR ls inn true n (oneR n k))
def withinR (inn nodes : List Bool) : List Bool := (List.range ls.length).map fun i => inn.getD i false && nodes.getD (frOf ls i) false && nodes.getD (toOf ls i) false
def pairStep (inn : List Bool) (p : Nat × Nat) : List Bool := if (someR ls inn p.1 && !someR ls inn p.2) = true then withoutF ls inn p.1 else inn
def pairsR (inn : List Bool) : List Bool := pairs.foldl (pairStep ls) inn
def cStep (rec : List Bool → List Bool) (inn : List Bool) (s : List Bool × List Bool) (k : Nat) : List Bool × List Bool :=
  if s.2.getD k false = true then s
  else if (withinR ls inn (compR n ls inn k)).any id = false then (s.1, orB n s.2 (compR n ls inn k))
  else if all.any (fun m => !someR ls (withinR ls inn (compR n ls inn k)) m) = true then (s.1, orB n s.2 (compR n ls inn k))
  else if satR ls all pairs (withinR ls inn (compR n ls inn k)) = true then (orB n s.1 (compR n ls inn k), orB n s.2 (compR n ls inn k))
  else (orB n s.1 (andB n (compR n ls inn k) (rec (pairsR ls pairs (withinR ls inn (compR n ls inn k))))), orB n s.2 (compR n ls inn k))
def cTo (rec : List Bool → List Bool) (inn : List Bool) (k : Nat) : List Bool × List Bool := (List.range k).foldl (cStep n ls all pairs rec inn) (List.replicate n false, List.replicate n false)
def coresS : Nat → List Bool → List Bool
  | 0, _ => List.replicate n false
  | f + 1, inn => (cTo n ls all pairs (coresS f) inn n).1
end
section
variable {n : Nat} {ls : List Arrow} {all : List Nat} {pairs : List (Nat × Nat)} {inn : List Bool}
theorem oneR_at {k x : Nat} (hk : k < n) : (oneR n k).getD x false = true ↔ x = k := by
  unfold oneR
  rw [getD_setB (by simpa using hk)]
  split
  · simp_all
  · rename_i h
    simp only [h, iff_false]
    rw [List.getD_eq_getElem?_getD, List.getElem?_replicate]
    split <;> simp
theorem andB_at {a b : List Bool} {x : Nat} : (andB n a b).getD x false = true ↔ x < n ∧ a.getD x false = true ∧ b.getD x false = true := by unfold andB; rw [getD_rangeB]; simp
theorem orB_at {a b : List Bool} {x : Nat} : (orB n a b).getD x false = true ↔ x < n ∧ (a.getD x false = true ∨ b.getD x false = true) := by unfold orB; rw [getD_rangeB]; simp
theorem compR_at (hv : ValidG n ls) {k x : Nat} (hk : k < n) : (compR n ls inn k).getD x false = true ↔ x < n ∧ (∃ w, Wk ls (On inn) k w x) ∧ ∃ w, Wk ls (On inn) x w k := by
  unfold compR
  rw [andB_at, rchR_iff hv (by simp [oneR]), rchR_iff hv (by simp [oneR])]
  simp only [oneR_at hk, exists_eq_left, rc_fwd, rc_bwd]
theorem withinR_at {nodes : List Bool} {i : Nat} : (withinR ls inn nodes).getD i false = true ↔ i < ls.length ∧ inn.getD i false = true ∧ nodes.getD (frOf ls i) false = true ∧ nodes.getD (toOf ls i) false = true := by unfold withinR; rw [getD_rangeB]; simp [and_assoc]
theorem someR_iff {m : Nat} : someR ls inn m = true ↔ ∃ k, k < ls.length ∧ inn.getD k false = true ∧ hasM ls k m = true := by
  unfold someR
  rw [List.any_eq_true]
  constructor
  · rintro ⟨k, h1, h2⟩
    rw [Bool.and_eq_true] at h2
    exact ⟨k, List.mem_range.1 h1, h2⟩
  · rintro ⟨k, h1, h2⟩
    exact ⟨k, List.mem_range.2 h1, by rw [Bool.and_eq_true]; exact h2⟩
theorem Wk.next {P : Nat → Prop} {x y k : Nat} {w : List Nat} (h : Wk ls P x (k :: w) y) : Wk ls P (toOf ls k) w y := by cases h; assumption
theorem walk_inner (hv : ValidG n ls) {k x y : Nat} (hk : k < n) (hx : (compR n ls inn k).getD x false = true) (hy : (compR n ls inn k).getD y false = true) {w : List Nat} (hw : Wk ls (On inn) x w y) : Wk ls (On (withinR ls inn (compR n ls inn k))) x w y := by
  refine hw.mono fun j hj hp => ?_
  obtain ⟨hxn, ⟨a, ha⟩, b, hb⟩ := (compR_at hv hk).1 hx
  obtain ⟨hyn, ⟨c, hc⟩, d, hd⟩ := (compR_at hv hk).1 hy
  obtain ⟨A, B, rfl⟩ := List.append_of_mem hj
  obtain ⟨h1, h2⟩ := wk_split hw
  have hjl := (hw.all j hj).1
  obtain ⟨hv1, hv2, _⟩ := hv.ok _ (List.getElem_mem hjl)
  rw [← frOf_at hjl] at hv1
  rw [← toOf_at hjl] at hv2
  refine withinR_at.2 ⟨hjl, hp, (compR_at hv hk).2 ⟨hv1, ⟨_, ha.app h1⟩, _, h2.app hd⟩, (compR_at hv hk).2 ⟨hv2, ⟨_, (ha.app h1).app (.one hjl hp)⟩, ?_⟩⟩
  exact ⟨_, h2.next.app hd⟩
theorem core_mono {P Q : Nat → Prop} (h : ∀ k, P k → Q k) {x : Nat} (hc : CoreAt ls all pairs P x) : CoreAt ls all pairs Q x := by
  obtain ⟨w, h1, h2, h3⟩ := hc
  exact ⟨w, h1, h2.mono fun k _ => h k, h3⟩
theorem core_inner (hv : ValidG n ls) {k x : Nat} (hk : k < n) (hx : (compR n ls inn k).getD x false = true) : CoreAt ls all pairs (On inn) x ↔ CoreAt ls all pairs (On (withinR ls inn (compR n ls inn k))) x := by
  constructor
  · rintro ⟨w, h1, h2, h3⟩
    exact ⟨w, h1, walk_inner hv hk hx hx h2, h3⟩
  · exact core_mono fun j hj => (withinR_at.1 hj).2.1
theorem pairStep_core {p : Nat × Nat} (hp : p ∈ pairs) {x : Nat} : CoreAt ls all pairs (On inn) x ↔ CoreAt ls all pairs (On (pairStep ls inn p)) x := by
  unfold pairStep
  split
  · rename_i h
    simp only [Bool.and_eq_true, Bool.not_eq_true'] at h
    constructor
    · rintro ⟨w, h1, h2, h3⟩
      refine ⟨w, h1, h2.mono fun k hk hp' => ?_, h3⟩
      show (withoutF ls inn p.1).getD k false = true
      rw [withoutF_at (h2.all k hk).1, show inn.getD k false = true from hp']
      by_cases hm : hasM ls k p.1 = true
      · obtain ⟨j, hj, hm2⟩ := h3.2 p hp ⟨k, hk, hm⟩
        have := h2.all j hj
        have h9 := someR_iff.2 ⟨j, this.1, this.2, hm2⟩
        rw [h.2] at h9; cases h9
      · simpa using hm
    · refine core_mono fun k hk => ?_
      by_cases hkl : k < ls.length
      · have hk' : (withoutF ls inn p.1).getD k false = true := hk
        rw [withoutF_at hkl, Bool.and_eq_true] at hk'
        exact hk'.1
      · exfalso
        have hk' : (withoutF ls inn p.1).getD k false = true := hk
        unfold withoutF at hk'
        rw [List.getD_eq_getElem?_getD, List.getElem?_eq_none (by simpa using hkl)] at hk'
        cases hk'
  · exact Iff.rfl
theorem pairsR_core {x : Nat} : ∀ (ps : List (Nat × Nat)) (inn : List Bool), (∀ p ∈ ps, p ∈ pairs) → (CoreAt ls all pairs (On inn) x ↔ CoreAt ls all pairs (On (ps.foldl (pairStep ls) inn)) x)
  | [], _, _ => Iff.rfl
  | p :: ps, inn, h => (pairStep_core (h p (by simp))).trans (pairsR_core ps _ fun q hq => h q (by simp [hq]))
theorem pairStep_cnt (inn : List Bool) (p : Nat × Nat) : onCnt ls (pairStep ls inn p) < onCnt ls inn ∨ pairStep ls inn p = inn ∧ (someR ls inn p.1 && !someR ls inn p.2) = false := by
  unfold pairStep
  split
  · rename_i h
    rw [Bool.and_eq_true] at h
    obtain ⟨k, h1, h2, h3⟩ := someR_iff.1 h.1
    exact .inl (onCnt_without h1 h2 h3)
  · rename_i h
    exact .inr ⟨rfl, by simpa using h⟩
theorem pairsR_cnt : ∀ (ps : List (Nat × Nat)) (inn : List Bool), onCnt ls (ps.foldl (pairStep ls) inn) < onCnt ls inn ∨ ps.foldl (pairStep ls) inn = inn ∧ ∀ p ∈ ps, (someR ls inn p.1 && !someR ls inn p.2) = false
  | [], _ => .inr ⟨rfl, fun _ h => by cases h⟩
  | p :: ps, inn => by
    rw [List.foldl_cons]
    rcases pairsR_cnt ps (pairStep ls inn p) with h | ⟨h, h'⟩ <;> rcases pairStep_cnt (ls := ls) inn p with q | ⟨q, q'⟩
    · exact .inl (by omega)
    · rw [q] at h ⊢; exact .inl h
    · rw [h]; exact .inl q
    · rw [h]
      rw [q] at h'
      exact .inr ⟨q, fun r hr => by
        rcases List.mem_cons.1 hr with e | hr
        · rw [e]; exact q'
        · exact h' r hr⟩
theorem onCnt_within (nodes : List Bool) : onCnt ls (withinR ls inn nodes) ≤ onCnt ls inn := List.countP_mono_left fun x _ h => (withinR_at.1 h).2.1
theorem pairs_less {nodes : List Bool} (h1 : all.any (fun m => !someR ls (withinR ls inn nodes) m) = false) (h2 : satR ls all pairs (withinR ls inn nodes) = false) : onCnt ls (pairsR ls pairs (withinR ls inn nodes)) < onCnt ls inn := by
  have h3 := onCnt_within (ls := ls) (inn := inn) nodes
  rcases pairsR_cnt (ls := ls) pairs (withinR ls inn nodes) with h | ⟨_, h⟩
  · exact Nat.lt_of_lt_of_le h h3
  · exfalso
    have : satR ls all pairs (withinR ls inn nodes) = true := by
      unfold satR
      rw [Bool.and_eq_true, List.all_eq_true, List.all_eq_true]
      refine ⟨fun m hm => ?_, fun p hp => by rw [h p hp]; rfl⟩
      have := List.any_eq_false.1 h1 m hm
      simpa using this
    rw [h2] at this; cases this
theorem satR_sats {inn : List Bool} (h : satR ls all pairs inn = true) {w : List Nat} (hw : ∀ k, k ∈ w ↔ k < ls.length ∧ inn.getD k false = true) : Sats ls all pairs w := by
  simp only [satR, Bool.and_eq_true, List.all_eq_true] at h
  have e : ∀ m, (∃ k ∈ w, hasM ls k m = true) ↔ someR ls inn m = true := fun m => by
    rw [someR_iff]
    constructor
    · rintro ⟨k, hk, hm⟩; obtain ⟨a, b⟩ := (hw k).1 hk; exact ⟨k, a, b, hm⟩
    · rintro ⟨k, a, b, hm⟩; exact ⟨k, (hw k).2 ⟨a, b⟩, hm⟩
  refine ⟨fun m hm => (e m).2 (h.1 m hm), fun p hp h1 => (e _).2 ?_⟩
  have := h.2 p hp
  rw [(e _).1 h1] at this
  simpa using this
theorem core_all (hv : ValidG n ls) {k x : Nat} (hk : k < n) (hx : (compR n ls inn k).getD x false = true) (hne : (withinR ls inn (compR n ls inn k)).any id = true) (hs : satR ls all pairs (withinR ls inn (compR n ls inn k)) = true) : CoreAt ls all pairs (On inn) x := by
  rw [core_inner hv hk hx]
  obtain ⟨I, hI⟩ : ∃ I, I = withinR ls inn (compR n ls inn k) := ⟨_, rfl⟩
  rw [← hI] at hne hs ⊢
  have hIa : ∀ j, I.getD j false = true → j < ls.length ∧ inn.getD j false = true ∧ (compR n ls inn k).getD (frOf ls j) false = true ∧ (compR n ls inn k).getD (toOf ls j) false = true := fun j hj => by rw [hI] at hj; exact withinR_at.1 hj
  have hm : ∀ j, j ∈ (List.range ls.length).filter (fun j => I.getD j false) ↔ j < ls.length ∧ I.getD j false = true := fun j => by rw [List.mem_filter, List.mem_range]
  have hcm : ∀ y, y ∈ (List.range n).filter (fun y => (compR n ls inn k).getD y false) ↔ (compR n ls inn k).getD y false = true := fun y => by
    rw [List.mem_filter, List.mem_range]
    exact ⟨fun h => h.2, fun h => ⟨((compR_at hv hk).1 h).1, h⟩⟩
  obtain ⟨w, hw1, hw2⟩ := wk_tour (ls := ls) (c := (List.range n).filter fun y => (compR n ls inn k).getD y false) (l := (List.range ls.length).filter fun j => I.getD j false) (fun a ha b hb => by
    have ha' := (hcm a).1 ha
    have hb' := (hcm b).1 hb
    obtain ⟨_, _, u, hu⟩ := (compR_at hv hk).1 ha'
    obtain ⟨_, ⟨v, hv2⟩, _⟩ := (compR_at hv hk).1 hb'
    have hwk := walk_inner hv hk ha' hb' (hu.app hv2)
    rw [← hI] at hwk
    exact ⟨_, hwk.mono fun j hj hp => (hm j).2 ⟨(hwk.all j hj).1, hp⟩⟩) (fun j hj => by
      obtain ⟨h1, h2⟩ := (hm j).1 hj
      obtain ⟨_, _, h3, h4⟩ := hIa j h2
      exact ⟨h1, (hcm _).2 h3, (hcm _).2 h4⟩) ((hcm x).2 hx) ((List.range ls.length).filter fun j => I.getD j false) (fun j hj => hj)
  refine ⟨w, fun e => ?_, hw1.mono fun j _ hp => ((hm j).1 hp).2, satR_sats hs fun j => ⟨fun hj => (hm j).1 (hw1.all j hj).2, fun hj => hw2 j ((hm j).2 hj)⟩⟩
  rw [List.any_eq_true] at hne
  obtain ⟨b, hb, hbt⟩ := hne
  obtain ⟨j, hj, rfl⟩ := List.getElem_of_mem hb
  have hjt : I.getD j false = true := by rw [List.getD_eq_getElem?_getD, List.getElem?_eq_getElem hj]; exact hbt
  have := hw2 j ((hm j).2 ⟨(hIa j hjt).1, hjt⟩)
  rw [e] at this
  cases this
theorem any_id {l : List Bool} {j : Nat} (h : l.getD j false = true) : l.any id = true := by
  rw [List.any_eq_true]
  have hj : j < l.length := by
    rcases Nat.lt_or_ge j l.length with h' | h'
    · exact h'
    · rw [List.getD_eq_getElem?_getD, List.getElem?_eq_none h'] at h; cases h
  rw [List.getD_eq_getElem?_getD, List.getElem?_eq_getElem hj] at h
  exact ⟨_, List.getElem_mem hj, h⟩
theorem cTo_inv (hv : ValidG n ls) {rec : List Bool → List Bool} (hrec : ∀ inn', onCnt ls inn' < onCnt ls inn → ∀ x, (rec inn').getD x false = true ↔ x < n ∧ CoreAt ls all pairs (On inn') x) : ∀ k, k ≤ n →
    (∀ x, (cTo n ls all pairs rec inn k).1.getD x false = true ↔ (cTo n ls all pairs rec inn k).2.getD x false = true ∧ CoreAt ls all pairs (On inn) x) ∧ (∀ x, x < k → (cTo n ls all pairs rec inn k).2.getD x false = true) ∧ (∀ x, (cTo n ls all pairs rec inn k).2.getD x false = true → x < n)
  | 0, _ => by
    have hz : ∀ x, (List.replicate n false).getD x false = false := fun x => by
      rw [List.getD_eq_getElem?_getD, List.getElem?_replicate]
      split <;> simp
    refine ⟨fun x => ?_, fun x h => by omega, fun x h => ?_⟩
    · show (List.replicate n false).getD x false = true ↔ (List.replicate n false).getD x false = true ∧ _
      rw [hz]; simp
    · have h' : (List.replicate n false).getD x false = true := h
      rw [hz] at h'; cases h'
  | k + 1, hk => by
    obtain ⟨h1, h2, h3⟩ := cTo_inv hv hrec k (by omega)
    have hkn : k < n := by omega
    have e : cTo n ls all pairs rec inn (k + 1) = cStep n ls all pairs rec inn (cTo n ls all pairs rec inn k) k := by unfold cTo; rw [List.range_succ, List.foldl_append]; rfl
    rw [e]
    generalize cTo n ls all pairs rec inn k = s at *
    obtain ⟨out, done⟩ := s
    simp only at h1 h2 h3
    have hck : (compR n ls inn k).getD k false = true := (compR_at hv hkn).2 ⟨hkn, ⟨[], .nil k⟩, [], .nil k⟩
    have hcn : ∀ x, (compR n ls inn k).getD x false = true → x < n := fun x hx => ((compR_at hv hkn).1 hx).1
    have hd2 : ∀ x, x < k + 1 → (orB n done (compR n ls inn k)).getD x false = true := fun x hx => by
      rw [orB_at]
      refine ⟨by omega, ?_⟩
      by_cases hxk : x = k
      · subst hxk; exact .inr hck
      · exact .inl (h2 x (by omega))
    have hd3 : ∀ x, (orB n done (compR n ls inn k)).getD x false = true → x < n := fun x hx => (orB_at.1 hx).1

    have key : ∀ out' : List Bool, (∀ x, (out'.getD x false = true ↔ x < n ∧ (out.getD x false = true ∨ (compR n ls inn k).getD x false = true ∧ CoreAt ls all pairs (On inn) x))) → ∀ x, out'.getD x false = true ↔ (orB n done (compR n ls inn k)).getD x false = true ∧ CoreAt ls all pairs (On inn) x := fun out' h x => by
      rw [h, orB_at, h1]
      constructor
      · rintro ⟨a, ⟨b, c⟩ | ⟨b, c⟩⟩
        · exact ⟨⟨a, .inl b⟩, c⟩
        · exact ⟨⟨a, .inr b⟩, c⟩
      · rintro ⟨⟨a, b | b⟩, c⟩
        · exact ⟨a, .inl ⟨b, c⟩⟩
        · exact ⟨a, .inr ⟨b, c⟩⟩
    have keep : (∀ x, (compR n ls inn k).getD x false = true → ¬ CoreAt ls all pairs (On inn) x) → ∀ x, out.getD x false = true ↔ (orB n done (compR n ls inn k)).getD x false = true ∧ CoreAt ls all pairs (On inn) x := fun h => key out fun x => by
      constructor
      · intro hx
        exact ⟨h3 x ((h1 x).1 hx).1, .inl hx⟩
      · rintro ⟨_, a | ⟨a, b⟩⟩
        · exact a
        · exact absurd b (h x a)
    unfold cStep
    split
    · rename_i hdk
      refine ⟨h1, fun x hx => ?_, h3⟩
      by_cases hxk : x = k
      · subst hxk; exact hdk
      · exact h2 x (by omega)
    · split
      · rename_i _ hany
        refine ⟨keep fun x hx hc => ?_, hd2, hd3⟩
        rw [core_inner hv hkn hx] at hc
        obtain ⟨w, hne, hw, _⟩ := hc
        obtain ⟨j, r, rfl⟩ := List.exists_cons_of_ne_nil hne
        have := any_id (hw.all j (by simp)).2
        rw [hany] at this; cases this
      · split
        · rename_i _ hany hall
          refine ⟨keep fun x hx hc => ?_, hd2, hd3⟩
          rw [core_inner hv hkn hx] at hc
          obtain ⟨w, hne, hw, hs⟩ := hc
          rw [List.any_eq_true] at hall
          obtain ⟨m, hm, hno⟩ := hall
          obtain ⟨j, hj, hjm⟩ := hs.1 m hm
          have := someR_iff.2 ⟨j, (hw.all j hj).1, (hw.all j hj).2, hjm⟩
          rw [this] at hno; cases hno
        · split
          · rename_i _ hany hall hsat
            refine ⟨key _ fun x => ?_, hd2, hd3⟩
            rw [orB_at]
            constructor
            · rintro ⟨a, b | b⟩
              · exact ⟨a, .inl b⟩
              · exact ⟨a, .inr ⟨b, core_all hv hkn b (by simpa using hany) hsat⟩⟩
            · rintro ⟨a, b | b⟩
              · exact ⟨a, .inl b⟩
              · exact ⟨a, .inr b.1⟩
          · rename_i _ hany hall hsat
            have hlt := pairs_less (ls := ls) (all := all) (pairs := pairs) (inn := inn) (nodes := compR n ls inn k) (by simpa using hall) (by simpa using hsat)
            have hr := hrec _ hlt
            refine ⟨key _ fun x => ?_, hd2, hd3⟩
            rw [orB_at, andB_at, hr]
            have hcx : ∀ x, (compR n ls inn k).getD x false = true → (CoreAt ls all pairs (On (pairsR ls pairs (withinR ls inn (compR n ls inn k)))) x ↔ CoreAt ls all pairs (On inn) x) := fun x hx => by
              rw [core_inner hv hkn hx]
              exact (pairsR_core pairs _ fun p hp => hp).symm
            constructor
            · rintro ⟨a, b | ⟨_, b, _, c⟩⟩
              · exact ⟨a, .inl b⟩
              · exact ⟨a, .inr ⟨b, (hcx x b).1 c⟩⟩
            · rintro ⟨a, b | ⟨b, c⟩⟩
              · exact ⟨a, .inl b⟩
              · exact ⟨a, .inr ⟨a, b, a, (hcx x b).2 c⟩⟩
theorem coresS_iff (hv : ValidG n ls) : ∀ (f : Nat) (inn : List Bool), onCnt ls inn < f → ∀ x, (coresS n ls all pairs f inn).getD x false = true ↔ x < n ∧ CoreAt ls all pairs (On inn) x
  | 0, _, h => by omega
  | f + 1, inn, h => fun x => by
    obtain ⟨h1, h2, h3⟩ := cTo_inv (inn := inn) (all := all) (pairs := pairs) hv (rec := coresS n ls all pairs f) (fun inn' hlt => coresS_iff hv f inn' (by omega)) n (Nat.le_refl _)
    show (cTo n ls all pairs (coresS n ls all pairs f) inn n).1.getD x false = true ↔ _
    rw [h1]
    exact ⟨fun ⟨a, b⟩ => ⟨h3 x a, b⟩, fun ⟨a, b⟩ => ⟨h2 x a, b⟩⟩
end
end Go.Proofs.YtnanffbjmfgafaaGreat.S
namespace Go.Proofs.YtnanffbjmfgafaaGreat.S
open Go.RowKit
theorem rankM_at {nodes rk : List Nat} (hn : nodes.Nodup) : ∀ (i : Nat), i ≤ nodes.length → ∀ j (hj : j < i), lowOf (rankM nodes rk i) (nodes.getD j 0) = rk.getD j 0
  | 0, _, j, hj => by omega
  | i + 1, hi, j, hj => by
    rw [rankM_succ, lowOf_sk]
    have hjl : j < nodes.length := by omega
    have hil : i < nodes.length := by omega
    have e1 : nodes.getD j 0 = nodes[j] := by rw [List.getD_eq_getElem?_getD, List.getElem?_eq_getElem hjl]; rfl
    have e2 : nodes.getD i 0 = nodes[i] := by rw [List.getD_eq_getElem?_getD, List.getElem?_eq_getElem hil]; rfl
    by_cases h : j = i
    · subst h; rw [if_pos rfl]
    · have hne : nodes.getD j 0 ≠ nodes.getD i 0 := by
        rw [e1, e2]
        intro e
        exact h ((List.getElem_inj hn).1 e)
      rw [if_neg hne]
      exact rankM_at hn i (by omega) j (by omega)
theorem mem_partAt {nodes rk : List Nat} (hn : nodes.Nodup) {v x : Nat} : x ∈ partAt nodes rk nodes.length v ↔ x ∈ nodes ∧ lowOf (rankM nodes rk nodes.length) x = v := by
  have e : ∀ j (hj : j < nodes.length), nodes.getD j 0 = nodes[j] := fun j hj => by rw [List.getD_eq_getElem?_getD, List.getElem?_eq_getElem hj]; rfl
  unfold partAt
  rw [List.mem_map]
  constructor
  · rintro ⟨j, hj, rfl⟩
    obtain ⟨h1, h2⟩ := List.mem_filter.1 hj
    have hjl := List.mem_range.1 h1
    exact ⟨by rw [e j hjl]; exact List.getElem_mem hjl, by rw [rankM_at hn _ (Nat.le_refl _) j hjl]; exact of_decide_eq_true h2⟩
  · rintro ⟨hx, hv⟩
    obtain ⟨j, hj, rfl⟩ := List.getElem_of_mem hx
    refine ⟨j, List.mem_filter.2 ⟨List.mem_range.2 hj, decide_eq_true ?_⟩, e j hj⟩
    rw [← e j hj, rankM_at hn _ (Nat.le_refl _) j hj] at hv
    exact hv
theorem partAt_sub (nodes rk : List Nat) (v : Nat) : (partAt nodes rk nodes.length v).Sublist nodes := by
  unfold partAt
  have h1 : ((List.range nodes.length).filter fun j => decide (rk.getD j 0 = v)).Sublist (List.range nodes.length) := List.filter_sublist
  have h2 := h1.map fun j => nodes.getD j 0
  have h3 : (List.range nodes.length).map (fun j => nodes.getD j 0) = nodes := by
    apply List.ext_getElem
    · simp
    · intro j a b
      simp [List.getD_eq_getElem?_getD, List.getElem?_eq_getElem b]
  rw [h3] at h2
  exact h2
section
variable {ls : List Arrow} {all : List Nat} {pairs : List (Nat × Nat)}
def NoRound (ls : List Arrow) (all : List Nat) (pairs : List (Nat × Nat)) (nodes : List Nat) (on : List Bool) : Prop :=
  ∀ x w, x ∈ nodes → w ≠ [] → Wk ls (fun k => on.getD k false = true ∧ toOf ls k ∈ nodes) x w x → ¬ Sats ls all pairs w
end
end Go.Proofs.YtnanffbjmfgafaaGreat.S
namespace Go.Proofs.YtnanffbjmfgafaaGreat.S
open Go.RowKit
section
variable {ls : List Arrow} {nodes : List Nat} {on : List Bool}
theorem lvFold_ge {lv : List (Nat × Nat)} {c : List Nat} : ∀ (l : List Nat) (m : Nat), m ≤ l.foldl (lvStep ls nodes on lv c) m
  | [], m => Nat.le_refl _
  | k :: l, m => by
    rw [List.foldl_cons]
    refine Nat.le_trans ?_ (lvFold_ge l _)
    unfold lvStep
    split
    · exact Nat.le_max_left _ _
    · exact Nat.le_refl _
theorem lvFold_at {lv : List (Nat × Nat)} {c : List Nat} : ∀ (l : List Nat) (m k : Nat), k ∈ l → arrIn ls nodes on k = true → toOf ls k ∉ c → lowOf lv (toOf ls k) + 1 ≤ l.foldl (lvStep ls nodes on lv c) m
  | [], m, k, h, _, _ => by cases h
  | j :: l, m, k, h, h1, h2 => by
    rw [List.foldl_cons]
    rcases List.mem_cons.1 h with e | h
    · subst e
      refine Nat.le_trans ?_ (lvFold_ge l _)
      unfold lvStep
      rw [if_pos (by rw [h1]; simpa using h2)]
      exact Nat.le_max_right _ _
    · exact lvFold_at l _ k h h1 h2
theorem lvN_at {lv : List (Nat × Nat)} {c : List Nat} {x y : Nat} (hx : x ∈ c) (hy : y ∉ c) (he : EdgeP ls nodes on x y) : lowOf lv y < lvN ls nodes on lv c := by
  obtain ⟨k, h1, h2, rfl⟩ := he
  exact lvFold_at _ 0 k (List.mem_flatMap.2 ⟨x, hx, h1⟩) h2 hy
structure RkI (ls : List Arrow) (nodes : List Nat) (on : List Bool) (ps : List (List Nat)) (s : RkS) : Prop where
  flat : ∀ c ∈ ps, ∀ x ∈ c, ∀ y ∈ c, lowOf s.lv x = lowOf s.lv y
  lt : ∀ c ∈ ps, ∀ x ∈ c, lowOf s.lv x < s.gr
  down : ∀ c ∈ ps, ∀ x ∈ c, ∀ y, y ∉ c → EdgeP ls nodes on x y → lowOf s.lv y < lowOf s.lv x
  al : ∀ v x, x ∈ alAt s.al v ↔ ∃ c ∈ ps, (withinF ls c on).length = 0 ∧ x ∈ c ∧ lowOf s.lv x = v
  aln : ∀ v, (alAt s.al v).Nodup
  ot : s.ot = ps.filter fun c => decide ((withinF ls c on).length ≠ 0)
theorem RkI.step {ps : List (List Nat)} {s : RkS} {c : List Nat} (h : RkI ls nodes on ps s) (hd : (ps ++ [c]).flatten.Nodup) (hne : c ≠ []) (hord : ∀ x ∈ c, ∀ y, EdgeP ls nodes on x y → y ∈ c ∨ ∃ d ∈ ps, y ∈ d)
    (hold : ∀ d ∈ ps, ∀ x ∈ d, ∀ y, EdgeP ls nodes on x y → ∃ e ∈ ps, y ∈ e) : RkI ls nodes on (ps ++ [c]) (rkStep ls nodes on s c) := by
  rw [List.flatten_append] at hd
  simp only [List.flatten_cons, List.flatten_nil, List.append_nil] at hd
  obtain ⟨hd1, hd2, hd3⟩ := List.nodup_append.1 hd
  have hnc : ∀ d ∈ ps, ∀ x ∈ d, x ∉ c := fun d hdm x hx hxc => hd3 x (List.mem_flatten.2 ⟨d, hdm, hx⟩) x hxc rfl
  have hlv : ∀ x, lowOf (rkStep ls nodes on s c).lv x = if x ∈ c then lvN ls nodes on s.lv c else lowOf s.lv x := fun x => lowOf_setAll c s.lv _ x
  have hlo : ∀ d ∈ ps, ∀ x ∈ d, lowOf (rkStep ls nodes on s c).lv x = lowOf s.lv x := fun d hdm x hx => by rw [hlv, if_neg (hnc d hdm x hx)]
  have hgr : (rkStep ls nodes on s c).gr = max s.gr (lvN ls nodes on s.lv c + 1) := rfl
  have hal : ∀ v, alAt (rkStep ls nodes on s c).al v = if (withinF ls c on).length = 0 ∧ v = lvN ls nodes on s.lv c then alAt s.al v ++ c else alAt s.al v := fun v => by
    show alAt (if (withinF ls c on).length = 0 then sk s.al (lvN ls nodes on s.lv c) (alAt s.al (lvN ls nodes on s.lv c) ++ c) else s.al) v = _
    split
    · rename_i h0
      rw [alAt_sk]
      by_cases e : v = lvN ls nodes on s.lv c
      · subst e; rw [if_pos rfl, if_pos ⟨h0, rfl⟩]
      · rw [if_neg e, if_neg (fun h => e h.2)]
    · rename_i h0
      rw [if_neg (fun h => h0 h.1)]
  have halo : ∀ v x, x ∈ alAt s.al v → x ∉ c := fun v x hx => by
    obtain ⟨d, hdm, _, hxd, _⟩ := (h.al v x).1 hx
    exact hnc d hdm x hxd
  refine ⟨fun d hdm x hx y hy => ?_, fun d hdm x hx => ?_, fun d hdm x hx y hy he => ?_, fun v x => ?_, fun v => ?_, ?_⟩
  · rcases List.mem_append.1 hdm with hdm | hdm
    · rw [hlo d hdm x hx, hlo d hdm y hy]; exact h.flat d hdm x hx y hy
    · rw [List.mem_singleton.1 hdm] at hx hy
      rw [hlv, hlv, if_pos hx, if_pos hy]
  · rcases List.mem_append.1 hdm with hdm | hdm
    · rw [hlo d hdm x hx, hgr]
      have := h.lt d hdm x hx
      omega
    · rw [List.mem_singleton.1 hdm] at hx
      rw [hlv, if_pos hx, hgr]
      omega
  · rcases List.mem_append.1 hdm with hdm | hdm
    · obtain ⟨e, hem, hye⟩ := hold d hdm x hx y he
      rw [hlo d hdm x hx, hlo e hem y hye]
      exact h.down d hdm x hx y hy he
    · rw [List.mem_singleton.1 hdm] at hx hy
      rw [hlv, hlv, if_pos hx, if_neg hy]
      exact lvN_at hx hy he
  · rw [hal]
    constructor
    · intro hx
      split at hx
      · rename_i h0
        rcases List.mem_append.1 hx with hx | hx
        · obtain ⟨d, hdm, q1, q2, q3⟩ := (h.al v x).1 hx
          exact ⟨d, List.mem_append_left _ hdm, q1, q2, by rw [hlo d hdm x q2]; exact q3⟩
        · exact ⟨c, by simp, h0.1, hx, by rw [hlv, if_pos hx, h0.2]⟩
      · obtain ⟨d, hdm, q1, q2, q3⟩ := (h.al v x).1 hx
        exact ⟨d, List.mem_append_left _ hdm, q1, q2, by rw [hlo d hdm x q2]; exact q3⟩
    · rintro ⟨d, hdm, q1, q2, q3⟩
      rcases List.mem_append.1 hdm with hdm | hdm
      · rw [hlo d hdm x q2] at q3
        have hx := (h.al v x).2 ⟨d, hdm, q1, q2, q3⟩
        split
        · exact List.mem_append_left _ hx
        · exact hx
      · rw [List.mem_singleton.1 hdm] at q1 q2
        rw [hlv, if_pos q2] at q3
        rw [if_pos ⟨q1, q3.symm⟩]
        exact List.mem_append_right _ q2
  · rw [hal]
    split
    · exact List.nodup_append.2 ⟨h.aln v, hd2, fun a ha b hb e => halo v a ha (e ▸ hb)⟩
    · exact h.aln v
  · show (if (withinF ls c on).length = 0 then s.ot else s.ot ++ [c]) = _
    rw [List.filter_append, h.ot]
    by_cases h0 : (withinF ls c on).length = 0
    · rw [if_pos h0, List.filter_cons, if_neg (by rw [decide_eq_true_eq]; exact fun h => h h0), List.filter_nil, List.append_nil]
    · rw [if_neg h0, List.filter_cons, if_pos (decide_eq_true h0), List.filter_nil]
theorem rk_all {parts : List (List Nat)} (hc : CompsOk ls nodes on parts) : ∀ i, i ≤ parts.length → RkI ls nodes on (parts.take i) (rkAll ls nodes on (parts.take i))
  | 0, _ => ⟨fun c h => by simp at h, fun c h => by simp at h, fun c h => by simp at h, fun v x => by simp [rkAll, alAt, lk], fun v => by simp [rkAll, alAt, lk], by simp [rkAll]⟩
  | i + 1, hi => by
    have ih := rk_all hc i (by omega)
    have hil : i < parts.length := by omega
    rw [List.take_succ_eq_append_getElem hil, rkAll_snoc]
    have mem_take : ∀ j (hj : j < parts.length), j < i → parts[j] ∈ parts.take i := fun j hj hji => by
      have : (parts.take i)[j]'(by rw [List.length_take]; omega) = parts[j] := by simp
      rw [← this]; exact List.getElem_mem _
    refine ih.step ?_ (hc.scc _ (List.getElem_mem hil)).1 (fun x hx y he => ?_) fun d hd x hx y he => ?_
    · rw [← List.take_succ_eq_append_getElem hil]
      have := hc.nodup
      rw [← List.take_append_drop (i + 1) parts, List.flatten_append] at this
      exact (List.nodup_append.1 this).1
    · obtain ⟨j, hj, hji, hy⟩ := hc.ord i hil x hx y he
      by_cases e : j = i
      · subst e; exact .inl hy
      · exact .inr ⟨_, mem_take j hj (by omega), hy⟩
    · obtain ⟨j, hj, rfl⟩ := List.getElem_of_mem hd
      rw [List.length_take] at hj
      have hx' : x ∈ parts[j] := by simpa using hx
      obtain ⟨j', hj', hji, hy⟩ := hc.ord j (by omega) x hx' y he
      exact ⟨_, mem_take j' hj' (by omega), hy⟩
structure RowsOk (ls : List Arrow) (nodes : List Nat) (on : List Bool) (parts rs : List (List Nat)) : Prop where
  mem : ∀ x, x ∈ rs.flatten ↔ x ∈ nodes
  nodup : rs.flatten.Nodup
  kind : ∀ r ∈ rs, r ≠ [] ∧ r.Pairwise (· ≤ ·) ∧ ((withinF ls r on).length = 0 ∨ r ∈ parts)
  down : ∀ i (hi : i < rs.length) j (hj : j < rs.length), ∀ x ∈ rs[i], ∀ y ∈ rs[j], EdgeP ls nodes on x y → j ≤ i
theorem getD_head {c : List Nat} (h : c ≠ []) : c.getD 0 0 ∈ c := by
  obtain ⟨x, r, rfl⟩ := List.exists_cons_of_ne_nil h
  simp
theorem ranked_ok {parts : List (List Nat)} (hc : CompsOk ls nodes on parts) : RowsOk ls nodes on parts (rankedF ls nodes on parts) := by
  have hI := rk_all hc parts.length (Nat.le_refl _)
  rw [List.take_length] at hI
  obtain ⟨s, hs⟩ : ∃ s, s = rkAll ls nodes on parts := ⟨_, rfl⟩
  rw [← hs] at hI
  have hrs : rankedF ls nodes on parts = (List.range s.gr).flatMap (rkOutAt s) := by rw [hs]; rfl
  rw [hrs]
  have hout : ∀ v r, r ∈ rkOutAt s v → (alAt s.al v ≠ [] ∧ r = sortN (alAt s.al v)) ∨ (r ∈ parts ∧ (withinF ls r on).length ≠ 0 ∧ lowOf s.lv (r.getD 0 0) = v) := fun v r hr => by
    unfold rkOutAt at hr
    rcases List.mem_append.1 hr with hr | hr
    · split at hr
      · cases hr
      · rename_i h0
        exact .inl ⟨fun e => h0 (by rw [e]; rfl), List.mem_singleton.1 hr⟩
    · obtain ⟨h1, h2⟩ := List.mem_filter.1 hr
      rw [hI.ot] at h1
      obtain ⟨h3, h4⟩ := List.mem_filter.1 h1
      exact .inr ⟨h3, of_decide_eq_true h4, of_decide_eq_true h2⟩
  have hlev : ∀ v r, r ∈ rkOutAt s v → ∀ x ∈ r, lowOf s.lv x = v := fun v r hr x hx => by
    rcases hout v r hr with ⟨_, rfl⟩ | ⟨h1, h2, h3⟩
    · obtain ⟨c, _, _, _, h⟩ := (hI.al v x).1 ((sortN_perm _).mem_iff.1 hx)
      exact h
    · rw [← h3]
      exact hI.flat r h1 x hx _ (getD_head (hc.scc r h1).1)
  have hnode : ∀ c ∈ parts, ∀ x ∈ c, x ∈ nodes := fun c hcm x hx => (hc.mem x).1 (List.mem_flatten.2 ⟨c, hcm, hx⟩)
  have hlevels : ((List.range s.gr).flatMap (rkOutAt s)).Pairwise fun r1 r2 => ∀ x ∈ r1, ∀ y ∈ r2, lowOf s.lv x ≤ lowOf s.lv y := by
    rw [List.flatMap_def]
    refine List.pairwise_flatten.2 ⟨fun l hl => ?_, ?_⟩
    · obtain ⟨v, _, rfl⟩ := List.mem_map.1 hl
      exact List.pairwise_iff_getElem.2 fun i j hi hj _ x hx y hy => by
        rw [hlev v _ (List.getElem_mem hi) x hx, hlev v _ (List.getElem_mem hj) y hy]
        exact Nat.le_refl _
    · rw [List.pairwise_map]
      refine (List.pairwise_lt_range).imp fun {v1 v2} hv r1 hr1 r2 hr2 x hx y hy => ?_
      rw [hlev v1 r1 hr1 x hx, hlev v2 r2 hr2 y hy]
      exact Nat.le_of_lt hv
  have hdisj : ((List.range s.gr).flatMap (rkOutAt s)).Pairwise fun r1 r2 => ∀ x ∈ r1, ∀ y ∈ r2, x ≠ y := by
    rw [List.flatMap_def]
    refine List.pairwise_flatten.2 ⟨fun l hl => ?_, ?_⟩
    · obtain ⟨v, _, rfl⟩ := List.mem_map.1 hl
      unfold rkOutAt
      refine List.pairwise_append.2 ⟨by split <;> simp, ?_, fun r1 hr1 r2 hr2 x hx y hy e => ?_⟩
      · refine List.Pairwise.sublist List.filter_sublist ?_
        rw [hI.ot]
        exact List.Pairwise.sublist List.filter_sublist (List.pairwise_flatten.1 hc.nodup).2
      · subst e
        split at hr1
        · cases hr1
        · rw [List.mem_singleton.1 hr1] at hx
          obtain ⟨c, hcm, h1, h2, _⟩ := (hI.al v x).1 ((sortN_perm _).mem_iff.1 hx)
          have hr2' := (List.mem_filter.1 hr2).1
          rw [hI.ot] at hr2'
          obtain ⟨h3, h4⟩ := List.mem_filter.1 hr2'
          obtain ⟨i, hi, rfl⟩ := List.getElem_of_mem hcm
          obtain ⟨j, hj, rfl⟩ := List.getElem_of_mem h3
          have := comp_uniq hc.nodup hi hj h2 hy
          subst this
          exact of_decide_eq_true h4 h1
    · rw [List.pairwise_map]
      refine (List.pairwise_lt_range).imp fun {v1 v2} hv r1 hr1 r2 hr2 x hx y hy e => ?_
      have h1 := hlev v1 r1 hr1 x hx
      have h2 := hlev v2 r2 hr2 y hy
      rw [e] at h1
      omega
  have hin : ∀ r, r ∈ (List.range s.gr).flatMap (rkOutAt s) → ∃ v, v < s.gr ∧ r ∈ rkOutAt s v := fun r hr => by
    obtain ⟨v, hv, hr⟩ := List.mem_flatMap.1 hr
    exact ⟨v, List.mem_range.1 hv, hr⟩
  have hsub : ∀ v r, r ∈ rkOutAt s v → ∀ x ∈ r, x ∈ nodes := fun v r hr x hx => by
    rcases hout v r hr with ⟨_, rfl⟩ | ⟨h1, _⟩
    · obtain ⟨c, hcm, _, hxc, _⟩ := (hI.al v x).1 ((sortN_perm _).mem_iff.1 hx)
      exact hnode c hcm x hxc
    · exact hnode r h1 x hx
  refine ⟨fun x => ⟨fun hx => ?_, fun hx => ?_⟩, ?_, fun r hr => ?_, fun i hi j hj x hx y hy he => ?_⟩
  · obtain ⟨r, hr, hxr⟩ := List.mem_flatten.1 hx
    obtain ⟨v, _, hr⟩ := hin r hr
    exact hsub v r hr x hxr
  · obtain ⟨c, hcm, hxc⟩ := List.mem_flatten.1 ((hc.mem x).2 hx)
    have hlt := hI.lt c hcm x hxc
    by_cases h0 : (withinF ls c on).length = 0
    · have hxa := (hI.al (lowOf s.lv x) x).2 ⟨c, hcm, h0, hxc, rfl⟩
      refine List.mem_flatten.2 ⟨sortN (alAt s.al (lowOf s.lv x)), List.mem_flatMap.2 ⟨_, List.mem_range.2 hlt, ?_⟩, (sortN_perm _).mem_iff.2 hxa⟩
      unfold rkOutAt
      rw [if_neg (by rw [List.length_eq_zero_iff]; exact List.ne_nil_of_mem hxa)]
      simp
    · refine List.mem_flatten.2 ⟨c, List.mem_flatMap.2 ⟨_, List.mem_range.2 hlt, ?_⟩, hxc⟩
      unfold rkOutAt
      refine List.mem_append_right _ (List.mem_filter.2 ⟨?_, decide_eq_true (hI.flat c hcm _ (getD_head (hc.scc c hcm).1) x hxc)⟩)
      rw [hI.ot]
      exact List.mem_filter.2 ⟨hcm, decide_eq_true h0⟩
  · refine List.pairwise_flatten.2 ⟨fun r hr => ?_, hdisj⟩
    obtain ⟨v, _, hr⟩ := hin r hr
    rcases hout v r hr with ⟨_, rfl⟩ | ⟨h1, _⟩
    · exact (sortN_perm _).nodup_iff.2 (hI.aln v)
    · exact comp_nodup hc.nodup h1
  · obtain ⟨v, _, hr⟩ := hin r hr
    rcases hout v r hr with ⟨h0, rfl⟩ | ⟨h1, h2, _⟩
    · refine ⟨fun e => h0 ?_, sortN_sorted _, .inl ?_⟩
      · have := (sortN_perm (alAt s.al v)).length_eq
        rw [e] at this
        exact List.length_eq_zero_iff.1 this.symm
      · rw [List.length_eq_zero_iff, List.eq_nil_iff_forall_not_mem]
        intro k hk
        obtain ⟨q1, q2, q3, q4⟩ := mem_withinF.1 hk
        obtain ⟨c, hcm, h1, h2, h3⟩ := (hI.al v _).1 ((sortN_perm _).mem_iff.1 q2)
        obtain ⟨d, hdm, h4, h5, h6⟩ := (hI.al v _).1 ((sortN_perm _).mem_iff.1 q4)
        by_cases hto : toOf ls k ∈ c
        · have : k ∈ withinF ls c on := mem_withinF.2 ⟨q1, h2, q3, hto⟩
          rw [List.length_eq_zero_iff.1 h1] at this
          cases this
        · have := hI.down c hcm _ h2 _ hto (edge_iff.2 ⟨k, q1, rfl, rfl, q3, hnode d hdm _ h5⟩)
          omega
    · exact ⟨(hc.scc r h1).1, (hc.scc r h1).2.1, .inr h1⟩
  · by_cases hji : j ≤ i
    · exact hji
    · exfalso
      have hle := List.pairwise_iff_getElem.1 hlevels i j hi hj (by omega) x hx y hy
      obtain ⟨v, _, hr⟩ := hin _ (List.getElem_mem hi)
      obtain ⟨v2, _, hr2⟩ := hin _ (List.getElem_mem hj)
      have hxn := hsub v _ hr x hx
      obtain ⟨c, hcm, hxc⟩ := List.mem_flatten.1 ((hc.mem x).2 hxn)
      have hne : x ≠ y := List.pairwise_iff_getElem.1 hdisj i j hi hj (by omega) x hx y hy
      by_cases hyc : y ∈ c
      ·
        obtain ⟨k, q1, q2, q3, q4, _⟩ := edge_iff.1 he
        have hkc : k ∈ withinF ls c on := mem_withinF.2 ⟨q1, by rw [q2]; exact hxc, q4, by rw [q3]; exact hyc⟩
        have hw0 : (withinF ls c on).length ≠ 0 := fun e => by rw [List.length_eq_zero_iff.1 e] at hkc; cases hkc
        have hcr : ∀ v r, r ∈ rkOutAt s v → ∀ z ∈ r, z ∈ c → r = c := fun v r hr z hz hzc => by
          rcases hout v r hr with ⟨_, rfl⟩ | ⟨h1, _⟩
          · obtain ⟨d, hdm, h2, h3, _⟩ := (hI.al v z).1 ((sortN_perm _).mem_iff.1 hz)
            exfalso
            obtain ⟨a, ha, rfl⟩ := List.getElem_of_mem hcm
            obtain ⟨b, hb, rfl⟩ := List.getElem_of_mem hdm
            have := comp_uniq hc.nodup ha hb hzc h3
            subst this
            exact hw0 h2
          · obtain ⟨a, ha, rfl⟩ := List.getElem_of_mem hcm
            obtain ⟨b, hb, rfl⟩ := List.getElem_of_mem h1
            have := comp_uniq hc.nodup ha hb hzc hz
            subst this
            rfl
        have e1 := hcr v _ hr x hx hxc
        have e2 := hcr v2 _ hr2 y hy hyc
        have := List.pairwise_iff_getElem.1 hdisj i j hi hj (by omega) x hx x (by rw [e2, ← e1]; exact hx)
        exact this rfl
      · have := hI.down c hcm x hxc y hyc he
        omega
end
end Go.Proofs.YtnanffbjmfgafaaGreat.S
namespace Go.Proofs.YtnanffbjmfgafaaGreat.S
open Go.RowKit
theorem lack3 {ms : List Bool} {all : List Nat} {pairs : List (Nat × Nat)} {i : Nat} (h : lackingF ms all pairs = (3, i)) : i < all.length ∧ ms.getD (all.getD i 0) false = false := by
  unfold lackingF at h
  split at h
  · rename_i j hj
    cases h
    obtain ⟨h1, h2, _⟩ := List.findIdx?_eq_some_iff_getElem.1 hj
    refine ⟨h1, ?_⟩
    rw [List.getD_eq_getElem?_getD (l := all), List.getElem?_eq_getElem h1]
    simpa using h2
  · split at h <;> simp at h
theorem lack4 {ms : List Bool} {all : List Nat} {pairs : List (Nat × Nat)} {i : Nat} (h : lackingF ms all pairs = (4, i)) : i < pairs.length ∧ ms.getD (pairs.getD i (0, 0)).1 false = true ∧ ms.getD (pairs.getD i (0, 0)).2 false = false := by
  unfold lackingF at h
  split at h
  · simp at h
  · split at h
    · rename_i j hj
      cases h
      obtain ⟨h1, h2, _⟩ := List.findIdx?_eq_some_iff_getElem.1 hj
      refine ⟨h1, ?_⟩
      rw [List.getD_eq_getElem?_getD (l := pairs), List.getElem?_eq_getElem h1]
      simpa using h2
    · simp at h
theorem ixIn_at {nodes : List Nat} (h : nodes.Pairwise (· < ·)) {j : Nat} (hj : j < nodes.length) : ixIn nodes nodes[j] = j := by
  unfold ixIn
  have e : nodes = nodes.take j ++ nodes.drop j := (List.take_append_drop j nodes).symm
  have h1 : (nodes.take j).countP (fun y => decide (y < nodes[j])) = j := by
    rw [List.countP_eq_length.2, List.length_take]
    · omega
    · intro x hx
      obtain ⟨i, hi, rfl⟩ := List.getElem_of_mem hx
      rw [List.length_take] at hi
      rw [List.getElem_take]
      exact decide_eq_true (List.pairwise_iff_getElem.1 h i j (by omega) hj (by omega))
  have h2 : (nodes.drop j).countP (fun y => decide (y < nodes[j])) = 0 := by
    rw [List.countP_eq_zero]
    intro x hx
    obtain ⟨i, hi, rfl⟩ := List.getElem_of_mem hx
    rw [List.length_drop] at hi
    rw [List.getElem_drop]
    rw [decide_eq_true_eq]
    rcases Nat.eq_zero_or_pos i with e0 | e0
    · subst e0; exact Nat.lt_irrefl nodes[j]
    · have := List.pairwise_iff_getElem.1 h j (j + i) hj (by omega) (by omega)
      omega
  calc nodes.countP (fun y => decide (y < nodes[j])) = (nodes.take j ++ nodes.drop j).countP (fun y => decide (y < nodes[j])) := by rw [List.take_append_drop]
    _ = j := by rw [List.countP_append, h1, h2, Nat.add_zero]
theorem rankRow_at {nodes : List Nat} (h : nodes.Pairwise (· < ·)) (v : Nat) : ∀ (r rk : List Nat), (∀ x ∈ r, x ∈ nodes) → rk.length = nodes.length → ∀ j (hj : j < nodes.length), (rankRow nodes rk r v).getD j 0 = if nodes[j] ∈ r then v else rk.getD j 0
  | [], rk, _, _, j, hj => by simp [rankRow]
  | x :: r, rk, hr, hl, j, hj => by
    have e : rankRow nodes rk (x :: r) v = rankRow nodes (rk.set (ixIn nodes x) v) r v := rfl
    rw [e, rankRow_at h v r _ (fun y hy => hr y (by simp [hy])) (by simpa using hl) j hj]
    obtain ⟨i, hi, rfl⟩ := List.getElem_of_mem (hr x (by simp))
    rw [ixIn_at h hi]
    by_cases h1 : nodes[j] ∈ r
    · simp [h1]
    · rw [if_neg h1]
      by_cases h2 : i = j
      · subst h2
        rw [if_pos (by simp), List.getD_eq_getElem?_getD, List.getElem?_set_self (by omega)]
        rfl
      · have hne : nodes[j] ≠ nodes[i] := by
          rcases Nat.lt_or_gt_of_ne h2 with hh | hh
          · have := List.pairwise_iff_getElem.1 h i j hi hj hh; omega
          · have := List.pairwise_iff_getElem.1 h j i hj hi hh; omega
        rw [if_neg (by simp [hne, h1]), List.getD_eq_getElem?_getD, List.getElem?_set_ne h2, ← List.getD_eq_getElem?_getD]
theorem rkTo_at {nodes : List Nat} {rs : List (List Nat)} (h : nodes.Pairwise (· < ·)) (hsub : ∀ r ∈ rs, ∀ x ∈ r, x ∈ nodes) (hn : rs.flatten.Nodup) : ∀ i, i ≤ rs.length → ∀ j (hj : j < nodes.length) k (hk : k < rs.length), k < i → nodes[j] ∈ rs[k] → (rkTo nodes rs i).getD j 0 = k
  | 0, _, _, _, _, _, h, _ => by omega
  | i + 1, hi, j, hj, k, hk, hki, hm => by
    have hil : i < rs.length := by omega
    rw [rkTo_succ _ _ _ hil, rankRow_at h i _ _ (hsub _ (List.getElem_mem hil)) (rkTo_length _ _ _ (by omega)) j hj]
    split
    · rename_i h1
      exact (comp_uniq hn hk hil hm h1).symm
    · rename_i h1
      have hne : k ≠ i := fun e => by subst e; exact h1 hm
      exact rkTo_at h hsub hn i (by omega) j hj k hk (by omega) hm
theorem asc_ext : ∀ {l1 l2 : List Nat}, l1.Pairwise (· < ·) → l2.Pairwise (· < ·) → (∀ x, x ∈ l1 ↔ x ∈ l2) → l1 = l2
  | [], [], _, _, _ => rfl
  | [], y :: l2, _, _, h => by have := (h y).2 (by simp); cases this
  | x :: l1, [], _, _, h => by have := (h x).1 (by simp); cases this
  | x :: l1, y :: l2, h1, h2, h => by
    obtain ⟨a1, a2⟩ := List.pairwise_cons.1 h1
    obtain ⟨b1, b2⟩ := List.pairwise_cons.1 h2
    have e : x = y := by
      have q1 := (h x).1 (by simp)
      have q2 := (h y).2 (by simp)
      rcases List.mem_cons.1 q1 with e | q1
      · exact e
      · rcases List.mem_cons.1 q2 with e | q2
        · exact e.symm
        · have := a1 y q2; have := b1 x q1; omega
    subst e
    rw [asc_ext a2 b2 fun z => ⟨fun hz => by
      have := (h z).1 (by simp [hz])
      rcases List.mem_cons.1 this with e | this
      · have := a1 z hz; omega
      · exact this, fun hz => by
      have := (h z).2 (by simp [hz])
      rcases List.mem_cons.1 this with e | this
      · have := b1 z hz; omega
      · exact this⟩]
def cntD : Nat → Drop → Nat
  | 0, _ => 0
  | k + 1, d => 1 + (d.l.map (cntD k)).sum
def wtD : Nat → Drop → Nat
  | 0, _ => 0
  | k + 1, d => 1 + d.nodes.length + d.rank.length + (d.l.map (wtD k)).sum
def depD : Nat → Drop → Nat
  | 0, _ => 0
  | k + 1, d => 1 + (d.l.map (depD k)).foldr max 0
theorem sum_le {α : Type} {f g : α → Nat} : ∀ {l : List α}, (∀ x ∈ l, f x ≤ g x) → (l.map f).sum ≤ (l.map g).sum
  | [], _ => Nat.le_refl _
  | x :: l, h => by
    have h1 := h x (by simp)
    have h2 := sum_le (f := f) (g := g) (l := l) fun y hy => h y (by simp [hy])
    simp only [List.map_cons, List.sum_cons]
    omega
theorem max_le {α : Type} {f : α → Nat} {b : Nat} : ∀ {l : List α}, (∀ x ∈ l, f x ≤ b) → (l.map f).foldr max 0 ≤ b
  | [], _ => Nat.zero_le _
  | x :: l, h => by
    have h1 := h x (by simp)
    have h2 := max_le (f := f) (l := l) fun y hy => h y (by simp [hy])
    simp only [List.map_cons, List.foldr_cons]
    omega
theorem sum_len (a : Nat) : ∀ rs : List (List Nat), (rs.map fun r => a * r.length).sum = a * rs.flatten.length
  | [] => rfl
  | r :: rs => by simp only [List.map_cons, List.sum_cons, sum_len a rs, List.flatten_cons, List.length_append, Nat.mul_add]
theorem allO_ok {α : Type} {f : α → Option Drop} : ∀ {l : List α}, (∀ x ∈ l, ∃ d, f x = some d) → allO (l.map f) = some (l.map fun x => (f x).getD noDrop)
  | [], _ => rfl
  | x :: l, h => by
    obtain ⟨d, hd⟩ := h x (by simp)
    have ih := allO_ok (f := f) (l := l) fun y hy => h y (by simp [hy])
    simp only [List.map_cons, allO, hd, ih, Option.getD_some]
theorem ne_len {cs : List (List Nat)} (h : ∀ c ∈ cs, c ≠ []) : cs.length ≤ cs.flatten.length := by
  induction cs with
  | nil => simp
  | cons c cs ih =>
    have h1 := List.length_pos_iff.2 (h c (by simp))
    have h2 := ih fun d hd => h d (by simp [hd])
    simp only [List.length_cons, List.flatten_cons, List.length_append]
    omega
section
variable (n : Nat) (ls : List Arrow) (all : List Nat) (pairs : List (Nat × Nat))
def mu (on : List Bool) : Nat := (List.range 16).countP fun m => (List.range ls.length).any fun k => on.getD k false && hasM ls k m
structure PrOk (f : Nat) (nodes : List Nat) (on : List Bool) (h : Nat) (d : Drop) : Prop where
  eq : provedR n ls all pairs f nodes on = some d
  ok : DropOk f d
  shows : ∀ deep, deep + h ≤ 101 → showsF ls all pairs f d nodes on deep = true
  cnt : cntD f d ≤ h * max nodes.length 1
  wt : wtD f d ≤ h * (3 * max nodes.length 1)
  dep : depD f d ≤ h
end
theorem mu_le (ls : List Arrow) (on : List Bool) : mu ls on ≤ 16 := by
  have := List.countP_le_length (p := fun m => (List.range ls.length).any fun k => on.getD k false && hasM ls k m) (l := List.range 16)
  simpa [mu] using this
theorem mu_without {ls : List Arrow} {on : List Bool} {m k : Nat} (hm : m < 16) (hk : k < ls.length) (h1 : on.getD k false = true) (h2 : hasM ls k m = true) : mu ls (withoutF ls on m) < mu ls on := by
  refine countP_lt (fun q _ hq => ?_) ⟨m, List.mem_range.2 hm, List.any_eq_true.2 ⟨k, List.mem_range.2 hk, by rw [h1, h2]; rfl⟩, ?_⟩
  · obtain ⟨j, hj, h⟩ := List.any_eq_true.1 hq
    rw [withoutF_at (List.mem_range.1 hj)] at h
    simp only [Bool.and_eq_true] at h
    exact List.any_eq_true.2 ⟨j, hj, by rw [h.1.1, h.2]; rfl⟩
  · rw [List.any_eq_false]
    intro j hj
    rw [withoutF_at (List.mem_range.1 hj)]
    cases hasM ls j m <;> simp
end Go.Proofs.YtnanffbjmfgafaaGreat.S
namespace Go.Proofs.YtnanffbjmfgafaaGreat.S
open Go.RowKit
section
variable {n : Nat} {ls : List Arrow} {all : List Nat} {pairs : List (Nat × Nat)}
theorem dropOk_mk {f : Nat} {k i : Int} {nodes rank : List Int} {l : List Drop} (h1 : l.length ≤ 1048576) (h2 : nodes.length ≤ 1048576) (h3 : rank.length ≤ 1048576) (h4 : ∀ d ∈ l, DropOk f d) : DropOk (f + 1) (.mk k i nodes rank l) :=
  ⟨h1, h2, h3, fun i h => h4 _ (List.getElem_mem h)⟩
theorem leaf2 {f h : Nat} {nodes : List Nat} {on : List Bool} (hn : nodes.length ≤ 20000) (hw : (withinF ls nodes on).length = 0) (hh : 1 ≤ h) : PrOk n ls all pairs (f + 1) nodes on h (.mk 2 0 (nodes.map Int.ofNat) [] []) := by
  have hm : 1 * max nodes.length 1 ≤ h * max nodes.length 1 := Nat.mul_le_mul_right _ hh
  have hm2 : 1 * (3 * max nodes.length 1) ≤ h * (3 * max nodes.length 1) := Nat.mul_le_mul_right _ hh
  have hx := Nat.le_max_left nodes.length 1
  have hy := Nat.le_max_right nodes.length 1
  refine ⟨by unfold provedR; rw [if_pos hw], dropOk_mk (by simp) (by simp; omega) (by simp) (fun d hd => by cases hd), fun deep hd => ?_, ?_, ?_, ?_⟩
  · unfold showsF
    rw [if_neg (by simp [Drop.nodes]; omega), if_pos (show (Drop.mk 2 0 (nodes.map Int.ofNat) [] []).kind = 2 from rfl), decide_eq_true hw]
    rfl
  · show 1 + 0 ≤ _; omega
  · show 1 + (nodes.map Int.ofNat).length + 0 + 0 ≤ _
    rw [List.length_map]; omega
  · show 1 + 0 ≤ _; omega
theorem leaf3 {f h i : Nat} {nodes : List Nat} {on : List Bool} (hn : nodes.length ≤ 20000) (hw : ¬ (withinF ls nodes on).length = 0) (hl : lackingF (metF ls (withinF ls nodes on)) all pairs = (3, i)) (hh : 1 ≤ h) : PrOk n ls all pairs (f + 1) nodes on h (.mk 3 i (nodes.map Int.ofNat) [] []) := by
  have hm : 1 * max nodes.length 1 ≤ h * max nodes.length 1 := Nat.mul_le_mul_right _ hh
  have hm2 : 1 * (3 * max nodes.length 1) ≤ h * (3 * max nodes.length 1) := Nat.mul_le_mul_right _ hh
  have hx := Nat.le_max_left nodes.length 1
  have hy := Nat.le_max_right nodes.length 1
  obtain ⟨l1, l2⟩ := lack3 hl
  refine ⟨by unfold provedR; rw [if_neg hw, hl, if_pos rfl], dropOk_mk (by simp) (by simp; omega) (by simp) (fun d hd => by cases hd), fun deep hd => ?_, ?_, ?_, ?_⟩
  · unfold showsF
    rw [if_neg (by simp [Drop.nodes]; omega), if_neg (by simp [Drop.kind]), if_pos (show (Drop.mk 3 (i : Int) (nodes.map Int.ofNat) [] []).kind = 3 from rfl)]
    have e : (Drop.mk 3 (i : Int) (nodes.map Int.ofNat) [] []).n.toNat = i := rfl
    rw [e, l2]
    have h1 : decide ((0 : Int) ≤ (Drop.mk 3 (i : Int) (nodes.map Int.ofNat) [] []).n) = true := decide_eq_true (by show (0 : Int) ≤ (i : Int); omega)
    have h2 : decide ((Drop.mk 3 (i : Int) (nodes.map Int.ofNat) [] []).n < (all.length : Int)) = true := decide_eq_true (by show (i : Int) < (all.length : Int); omega)
    rw [h1, h2]
    rfl
  · show 1 + 0 ≤ _; omega
  · show 1 + (nodes.map Int.ofNat).length + 0 + 0 ≤ _
    rw [List.length_map]; omega
  · show 1 + 0 ≤ _; omega
theorem noRound_sub {c nodes : List Nat} {on : List Bool} (h : ∀ x ∈ c, x ∈ nodes) (hn : NoRound ls all pairs nodes on) : NoRound ls all pairs c on := fun x w hx hne hw => hn x w (h x hx) hne (hw.mono fun _ _ hp => ⟨hp.1, h _ hp.2⟩)
theorem noRound_without {nodes : List Nat} {on : List Bool} {m : Nat} (hn : NoRound ls all pairs nodes on) : NoRound ls all pairs nodes (withoutF ls on m) := fun x w hx hne hw => hn x w hx hne (hw.mono fun k hk hp => by
  have hkl := (hw.all k hk).1
  rw [withoutF_at hkl] at hp
  exact ⟨(Bool.and_eq_true _ _ ▸ hp.1).1, hp.2⟩)
theorem conn_round {nodes : List Nat} {on : List Bool} (hconn : ∀ x ∈ nodes, ∀ y ∈ nodes, Rc (EdgeP ls nodes on) x y) (hw : ¬ (withinF ls nodes on).length = 0) (hs : Sats ls all pairs (withinF ls nodes on)) : ¬ NoRound ls all pairs nodes on := by
  intro hno
  obtain ⟨k, r, hk⟩ := List.exists_cons_of_ne_nil (fun e => hw (by rw [e]; rfl) : withinF ls nodes on ≠ [])
  have hkm : k ∈ withinF ls nodes on := by rw [hk]; simp
  have hx := (mem_withinF.1 hkm).2.1
  obtain ⟨w, h1, h2⟩ := wk_tour (c := nodes) (l := withinF ls nodes on) (fun x hx y hy => by
    obtain ⟨w, hw⟩ := rc_wk (hconn x hx y hy)
    exact ⟨w, hw.mono fun k hk _ => wk_within hw hx k hk⟩) (fun k hk => ⟨(mem_withinF.1 hk).1, (mem_withinF.1 hk).2.1, (mem_withinF.1 hk).2.2.2⟩) hx _ (fun k hk => hk)
  refine hno _ w hx (List.ne_nil_of_mem (h2 k hkm)) (h1.mono fun k _ hk => (mem_withinF.1 hk).2.2) (sats_same (fun k => ⟨h2 k, fun hk => (h1.all k hk).2⟩) hs)
theorem conn_comps {nodes : List Nat} {on : List Bool} {parts : List (List Nat)} (hc : CompsOk ls nodes on parts) (hconn : ∀ x ∈ nodes, ∀ y ∈ nodes, Rc (EdgeP ls nodes on) x y) (hne : nodes ≠ []) : parts.length = 1 := by
  rcases hp : parts with _ | ⟨c, _ | ⟨d, r⟩⟩
  · obtain ⟨x, t, e⟩ := List.exists_cons_of_ne_nil hne
    have := (hc.mem x).2 (by rw [e]; simp)
    rw [hp] at this
    cases this
  · rfl
  · exfalso
    have h0 : 0 < parts.length := by rw [hp]; simp
    have h1 : 1 < parts.length := by rw [hp]; simp
    have hx := getD_head (hc.scc _ (List.getElem_mem h0)).1
    have hy := getD_head (hc.scc _ (List.getElem_mem h1)).1
    obtain ⟨w, hw⟩ := rc_wk (hconn _ ((hc.mem _).1 (List.mem_flatten.2 ⟨_, List.getElem_mem h0, hx⟩)) _ ((hc.mem _).1 (List.mem_flatten.2 ⟨_, List.getElem_mem h1, hy⟩)))
    obtain ⟨b, hb, hb0, hyb, _⟩ := wk_ord hc hw 0 h0 hx
    have := comp_uniq hc.nodup hb h1 hyb hy
    omega
theorem one_conn {nodes : List Nat} {on : List Bool} {parts : List (List Nat)} (hc : CompsOk ls nodes on parts) (h1 : parts.length = 1) : ∀ x ∈ nodes, ∀ y ∈ nodes, Rc (EdgeP ls nodes on) x y := by
  obtain ⟨c, rfl⟩ := List.length_eq_one_iff.1 h1
  intro x hx y hy
  have e : ∀ z ∈ nodes, z ∈ c := fun z hz => by simpa using (hc.mem z).2 hz
  exact (hc.scc c (by simp)).2.2 x (e x hx) y (e y hy)
theorem prov_conn (hv : ValidG n ls) (hw : ValidW all pairs) (hb : n * (ls.length + 3) ≤ 1000000) {m f : Nat} {nodes : List Nat} {on : List Bool} (hf : 2 * m + 2 ≤ f) (hmu : mu ls on ≤ m) (hasc : nodes.Pairwise (· < ·)) (hlt : ∀ x ∈ nodes, x < n) (hno : NoRound ls all pairs nodes on)
    (hconn : (withinF ls nodes on).length = 0 ∨ ∀ x ∈ nodes, ∀ y ∈ nodes, Rc (EdgeP ls nodes on) x y)
    (ih : ∀ m' on', m = m' + 1 → mu ls on' ≤ m' → NoRound ls all pairs nodes on' → ∃ d, PrOk n ls all pairs (f - 1) nodes on' (2 * m' + 3) d) :
    ∃ d, PrOk n ls all pairs f nodes on (2 * m + 2) d := by
  obtain ⟨f, rfl⟩ : ∃ f', f = f' + 1 := ⟨f - 1, by omega⟩
  have hnl := nodup_len n nodes (hasc.imp fun h => Nat.ne_of_lt h) hlt
  have hn2 := hv.size
  by_cases h0 : (withinF ls nodes on).length = 0
  · exact ⟨_, leaf2 (by omega) h0 (by omega)⟩
  · replace hconn := hconn.resolve_left h0
    rcases lackingF_cases (metF ls (withinF ls nodes on)) all pairs with h3 | ⟨h4, h4l⟩ | hz
    · obtain ⟨i, hi⟩ : ∃ i, lackingF (metF ls (withinF ls nodes on)) all pairs = (3, i) := ⟨(lackingF (metF ls (withinF ls nodes on)) all pairs).2, by rw [← h3]⟩
      exact ⟨_, leaf3 (by omega) h0 hi (by omega)⟩
    · obtain ⟨i, hi⟩ : ∃ i, lackingF (metF ls (withinF ls nodes on)) all pairs = (4, i) := ⟨(lackingF (metF ls (withinF ls nodes on)) all pairs).2, by rw [← h4]⟩
      obtain ⟨q1, q2, q3⟩ := lack4 hi
      have e : pairs.getD i (0, 0) = pairs[i] := by rw [List.getD_eq_getElem?_getD, List.getElem?_eq_getElem q1]; rfl
      have hpo := hw.pairs_ok _ (List.getElem_mem q1)
      rw [e] at q2
      obtain ⟨k, hk, hkm⟩ := (met_yes hpo.1).1 q2
      obtain ⟨k1, _, k3, _⟩ := mem_withinF.1 hk
      have hlt2 := mu_without hpo.1 k1 k3 hkm
      obtain ⟨m', rfl⟩ : ∃ m', m = m' + 1 := ⟨m - 1, by omega⟩
      obtain ⟨d, hd⟩ := ih m' (withoutF ls on pairs[i].1) rfl (by omega) (noRound_without hno)
      have hne : nodes ≠ [] := List.ne_nil_of_mem (mem_withinF.1 hk).2.1
      obtain ⟨parts, hp1, hp2⟩ := comps_total ls nodes on (Nat.le_trans (Nat.mul_le_mul_right _ hnl) hb)
      have hp3 := conn_comps hp2 hconn hne
      have hx := Nat.le_max_left nodes.length 1
      have hy := Nat.le_max_right nodes.length 1
      have hde : provedR n ls all pairs f nodes (withoutF ls on pairs[i].1) = some d := hd.eq
      refine ⟨.mk 4 i (nodes.map Int.ofNat) [] [d], ?_, dropOk_mk (by simp) (by simp; omega) (by simp) (fun d' hd' => by rw [List.mem_singleton.1 hd']; exact hd.ok), fun deep hdp => ?_, ?_, ?_, ?_⟩
      · unfold provedR
        rw [if_neg h0, if_neg (by rw [hi]; simp), hp1]
        simp only
        rw [if_pos hp3, hi, if_pos q1, e, hde]
        rfl
      · unfold showsF
        rw [if_neg (by simp [Drop.nodes]; omega), if_neg (by simp [Drop.kind]), if_neg (by simp [Drop.kind]), if_pos (show (Drop.mk 4 (i : Int) (nodes.map Int.ofNat) [] [d]).kind = 4 from rfl)]
        have en : (Drop.mk 4 (i : Int) (nodes.map Int.ofNat) [] [d]).n.toNat = i := rfl
        have hc : ¬ (!plainF (Drop.mk 4 (i : Int) (nodes.map Int.ofNat) [] [d]) true false 1 || decide ((Drop.mk 4 (i : Int) (nodes.map Int.ofNat) [] [d]).n < 0) || decide ((Drop.mk 4 (i : Int) (nodes.map Int.ofNat) [] [d]).n ≥ (pairs.length : Int)) || (metF ls (withinF ls nodes on)).getD (pairs.getD (Drop.mk 4 (i : Int) (nodes.map Int.ofNat) [] [d]).n.toNat (0, 0)).2 false) = true := by
          rw [en, q3]
          simp only [Bool.or_eq_true, not_or, decide_eq_true_eq, Bool.not_eq_true]
          refine ⟨⟨⟨rfl, ?_⟩, ?_⟩, trivial⟩
          · show ¬ ((i : Int) < 0); omega
          · show ¬ ((i : Int) ≥ (pairs.length : Int)); omega
        rw [if_neg hc]
        simp only [Drop.l]
        rw [en, e]
        exact hd.shows (deep + 1) (by omega)
      · show 1 + (cntD f d + 0) ≤ _
        have := hd.cnt
        have e2 : (2 * (m' + 1) + 2) * max nodes.length 1 = (2 * m' + 3) * max nodes.length 1 + max nodes.length 1 := by rw [show 2 * (m' + 1) + 2 = (2 * m' + 3) + 1 by omega, Nat.add_mul, Nat.one_mul]
        simp only [Nat.add_sub_cancel] at this
        omega
      · show 1 + (nodes.map Int.ofNat).length + 0 + (wtD f d + 0) ≤ _
        have := hd.wt
        have e2 : (2 * (m' + 1) + 2) * (3 * max nodes.length 1) = (2 * m' + 3) * (3 * max nodes.length 1) + 3 * max nodes.length 1 := by rw [show 2 * (m' + 1) + 2 = (2 * m' + 3) + 1 by omega, Nat.add_mul, Nat.one_mul]
        simp only [Nat.add_sub_cancel] at this
        rw [List.length_map]
        omega
      · show 1 + max (depD f d) 0 ≤ _
        have := hd.dep
        simp only [Nat.add_sub_cancel] at this
        omega
    · exfalso
      have hs : Sats ls all pairs (withinF ls nodes on) := by
        rcases lack_cases (ls := ls) (l := withinF ls nodes on) hw with ⟨i, e, _⟩ | ⟨i, _, e, _⟩ | ⟨_, h⟩
        · rw [hz] at e; cases e
        · rw [hz] at e; cases e
        · exact h
      exact conn_round hconn h0 hs hno
end
end Go.Proofs.YtnanffbjmfgafaaGreat.S
namespace Go.Proofs.YtnanffbjmfgafaaGreat.S
open Go.RowKit
section
variable {n : Nat} {ls : List Arrow} {all : List Nat} {pairs : List (Nat × Nat)}
theorem PrOk.le {f h h' : Nat} {nodes : List Nat} {on : List Bool} {d : Drop} (hp : PrOk n ls all pairs f nodes on h d) (hh : h ≤ h') : PrOk n ls all pairs f nodes on h' d :=
  ⟨hp.eq, hp.ok, fun deep hd => hp.shows deep (by omega), Nat.le_trans hp.cnt (Nat.mul_le_mul_right _ hh), Nat.le_trans hp.wt (Nat.mul_le_mul_right _ hh), Nat.le_trans hp.dep hh⟩
theorem wk_rc {c : List Nat} {on : List Bool} {x y : Nat} {w : List Nat} (h : Wk ls (· ∈ withinF ls c on) x w y) : Rc (EdgeP ls c on) x y := by
  induction h with
  | nil x => exact .refl x
  | @cons k y w hk hp _ ih =>
    obtain ⟨_, _, h3, h4⟩ := mem_withinF.1 hp
    exact (Rc.one (edge_iff.2 ⟨k, hk, rfl, rfl, h3, h4⟩)).trans ih
theorem back_map (rk : List Nat) : (rk.map Int.ofNat).map Int.toNat = rk := by
  rw [List.map_map]
  exact (List.map_congr_left (g := id) (fun x _ => rfl)).trans (List.map_id _)
theorem prov_total (hv : ValidG n ls) (hw : ValidW all pairs) (hb : n * (ls.length + 3) ≤ 1000000) : ∀ (m f : Nat) (nodes : List Nat) (on : List Bool), 2 * m + 3 ≤ f → mu ls on ≤ m → nodes.Pairwise (· < ·) → (∀ x ∈ nodes, x < n) → NoRound ls all pairs nodes on →
    ∃ d, PrOk n ls all pairs f nodes on (2 * m + 3) d := by
  intro m
  induction m with
  | zero => ?_
  | succ m ihm => ?_
  all_goals
    intro f nodes on hf hmu hasc hlt hno
    have hconn : ∀ (f' : Nat) (c : List Nat), 2 * _ + 2 ≤ f' → c.Pairwise (· < ·) → (∀ x ∈ c, x < n) → NoRound ls all pairs c on → ((withinF ls c on).length = 0 ∨ ∀ x ∈ c, ∀ y ∈ c, Rc (EdgeP ls c on) x y) → ∃ d, PrOk n ls all pairs f' c on (2 * _ + 2) d :=
      fun f' c hf' h1 h2 h3 h4 => prov_conn hv hw hb hf' hmu h1 h2 h3 h4 (fun m' on' e h5 h6 => by
        first
          | (exfalso; omega)
          | (have e' := Nat.succ.inj e
             subst e'
             exact ihm _ _ _ (by omega) h5 h1 h2 h6))
    obtain ⟨f, rfl⟩ : ∃ f', f = f' + 1 := ⟨f - 1, by omega⟩
    have hnodup := hasc.imp fun {a b : Nat} (h : a < b) => Nat.ne_of_lt h
    have hnl := nodup_len n nodes hnodup hlt
    have hn2 := hv.size
    by_cases h0 : (withinF ls nodes on).length = 0
    · obtain ⟨d, hd⟩ := hconn (f + 1) nodes (by omega) hasc hlt hno (.inl h0)
      exact ⟨d, hd.le (by omega)⟩
    by_cases h3 : (lackingF (metF ls (withinF ls nodes on)) all pairs).1 = 3
    · obtain ⟨i, hi⟩ : ∃ i, lackingF (metF ls (withinF ls nodes on)) all pairs = (3, i) := ⟨(lackingF (metF ls (withinF ls nodes on)) all pairs).2, by rw [← h3]⟩
      exact ⟨_, leaf3 (by omega) h0 hi (by omega)⟩
    obtain ⟨parts, hp1, hc⟩ := comps_total ls nodes on (Nat.le_trans (Nat.mul_le_mul_right _ hnl) hb)
    by_cases hp3 : parts.length = 1
    · obtain ⟨d, hd⟩ := hconn (f + 1) nodes (by omega) hasc hlt hno (.inr (one_conn hc hp3))
      exact ⟨d, hd.le (by omega)⟩
    have hR := ranked_ok hc
    obtain ⟨rs, hrs⟩ : ∃ rs, rs = rankedF ls nodes on parts := ⟨_, rfl⟩
    rw [← hrs] at hR
    have hsub : ∀ r ∈ rs, ∀ x ∈ r, x ∈ nodes := fun r hr x hx => (hR.mem x).1 (List.mem_flatten.2 ⟨r, hr, hx⟩)
    have hrasc : ∀ r ∈ rs, r.Pairwise (· < ·) := fun r hr => asc_of (hR.kind r hr).2.1 ((List.pairwise_flatten.1 hR.nodup).1 r hr)
    have hne0 : nodes ≠ [] := fun e => h0 (by rw [e]; rfl)
    have hfl : rs.flatten.length = nodes.length := by
      have hp : rs.flatten.Perm nodes := (List.perm_ext_iff_of_nodup hR.nodup hnodup).2 hR.mem
      exact hp.length_eq
    have hpfl : parts.flatten.length = nodes.length := by
      have hp : parts.flatten.Perm nodes := (List.perm_ext_iff_of_nodup hc.nodup hnodup).2 hc.mem
      exact hp.length_eq
    have hrsl := ne_len fun r hr => (hR.kind r hr).1
    have hpl := ne_len fun c hcm => (hc.scc c hcm).1
    have hrow : ∀ r ∈ rs, ∃ d, PrOk n ls all pairs f r on (2 * _ + 2) d := fun r hr => hconn f r (by omega) (hrasc r hr) (fun x hx => hlt x (hsub r hr x hx)) (noRound_sub (hsub r hr) hno) (by
      rcases (hR.kind r hr).2.2 with h | h
      · exact .inl h
      · exact .inr fun x hx y hy => by
          obtain ⟨w, hw⟩ := comp_conn hc h hx hy
          exact wk_rc hw)
    have hG : ∀ r ∈ rs, PrOk n ls all pairs f r on (2 * _ + 2) ((provedR n ls all pairs f r on).getD noDrop) := fun r hr => by
      obtain ⟨d, hd⟩ := hrow r hr
      have := hd.eq
      rw [this]
      exact hd
    have hlenr : ∀ r ∈ rs, r.length ≤ nodes.length := fun r hr => by
      have := nodup_len
      have h1 : r.Sublist rs.flatten := List.sublist_flatten_of_mem hr
      have := h1.length_le
      omega
    have hpok : provOk n nodes parts rs = true := by
      unfold provOk
      simp only [Bool.and_eq_true, List.all_eq_true, decide_eq_true_eq]
      refine ⟨⟨⟨⟨⟨strictly_of hasc, fun c hcm => ⟨List.length_pos_iff.2 (hc.scc c hcm).1, fun x hx => hlt x ((hc.mem x).1 (List.mem_flatten.2 ⟨c, hcm, hx⟩))⟩⟩, by omega⟩, by omega⟩, fun r hr => ⟨fun x hx => ⟨hlt x (hsub r hr x hx), ?_⟩, by have := hlenr r hr; omega⟩⟩, by omega⟩
      obtain ⟨j, hj, rfl⟩ := List.getElem_of_mem (hsub r hr x hx)
      rw [ixIn_at hasc hj]; exact hj
    have hrkl : (rkTo nodes rs rs.length).length = nodes.length := rkTo_length _ _ _ (Nat.le_refl _)
    have hrk : ∀ j (hj : j < nodes.length) k (hk : k < rs.length), nodes[j] ∈ rs[k] → (rkTo nodes rs rs.length).getD j 0 = k := fun j hj k hk hm => rkTo_at hasc hsub hR.nodup rs.length (Nat.le_refl _) j hj k hk hk hm
    have hlow : ∀ x k (hk : k < rs.length), x ∈ rs[k] → lowOf (rankM nodes (rkTo nodes rs rs.length) nodes.length) x = k := fun x k hk hx => by
      obtain ⟨j, hj, rfl⟩ := List.getElem_of_mem (hsub _ (List.getElem_mem hk) x hx)
      have e : nodes.getD j 0 = nodes[j] := by rw [List.getD_eq_getElem?_getD, List.getElem?_eq_getElem hj]; rfl
      have := rankM_at (rk := rkTo nodes rs rs.length) hnodup _ (Nat.le_refl _) j hj
      rw [e] at this
      rw [this, hrk j hj k hk hx]
    have hfind : ∀ x ∈ nodes, ∃ k, ∃ hk : k < rs.length, x ∈ rs[k] := fun x hx => by
      obtain ⟨r, hr, hxr⟩ := List.mem_flatten.1 ((hR.mem x).2 hx)
      obtain ⟨k, hk, rfl⟩ := List.getElem_of_mem hr
      exact ⟨k, hk, hxr⟩
    have hpart : ∀ k (hk : k < rs.length), partAt nodes (rkTo nodes rs rs.length) nodes.length k = rs[k] := fun k hk => by
      refine asc_ext (hasc.sublist (partAt_sub nodes _ k)) (hrasc _ (List.getElem_mem hk)) fun x => ?_
      rw [mem_partAt hnodup]
      constructor
      · rintro ⟨hx, hv'⟩
        obtain ⟨k', hk', hxk⟩ := hfind x hx
        rw [hlow x k' hk' hxk] at hv'
        subst hv'
        exact hxk
      · exact fun hx => ⟨hsub _ (List.getElem_mem hk) x hx, hlow x k hk hx⟩
    have hx := Nat.le_max_left nodes.length 1
    have hy := Nat.le_max_right nodes.length 1
    have hN : max nodes.length 1 = nodes.length := by
      have := List.length_pos_iff.2 hne0
      omega
    have hrN : ∀ r ∈ rs, max r.length 1 = r.length := fun r hr => by
      have := List.length_pos_iff.2 (hR.kind r hr).1
      omega
    refine ⟨.mk 1 0 (nodes.map Int.ofNat) ((rkTo nodes rs rs.length).map Int.ofNat) (rs.map fun r => (provedR n ls all pairs f r on).getD noDrop), ?_, dropOk_mk (by rw [List.length_map]; omega) (by rw [List.length_map]; omega) (by rw [List.length_map, hrkl]; omega) (fun d hd => by
      obtain ⟨r, hr, rfl⟩ := List.mem_map.1 hd
      exact (hG r hr).ok), fun deep hdp => ?_, ?_, ?_, ?_⟩
    · conv => lhs; unfold provedR
      rw [if_neg h0, if_neg h3, hp1]
      simp only
      rw [if_neg hp3, ← hrs, if_pos hpok, allO_ok fun r hr => ⟨_, (hG r hr).eq⟩]
      rfl
    · unfold showsF
      obtain ⟨D, hD⟩ : ∃ D, D = Drop.mk 1 0 (nodes.map Int.ofNat) ((rkTo nodes rs rs.length).map Int.ofNat) (rs.map fun r => (provedR n ls all pairs f r on).getD noDrop) := ⟨_, rfl⟩
      have d1 : D.kind = 1 := by rw [hD]; rfl
      have d2 : D.nodes = nodes.map Int.ofNat := by rw [hD]; rfl
      have d3 : D.rank = (rkTo nodes rs rs.length).map Int.ofNat := by rw [hD]; rfl
      have d4 : D.l = rs.map fun r => (provedR n ls all pairs f r on).getD noDrop := by rw [hD]; rfl
      have d5 : D.n = 0 := by rw [hD]; rfl
      rw [← hD, if_neg (by rw [d2]; simp; omega), if_neg (by rw [d1]; decide), if_neg (by rw [d1]; decide), if_neg (by rw [d1]; decide), if_pos d1]
      have hpl2 : plainF D false true (-1) = true := by unfold plainF; rw [d5]; rfl
      rw [hpl2, Bool.true_and]
      unfold ranksF
      have d6 : D.l.length = rs.length := by rw [d4, List.length_map]
      have hrs0 : rs.length ≠ 0 := fun e => by
        rw [List.length_eq_zero_iff.1 e] at hfl
        simp at hfl
        exact hne0 (List.length_eq_zero_iff.1 hfl.symm)
      rw [if_neg (by rw [d3, d6, List.length_map, hrkl]; simp; intro e; rw [e] at hrs0; exact hrs0 rfl)]
      rw [if_neg (by
        rw [Bool.not_eq_false, List.all_eq_true]
        intro a ha
        rw [d3] at ha
        obtain ⟨b, hb', rfl⟩ := List.mem_map.1 ha
        obtain ⟨j, hj, rfl⟩ := List.getElem_of_mem hb'
        rw [hrkl] at hj
        obtain ⟨k, hk, hm⟩ := hfind _ (List.getElem_mem hj)
        have := hrk j hj k hk hm
        rw [List.getD_eq_getElem?_getD, List.getElem?_eq_getElem (by rw [hrkl]; exact hj)] at this
        simp only [Option.getD_some] at this
        rw [d6, this]
        simp only [Bool.and_eq_true, decide_eq_true_eq]
        exact ⟨Int.natCast_nonneg k, by show (k : Int) < (rs.length : Int); omega⟩)]
      rw [d3, back_map, if_neg (by
        rw [Bool.not_eq_true, List.any_eq_false]
        intro i hi
        rw [decide_eq_true_eq]
        obtain ⟨q1, q2, q3, q4⟩ := mem_withinF.1 hi
        obtain ⟨a, ha, hfa⟩ := hfind _ q2
        obtain ⟨b, hb', htb⟩ := hfind _ q4
        have := hR.down a ha b hb' _ hfa _ htb (edge_iff.2 ⟨i, q1, rfl, rfl, q3, q4⟩)
        rw [hlow _ a ha hfa, hlow _ b hb' htb]
        omega)]
      rw [d6, List.all_eq_true]
      intro k hk
      have hk' := List.mem_range.1 hk
      rw [hpart k hk', d4, List.getElem?_map, List.getElem?_eq_getElem hk']
      simp only [Option.map_some, Bool.and_eq_true, decide_eq_true_eq]
      exact ⟨fun e => (hR.kind _ (List.getElem_mem hk')).1 (List.length_eq_zero_iff.1 e), (hG _ (List.getElem_mem hk')).shows (deep + 1) (by omega)⟩
    · show 1 + ((rs.map fun r => (provedR n ls all pairs f r on).getD noDrop).map (cntD f)).sum ≤ _
      rw [List.map_map]
      have h1 := sum_le (f := cntD f ∘ fun r => (provedR n ls all pairs f r on).getD noDrop) (g := fun r => (2 * _ + 2) * r.length) (l := rs) fun r hr => by
        have := (hG r hr).cnt
        rw [hrN r hr] at this
        exact this
      rw [sum_len, hfl] at h1
      rw [hN]
      have h2 : ∀ q, (2 * q + 3) * nodes.length = (2 * q + 2) * nodes.length + nodes.length := fun q => by rw [show 2 * q + 3 = (2 * q + 2) + 1 by omega, Nat.add_mul, Nat.one_mul]
      rw [h2]
      omega
    · show 1 + (nodes.map Int.ofNat).length + ((rkTo nodes rs rs.length).map Int.ofNat).length + ((rs.map fun r => (provedR n ls all pairs f r on).getD noDrop).map (wtD f)).sum ≤ _
      rw [List.map_map, List.length_map, List.length_map, hrkl]
      have h1 := sum_le (f := wtD f ∘ fun r => (provedR n ls all pairs f r on).getD noDrop) (g := fun r => ((2 * _ + 2) * 3) * r.length) (l := rs) fun r hr => by
        have := (hG r hr).wt
        rw [hrN r hr, ← Nat.mul_assoc] at this
        exact this
      rw [sum_len, hfl] at h1
      rw [hN, ← Nat.mul_assoc]
      have h2 : ∀ q, (2 * q + 3) * 3 * nodes.length = (2 * q + 2) * 3 * nodes.length + 3 * nodes.length := fun q => by rw [show (2 * q + 3) * 3 = (2 * q + 2) * 3 + 3 by omega, Nat.add_mul]
      rw [h2]
      omega
    · show 1 + ((rs.map fun r => (provedR n ls all pairs f r on).getD noDrop).map (depD f)).foldr max 0 ≤ _
      rw [List.map_map]
      have h1 := max_le (f := depD f ∘ fun r => (provedR n ls all pairs f r on).getD noDrop) (b := 2 * _ + 2) (l := rs) fun r hr => (hG r hr).dep
      omega
end
end Go.Proofs.YtnanffbjmfgafaaGreat.S
namespace Go.Proofs.YtnanffbjmfgafaaGreat.S
open Go.RowKit
section
variable {n : Int} {init : List Int} {ls : List ArrowI} {all : List Int} {pairs : List (Int × Int)}
theorem init_lt (hC : checkI n init ls all pairs = 0) : ∀ x ∈ init.map Int.toNat, x < n.toNat := fun x hx => by
  obtain ⟨y, hy, rfl⟩ := List.mem_map.1 hx
  have := (checked hC).init.low y hy
  omega
theorem noCore_round {ls : List Arrow} {all : List Nat} {pairs : List (Nat × Nat)} {n : Nat} {init r : List Nat} (hR : ReachOk ls n init r) : NoCore ls all pairs init ↔ NoRound ls all pairs r (List.replicate ls.length true) := by
  constructor
  · intro h x w hx hne hw hs
    obtain ⟨s, hs', u, hu⟩ := (hR.mem x).1 hx
    exact h s hs' u x hu ⟨w, hne, hw.mono fun _ _ _ => trivial, hs⟩
  · intro h x hx w y hw ⟨v, hne, hv, hs⟩
    have hy := (hR.mem y).2 ⟨x, hx, w, hw⟩
    exact h y v hy hne (hR.walk hv hy) hs
theorem verify_total (hC : checkI n init ls all pairs = 0) (k : Nat) (d : Drop) : ∃ r, ReachOk (ls.map toA) n.toNat (init.map Int.toNat) r ∧
    verifyI k n init ls all pairs d = some (if showsF (ls.map toA) (all.map Int.toNat) (pairs.map toP) k d r (List.replicate (ls.map toA).length true) 1 = true then 0 else 312) := by
  have hk := checked hC
  obtain ⟨r, h1, h2⟩ := reachR_total hk.validG (init_lt hC)
  refine ⟨r, h2, ?_⟩
  unfold verifyI
  rw [if_pos hC, h1]
  rfl
theorem prove_small (hC : checkI n init ls all pairs = 0) (hn : n ≤ 12) (hl : ls.length ≤ 41) {f : Nat} (hf : 35 ≤ f) :
    (∃ d, proveI f n init ls all pairs = some (some d, 0) ∧ DropOk f d ∧ verifyI f n init ls all pairs d = some 0 ∧ NoCore (ls.map toA) (all.map Int.toNat) (pairs.map toP) (init.map Int.toNat) ∧ cntD f d ≤ 35 * max n.toNat 1 ∧ wtD f d ≤ 1260 ∧ depD f d ≤ 35) ∨
    (proveI f n init ls all pairs = some (none, 0) ∧ ¬ NoCore (ls.map toA) (all.map Int.toNat) (pairs.map toP) (init.map Int.toNat)) := by
  have hk := checked hC
  have hb : n.toNat * ((ls.map toA).length + 3) ≤ 1000000 := by simpa using small_bound (n := n.toNat) (by omega) hl
  rcases findI_small hC hn hl with ⟨r, e, h⟩ | ⟨e, h⟩
  · refine .inr ⟨by unfold proveI; rw [e]; rfl, fun hno => ?_⟩
    obtain ⟨y, h1, h2⟩ := h.round
    exact hno _ h.start _ y h1 ⟨_, h.ne, h2, h.sats⟩
  · obtain ⟨r, h1, h2⟩ := reachR_total hk.validG (init_lt hC)
    obtain ⟨d, hd⟩ := prov_total hk.validG hk.validW hb 16 f r (List.replicate (ls.map toA).length true) (by omega) (mu_le _ _) h2.asc h2.lt ((noCore_round h2).1 h)
    have hrl := h2.len
    have hmax : max r.length 1 ≤ max n.toNat 1 := by omega
    refine .inl ⟨d, ?_, hd.ok, ?_, h, Nat.le_trans hd.cnt (Nat.mul_le_mul_left _ hmax), Nat.le_trans hd.wt ?_, hd.dep⟩
    · unfold proveI
      rw [e]
      simp only
      rw [if_neg (by decide), h1]
      simp only
      rw [hd.eq]
      rfl
    · unfold verifyI
      rw [if_pos hC, h1]
      simp only [Option.map_some]
      rw [if_pos (hd.shows 1 (by decide))]
    · have : max r.length 1 ≤ 12 := by omega
      omega
end
end Go.Proofs.YtnanffbjmfgafaaGreat.S
namespace Go.Proofs.YtnanffbjmfgafaaGreat.S
open Go.RowKit
def numsR (l : List Bool) : List Nat := (List.range l.length).filter fun i => l.getD i false
theorem nums_asc (l : List Bool) : (numsR l).Pairwise (· < ·) := List.pairwise_lt_range.filter _
theorem getD_lt {l : List Bool} {j : Nat} (h : l.getD j false = true) : j < l.length := by
  rcases Nat.lt_or_ge j l.length with h' | h'
  · exact h'
  · rw [List.getD_eq_getElem?_getD, List.getElem?_eq_none h'] at h; cases h
theorem mem_numsR {l : List Bool} {x : Nat} : x ∈ numsR l ↔ l.getD x false = true := by
  unfold numsR
  rw [List.mem_filter, List.mem_range]
  exact ⟨fun h => h.2, fun h => ⟨getD_lt h, h⟩⟩
def everyR (ls : List Arrow) : List Bool := List.replicate ls.length true
def coresM (n : Nat) (ls : List Arrow) (all : List Nat) (pairs : List (Nat × Nat)) : List Bool := coresS n ls all pairs (ls.length + 1) (everyR ls)
theorem orB_len (n : Nat) (a b : List Bool) : (orB n a b).length = n := by simp [orB]
theorem cTo_len {n : Nat} {ls : List Arrow} {all : List Nat} {pairs : List (Nat × Nat)} {rec : List Bool → List Bool} {inn : List Bool} : ∀ k, (cTo n ls all pairs rec inn k).1.length = n ∧ (cTo n ls all pairs rec inn k).2.length = n
  | 0 => ⟨by simp [cTo], by simp [cTo]⟩
  | k + 1 => by
    obtain ⟨h1, h2⟩ := cTo_len (n := n) (ls := ls) (all := all) (pairs := pairs) (rec := rec) (inn := inn) k
    have e : cTo n ls all pairs rec inn (k + 1) = cStep n ls all pairs rec inn (cTo n ls all pairs rec inn k) k := by unfold cTo; rw [List.range_succ, List.foldl_append]; rfl
    rw [e]
    unfold cStep
    split
    · exact ⟨h1, h2⟩
    · split
      · exact ⟨h1, orB_len _ _ _⟩
      · split
        · exact ⟨h1, orB_len _ _ _⟩
        · split
          · exact ⟨orB_len _ _ _, orB_len _ _ _⟩
          · exact ⟨orB_len _ _ _, orB_len _ _ _⟩
theorem coresS_len (n : Nat) (ls : List Arrow) (all : List Nat) (pairs : List (Nat × Nat)) : ∀ (f : Nat) (inn : List Bool), (coresS n ls all pairs f inn).length = n
  | 0, _ => by simp [coresS]
  | f + 1, inn => (cTo_len n).1
section
variable {n : Nat} {ls : List Arrow} {all : List Nat} {pairs : List (Nat × Nat)}
theorem on_every {k : Nat} : On (everyR ls) k ↔ k < ls.length := by
  unfold On everyR
  rw [List.getD_eq_getElem?_getD, List.getElem?_replicate]
  split <;> simp_all
theorem wk_every {x y : Nat} {w : List Nat} : Wk ls (On (everyR ls)) x w y ↔ Wk ls AllA x w y := ⟨fun h => h.mono fun _ _ _ => trivial, fun h => h.mono fun k hk _ => on_every.2 (h.all k hk).1⟩
theorem core_every {x : Nat} : CoreAt ls all pairs (On (everyR ls)) x ↔ CoreAt ls all pairs AllA x := by unfold CoreAt; simp only [wk_every]
theorem coresM_iff (hv : ValidG n ls) {x : Nat} : (coresM n ls all pairs).getD x false = true ↔ x < n ∧ CoreAt ls all pairs AllA x := by
  unfold coresM
  rw [coresS_iff hv _ _ (Nat.lt_succ_of_le (onCnt_le _)), core_every]
theorem coresM_len : (coresM n ls all pairs).length = n := coresS_len _ _ _ _ _ _
def initTo (n : Nat) (init : List Nat) (k : Nat) : List Bool := (init.take k).foldl (fun s x => s.set x true) (List.replicate n false)
def initR (n : Nat) (init : List Nat) : List Bool := initTo n init init.length
theorem fold_set : ∀ (xs : List Nat) (s : List Bool), (∀ x ∈ xs, x < s.length) → (xs.foldl (fun s x => s.set x true) s).length = s.length ∧ ∀ y, (xs.foldl (fun s x => s.set x true) s).getD y false = true ↔ y ∈ xs ∨ s.getD y false = true
  | [], s, _ => ⟨rfl, fun y => by simp⟩
  | x :: xs, s, h => by
    obtain ⟨h1, h2⟩ := fold_set xs (s.set x true) fun y hy => by rw [List.length_set]; exact h y (by simp [hy])
    rw [List.foldl_cons]
    refine ⟨by rw [h1, List.length_set], fun y => ?_⟩
    rw [h2, getD_setB (h x (by simp)), List.mem_cons]
    by_cases e : y = x
    · subst e; simp
    · rw [if_neg e]; simp [e]
theorem initR_iff {init : List Nat} (hi : ∀ x ∈ init, x < n) : (initR n init).length = n ∧ ∀ y, (initR n init).getD y false = true ↔ y ∈ init := by
  unfold initR initTo
  rw [List.take_length]
  obtain ⟨h1, h2⟩ := fold_set init (List.replicate n false) (by simpa using hi)
  refine ⟨by rw [h1]; simp, fun y => ?_⟩
  rw [h2, List.getD_eq_getElem?_getD, List.getElem?_replicate]
  split <;> simp
def reachedS (n : Nat) (ls : List Arrow) (init : List Nat) : List Nat := numsR (rchR ls (everyR ls) false n (initR n init))
theorem reached_eq (hv : ValidG n ls) {init r : List Nat} (hi : ∀ x ∈ init, x < n) (hR : ReachOk ls n init r) : reachedS n ls init = r := by
  obtain ⟨h1, h2⟩ := initR_iff hi
  refine asc_ext (nums_asc _) hR.asc fun x => ?_
  unfold reachedS
  rw [mem_numsR, rchR_iff hv h1, hR.mem]
  simp only [h2, rc_fwd, wk_every]
def isR (n : Nat) (ls : List Arrow) (all : List Nat) (pairs : List (Nat × Nat)) (init : List Nat) : Bool := (reachedS n ls init).any fun k => (coresM n ls all pairs).getD k false
theorem isR_iff (hv : ValidG n ls) {init : List Nat} (hi : ∀ x ∈ init, x < n) : isR n ls all pairs init = true ↔ ¬ NoCore ls all pairs init := by
  obtain ⟨r, _, hR⟩ := reach_closure hv hi
  unfold isR
  rw [reached_eq hv hi hR, List.any_eq_true]
  constructor
  · rintro ⟨k, hk, hc⟩ hno
    obtain ⟨s, hs, w, hw⟩ := (hR.mem k).1 hk
    exact hno s hs w k hw (coresM_iff hv |>.1 hc).2
  · intro h
    obtain ⟨s, h⟩ := Classical.not_forall.1 h
    obtain ⟨hs, h⟩ := Classical.not_forall.1 h
    obtain ⟨w, h⟩ := Classical.not_forall.1 h
    obtain ⟨y, h⟩ := Classical.not_forall.1 h
    obtain ⟨hw, h⟩ := Classical.not_forall.1 h
    have hm := (hR.mem y).2 ⟨s, hs, w, hw⟩
    exact ⟨y, hm, (coresM_iff hv).2 ⟨hR.lt y hm, Classical.not_not.1 h⟩⟩
end
section
variable {n : Int} {init : List Int} {ls : List ArrowI} {all : List Int} {pairs : List (Int × Int)}
end
end Go.Proofs.YtnanffbjmfgafaaGreat.S
namespace Go.Proofs.YtnanffbjmfgafaaGreat.S
open Go.RowKit
def bareR (d : Drop) : Bool :=
  if d.kind = 1 then d.n == 0
  else if d.kind = 2 then d.n == 0 && decide (d.rank.length = 0) && decide (d.l.length = 0)
  else if d.kind = 3 then decide (d.rank.length = 0) && decide (d.l.length = 0)
  else if d.kind = 4 then decide (d.rank.length = 0) && decide (d.l.length = 1)
  else false
section
variable (n : Nat) (ls : List Arrow) (all : List Nat) (pairs : List (Nat × Nat))
def rankTo (nodes rank : List Nat) (i : Nat) : List Nat := (List.range i).foldl (fun r j => r.set (nodes.getD j 0) (rank.getD j 0)) (List.replicate n 0)
def ranksS (rec : Drop → List Bool → Nat → Bool) (d : Drop) (inn inner : List Bool) (deep : Nat) : Bool :=
  if d.rank.length ≠ d.nodes.length ∨ d.l.length = 0 then false
  else if d.rank.all (fun k => decide (0 ≤ k) && decide (k < d.l.length)) = false then false
  else if (List.range ls.length).any (fun i => inner.getD i false && decide ((rankTo n (d.nodes.map Int.toNat) (d.rank.map Int.toNat) d.nodes.length).getD (frOf ls i) 0 < (rankTo n (d.nodes.map Int.toNat) (d.rank.map Int.toNat) d.nodes.length).getD (toOf ls i) 0)) = true then false
  else (List.range d.l.length).all fun k => decide ((partAt (d.nodes.map Int.toNat) (d.rank.map Int.toNat) d.nodes.length k).length ≠ 0) && (match d.l[k]? with
    | some e => decide ((partAt (d.nodes.map Int.toNat) (d.rank.map Int.toNat) d.nodes.length k).map Int.ofNat = e.nodes) && rec e inn (deep + 1)
    | none => false)
def showsS : Nat → Drop → List Bool → Nat → Bool
  | 0, _, _, _ => false
  | f + 1, d, inn, deep =>
    if deep > 100 ∨ bareR d = false then false
    else if rises n d.nodes = false then false
    else if d.kind = 2 then !(withinR ls inn (inF n (d.nodes.map Int.toNat))).any id
    else if d.kind = 3 then decide (0 ≤ d.n) && decide (d.n < all.length) && !someR ls (withinR ls inn (inF n (d.nodes.map Int.toNat))) (all.getD d.n.toNat 0)
    else if d.kind = 4 then
      if (decide (d.n < 0) || decide (d.n ≥ pairs.length) || someR ls (withinR ls inn (inF n (d.nodes.map Int.toNat))) (pairs.getD d.n.toNat (0, 0)).2) = true then false
      else match d.l with
        | e :: _ => decide (e.nodes = d.nodes) && showsS f e (withoutF ls inn (pairs.getD d.n.toNat (0, 0)).1) (deep + 1)
        | [] => false
    else ranksS n ls (showsS f) d inn (withinR ls inn (inF n (d.nodes.map Int.toNat))) deep
end
theorem inF_iff {n : Nat} {nodes : List Nat} {x : Nat} : (inF n nodes).getD x false = true ↔ x < n ∧ x ∈ nodes := by unfold inF; rw [getD_rangeB]; simp
theorem toNat_ofNat (nodes : List Nat) : (nodes.map Int.ofNat).map Int.toNat = nodes := back_map nodes
theorem rises_of {n : Nat} {nodes : List Nat} (h : nodes.Pairwise (· < ·)) (hl : ∀ x ∈ nodes, x < n) : rises (n : Int) (nodes.map Int.ofNat) = true := by
  unfold rises risesTo
  rw [List.all_eq_true]
  intro i hi
  have hi' : i < nodes.length := by simpa using hi
  have e : ∀ j (hj : j < nodes.length), (nodes.map Int.ofNat).getD j 0 = (nodes[j] : Int) := fun j hj => by rw [List.getD_eq_getElem?_getD, List.getElem?_map, List.getElem?_eq_getElem hj]; rfl
  unfold risesAt
  rw [e i hi']
  have h1 := hl _ (List.getElem_mem hi')
  simp only [Bool.and_eq_true, Bool.or_eq_true, decide_eq_true_eq]
  refine ⟨⟨Int.natCast_nonneg _, by omega⟩, ?_⟩
  by_cases h0 : i = 0
  · exact .inl h0
  · right
    rw [e (i - 1) (by omega)]
    have := List.pairwise_iff_getElem.1 h (i - 1) i (by omega) hi' (by omega)
    omega
section
variable {n : Nat} {ls : List Arrow} {all : List Nat} {pairs : List (Nat × Nat)}
theorem within_mem (hv : ValidG n ls) {nodes : List Nat} {on : List Bool} {k : Nat} : k ∈ withinF ls nodes on ↔ k < ls.length ∧ (withinR ls on (inF n nodes)).getD k false = true := by
  rw [mem_withinF, withinR_at]
  simp only [inF_iff]
  constructor
  · rintro ⟨h1, h2, h3, h4⟩
    obtain ⟨a, b, _⟩ := hv.ok _ (List.getElem_mem h1)
    exact ⟨h1, h1, h3, ⟨by rw [frOf_at h1]; exact a, h2⟩, by rw [toOf_at h1]; exact b, h4⟩
  · rintro ⟨h1, _, h3, ⟨_, h4⟩, _, h5⟩
    exact ⟨h1, h4, h3, h5⟩
theorem within_none (hv : ValidG n ls) {nodes : List Nat} {on : List Bool} : decide ((withinF ls nodes on).length = 0) = !(withinR ls on (inF n nodes)).any id := by
  rw [Bool.eq_iff_iff, decide_eq_true_eq, Bool.not_eq_true', ← Bool.not_eq_true]
  constructor
  · intro h hany
    rw [List.any_eq_true] at hany
    obtain ⟨b, hb, hbt⟩ := hany
    obtain ⟨j, hj, rfl⟩ := List.getElem_of_mem hb
    have hjt : (withinR ls on (inF n nodes)).getD j false = true := by rw [List.getD_eq_getElem?_getD, List.getElem?_eq_getElem hj]; exact hbt
    have := (within_mem hv).2 ⟨(withinR_at.1 hjt).1, hjt⟩
    rw [List.length_eq_zero_iff.1 h] at this
    cases this
  · intro h
    rw [List.length_eq_zero_iff, List.eq_nil_iff_forall_not_mem]
    exact fun k hk => h (any_id ((within_mem hv).1 hk).2)
theorem within_some (hv : ValidG n ls) {nodes : List Nat} {on : List Bool} {m : Nat} (hm : m < 16) : (metF ls (withinF ls nodes on)).getD m false = someR ls (withinR ls on (inF n nodes)) m := by
  rw [Bool.eq_iff_iff, met_yes hm, someR_iff]
  constructor
  · rintro ⟨k, hk, h⟩
    obtain ⟨a, b⟩ := (within_mem hv).1 hk
    exact ⟨k, a, b, h⟩
  · rintro ⟨k, a, b, h⟩
    exact ⟨k, (within_mem hv).2 ⟨a, b⟩, h⟩
theorem getD_setN {l : List Nat} {k j v : Nat} (hk : k < l.length) : (l.set k v).getD j 0 = if j = k then v else l.getD j 0 := by
  rw [List.getD_eq_getElem?_getD, List.getD_eq_getElem?_getD, List.getElem?_set]
  by_cases h : k = j
  · subst h; simp [hk]
  · rw [if_neg h, if_neg (fun e => h e.symm)]
theorem rankTo_len {nodes rank : List Nat} : ∀ i, (rankTo n nodes rank i).length = n
  | 0 => by simp [rankTo]
  | i + 1 => by
    have e : rankTo n nodes rank (i + 1) = (rankTo n nodes rank i).set (nodes.getD i 0) (rank.getD i 0) := by unfold rankTo; rw [List.range_succ, List.foldl_append]; rfl
    rw [e, List.length_set, rankTo_len i]
theorem rankTo_at {nodes rank : List Nat} (hl : ∀ x ∈ nodes, x < n) : ∀ i, i ≤ nodes.length → ∀ x, (rankTo n nodes rank i).getD x 0 = lowOf (rankM nodes rank i) x
  | 0, _, x => by
    show (List.replicate n 0).getD x 0 = 0
    rw [List.getD_eq_getElem?_getD, List.getElem?_replicate]
    split <;> rfl
  | i + 1, hi, x => by
    have e : rankTo n nodes rank (i + 1) = (rankTo n nodes rank i).set (nodes.getD i 0) (rank.getD i 0) := by unfold rankTo; rw [List.range_succ, List.foldl_append]; rfl
    have hil : i < nodes.length := by omega
    have e1 : nodes.getD i 0 = nodes[i] := by rw [List.getD_eq_getElem?_getD, List.getElem?_eq_getElem hil]; rfl
    rw [e, rankM_succ, lowOf_sk, getD_setN (by rw [rankTo_len, e1]; exact hl _ (List.getElem_mem hil)), rankTo_at hl i (by omega) x]
theorem plain_bare (d : Drop) : (if d.kind = 2 then plainF d false false 0 else if d.kind = 3 then plainF d true false 0 else if d.kind = 4 then plainF d true false 1 else if d.kind = 1 then plainF d false true (-1) else false) = bareR d := by
  unfold bareR plainF
  have e0 : ∀ m : Nat, ((m : Int) == 0) = decide (m = 0) := fun m => by rw [Bool.eq_iff_iff]; simp
  have e1 : ∀ m : Nat, ((m : Int) == 1) = decide (m = 1) := fun m => by rw [Bool.eq_iff_iff]; simp; omega
  by_cases h2 : d.kind = 2
  · rw [if_pos h2, if_neg (by omega), if_pos h2, e0, e0]; simp
  rw [if_neg h2]
  by_cases h3 : d.kind = 3
  · rw [if_pos h3, if_neg (by omega), if_neg h2, if_pos h3, e0, e0]; simp
  rw [if_neg h3]
  by_cases h4 : d.kind = 4
  · rw [if_pos h4, if_neg (by omega), if_neg h2, if_neg h3, if_pos h4, e0, e1]; simp
  rw [if_neg h4]
  by_cases h1 : d.kind = 1
  · rw [if_pos h1, if_pos h1]; simp
  rw [if_neg h1, if_neg h1, if_neg h2, if_neg h3, if_neg h4]
theorem all_congr' {α : Type} {p q : α → Bool} {l : List α} (h : ∀ x ∈ l, p x = q x) : l.all p = l.all q := by
  rw [Bool.eq_iff_iff, List.all_eq_true, List.all_eq_true]
  exact forall_congr' fun x => ⟨fun k hx => by rw [← h x hx]; exact k hx, fun k hx => by rw [h x hx]; exact k hx⟩
theorem shows_same (hv : ValidG n ls) (hw : ValidW all pairs) : ∀ (f : Nat) (d : Drop) (nodes : List Nat) (on : List Bool) (deep : Nat), nodes.Pairwise (· < ·) → (∀ x ∈ nodes, x < n) → showsF ls all pairs f d nodes on deep = (decide (d.nodes = nodes.map Int.ofNat) && showsS n ls all pairs f d on deep)
  | 0, _, _, _, _, _, _ => by rw [showsF, showsS, Bool.and_false]
  | f + 1, d, nodes, on, deep, ha, hl => by
    by_cases hnd : d.nodes = nodes.map Int.ofNat
    rotate_left
    · rw [decide_eq_false hnd, Bool.false_and]
      unfold showsF
      rw [if_pos (.inr hnd)]
    rw [decide_eq_true hnd, Bool.true_and]
    have hr : rises (n : Int) d.nodes = true := by rw [hnd]; exact rises_of ha hl
    have hnn : d.nodes.map Int.toNat = nodes := by rw [hnd]; exact toNat_ofNat nodes
    have hb := plain_bare d
    unfold showsF showsS
    by_cases hd : deep > 100
    · rw [if_pos (.inl hd), if_pos (.inl hd)]
    rw [if_neg (by rintro (h | h); exact hd h; exact h hnd), hnn]
    by_cases h2 : d.kind = 2
    · rw [if_pos h2] at hb ⊢
      rw [hb, within_none hv]
      by_cases hbb : bareR d = true
      · rw [hbb, if_neg (by rintro (h | h); exact hd h; cases h), hr, if_neg (by decide), if_pos h2, Bool.true_and]
      · rw [Bool.eq_false_iff.2 hbb, if_pos (.inr rfl), Bool.false_and]
    rw [if_neg h2] at hb ⊢
    by_cases h3 : d.kind = 3
    · rw [if_pos h3] at hb ⊢
      rw [hb]
      by_cases hbb : bareR d = true
      · rw [hbb, if_neg (by rintro (h | h); exact hd h; cases h), hr, if_neg (by decide), if_neg h2, if_pos h3, Bool.true_and]
        by_cases hq : 0 ≤ d.n ∧ d.n < all.length
        · have hlt : d.n.toNat < all.length := by omega
          rw [within_some hv (by rw [List.getD_eq_getElem?_getD, List.getElem?_eq_getElem hlt]; exact hw.all_ok _ (List.getElem_mem hlt))]
        · have : (decide (0 ≤ d.n) && decide (d.n < all.length)) = false := by rw [← Bool.not_eq_true, Bool.and_eq_true, decide_eq_true_eq, decide_eq_true_eq]; exact hq
          rw [this, Bool.false_and, Bool.false_and]
      · rw [Bool.eq_false_iff.2 hbb, if_pos (.inr rfl), Bool.false_and, Bool.false_and, Bool.false_and]
    rw [if_neg h3] at hb ⊢
    by_cases h4 : d.kind = 4
    · rw [if_pos h4] at hb ⊢
      rw [hb]
      by_cases hbb : bareR d = true
      · rw [hbb, if_neg (show ¬ (deep > 100 ∨ true = false) by rintro (h | h); exact hd h; cases h), hr, if_neg (show ¬ true = false by decide), if_neg h2, if_neg h3, if_pos h4, Bool.not_true, Bool.false_or]
        by_cases hq : 0 ≤ d.n ∧ d.n < pairs.length
        · have hlt : d.n.toNat < pairs.length := by omega
          have hpo := hw.pairs_ok _ (List.getElem_mem hlt)
          have e : pairs.getD d.n.toNat (0, 0) = pairs[d.n.toNat] := by rw [List.getD_eq_getElem?_getD, List.getElem?_eq_getElem hlt]; rfl
          rw [within_some hv (by rw [e]; exact hpo.2)]
          split
          · rfl
          · cases hdl : d.l with
            | nil => rfl
            | cons e r => exact (shows_same hv hw f e nodes _ (deep + 1) ha hl).trans (by rw [hnd])
        · have : (decide (d.n < 0) || decide (d.n ≥ pairs.length)) = true := by rw [Bool.or_eq_true, decide_eq_true_eq, decide_eq_true_eq]; omega
          rw [this, Bool.true_or, Bool.true_or, if_pos rfl, if_pos rfl]
      · rw [Bool.eq_false_iff.2 hbb, if_pos (show deep > 100 ∨ false = false from .inr rfl), Bool.not_false, Bool.true_or, Bool.true_or, Bool.true_or, if_pos rfl]
    rw [if_neg h4] at hb ⊢
    by_cases h1 : d.kind = 1
    rotate_left
    · rw [if_neg h1] at hb ⊢
      rw [← hb, if_pos (.inr rfl)]
    rw [if_pos h1] at hb ⊢
    rw [hb]
    by_cases hbb : bareR d = true
    rotate_left
    · rw [Bool.eq_false_iff.2 hbb, if_pos (show deep > 100 ∨ false = false from .inr rfl), Bool.false_and]
    rw [hbb, if_neg (show ¬ (deep > 100 ∨ true = false) by rintro (h | h); exact hd h; cases h), hr, if_neg (show ¬ true = false by decide), if_neg h2, if_neg h3, if_neg h4, Bool.true_and]
    have hlen : d.nodes.length = nodes.length := by rw [hnd, List.length_map]
    unfold ranksF ranksS
    rw [hnn, hlen]
    split
    · rfl
    split
    · rfl
    rename_i q1 q2
    have hnod := ha.imp fun {a b : Nat} (h : a < b) => Nat.ne_of_lt h
    have hany : (withinF ls nodes on).any (fun i => decide (lowOf (rankM nodes (d.rank.map Int.toNat) nodes.length) (frOf ls i) < lowOf (rankM nodes (d.rank.map Int.toNat) nodes.length) (toOf ls i))) =
        (List.range ls.length).any (fun i => (withinR ls on (inF n nodes)).getD i false && decide ((rankTo n nodes (d.rank.map Int.toNat) nodes.length).getD (frOf ls i) 0 < (rankTo n nodes (d.rank.map Int.toNat) nodes.length).getD (toOf ls i) 0)) := by
      rw [Bool.eq_iff_iff, List.any_eq_true, List.any_eq_true]
      refine exists_congr fun i => ?_
      rw [within_mem hv, List.mem_range, Bool.and_eq_true, rankTo_at hl _ (Nat.le_refl _), rankTo_at hl _ (Nat.le_refl _), and_assoc]
    rw [hany]
    split
    · rfl
    refine all_congr' fun k hk => ?_
    have hk' := List.mem_range.1 hk
    rw [List.getElem?_eq_getElem hk']
    simp only
    congr 1
    have hsub := partAt_sub nodes (d.rank.map Int.toNat) k
    rw [shows_same hv hw f d.l[k] _ on (deep + 1) (ha.sublist hsub) fun x hx => hl x (hsub.subset hx)]
    congr 1
    rw [decide_eq_decide]
    exact eq_comm
end
section
variable {n : Int} {init : List Int} {ls : List ArrowI} {all : List Int} {pairs : List (Int × Int)}
def refVerifyI (f : Nat) (n : Int) (init : List Int) (ls : List ArrowI) (all : List Int) (pairs : List (Int × Int)) (d : Drop) : Int :=
  if checkI n init ls all pairs = 0 then
    if (decide (d.nodes = (reachedS n.toNat (ls.map toA) (init.map Int.toNat)).map Int.ofNat) && showsS n.toNat (ls.map toA) (all.map Int.toNat) (pairs.map toP) f d (everyR (ls.map toA)) 1) = true then 0 else 312
  else checkI n init ls all pairs
theorem verify_same (f : Nat) (d : Drop) : verifyI f n init ls all pairs d = some (refVerifyI f n init ls all pairs d) := by
  by_cases hC : checkI n init ls all pairs = 0
  · have hk := checked hC
    obtain ⟨r, h1, h2⟩ := verify_total hC f d
    rw [h2]
    unfold refVerifyI
    rw [if_pos hC, reached_eq hk.validG (init_lt hC) h1, shows_same hk.validG hk.validW f d r _ 1 h1.asc h1.lt]
    rfl
  · unfold verifyI refVerifyI
    rw [if_neg hC, if_neg hC]
end
end Go.Proofs.YtnanffbjmfgafaaGreat.S
namespace Go.Proofs.YtnanffbjmfgafaaGreat.S
open Go.RowKit
def OwnB (v : Value) (l : List Bool) (H : Own) : Prop := OwnS 4 1 v l.length (l.map .bool) H
theorem OwnB.open' {v : Value} {l : List Bool} {H : Own} (h : OwnB v l H) (hl : 0 < l.length) : ∃ b cap cs, v = .slice (some ⟨b, 0, none⟩) l.length cap ∧ H = [(b, cellsO cs 4)] ∧ (∀ i (h : i < l.length), cs[i]? = some (.bool l[i])) ∧
    ∀ i c, i < l.length → OwnB (.slice (some ⟨b, 0, none⟩) l.length cap) (l.set i c) [(b, cellsO (cs.set i (.bool c)) 4)] := by
  obtain ⟨b, cap, pad, rfl, h1, h2, h3, rfl⟩ := h.pos hl
  refine ⟨b, cap, _, rfl, rfl, fun i hi => ?_, fun i c hi => ?_⟩
  · rw [List.getElem?_append_left (by simpa using hi)]; simp [hi]
  · refine .inr ⟨b, cap, pad, by rw [List.length_set], by simp, ?_, by rw [List.length_set]; exact h3, ?_⟩
    · simpa using h2
    · rw [List.map_set, List.set_append_left _ _ (by simpa using hi)]
theorem OwnB.form {v : Value} {l : List Bool} {H : Own} (h : OwnB v l H) : ∃ a cap, v = .slice a l.length cap := OwnS.form h
theorem OwnB.lendB {v : Value} {l : List Bool} {H L : Own} {g : Ghost} {w : World} (h : OwnB v l H) (hs : St g w (H ++ L)) : ∃ g', g ≤ g' ∧ St g' w L ∧ RS kBool g' v l ∧ ∀ gc w' L', g' ≤ gc → St gc w' L' → ∃ ga, g ≤ ga ∧ ga ≤ gc ∧ St ga w' (H ++ L') :=
  OwnS.lend (e := eBool) (h0 := fun _ => rfl) (by rw [flat_bools]; exact h) hs
theorem OwnB.freezeB {v : Value} {l : List Bool} {H L : Own} {g : Ghost} {w : World} (h : OwnB v l H) (hs : St g w (H ++ L)) : ∃ g', g ≤ g' ∧ St g' w L ∧ RS kBool g' v l :=
  OwnS.freezeE (e := eBool) (h0 := fun _ => rfl) (by rw [flat_bools]; exact h) hs
theorem getD_at {l : List Bool} {i : Nat} (h : i < l.length) : l.getD i false = l[i] := by rw [List.getD_eq_getElem?_getD, List.getElem?_eq_getElem h]; rfl
theorem refHas_spec (g : Ghost) (f t : Value) (x m : Nat) (hx : x < 4294967296) (hf : f.oneCell' = true) (ht : t.oneCell' = true) :
    Cl PP 58 [.agg #[f, t, .int .u32 x], .int .i64 m] g [] (Det (.bool (x.testBit m))) := by
  refine cl_intro Tryz.func58 rfl rfl Tryz.ntmps58 rfl ?_
  intro w F hs
  repeat (refine wc_seq ?_)
  refine wc_region ?_
  refine wl_box hs rfl rfl rfl rfl ?_; clear hs; intro b w hs
  repeat (refine wl_p rfl rfl rfl ?_)
  refine wl_nil (wk_seq ?_)
  repeat (refine wc_seq ?_)
  refine wc_region ?_
  repeat (refine wl_p rfl rfl rfl ?_)
  refine wl_ldO hs 0 rfl rfl rfl rfl rfl rfl rfl ?_
  repeat (refine wl_p rfl rfl rfl ?_)
  refine wl_shr rfl rfl (by omega) rfl rfl ?_
  refine wl_and rfl rfl rfl rfl ?_
  repeat (refine wl_p rfl rfl rfl ?_)
  refine wl_nil (wk_seq ?_)
  exact wc_retV (res1 rfl rfl) ⟨g, [], Ghost.rfl', hs.drop, rfl, congrArg Value.bool (bit_eq x m hx)⟩
theorem hasM_arr {ls : List Arrow} {i : Nat} (h : i < ls.length) (m : Nat) : hasM ls i m = (ls[i]).ms.testBit m := hasM_at h
theorem any_to {f : Nat → Bool} {n i : Nat} (hi : i < n) (h : f i = true) : (List.range n).any f = true := List.any_eq_true.2 ⟨i, List.mem_range.2 hi, h⟩
theorem any_none {f : Nat → Bool} {n : Nat} (h : ∀ j, j < n → f j = false) : (List.range n).any f = false := List.any_eq_false.2 fun j hj => by rw [h j (List.mem_range.1 hj)]; simp
theorem refSome_spec (g : Ghost) (vl vin : Value) (n m : Nat) (ls : List Arrow) (inn : List Bool) (hl : RS kArr g vl ls) (hv : ValidG n ls) (hin : RS kBool g vin inn) (hlen : inn.length = ls.length) :
    Cl PP 56 [vl, vin, .int .i64 (m : Int)] g [] (Det (.bool (someR ls inn m))) := by
  obtain ⟨al, cl, rfl⟩ := hl.form
  obtain ⟨ai, ci, rfl⟩ := hin.form
  have hl0 := hv.len
  refine cl_intro Tryz.func56 rfl rfl Tryz.ntmps56 rfl ?_
  intro w F hs
  repeat (refine wc_seq ?_)
  refine wc_region ?_
  repeat (refine wl_p rfl rfl rfl ?_)
  refine wl_nil (wk_seq ?_)
  repeat (refine wc_seq ?_)
  refine wc_region ?_
  repeat (refine wl_p rfl rfl rfl ?_)
  refine wl_nil (wk_seq ?_)
  repeat (refine wc_seq ?_)
  refine wc_fori ls.length (fun _ (_ : Unit) => [(0, .slice al ls.length cl), (1, .slice ai inn.length ci), (2, .int .i64 (m : Int))]) (fun i (_ : Unit) w => ∃ g', g ≤ g' ∧ St g' w F ∧ ∀ j, j < i → (inn.getD j false && hasM ls j m) = false) () (by repeat (first | exact trivial | refine ⟨rfl, ?_⟩)) ⟨g, Ghost.rfl', hs, fun j h => by omega⟩ ?_ ?_ ?_
  · intro i _ w s' hi hJ hk
    repeat (refine wl_p rfl rfl rfl ?_)
    exact wl_nil (wk_weak (by repeat (first | exact trivial | refine ⟨rfl, ?_⟩)) hk)
  · rintro i _ w hi ⟨g1, hg1, hs, hj⟩
    have hi2 : i < inn.length := by omega
    have hb := hl.base hi
    have hc := (hl.mono hg1).enc hi
    have hb2 := hin.base hi2
    have hc2 := (hin.mono hg1).bool hi2
    have hgd := getD_at hi2
    generalize inn[i] = q at hc2 hgd
    repeat (refine wc_seq ?_)
    refine wc_region ?_
    repeat (refine wl_p rfl rfl rfl ?_)
    refine wl_ix rfl rfl rfl rfl rfl (by omega) (hb2) rfl rfl ?_
    refine wl_ldG hs (hc2) rfl rfl rfl rfl rfl ?_
    repeat (refine wl_p rfl rfl rfl ?_)
    cases q with
    | true =>
      repeat (first | refine wl_p rfl rfl rfl ?_ | refine wl_skip rfl rfl rfl ?_)
      refine wl_ix rfl rfl rfl rfl rfl (by omega) hb rfl rfl ?_
      refine wl_ldGN hs (hc.of_eaddr) rfl rfl rfl rfl rfl rfl ?_
      repeat (first | refine wl_p rfl rfl rfl ?_ | refine wl_skip rfl rfl rfl ?_)
      refine wl_call rfl rfl rfl (L := []) hs (refHas_spec g1 _ _ ls[i].ms m (by have := (hv.ok _ (List.getElem_mem hi)).2.2; omega) rfl rfl) ?_
      rintro u g2 L' w hg2 hs ⟨rfl, rfl⟩
      repeat (first | refine wl_p rfl rfl rfl ?_ | refine wl_skip rfl rfl rfl ?_)
      refine wl_nil (wk_seq ?_)
      refine wc_cond rfl (fun h => ?_) (fun h => ?_)
      · repeat (refine wc_seq ?_)
        refine wc_region ?_
        repeat (refine wl_p rfl rfl rfl ?_)
        refine wl_nil (wk_seq ?_)
        refine wc_retV (res1 rfl rfl) ⟨g2, [], Ghost.tr hg1 hg2, hs, rfl, ?_⟩
        have h' : (ls[i]).ms.testBit m = true := h
        unfold someR
        rw [any_to hi (by rw [hgd, hasM_arr hi, h']; rfl)]
      · have h' : (ls[i]).ms.testBit m = false := h
        refine wc_skip (wk_blk (wk_nexti () hi (by omega) ⟨g2, Ghost.tr hg1 hg2, hs, fun j h => ?_⟩ rfl rfl rfl rfl (by repeat (first | exact trivial | refine ⟨rfl, ?_⟩))))
        by_cases e : j = i
        · subst e; rw [hgd, hasM_arr hi, h']; rfl
        · exact hj j (by omega)
    | false =>
      repeat (first | refine wl_p rfl rfl rfl ?_ | refine wl_skip rfl rfl rfl ?_)
      refine wl_nil (wk_seq ?_)
      refine wc_condF rfl rfl (wc_skip (wk_blk (wk_nexti () hi (by omega) ⟨g1, hg1, hs, fun j h => ?_⟩ rfl rfl rfl rfl (by repeat (first | exact trivial | refine ⟨rfl, ?_⟩)))))
      by_cases e : j = i
      · subst e; rw [hgd]; rfl
      · exact hj j (by omega)
  · rintro _ w ⟨g1, hg1, hs, hj⟩
    refine wk_seq ?_
    repeat (refine wc_seq ?_)
    refine wc_region ?_
    repeat (refine wl_p rfl rfl rfl ?_)
    refine wl_nil (wk_seq ?_)
    exact wc_retV (res1 rfl rfl) ⟨g1, [], hg1, hs, rfl, by unfold someR; rw [any_none hj]⟩
theorem every_spec (g : Ghost) (vl : Value) (ls : List Arrow) (hl : RS kArr g vl ls) (hl0 : ls.length ≤ 200000) : Cl PP 27 [vl] g [] fun g' L' r => L' = [] ∧ RS kBool g' r (everyR ls) := by
  obtain ⟨al, cl, rfl⟩ := hl.form
  refine cl_intro Tryz.func27 rfl rfl Tryz.ntmps27 rfl ?_
  intro w F hs
  repeat (refine wc_seq ?_)
  refine wc_region ?_
  repeat (refine wl_p rfl rfl rfl ?_)
  refine wl_nil (wk_seq ?_)
  repeat (refine wc_seq ?_)
  refine wc_region ?_
  repeat (refine wl_p rfl rfl rfl ?_)
  refine wl_make hs rfl (by omega) rfl rfl rfl rfl rfl rfl rfl ?_
  clear hs; intro ob w hs
  rw [zero_boolsN] at hs
  repeat (refine wl_p rfl rfl rfl ?_)
  refine wl_nil (wk_seq ?_)
  repeat (refine wc_seq ?_)
  refine wc_region ?_
  repeat (refine wl_p rfl rfl rfl ?_)
  refine wl_nil (wk_seq ?_)
  repeat (refine wc_seq ?_)
  refine wc_fori ls.length (fun _ (_ : List Bool) => [(0, .slice al ls.length cl), (3, .slice (some ⟨ob, 0, none⟩) ls.length ls.length)]) (fun i (x : List Bool) w => x.length = ls.length ∧ (∀ j, j < i → x.getD j false = true) ∧ St g w ((ob, cellsO (x.map .bool) 4) :: F)) (List.replicate ls.length false) (by repeat (first | exact trivial | refine ⟨rfl, ?_⟩)) ⟨by simp, fun j h => by omega, hs⟩ ?_ ?_ ?_
  · intro i _ w s' hi hJ hk
    repeat (refine wl_p rfl rfl rfl ?_)
    exact wl_nil (wk_weak (by repeat (first | exact trivial | refine ⟨rfl, ?_⟩)) hk)
  · rintro i x w hi ⟨hx, hj, hs⟩
    repeat (refine wc_seq ?_)
    refine wc_region ?_
    repeat (refine wl_p rfl rfl rfl ?_)
    refine wl_ixJ _ rfl rfl rfl rfl rfl (hi) rfl rfl rfl ?_
    refine wl_st (u := .bool (x[i]'(by omega))) hs 0 rfl rfl rfl (by simp [hx, hi]) rfl rfl rfl rfl ?_
    clear hs; intro w hs
    refine wl_nil (wk_blk (wk_nexti (x.set i true) hi (by omega) ⟨by rw [List.length_set]; exact hx, fun j h => ?_, ?_⟩ rfl rfl rfl rfl (by repeat (first | exact trivial | refine ⟨rfl, ?_⟩))))
    · rw [getD_setB (by omega)]
      split
      · rfl
      · exact hj j (by omega)
    · rw [List.map_set]; exact hs
  · rintro x w ⟨hx, hj, hs⟩
    refine wk_seq ?_
    repeat (refine wc_seq ?_)
    refine wc_region ?_
    repeat (refine wl_p rfl rfl rfl ?_)
    refine wl_nil (wk_seq ?_)
    have e : x = everyR ls := by
      apply List.ext_getElem
      · simp [everyR, hx]
      · intro i h1 h2
        have := hj i (by omega)
        rw [getD_at h1] at this
        simp [everyR, this]
    subst e
    obtain ⟨g2, hg2, hs1, hr3⟩ := OwnS.freezeE (e := eBool) (h0 := fun _ => rfl) (xs := everyR ls) (own_bools hx) hs
    exact wc_retV (res1 rfl rfl) ⟨g2, [], hg2, hs1, rfl, hr3⟩
theorem refOne_spec (g : Ghost) (n k : Nat) (hn : n ≤ 20000) (hk : k < n) : Cl PP 86 [.int .i64 (n : Int), .int .i64 (k : Int)] g [] fun g' L' r => L' = [] ∧ RS kBool g' r (oneR n k) := by
  refine cl_intro Tryz.func86 rfl rfl Tryz.ntmps86 rfl ?_
  intro w F hs
  repeat (refine wc_seq ?_)
  refine wc_region ?_
  repeat (refine wl_p rfl rfl rfl ?_)
  refine wl_nil (wk_seq ?_)
  repeat (refine wc_seq ?_)
  refine wc_region ?_
  repeat (refine wl_p rfl rfl rfl ?_)
  refine wl_make hs rfl (by omega) rfl rfl rfl rfl rfl rfl rfl ?_
  clear hs; intro ob w hs
  rw [zero_boolsN] at hs
  repeat (refine wl_p rfl rfl rfl ?_)
  refine wl_nil (wk_seq ?_)
  repeat (refine wc_seq ?_)
  refine wc_region ?_
  repeat (refine wl_p rfl rfl rfl ?_)
  refine wl_ixJ _ rfl rfl rfl rfl rfl (hk) rfl rfl rfl ?_
  refine wl_st (u := .bool false) hs 0 rfl rfl rfl (by simp [hk]) rfl rfl rfl rfl ?_
  clear hs; intro w hs
  refine wl_nil (wk_seq ?_)
  repeat (refine wc_seq ?_)
  refine wc_region ?_
  repeat (refine wl_p rfl rfl rfl ?_)
  refine wl_nil (wk_seq ?_)
  obtain ⟨g2, hg2, hs1, hr3⟩ := OwnS.freezeE (e := eBool) (h0 := fun _ => rfl) (xs := oneR n k) (own_bools (n := n) (by simp [oneR])) (by rw [oneR, List.map_set]; exact hs)
  exact wc_retV (res1 rfl rfl) ⟨g2, [], hg2, hs1, rfl, hr3⟩
theorem nums_snoc {l : List Bool} {i : Nat} (hi : i < l.length) : (List.range (i + 1)).filter (fun j => l.getD j false) = (List.range i).filter (fun j => l.getD j false) ++ if l[i] = true then [i] else [] := by
  rw [List.range_succ, List.filter_append, List.filter_cons, getD_at hi]
  rfl
theorem refNumbers_spec (g : Ghost) (vl : Value) (l : List Bool) (hl : RS kBool g vl l) (hl0 : l.length ≤ 4000000000) : Cl PP 51 [vl] g [] fun g' L' r => L' = [] ∧ RS kNat g' r (numsR l) := by
  obtain ⟨al, cl, rfl⟩ := hl.form
  refine cl_intro Tryz.func51 rfl rfl Tryz.ntmps51 rfl ?_
  intro w F hs
  repeat (refine wc_seq ?_)
  refine wc_region ?_
  repeat (refine wl_p rfl rfl rfl ?_)
  refine wl_nil (wk_seq ?_)
  repeat (refine wc_seq ?_)
  refine wc_region ?_
  repeat (refine wl_p rfl rfl rfl ?_)
  refine wl_nil (wk_seq ?_)
  repeat (refine wc_seq ?_)
  refine wc_region ?_
  repeat (refine wl_p rfl rfl rfl ?_)
  refine wl_nil (wk_seq ?_)
  repeat (refine wc_seq ?_)
  refine wc_fori l.length (fun _ (x : Value × Own) => [(0, .slice al l.length cl), (3, x.1)]) (fun i (x : Value × Own) w => OwnS 3 1 x.1 ((List.range i).filter fun j => l.getD j false).length (((List.range i).filter fun j => l.getD j false).flatMap eNat) x.2 ∧ St g w (x.2 ++ F)) (.slice none 0 0, []) (by repeat (first | exact trivial | refine ⟨rfl, ?_⟩)) ⟨OwnS.nil _ _, hs⟩ ?_ ?_ ?_
  · rintro i ⟨v, H⟩ w s' hi hJ hk
    repeat (refine wl_p rfl rfl rfl ?_)
    exact wl_nil (wk_weak (by repeat (first | exact trivial | refine ⟨rfl, ?_⟩)) hk)
  · rintro i ⟨v, H⟩ w hi ⟨hown, hs⟩
    simp only at hown hs
    have hb := hl.base hi
    have hc := hl.bool hi
    have hsn := nums_snoc hi
    have hcnt : ((List.range i).filter fun j => l.getD j false).length ≤ i := by
      have := List.length_filter_le (fun j => l.getD j false) (List.range i)
      simpa using this
    generalize l[i] = q at hc hsn
    repeat (refine wc_seq ?_)
    refine wc_region ?_
    repeat (refine wl_p rfl rfl rfl ?_)
    refine wl_ix rfl rfl rfl rfl rfl (by omega) (hb) rfl rfl ?_
    refine wl_ldG hs (hc) rfl rfl rfl rfl rfl ?_
    refine wl_nil (wk_seq ?_)
    cases q with
    | true =>
      refine wc_condT rfl rfl ?_
      repeat (refine wc_seq ?_)
      refine wc_region ?_
      repeat (refine wl_p rfl rfl rfl ?_)
      refine wl_push hs hown (by omega) rfl rfl rfl rfl rfl rfl rfl rfl rfl rfl rfl rfl rfl rfl ?_
      clear hs; rintro v' w H' hown' hs
      repeat (refine wl_p rfl rfl rfl ?_)
      refine wl_nil (wk_blk (wk_nexti (v', H') hi (by omega) ⟨?_, hs⟩ rfl rfl rfl rfl (by repeat (first | exact trivial | refine ⟨rfl, ?_⟩))))
      simp only [hsn, if_true, List.length_append, List.length_singleton, List.flatMap_append]
      exact hown'
    | false =>
      refine wc_condF rfl rfl (wc_skip (wk_blk (wk_nexti (v, H) hi (by omega) ⟨?_, hs⟩ rfl rfl rfl rfl (by repeat (first | exact trivial | refine ⟨rfl, ?_⟩)))))
      simp only [hsn, Bool.false_eq_true, if_false, List.append_nil]
      exact hown
  · rintro ⟨v, H⟩ w ⟨hown, hs⟩
    simp only at hown hs
    refine wk_seq ?_
    repeat (refine wc_seq ?_)
    refine wc_region ?_
    repeat (refine wl_p rfl rfl rfl ?_)
    refine wl_nil (wk_seq ?_)
    obtain ⟨g2, hg2, hs1, hr3⟩ := OwnS.freezeE (e := eNat) (h0 := fun _ => rfl) (xs := numsR l) hown hs
    exact wc_retV (res1 rfl rfl) ⟨g2, [], hg2, hs1, rfl, hr3⟩
end Go.Proofs.YtnanffbjmfgafaaGreat.S
namespace Go.Proofs.YtnanffbjmfgafaaGreat.S
open Go.RowKit
theorem refSatisfied_spec (g : Ghost) (vl vin va vp : Value) (n : Nat) (ls : List Arrow) (inn : List Bool) (all : List Nat) (pairs : List (Nat × Nat)) (hl : RS kArr g vl ls) (hv : ValidG n ls) (hin : RS kBool g vin inn) (hlen : inn.length = ls.length) (ha : RS kNat g va all) (hp : RS kPair g vp pairs)
    (ha0 : all.length ≤ 4611686018427387904) (hp0 : pairs.length ≤ 4611686018427387904) :
    Cl PP 63 [vl, vin, .agg #[va, vp]] g [] (Det (.bool (satR ls all pairs inn))) := by
  obtain ⟨aa, ca, rfl⟩ := ha.form
  obtain ⟨ap, cp, rfl⟩ := hp.form
  refine cl_intro Tryz.func63 rfl rfl Tryz.ntmps63 rfl ?_
  intro w F hs
  repeat (refine wc_seq ?_)
  refine wc_region ?_
  refine wl_box hs rfl rfl rfl rfl ?_; clear hs; intro wb w hs
  repeat (refine wl_p rfl rfl rfl ?_)
  refine wl_nil (wk_seq ?_)
  obtain ⟨g1, hg1, hs, hwb⟩ := freezeB hs
  replace hs := (show St g1 w F from hs)
  replace hwb := (show Lies g1 wb 0 [.slice aa all.length ca, .slice ap pairs.length cp] from hwb)
  have e : satR ls all pairs inn = (all.all (fun m => someR ls inn m) && pairs.all fun p => !(someR ls inn p.1 && !someR ls inn p.2)) := rfl
  repeat (refine wc_seq ?_)
  refine wc_region ?_
  repeat (refine wl_p rfl rfl rfl ?_)
  refine wl_nil (wk_seq ?_)
  repeat (refine wc_seq ?_)
  refine wc_fori all.length (fun _ (_ : Unit) => [(0, vl), (1, vin), (5, .pointer (some ⟨wb, 0, none⟩))]) (fun i (_ : Unit) w => ∃ g', g1 ≤ g' ∧ St g' w F ∧ ∀ j (h : j < i) (h' : j < all.length), someR ls inn all[j] = true) () (by repeat (first | exact trivial | refine ⟨rfl, ?_⟩)) ⟨g1, Ghost.rfl', hs, fun j h => by omega⟩ ?_ ?_ ?_
  · rintro i _ w s' hi ⟨g2, hg2, hs, hj⟩ hk
    repeat (refine wl_p rfl rfl rfl ?_)
    refine wl_ldG hs (hwb.mono hg2 0 _ rfl) rfl rfl rfl rfl rfl ?_
    repeat (refine wl_p rfl rfl rfl ?_)
    exact wl_nil (wk_weak (by repeat (first | exact trivial | refine ⟨rfl, ?_⟩)) hk)
  · rintro i _ w hi ⟨g2, hg2, hs, hj⟩
    have hg02 := Ghost.tr hg1 hg2
    have hb := ha.base hi
    have hc := (ha.mono hg02).nat hi
    repeat (refine wc_seq ?_)
    refine wc_region ?_
    repeat (refine wl_p rfl rfl rfl ?_)
    refine wl_ldG hs (hwb.mono hg2 0 _ rfl) rfl rfl rfl rfl rfl ?_
    repeat (refine wl_p rfl rfl rfl ?_)
    refine wl_ix rfl rfl rfl rfl rfl (by omega) (hb) rfl rfl ?_
    refine wl_ldG hs (hc) rfl rfl rfl rfl rfl ?_
    refine wl_call rfl rfl rfl (L := []) hs (refSome_spec g2 vl vin n all[i] ls inn (hl.mono hg02) hv (hin.mono hg02) hlen) ?_
    rintro u g3 L' w hg3 hs ⟨rfl, rfl⟩
    repeat (refine wl_p rfl rfl rfl ?_)
    refine wl_nil (wk_seq ?_)
    have hg03 := Ghost.tr hg02 hg3
    refine wc_cond rfl (fun h => ?_) (fun h => ?_)
    · have h' : someR ls inn all[i] = false := by simpa using h
      repeat (refine wc_seq ?_)
      refine wc_region ?_
      repeat (refine wl_p rfl rfl rfl ?_)
      refine wl_nil (wk_seq ?_)
      refine wc_retV (res1 rfl rfl) ⟨g3, [], hg03, hs, rfl, ?_⟩
      have : all.all (fun m => someR ls inn m) = false := List.all_eq_false.2 ⟨_, List.getElem_mem hi, by rw [h']; simp⟩
      rw [e, this]
      rfl
    · have h' : someR ls inn all[i] = true := by simpa using h
      refine wc_skip (wk_blk (wk_nexti () hi (by omega) ⟨g3, Ghost.tr hg2 hg3, hs, fun j h h2 => ?_⟩ rfl rfl rfl rfl (by repeat (first | exact trivial | refine ⟨rfl, ?_⟩))))
      by_cases q : j = i
      · subst q; exact h'
      · exact hj j (by omega) h2
  · rintro _ w ⟨g2, hg2, hs, hj⟩
    have hA : all.all (fun m => someR ls inn m) = true := by
      rw [List.all_eq_true]
      intro m hm
      obtain ⟨j, h, rfl⟩ := List.getElem_of_mem hm
      exact hj j h h
    rw [hA, Bool.true_and] at e
    refine wk_seq ?_
    repeat (refine wc_seq ?_)
    refine wc_region ?_
    repeat (refine wl_p rfl rfl rfl ?_)
    refine wl_nil (wk_seq ?_)
    repeat (refine wc_seq ?_)
    refine wc_fori pairs.length (fun _ (_ : Unit) => [(0, vl), (1, vin), (5, .pointer (some ⟨wb, 0, none⟩))]) (fun i (_ : Unit) w => ∃ g', g2 ≤ g' ∧ St g' w F ∧ ∀ j (h : j < i) (h' : j < pairs.length), (someR ls inn pairs[j].1 && !someR ls inn pairs[j].2) = false) () (by repeat (first | exact trivial | refine ⟨rfl, ?_⟩)) ⟨g2, Ghost.rfl', hs, fun j h => by omega⟩ ?_ ?_ ?_
    · rintro i _ w s' hi ⟨g3, hg3, hs, hj⟩ hk
      repeat (refine wl_p rfl rfl rfl ?_)
      refine wl_ldG hs (hwb.mono (Ghost.tr hg2 hg3) 1 _ rfl) rfl rfl rfl rfl rfl ?_
      repeat (refine wl_p rfl rfl rfl ?_)
      exact wl_nil (wk_weak (by repeat (first | exact trivial | refine ⟨rfl, ?_⟩)) hk)
    · rintro i _ w hi ⟨g3, hg3, hs, hj⟩
      have hg13 := Ghost.tr hg2 hg3
      have hg03 := Ghost.tr hg1 hg13
      obtain ⟨pb, po, rfl⟩ := hp.base hi
      replace hs : St g3 w F := by assumption
      have hb : ∃ b o, some (⟨pb, po, none⟩ : Addr) = some ⟨b, o, none⟩ := ⟨pb, po, rfl⟩
      have hc := (hp.mono hg03).enc hi
      have bad : (someR ls inn pairs[i].1 && !someR ls inn pairs[i].2) = true → satR ls all pairs inn = false := fun h => by
        rw [e, List.all_eq_false]
        exact ⟨_, List.getElem_mem hi, by rw [h]; simp⟩
      have go : (someR ls inn pairs[i].1 && !someR ls inn pairs[i].2) = false → ∀ j (h : j < i + 1) (h' : j < pairs.length), (someR ls inn pairs[j].1 && !someR ls inn pairs[j].2) = false := fun h j h1 h2 => by
        by_cases q : j = i
        · subst q; exact h
        · exact hj j (by omega) h2
      obtain ⟨m1, hm1⟩ : ∃ m, m = pairs[i].1 := ⟨_, rfl⟩
      obtain ⟨m2, hm2⟩ : ∃ m, m = pairs[i].2 := ⟨_, rfl⟩
      have hcc : Lies g3 pb (po + i * 2) [.int .i64 (m1 : Int), .int .i64 (m2 : Int)] := by rw [hm1, hm2]; exact hc
      rw [← hm1, ← hm2] at bad go
      repeat (refine wc_seq ?_)
      refine wc_region ?_
      repeat (refine wl_p rfl rfl rfl ?_)
      refine wl_ldG hs (hwb.mono hg13 1 _ rfl) rfl rfl rfl rfl rfl ?_
      repeat (refine wl_p rfl rfl rfl ?_)
      refine wl_ix rfl rfl rfl rfl rfl (by omega) (hb) rfl rfl ?_
      refine wl_ixA rfl rfl rfl rfl rfl (by omega) rfl rfl ?_
      refine wl_ldG hs (hcc 0 _ rfl) rfl rfl rfl rfl rfl ?_
      refine wl_call rfl rfl rfl (L := []) hs (refSome_spec g3 vl vin n m1 ls inn (hl.mono hg03) hv (hin.mono hg03) hlen) ?_
      rintro u g4 L' w hg4 hs ⟨rfl, rfl⟩
      have hg04 := Ghost.tr hg03 hg4
      repeat (refine wl_p rfl rfl rfl ?_)
      refine wl_case 41 rfl (fun q1 => ?_) (fun q1 => ?_)
      · rw [q1, Bool.true_and] at bad go
        repeat (first | refine wl_p rfl rfl rfl ?_ | refine wl_skip rfl rfl rfl ?_)
        refine wl_ldG hs (hwb.mono (Ghost.tr hg13 hg4) 1 _ rfl) rfl rfl rfl rfl rfl ?_
        repeat (first | refine wl_p rfl rfl rfl ?_ | refine wl_skip rfl rfl rfl ?_)
        refine wl_ix rfl rfl rfl rfl rfl (by omega) (hb) rfl rfl ?_
        repeat (first | refine wl_p rfl rfl rfl ?_ | refine wl_skip rfl rfl rfl ?_)
        refine wl_ixA rfl rfl rfl rfl rfl (by omega) rfl rfl ?_
        refine wl_ldG hs (hcc.mono hg4 1 _ rfl) rfl rfl rfl rfl rfl ?_
        refine wl_call rfl rfl rfl (L := []) hs (refSome_spec g4 vl vin n m2 ls inn (hl.mono hg04) hv (hin.mono hg04) hlen) ?_
        rintro u g5 L' w hg5 hs ⟨rfl, rfl⟩
        repeat (first | refine wl_p rfl rfl rfl ?_ | refine wl_skip rfl rfl rfl ?_)
        refine wl_nil (wk_seq ?_)
        refine wc_cond rfl (fun h => ?_) (fun h => ?_)
        · repeat (refine wc_seq ?_)
          refine wc_region ?_
          repeat (refine wl_p rfl rfl rfl ?_)
          refine wl_nil (wk_seq ?_)
          exact wc_retV (res1 rfl rfl) ⟨g5, [], Ghost.tr hg04 hg5, hs, rfl, by rw [bad h]⟩
        · exact wc_skip (wk_blk (wk_nexti () hi (by omega) ⟨g5, Ghost.tr hg3 (Ghost.tr hg4 hg5), hs, go h⟩ rfl rfl rfl rfl (by repeat (first | exact trivial | refine ⟨rfl, ?_⟩))))
      · rw [q1, Bool.false_and] at go
        repeat (first | refine wl_p rfl rfl rfl ?_ | refine wl_skip rfl rfl rfl ?_)
        refine wl_nil (wk_seq ?_)
        exact wc_condF rfl rfl (wc_skip (wk_blk (wk_nexti () hi (by omega) ⟨g4, Ghost.tr hg3 hg4, hs, go rfl⟩ rfl rfl rfl rfl (by repeat (first | exact trivial | refine ⟨rfl, ?_⟩)))))
    · rintro _ w ⟨g3, hg3, hs, hj⟩
      refine wk_seq ?_
      repeat (refine wc_seq ?_)
      refine wc_region ?_
      repeat (refine wl_p rfl rfl rfl ?_)
      refine wl_nil (wk_seq ?_)
      refine wc_retV (res1 rfl rfl) ⟨g3, [], Ghost.tr hg1 (Ghost.tr hg2 hg3), hs, rfl, ?_⟩
      rw [e, List.all_eq_true.2]
      intro p hm
      obtain ⟨j, h, rfl⟩ := List.getElem_of_mem hm
      rw [hj j h h]; rfl
def Part (n i : Nat) (x0 T x : List Bool) : Prop := x.length = n ∧ ∀ j, j < n → x.getD j false = if j < i then T.getD j false else x0.getD j false
theorem Part.start {n : Nat} {x0 T : List Bool} (h : x0.length = n) : Part n 0 x0 T x0 := ⟨h, fun j _ => by rw [if_neg (by omega)]⟩
theorem Part.at_ {n i : Nat} {x0 T x : List Bool} (h : Part n i x0 T x) (hi : i < n) : x.getD i false = x0.getD i false := by rw [h.2 i hi, if_neg (by omega)]
theorem Part.set {n i : Nat} {x0 T x : List Bool} {c : Bool} (h : Part n i x0 T x) (hi : i < n) (hc : c = T.getD i false) : Part n (i + 1) x0 T (x.set i c) := by
  refine ⟨by rw [List.length_set]; exact h.1, fun j hj => ?_⟩
  rw [List.getD_eq_getElem?_getD, List.getElem?_set]
  by_cases q : i = j
  · subst q
    rw [if_pos rfl, if_pos (by rw [h.1]; exact hi), if_pos (by omega)]
    exact hc
  · rw [if_neg q, ← List.getD_eq_getElem?_getD, h.2 j hj]
    by_cases q2 : j < i
    · rw [if_pos q2, if_pos (by omega)]
    · rw [if_neg q2, if_neg (by omega)]
theorem Part.done {n : Nat} {x0 T x : List Bool} (h : Part n n x0 T x) (ht : T.length = n) : x = T := by
  apply List.ext_getElem
  · rw [h.1, ht]
  · intro j h1 h2
    have := h.2 j (by have := h.1; omega)
    rw [if_pos (by have := h.1; omega), getD_at h1, getD_at h2] at this
    exact this
theorem withinR_len (ls : List Arrow) (inn nodes : List Bool) : (withinR ls inn nodes).length = ls.length := by simp [withinR]
theorem refWithin_spec (g : Ghost) (vl vin vn : Value) (n : Nat) (ls : List Arrow) (inn nodes : List Bool) (hl : RS kArr g vl ls) (hv : ValidG n ls) (hin : RS kBool g vin inn) (hlen : inn.length = ls.length) (hn : RS kBool g vn nodes) (hnl : nodes.length = n) :
    Cl PP 54 [vl, vin, vn] g [] fun _ L' r => OwnB r (withinR ls inn nodes) L' := by
  obtain ⟨al, cl, rfl⟩ := hl.form
  obtain ⟨ai, ci, rfl⟩ := hin.form
  obtain ⟨an, cn, rfl⟩ := hn.form
  have hl0 := hv.len
  refine cl_intro Tryz.func54 rfl rfl Tryz.ntmps54 rfl ?_
  intro w F hs
  repeat (refine wc_seq ?_)
  refine wc_region ?_
  repeat (refine wl_p rfl rfl rfl ?_)
  refine wl_nil (wk_seq ?_)
  repeat (refine wc_seq ?_)
  refine wc_region ?_
  repeat (refine wl_p rfl rfl rfl ?_)
  refine wl_make hs rfl (by omega) rfl rfl rfl rfl rfl rfl rfl ?_
  clear hs; intro ob w hs
  rw [zero_boolsN] at hs
  repeat (refine wl_p rfl rfl rfl ?_)
  refine wl_nil (wk_seq ?_)
  repeat (refine wc_seq ?_)
  refine wc_region ?_
  repeat (refine wl_p rfl rfl rfl ?_)
  refine wl_nil (wk_seq ?_)
  repeat (refine wc_seq ?_)
  refine wc_fori ls.length (fun _ (_ : List Bool) => [(0, .slice al ls.length cl), (1, .slice ai inn.length ci), (2, .slice an nodes.length cn), (7, .slice (some ⟨ob, 0, none⟩) ls.length ls.length)]) (fun i (x : List Bool) w => Part ls.length i (List.replicate ls.length false) (withinR ls inn nodes) x ∧ St g w ((ob, cellsO (x.map .bool) 4) :: F)) (List.replicate ls.length false) (by repeat (first | exact trivial | refine ⟨rfl, ?_⟩)) ⟨Part.start (by simp), hs⟩ ?_ ?_ ?_
  · intro i _ w s' hi hJ hk
    repeat (refine wl_p rfl rfl rfl ?_)
    exact wl_nil (wk_weak (by repeat (first | exact trivial | refine ⟨rfl, ?_⟩)) hk)
  · rintro i x w hi ⟨hpt, hs⟩
    have hx := hpt.1
    have hi2 : i < inn.length := by omega
    have hb := hl.base hi
    have hc := hl.enc hi
    have hb2 := hin.base hi2
    have hc2 := hin.bool hi2
    obtain ⟨v1, v2, _⟩ := hv.ok _ (List.getElem_mem hi)
    obtain ⟨fr, hfr⟩ : ∃ fr, fr = frOf ls i := ⟨_, rfl⟩
    obtain ⟨to, hto⟩ : ∃ to, to = toOf ls i := ⟨_, rfl⟩
    have hcc : Lies g (eaddr al 3 i).block (eaddr al 3 i).off [.int .i64 (fr : Int), .int .i64 (to : Int), .int .u32 (ls[i].ms : Int)] := by rw [hfr, hto, frOf_at hi, toOf_at hi]; exact hc
    rw [← frOf_at hi, ← hfr] at v1
    rw [← toOf_at hi, ← hto] at v2
    have hf1 : fr < nodes.length := by omega
    have ht1 : to < nodes.length := by omega
    have hb3 := hn.base hf1
    have hc3 := hn.bool hf1
    have hc4 := hn.bool ht1
    have hst : (withinR ls inn nodes).getD i false = (inn[i] && nodes[fr] && nodes[to]) := by
      unfold withinR
      rw [getD_rangeB, decide_eq_true hi, Bool.true_and, getD_at hi2, ← hfr, ← hto, getD_at hf1, getD_at ht1]
    have hcell : (x.map Value.bool)[i]? = some (.bool (x[i]'(by omega))) := by simp [hx, hi]
    generalize nodes[fr] = q3 at hc3 hst
    generalize nodes[to] = q4 at hc4 hst
    generalize inn[i] = q at hc2 hst
    repeat (refine wc_seq ?_)
    refine wc_region ?_
    repeat (refine wl_p rfl rfl rfl ?_)
    refine wl_ix rfl rfl rfl rfl rfl (by omega) (hb2) rfl rfl ?_
    refine wl_ldG hs (hc2) rfl rfl rfl rfl rfl ?_
    repeat (refine wl_p rfl rfl rfl ?_)
    cases q with
    | false =>
      repeat (first | refine wl_p rfl rfl rfl ?_ | refine wl_skip rfl rfl rfl ?_)
      refine wl_ixJ _ rfl rfl rfl rfl rfl (hi) rfl rfl rfl ?_
      refine wl_st hs 0 rfl rfl rfl hcell rfl rfl rfl rfl ?_
      clear hs; intro w hs
      exact wl_nil (wk_blk (wk_nexti (x.set i false) hi (by omega) ⟨hpt.set hi (by rw [hst]; rfl), by rw [List.map_set]; exact hs⟩ rfl rfl rfl rfl (by repeat (first | exact trivial | refine ⟨rfl, ?_⟩))))
    | true =>
      repeat (first | refine wl_p rfl rfl rfl ?_ | refine wl_skip rfl rfl rfl ?_)
      refine wl_ix rfl rfl rfl rfl rfl (by omega) hb rfl rfl ?_
      repeat (first | refine wl_p rfl rfl rfl ?_ | refine wl_skip rfl rfl rfl ?_)
      refine wl_ldG hs (hcc.of_eaddr 0 _ rfl) rfl rfl rfl rfl rfl ?_
      refine wl_ix rfl rfl rfl rfl rfl (by omega) hb3 rfl rfl ?_
      refine wl_ldG hs (hc3) rfl rfl rfl rfl rfl ?_
      repeat (first | refine wl_p rfl rfl rfl ?_ | refine wl_skip rfl rfl rfl ?_)
      cases q3 with
      | false =>
        repeat (first | refine wl_p rfl rfl rfl ?_ | refine wl_skip rfl rfl rfl ?_)
        refine wl_ixJ _ rfl rfl rfl rfl rfl (hi) rfl rfl rfl ?_
        refine wl_st hs 0 rfl rfl rfl hcell rfl rfl rfl rfl ?_
        clear hs; intro w hs
        exact wl_nil (wk_blk (wk_nexti (x.set i false) hi (by omega) ⟨hpt.set hi (by rw [hst]; rfl), by rw [List.map_set]; exact hs⟩ rfl rfl rfl rfl (by repeat (first | exact trivial | refine ⟨rfl, ?_⟩))))
      | true =>
        repeat (first | refine wl_p rfl rfl rfl ?_ | refine wl_skip rfl rfl rfl ?_)
        refine wl_ix rfl rfl rfl rfl rfl (by omega) hb rfl rfl ?_
        repeat (first | refine wl_p rfl rfl rfl ?_ | refine wl_skip rfl rfl rfl ?_)
        refine wl_ldG hs (hcc.of_eaddr 1 _ rfl) rfl rfl rfl rfl rfl ?_
        refine wl_ix rfl rfl rfl rfl rfl (by omega) hb3 rfl rfl ?_
        refine wl_ldG hs (hc4) rfl rfl rfl rfl rfl ?_
        repeat (first | refine wl_p rfl rfl rfl ?_ | refine wl_skip rfl rfl rfl ?_)
        refine wl_ixJ _ rfl rfl rfl rfl rfl (hi) rfl rfl rfl ?_
        refine wl_st hs 0 rfl rfl rfl hcell rfl rfl rfl rfl ?_
        clear hs; intro w hs
        exact wl_nil (wk_blk (wk_nexti (x.set i q4) hi (by omega) ⟨hpt.set hi (by rw [hst]; cases q4 <;> rfl), by rw [List.map_set]; exact hs⟩ rfl rfl rfl rfl (by repeat (first | exact trivial | refine ⟨rfl, ?_⟩))))
  · rintro x w ⟨hpt, hs⟩
    refine wk_seq ?_
    repeat (refine wc_seq ?_)
    refine wc_region ?_
    repeat (refine wl_p rfl rfl rfl ?_)
    refine wl_nil (wk_seq ?_)
    have ex := hpt.done (withinR_len _ _ _)
    have hwl : ls.length = (withinR ls inn nodes).length := (withinR_len _ _ _).symm
    refine wc_retV (res1 rfl rfl) ⟨g, [(ob, cellsO (x.map .bool) 4)], Ghost.rfl', hs, ?_⟩
    unfold OwnB
    rw [ex, ← hwl]
    exact OwnS.lit (by simp; omega)
theorem rTo_succ (ls : List Arrow) (inn : List Bool) (back : Bool) (out : List Bool) (k : Nat) : rTo ls inn back out (k + 1) = rStep ls inn back (rTo ls inn back out k) k := by unfold rTo; rw [List.range_succ, List.foldl_append]; rfl
theorem rTo_len (ls : List Arrow) (inn : List Bool) (back : Bool) (out : List Bool) : ∀ k, (rTo ls inn back out k).1.length = out.length
  | 0 => rfl
  | k + 1 => by
    rw [rTo_succ]
    unfold rStep
    split
    · rw [List.length_set, rTo_len ls inn back out k]
    · exact rTo_len ls inn back out k
theorem refReach_spec (g : Ghost) (vl vin vf : Value) (n : Nat) (ls : List Arrow) (inn from_ : List Bool) (back : Bool) (hl : RS kArr g vl ls) (hv : ValidG n ls) (hin : RS kBool g vin inn) (hlen : inn.length = ls.length) (hf : RS kBool g vf from_) (hfl : from_.length = n) :
    Cl PP 52 [.int .i64 (n : Int), vl, vin, vf, .bool back] g [] fun _ L' r => OwnB r (rchR ls inn back n from_) L' := by
  obtain ⟨al, cl, rfl⟩ := hl.form
  obtain ⟨ai, ci, rfl⟩ := hin.form
  have hl0 := hv.len
  have hn0 := hv.size
  refine cl_intro Tryz.func52 rfl rfl Tryz.ntmps52 rfl ?_
  intro w F hs
  repeat (refine wc_seq ?_)
  refine wc_region ?_
  repeat (refine wl_p rfl rfl rfl ?_)
  refine wl_nil (wk_seq ?_)
  repeat (refine wc_seq ?_)
  refine wc_region ?_
  repeat (refine wl_p rfl rfl rfl ?_)
  refine wl_call rfl rfl rfl (L := []) hs (cloneBool_spec g vf from_ hf (by omega)) ?_
  rintro v g1 H0 w hg1 hs hown
  replace hown : OwnB v from_ H0 := by rw [flat_bools] at hown; exact hown
  obtain ⟨av, cv, rfl⟩ := hown.form
  rw [hfl] at hown ⊢
  repeat (refine wl_p rfl rfl rfl ?_)
  refine wl_nil (wk_seq ?_)
  repeat (refine wc_seq ?_)
  refine wc_region ?_
  repeat (refine wl_p rfl rfl rfl ?_)
  refine wl_nil (wk_seq ?_)
  repeat (refine wc_seq ?_)
  refine wc_meetK (fun (_ : Own) => [(11, .slice av n cv)]) (fun H w => OwnB (.slice av n cv) (rchR ls inn back n from_) H ∧ St g1 w (H ++ F)) ?_ ?_
  · refine wc_fori n (fun _ (_ : List Bool × Own) => [(0, .int .i64 (n : Int)), (1, .slice al ls.length cl), (2, .slice ai inn.length ci), (4, .bool back), (11, .slice av n cv)])
      (fun i (x : List Bool × Own) w => x.1.length = n ∧ rchR ls inn back (n - i) x.1 = rchR ls inn back n from_ ∧ OwnB (.slice av n cv) x.1 x.2 ∧ St g1 w (x.2 ++ F)) (from_, H0) (by repeat (first | exact trivial | refine ⟨rfl, ?_⟩)) ⟨hfl, rfl, hown, hs⟩ ?_ ?_ ?_
    · rintro i x w s' hi hJ hk
      repeat (refine wl_p rfl rfl rfl ?_)
      exact wl_nil (wk_weak (by repeat (first | exact trivial | refine ⟨rfl, ?_⟩)) hk)
    · rintro i ⟨out, H⟩ w hi ⟨hol, hr, hown, hs⟩
      simp only at hol hr hown hs
      have hni : n - i = (n - (i + 1)) + 1 := by omega
      rw [hni] at hr
      repeat (refine wc_seq ?_)
      refine wc_region ?_
      repeat (refine wl_p rfl rfl rfl ?_)
      refine wl_nil (wk_seq ?_)
      repeat (refine wc_seq ?_)
      refine wc_region ?_
      repeat (refine wl_p rfl rfl rfl ?_)
      refine wl_nil (wk_seq ?_)
      repeat (refine wc_seq ?_)
      refine wc_fori ls.length (fun _ (x : List Bool × Bool × Own) => [(0, .int .i64 (n : Int)), (1, .slice al ls.length cl), (2, .slice ai inn.length ci), (4, .bool back), (11, .slice av n cv), (12, .int .i64 (i : Int)), (13, .bool x.2.1)])
        (fun k (x : List Bool × Bool × Own) w => (x.1, x.2.1) = rTo ls inn back out k ∧ OwnB (.slice av n cv) x.1 x.2.2 ∧ St g1 w (x.2.2 ++ F)) (out, false, H) (by repeat (first | exact trivial | refine ⟨rfl, ?_⟩)) ⟨rfl, hown, hs⟩ ?_ ?_ ?_
      · rintro k ⟨o, c, H1⟩ w s' hk hJ hk2
        repeat (refine wl_p rfl rfl rfl ?_)
        exact wl_nil (wk_weak (by repeat (first | exact trivial | refine ⟨rfl, ?_⟩)) hk2)
      · rintro k ⟨o, c, H1⟩ w hk ⟨ho, hown, hs⟩
        simp only at ho hown hs
        have hol2 : o.length = n := by
          have := rTo_len ls inn back out k
          rw [← ho] at this
          exact this.trans hol
        have hk2 : k < inn.length := by omega
        have hb := hl.base hk
        have hc := (hl.mono hg1).enc hk
        have hb2 := hin.base hk2
        have hc2 := (hin.mono hg1).bool hk2
        obtain ⟨fr, hfr⟩ : ∃ fr, fr = frOf ls k := ⟨_, rfl⟩
        obtain ⟨to, hto⟩ : ∃ to, to = toOf ls k := ⟨_, rfl⟩
        have hcc : Lies g1 (eaddr al 3 k).block (eaddr al 3 k).off [.int .i64 (fr : Int), .int .i64 (to : Int), .int .u32 (ls[k].ms : Int)] := by rw [hfr, hto, frOf_at hk, toOf_at hk]; exact hc
        have hsl := src_lt (back := back) hv hk
        have hdl := dst_lt (back := back) hv hk
        obtain ⟨b, cap, cs, hve, rfl, hcs, hset⟩ := hown.open' (by omega)
        rw [hol2] at hve
        simp only [Value.slice.injEq, true_and] at hve
        obtain ⟨rfl, rfl⟩ := hve
        have hcnd : rCond ls inn back o k = (inn[k] && o[srcR ls back k]'(by omega) && !o[dstR ls back k]'(by omega)) := by
          unfold rCond
          rw [getD_at hk2, getD_at (show srcR ls back k < o.length by omega), getD_at (show dstR ls back k < o.length by omega)]
        have hyes : rCond ls inn back o k = true → ((o.set (dstR ls back k) true, true) : List Bool × Bool) = rTo ls inn back out (k + 1) := fun h => by rw [rTo_succ, ← ho]; unfold rStep; rw [if_pos h]
        have hno : rCond ls inn back o k = false → ((o, c) : List Bool × Bool) = rTo ls inn back out (k + 1) := fun h => by rw [rTo_succ, ← ho]; unfold rStep; rw [if_neg (by rw [h]; decide)]
        have cell1 := hcs (srcR ls back k) (by omega)
        have cell2 := hcs (dstR ls back k) (by omega)
        have hset2 := hset (dstR ls back k) true (by omega)
        rw [hol2] at hset2
        generalize inn[k] = q1 at hc2 hcnd
        generalize o[srcR ls back k]'(by omega) = q2 at cell1 hcnd
        generalize o[dstR ls back k]'(by omega) = q3 at cell2 hcnd
        repeat (refine wc_seq ?_)
        refine wc_region ?_
        repeat (refine wl_p rfl rfl rfl ?_)
        refine wl_ix rfl rfl rfl rfl rfl (by omega) hb rfl rfl ?_
        repeat (refine wl_p rfl rfl rfl ?_)
        refine wl_ldG hs (hcc.of_eaddr 0 _ rfl) rfl rfl rfl rfl rfl ?_
        repeat (refine wl_p rfl rfl rfl ?_)
        refine wl_nil (wk_seq ?_)
        repeat (refine wc_seq ?_)
        refine wc_region ?_
        repeat (refine wl_p rfl rfl rfl ?_)
        refine wl_ix rfl rfl rfl rfl rfl (by omega) hb rfl rfl ?_
        repeat (refine wl_p rfl rfl rfl ?_)
        refine wl_ldG hs (hcc.of_eaddr 1 _ rfl) rfl rfl rfl rfl rfl ?_
        repeat (refine wl_p rfl rfl rfl ?_)
        refine wl_nil (wk_seq ?_)
        repeat (refine wc_seq ?_)
        refine wc_region ?_
        repeat (refine wl_p rfl rfl rfl ?_)
        refine wl_nil (wk_seq ?_)
        cases back
        · have e1 : srcR ls false k = fr := hfr.symm
          have e2 : dstR ls false k = to := hto.symm
          rw [e1] at cell1 hsl
          rw [e2] at cell2 hdl hyes hset2
          refine wc_condF rfl rfl (wc_skip (wk_seq ?_))
          repeat (refine wc_seq ?_)
          refine wc_region ?_
          repeat (refine wl_p rfl rfl rfl ?_)
          refine wl_ix rfl rfl rfl rfl rfl (by omega) hb2 rfl rfl ?_
          refine wl_ldG hs (hc2) rfl rfl rfl rfl rfl ?_
          repeat (refine wl_p rfl rfl rfl ?_)
          cases q1 with
          | false =>
            repeat (first | refine wl_p rfl rfl rfl ?_ | refine wl_skip rfl rfl rfl ?_)
            refine wl_nil (wk_seq ?_)
            exact wc_condF rfl rfl (wc_skip (wk_blk (wk_nexti (o, c, [(b, cellsO cs 4)]) hk (by omega) ⟨hno hcnd, hown, hs⟩ rfl rfl rfl rfl (by repeat (first | exact trivial | refine ⟨rfl, ?_⟩)))))
          | true =>
            repeat (first | refine wl_p rfl rfl rfl ?_ | refine wl_skip rfl rfl rfl ?_)
            refine wl_ixJ _ rfl rfl rfl rfl rfl (hsl) rfl rfl rfl ?_
            repeat (first | refine wl_p rfl rfl rfl ?_ | refine wl_skip rfl rfl rfl ?_)
            refine wl_ldO hs 0 rfl rfl cell1 rfl rfl rfl rfl ?_
            repeat (first | refine wl_p rfl rfl rfl ?_ | refine wl_skip rfl rfl rfl ?_)
            cases q2 with
            | false =>
              repeat (first | refine wl_p rfl rfl rfl ?_ | refine wl_skip rfl rfl rfl ?_)
              refine wl_nil (wk_seq ?_)
              exact wc_condF rfl rfl (wc_skip (wk_blk (wk_nexti (o, c, [(b, cellsO cs 4)]) hk (by omega) ⟨hno hcnd, hown, hs⟩ rfl rfl rfl rfl (by repeat (first | exact trivial | refine ⟨rfl, ?_⟩)))))
            | true =>
              repeat (first | refine wl_p rfl rfl rfl ?_ | refine wl_skip rfl rfl rfl ?_)
              refine wl_ixJ _ rfl rfl rfl rfl rfl (hdl) rfl rfl rfl ?_
              repeat (first | refine wl_p rfl rfl rfl ?_ | refine wl_skip rfl rfl rfl ?_)
              refine wl_ldO hs 0 rfl rfl cell2 rfl rfl rfl rfl ?_
              repeat (first | refine wl_p rfl rfl rfl ?_ | refine wl_skip rfl rfl rfl ?_)
              refine wl_nil (wk_seq ?_)
              cases q3 with
              | true => exact wc_condF rfl rfl (wc_skip (wk_blk (wk_nexti (o, c, [(b, cellsO cs 4)]) hk (by omega) ⟨hno hcnd, hown, hs⟩ rfl rfl rfl rfl (by repeat (first | exact trivial | refine ⟨rfl, ?_⟩)))))
              | false =>
                refine wc_condT rfl rfl ?_
                repeat (refine wc_seq ?_)
                refine wc_region ?_
                repeat (refine wl_p rfl rfl rfl ?_)
                refine wl_ixJ _ rfl rfl rfl rfl rfl (hdl) rfl rfl rfl ?_
                refine wl_st hs 0 rfl rfl rfl cell2 rfl rfl rfl rfl ?_
                clear hs; intro w hs
                refine wl_nil (wk_seq ?_)
                repeat (refine wc_seq ?_)
                refine wc_region ?_
                repeat (refine wl_p rfl rfl rfl ?_)
                exact wl_nil (wk_blk (wk_nexti (o.set to true, true, [(b, cellsO (cs.set to (.bool true)) 4)]) hk (by omega) ⟨hyes hcnd, by simpa [List.length_set] using hset2, hs⟩ rfl rfl rfl rfl (by repeat (first | exact trivial | refine ⟨rfl, ?_⟩))))
        · have e1 : srcR ls true k = to := hto.symm
          have e2 : dstR ls true k = fr := hfr.symm
          rw [e1] at cell1 hsl
          rw [e2] at cell2 hdl hyes hset2
          refine wc_condT rfl rfl ?_
          repeat (refine wc_seq ?_)
          refine wc_region ?_
          repeat (refine wl_p rfl rfl rfl ?_)
          refine wl_ix rfl rfl rfl rfl rfl (by omega) hb rfl rfl ?_
          repeat (refine wl_p rfl rfl rfl ?_)
          refine wl_ldG hs (hcc.of_eaddr 1 _ rfl) rfl rfl rfl rfl rfl ?_
          repeat (refine wl_p rfl rfl rfl ?_)
          refine wl_nil (wk_seq ?_)
          repeat (refine wc_seq ?_)
          refine wc_region ?_
          repeat (refine wl_p rfl rfl rfl ?_)
          refine wl_ix rfl rfl rfl rfl rfl (by omega) hb rfl rfl ?_
          repeat (refine wl_p rfl rfl rfl ?_)
          refine wl_ldG hs (hcc.of_eaddr 0 _ rfl) rfl rfl rfl rfl rfl ?_
          repeat (refine wl_p rfl rfl rfl ?_)
          refine wl_nil (wk_seq ?_)
          repeat (refine wc_seq ?_)
          refine wc_region ?_
          repeat (refine wl_p rfl rfl rfl ?_)
          refine wl_ix rfl rfl rfl rfl rfl (by omega) hb2 rfl rfl ?_
          refine wl_ldG hs (hc2) rfl rfl rfl rfl rfl ?_
          repeat (refine wl_p rfl rfl rfl ?_)
          cases q1 with
          | false =>
            repeat (first | refine wl_p rfl rfl rfl ?_ | refine wl_skip rfl rfl rfl ?_)
            refine wl_nil (wk_seq ?_)
            exact wc_condF rfl rfl (wc_skip (wk_blk (wk_nexti (o, c, [(b, cellsO cs 4)]) hk (by omega) ⟨hno hcnd, hown, hs⟩ rfl rfl rfl rfl (by repeat (first | exact trivial | refine ⟨rfl, ?_⟩)))))
          | true =>
            repeat (first | refine wl_p rfl rfl rfl ?_ | refine wl_skip rfl rfl rfl ?_)
            refine wl_ixJ _ rfl rfl rfl rfl rfl (hsl) rfl rfl rfl ?_
            repeat (first | refine wl_p rfl rfl rfl ?_ | refine wl_skip rfl rfl rfl ?_)
            refine wl_ldO hs 0 rfl rfl cell1 rfl rfl rfl rfl ?_
            repeat (first | refine wl_p rfl rfl rfl ?_ | refine wl_skip rfl rfl rfl ?_)
            cases q2 with
            | false =>
              repeat (first | refine wl_p rfl rfl rfl ?_ | refine wl_skip rfl rfl rfl ?_)
              refine wl_nil (wk_seq ?_)
              exact wc_condF rfl rfl (wc_skip (wk_blk (wk_nexti (o, c, [(b, cellsO cs 4)]) hk (by omega) ⟨hno hcnd, hown, hs⟩ rfl rfl rfl rfl (by repeat (first | exact trivial | refine ⟨rfl, ?_⟩)))))
            | true =>
              repeat (first | refine wl_p rfl rfl rfl ?_ | refine wl_skip rfl rfl rfl ?_)
              refine wl_ixJ _ rfl rfl rfl rfl rfl (hdl) rfl rfl rfl ?_
              repeat (first | refine wl_p rfl rfl rfl ?_ | refine wl_skip rfl rfl rfl ?_)
              refine wl_ldO hs 0 rfl rfl cell2 rfl rfl rfl rfl ?_
              repeat (first | refine wl_p rfl rfl rfl ?_ | refine wl_skip rfl rfl rfl ?_)
              refine wl_nil (wk_seq ?_)
              cases q3 with
              | true => exact wc_condF rfl rfl (wc_skip (wk_blk (wk_nexti (o, c, [(b, cellsO cs 4)]) hk (by omega) ⟨hno hcnd, hown, hs⟩ rfl rfl rfl rfl (by repeat (first | exact trivial | refine ⟨rfl, ?_⟩)))))
              | false =>
                refine wc_condT rfl rfl ?_
                repeat (refine wc_seq ?_)
                refine wc_region ?_
                repeat (refine wl_p rfl rfl rfl ?_)
                refine wl_ixJ _ rfl rfl rfl rfl rfl (hdl) rfl rfl rfl ?_
                refine wl_st hs 0 rfl rfl rfl cell2 rfl rfl rfl rfl ?_
                clear hs; intro w hs
                refine wl_nil (wk_seq ?_)
                repeat (refine wc_seq ?_)
                refine wc_region ?_
                repeat (refine wl_p rfl rfl rfl ?_)
                exact wl_nil (wk_blk (wk_nexti (o.set fr true, true, [(b, cellsO (cs.set fr (.bool true)) 4)]) hk (by omega) ⟨hyes hcnd, by simpa [List.length_set] using hset2, hs⟩ rfl rfl rfl rfl (by repeat (first | exact trivial | refine ⟨rfl, ?_⟩))))
      · rintro ⟨o, c, H1⟩ w ⟨ho, hown, hs⟩
        simp only at ho hown hs
        refine wk_seq ?_
        repeat (refine wc_seq ?_)
        refine wc_region ?_
        repeat (refine wl_p rfl rfl rfl ?_)
        refine wl_nil (wk_seq ?_)
        have h1 : (rTo ls inn back out ls.length).1 = o := by rw [← ho]
        have h2 : (rTo ls inn back out ls.length).2 = c := by rw [← ho]
        replace hr : (if (rTo ls inn back out ls.length).2 = true then rchR ls inn back (n - (i + 1)) (rTo ls inn back out ls.length).1 else (rTo ls inn back out ls.length).1) = rchR ls inn back n from_ := hr
        rw [h1, h2] at hr
        have hol2 : o.length = n := by rw [← h1, rTo_len]; exact hol
        cases c with
        | false =>
          refine wc_condT rfl rfl ?_
          exact wc_exit rfl (wk_meet H1 (by repeat (first | exact trivial | refine ⟨rfl, ?_⟩)) ⟨by rw [← hr]; exact hown, hs⟩)
        | true => exact wc_condF rfl rfl (wc_skip (wk_blk (wk_nexti (o, H1) hi (by omega) ⟨hol2, hr, hown, hs⟩ rfl rfl rfl rfl (by repeat (first | exact trivial | refine ⟨rfl, ?_⟩)))))
    · rintro ⟨out, H⟩ w ⟨hol, hr, hown, hs⟩
      simp only at hol hr hown hs
      rw [Nat.sub_self] at hr
      exact wk_meet H (by repeat (first | exact trivial | refine ⟨rfl, ?_⟩)) ⟨by rw [← hr]; exact hown, hs⟩
  · clear hs hown
    rintro H w ⟨hown, hs⟩
    repeat (refine wc_seq ?_)
    refine wc_region ?_
    repeat (refine wl_p rfl rfl rfl ?_)
    refine wl_nil (wk_seq ?_)
    exact wc_retV (res1 rfl rfl) ⟨g1, H, hg1, hs, hown⟩
end Go.Proofs.YtnanffbjmfgafaaGreat.S
namespace Go.Proofs.YtnanffbjmfgafaaGreat.S
open Go.RowKit
theorem compR_len (n : Nat) (ls : List Arrow) (inn : List Bool) (k : Nat) : (compR n ls inn k).length = n := by simp [compR, andB]
theorem refComponent_spec (g : Ghost) (vl vin : Value) (n k : Nat) (ls : List Arrow) (inn : List Bool) (hl : RS kArr g vl ls) (hv : ValidG n ls) (hin : RS kBool g vin inn) (hlen : inn.length = ls.length) (hk : k < n) :
    Cl PP 62 [.int .i64 (n : Int), vl, vin, .int .i64 (k : Int)] g [] fun _ L' r => OwnB r (compR n ls inn k) L' := by
  have hn0 := hv.size
  have ho : (oneR n k).length = n := by simp [oneR]
  have hA := rchR_len (inn := inn) (back := false) hv ho n
  have hB := rchR_len (inn := inn) (back := true) hv ho n
  have hT : ∀ i, i < n → (compR n ls inn k).getD i false = ((rchR ls inn false n (oneR n k)).getD i false && (rchR ls inn true n (oneR n k)).getD i false) := fun i hi => by
    unfold compR andB
    rw [getD_rangeB, decide_eq_true hi, Bool.true_and]
  obtain ⟨A, hAe⟩ : ∃ A, A = rchR ls inn false n (oneR n k) := ⟨_, rfl⟩
  obtain ⟨B, hBe⟩ : ∃ B, B = rchR ls inn true n (oneR n k) := ⟨_, rfl⟩
  rw [← hAe] at hA hT
  rw [← hBe] at hB hT
  refine cl_intro Tryz.func62 rfl rfl Tryz.ntmps62 rfl ?_
  intro w F hs
  repeat (refine wc_seq ?_)
  refine wc_region ?_
  repeat (refine wl_p rfl rfl rfl ?_)
  refine wl_nil (wk_seq ?_)
  repeat (refine wc_seq ?_)
  refine wc_region ?_
  repeat (refine wl_p rfl rfl rfl ?_)
  refine wl_call rfl rfl rfl (L := []) hs (refOne_spec g n k hn0 hk) ?_
  rintro u g1 L' w hg1 hs ⟨rfl, r1⟩
  refine wl_call rfl rfl rfl (L := []) hs (refReach_spec g1 vl vin u n ls inn _ false (hl.mono hg1) hv (hin.mono hg1) hlen r1 ho) ?_
  rintro va g2 Ha w hg2 hs hown
  rw [← hAe] at hown
  repeat (refine wl_p rfl rfl rfl ?_)
  refine wl_nil (wk_seq ?_)
  repeat (refine wc_seq ?_)
  refine wc_region ?_
  repeat (refine wl_p rfl rfl rfl ?_)
  refine wl_call rfl rfl rfl (L := []) hs (refOne_spec g2 n k hn0 hk) ?_
  rintro u2 g3 L' w hg3 hs ⟨rfl, r3⟩
  have hg03 := Ghost.tr hg1 (Ghost.tr hg2 hg3)
  refine wl_call rfl rfl rfl (L := []) hs (refReach_spec g3 vl vin u2 n ls inn _ true (hl.mono hg03) hv (hin.mono hg03) hlen r3 ho) ?_
  rintro vb g4 Hb w hg4 hs hownb
  rw [← hBe] at hownb
  repeat (refine wl_p rfl rfl rfl ?_)
  refine wl_nil (wk_seq ?_)
  obtain ⟨g5, hg5, hs, rb⟩ := hownb.freezeB hs
  have hg05 := Ghost.tr hg03 (Ghost.tr hg4 hg5)
  replace hs := (show St g5 w (Ha ++ F) from hs)
  obtain ⟨ab, cb, rfl⟩ := rb.form
  obtain ⟨aa, ca, rfl⟩ := hown.form
  rw [hA] at hown ⊢
  repeat (refine wc_seq ?_)
  refine wc_region ?_
  repeat (refine wl_p rfl rfl rfl ?_)
  refine wl_nil (wk_seq ?_)
  repeat (refine wc_seq ?_)
  refine wc_fori n (fun _ (_ : List Bool × Own) => [(0, .int .i64 (n : Int)), (9, .slice aa n ca), (10, .slice ab B.length cb)]) (fun i (x : List Bool × Own) w => Part n i A (compR n ls inn k) x.1 ∧ OwnB (.slice aa n ca) x.1 x.2 ∧ St g5 w (x.2 ++ F)) (A, Ha) (by repeat (first | exact trivial | refine ⟨rfl, ?_⟩)) ⟨Part.start hA, hown, hs⟩ ?_ ?_ ?_
  · intro i _ w s' hi hJ hk
    repeat (refine wl_p rfl rfl rfl ?_)
    exact wl_nil (wk_weak (by repeat (first | exact trivial | refine ⟨rfl, ?_⟩)) hk)
  · rintro i ⟨x, H⟩ w hi ⟨hp, hown, hs⟩
    simp only at hp hown hs
    have hxl := hp.1
    have hiB : i < B.length := by omega
    have hb2 := rb.base hiB
    have hc2 := rb.bool hiB
    obtain ⟨b, cap, cs, hve, rfl, hcs, hset⟩ := hown.open' (by omega)
    rw [hxl] at hve
    simp only [Value.slice.injEq, true_and] at hve
    obtain ⟨rfl, rfl⟩ := hve
    have cell := hcs i (by omega)
    have hq := hp.at_ hi
    rw [getD_at (show i < x.length by omega)] at hq
    have hTi := hT i hi
    rw [← hq, getD_at hiB] at hTi
    generalize B[i] = q2 at hc2 hTi
    have hs1 := fun c => hset i c (by omega)
    rw [hxl] at hs1
    generalize x[i]'(by omega) = q1 at cell hTi
    repeat (refine wc_seq ?_)
    refine wc_region ?_
    repeat (refine wl_p rfl rfl rfl ?_)
    refine wl_ixJ _ rfl rfl rfl rfl rfl (hi) rfl rfl rfl ?_
    refine wl_ldO hs 0 rfl rfl cell rfl rfl rfl rfl ?_
    repeat (refine wl_p rfl rfl rfl ?_)
    cases q1 with
    | false =>
      repeat (first | refine wl_p rfl rfl rfl ?_ | refine wl_skip rfl rfl rfl ?_)
      refine wl_ixJ _ rfl rfl rfl rfl rfl (hi) rfl rfl rfl ?_
      refine wl_st hs 0 rfl rfl rfl cell rfl rfl rfl rfl ?_
      clear hs; intro w hs
      exact wl_nil (wk_blk (wk_nexti (x.set i false, [(b, cellsO (cs.set i (.bool false)) 4)]) hi (by omega) ⟨hp.set hi hTi.symm, by simpa [List.length_set] using hs1 false, hs⟩ rfl rfl rfl rfl (by repeat (first | exact trivial | refine ⟨rfl, ?_⟩))))
    | true =>
      repeat (first | refine wl_p rfl rfl rfl ?_ | refine wl_skip rfl rfl rfl ?_)
      refine wl_ix rfl rfl rfl rfl rfl (by omega) hb2 rfl rfl ?_
      refine wl_ldG hs (hc2) rfl rfl rfl rfl rfl ?_
      repeat (first | refine wl_p rfl rfl rfl ?_ | refine wl_skip rfl rfl rfl ?_)
      refine wl_ixJ _ rfl rfl rfl rfl rfl (hi) rfl rfl rfl ?_
      refine wl_st hs 0 rfl rfl rfl cell rfl rfl rfl rfl ?_
      clear hs; intro w hs
      exact wl_nil (wk_blk (wk_nexti (x.set i q2, [(b, cellsO (cs.set i (.bool q2)) 4)]) hi (by omega) ⟨hp.set hi (by rw [hTi, Bool.true_and]), by simpa [List.length_set] using hs1 q2, hs⟩ rfl rfl rfl rfl (by repeat (first | exact trivial | refine ⟨rfl, ?_⟩))))
  · rintro ⟨x, H⟩ w ⟨hp, hown, hs⟩
    simp only at hp hown hs
    have := hp.done (compR_len _ _ _ _)
    subst this
    refine wk_seq ?_
    repeat (refine wc_seq ?_)
    refine wc_region ?_
    repeat (refine wl_p rfl rfl rfl ?_)
    refine wl_nil (wk_seq ?_)
    exact wc_retV (res1 rfl rfl) ⟨g5, H, hg05, hs, hown⟩
theorem indexB_spec (g : Ghost) (v : Value) (xs : List Bool) (x : Bool) (hv : RS kBool g v xs) (hl : xs.length ≤ 4611686018427387904) :
    Cl PP 81 [v, .bool x] g [] (Det (.int .i64 (firstI (fun y => x == y) xs))) := by
  obtain ⟨a, cap, rfl⟩ := hv.form
  refine cl_intro Tryz.func81 rfl rfl Tryz.ntmps81 rfl ?_
  intro w F hs
  repeat (refine wc_seq ?_)
  refine wc_region ?_
  repeat (refine wl_p rfl rfl rfl ?_)
  refine wl_nil (wk_seq ?_)
  repeat (refine wc_seq ?_)
  refine wc_region ?_
  repeat (refine wl_p rfl rfl rfl ?_)
  refine wl_nil (wk_seq ?_)
  refine wc_for xs.length (fun _ _ => [(7, .int .i64 xs.length), (0, .slice a xs.length cap), (1, .bool x)]) (fun i (_ : Unit) w => St g w F ∧ ∀ j (h : j < i) (h' : j < xs.length), (x == xs[j]) = false) () hl (by repeat (first | exact trivial | refine ⟨rfl, ?_⟩)) ⟨hs, fun j h => by omega⟩ (fun _ _ => rfl) rfl rfl rfl ?_ ?_ (fun _ _ => rfl) rfl
  · rintro i _ w hi ⟨hs, hj⟩
    have hb := hv.base hi
    have hc := hv.bool hi
    repeat (refine wc_seq ?_)
    refine wc_region ?_
    repeat (first | refine wl_p rfl rfl rfl ?_ | refine wl_skip rfl rfl rfl ?_ | refine wl_ldO hs 0 rfl rfl rfl rfl rfl rfl rfl ?_ | refine wl_ldO hs 1 rfl rfl rfl rfl rfl rfl rfl ?_ | refine wl_ldO hs 2 rfl rfl rfl rfl rfl rfl rfl ?_ | refine wl_ldO hs 3 rfl rfl rfl rfl rfl rfl rfl ?_ | refine wl_ldG hs (by assumption) rfl rfl rfl rfl rfl ?_ | refine wl_ix rfl rfl rfl rfl rfl (by omega) (by assumption) rfl rfl ?_ | refine wl_ixAJ _ rfl rfl rfl rfl rfl (by omega) rfl rfl rfl ?_ | refine wl_ixA rfl rfl rfl rfl rfl (by omega) rfl rfl ?_)
    refine wl_nil (wk_seq ?_)
    repeat (refine wc_seq ?_)
    refine wc_region ?_
    repeat (first | refine wl_p rfl rfl rfl ?_ | refine wl_skip rfl rfl rfl ?_ | refine wl_ldO hs 0 rfl rfl rfl rfl rfl rfl rfl ?_ | refine wl_ldO hs 1 rfl rfl rfl rfl rfl rfl rfl ?_ | refine wl_ldO hs 2 rfl rfl rfl rfl rfl rfl rfl ?_ | refine wl_ldO hs 3 rfl rfl rfl rfl rfl rfl rfl ?_ | refine wl_ldG hs (by assumption) rfl rfl rfl rfl rfl ?_ | refine wl_ix rfl rfl rfl rfl rfl (by omega) (by assumption) rfl rfl ?_ | refine wl_ixAJ _ rfl rfl rfl rfl rfl (by omega) rfl rfl rfl ?_ | refine wl_ixA rfl rfl rfl rfl rfl (by omega) rfl rfl ?_)
    refine wl_eqB _ rfl rfl rfl rfl rfl rfl rfl ?_
    refine wl_nil (wk_seq ?_)
    refine wc_cond rfl (fun h => ?_) (fun h => ?_)
    · repeat (refine wc_seq ?_)
      refine wc_region ?_
      repeat (first | refine wl_p rfl rfl rfl ?_ | refine wl_skip rfl rfl rfl ?_ | refine wl_ldO hs 0 rfl rfl rfl rfl rfl rfl rfl ?_ | refine wl_ldO hs 1 rfl rfl rfl rfl rfl rfl rfl ?_ | refine wl_ldO hs 2 rfl rfl rfl rfl rfl rfl rfl ?_ | refine wl_ldO hs 3 rfl rfl rfl rfl rfl rfl rfl ?_ | refine wl_ldG hs (by assumption) rfl rfl rfl rfl rfl ?_ | refine wl_ix rfl rfl rfl rfl rfl (by omega) (by assumption) rfl rfl ?_ | refine wl_ixAJ _ rfl rfl rfl rfl rfl (by omega) rfl rfl rfl ?_ | refine wl_ixA rfl rfl rfl rfl rfl (by omega) rfl rfl ?_)
      refine wl_nil (wk_seq ?_)
      refine wc_retV (res1 rfl rfl) ⟨g, [], Ghost.rfl', hs, rfl, ?_⟩
      rw [firstI_at hi (fun j h' => hj j h' (by omega)) h]
    · refine wc_skip (wk_blk (wk_next () hi hl ⟨hs, fun j h1 h2 => ?_⟩ rfl rfl rfl (by repeat (first | exact trivial | refine ⟨rfl, ?_⟩))))
      by_cases e : j = i
      · subst e; exact h
      · exact hj j (by omega) h2
  · rintro _ w ⟨hs, hj⟩
    refine wk_seq ?_
    repeat (refine wc_seq ?_)
    refine wc_region ?_
    repeat (refine wl_p rfl rfl rfl ?_)
    refine wl_nil (wk_seq ?_)
    refine wc_retV (res1 rfl rfl) ⟨g, [], Ghost.rfl', hs, rfl, ?_⟩
    rw [firstI_none fun j h => hj j h h]
theorem containsB_spec (g : Ghost) (v : Value) (xs : List Bool) (hv : RS kBool g v xs) (hl : xs.length ≤ 4611686018427387904) :
    Cl PP 55 [v, .bool true] g [] (Det (.bool (xs.any id))) := by
  refine cl_intro Tryz.func55 rfl rfl Tryz.ntmps55 rfl ?_
  intro w F hs
  repeat (refine wc_seq ?_)
  refine wc_region ?_
  repeat (refine wl_p rfl rfl rfl ?_)
  refine wl_nil (wk_seq ?_)
  repeat (refine wc_seq ?_)
  refine wc_region ?_
  repeat (refine wl_p rfl rfl rfl ?_)
  refine wl_call rfl rfl rfl (L := []) hs (indexB_spec g v xs true hv hl) ?_
  rintro u g' L' w' hg hs ⟨rfl, rfl⟩
  repeat (refine wl_p rfl rfl rfl ?_)
  refine wl_nil (wk_seq ?_)
  refine wc_retV (res1 rfl rfl) ⟨g', [], hg, hs, rfl, ?_⟩
  have e : (fun y => true == y) = (id : Bool → Bool) := by funext y; cases y <;> rfl
  rw [← firstI_ge, e]
end Go.Proofs.YtnanffbjmfgafaaGreat.S
namespace Go.Proofs.YtnanffbjmfgafaaGreat.S
open Go.RowKit
theorem pairs_take (ls : List Arrow) (pairs : List (Nat × Nat)) (inn : List Bool) {i : Nat} (hi : i < pairs.length) : (pairs.take (i + 1)).foldl (pairStep ls) inn = pairStep ls ((pairs.take i).foldl (pairStep ls) inn) pairs[i] := by
  rw [take_snoc hi, List.foldl_append]; rfl
theorem without_part {ls : List Arrow} {inn : List Bool} {m a : Nat} (ha : a < ls.length) : (withoutF ls inn m).getD a false = (inn.getD a false && !(ls[a]).ms.testBit m) := by
  rw [withoutF_at ha, hasM_arr ha]
theorem refCores_spec (n : Nat) (ls : List Arrow) (all : List Nat) (pairs : List (Nat × Nat)) (hv : ValidG n ls) (hw : ValidW all pairs) (hal : all.length ≤ 4611686018427387904) (hpl : pairs.length ≤ 4611686018427387904) : ∀ (f : Nat) (g : Ghost) (vl vin va vp : Value) (inn : List Bool), RS kArr g vl ls → RS kBool g vin inn → inn.length = ls.length → RS kNat g va all → RS kPair g vp pairs → onCnt ls inn < f →
    Cl PP 30 [.int .i64 (n : Int), vl, vin, .agg #[va, vp]] g [] fun _ L' r => OwnB r (coresS n ls all pairs f inn) L' := by
  intro f
  induction f with
  | zero => intro g vl vin va vp inn _ _ _ _ _ h; omega
  | succ f ih =>
  intro g vl vin va vp inn hl hin hlen ha hp hcnt
  obtain ⟨aa, ca, rfl⟩ := ha.form
  obtain ⟨ap, cp, rfl⟩ := hp.form
  have hn0 := hv.size
  have hl0 := hv.len
  show Cl PP 30 _ g [] fun _ L' r => OwnB r (cTo n ls all pairs (coresS n ls all pairs f) inn n).1 L'
  obtain ⟨rec, hrec⟩ : ∃ rec, rec = coresS n ls all pairs f := ⟨_, rfl⟩
  have hrl : ∀ i, (rec i).length = n := fun i => by rw [hrec]; exact coresS_len _ _ _ _ _ _
  rw [← hrec] at ih ⊢
  refine cl_intro Tryz.func30 rfl rfl Tryz.ntmps30 rfl ?_
  intro w F hs
  repeat (refine wc_seq ?_)
  refine wc_region ?_
  refine wl_box hs rfl rfl rfl rfl ?_; clear hs; intro wb w hs
  repeat (refine wl_p rfl rfl rfl ?_)
  refine wl_nil (wk_seq ?_)
  obtain ⟨g1, hg1, hs, hwb⟩ := freezeB hs
  replace hs := (show St g1 w F from hs)
  replace hwb := (show Lies g1 wb 0 [.slice aa all.length ca, .slice ap pairs.length cp] from hwb)
  repeat (refine wc_seq ?_)
  refine wc_region ?_
  repeat (refine wl_p rfl rfl rfl ?_)
  refine wl_make hs rfl (by omega) rfl rfl rfl rfl rfl rfl rfl ?_
  clear hs; intro ob w hs
  rw [zero_boolsN] at hs
  repeat (refine wl_p rfl rfl rfl ?_)
  refine wl_nil (wk_seq ?_)
  repeat (refine wc_seq ?_)
  refine wc_region ?_
  repeat (refine wl_p rfl rfl rfl ?_)
  refine wl_make hs rfl (by omega) rfl rfl rfl rfl rfl rfl rfl ?_
  clear hs; intro db w hs
  rw [zero_boolsN] at hs
  repeat (refine wl_p rfl rfl rfl ?_)
  refine wl_nil (wk_seq ?_)
  repeat (refine wc_seq ?_)
  refine wc_region ?_
  repeat (refine wl_p rfl rfl rfl ?_)
  refine wl_nil (wk_seq ?_)
  repeat (refine wc_seq ?_)
  refine wc_fori n (fun _ (_ : List Bool × List Bool) => [(0, .int .i64 (n : Int)), (1, vl), (2, vin), (7, .pointer (some ⟨wb, 0, none⟩)), (9, .slice (some ⟨ob, 0, none⟩) n n), (10, .slice (some ⟨db, 0, none⟩) n n)])
    (fun k (x : List Bool × List Bool) w => x = cTo n ls all pairs rec inn k ∧ ∃ g', g1 ≤ g' ∧ St g' w ((db, cellsO (x.2.map .bool) 4) :: (ob, cellsO (x.1.map .bool) 4) :: F)) (List.replicate n false, List.replicate n false) (by repeat (first | exact trivial | refine ⟨rfl, ?_⟩)) ⟨rfl, g1, Ghost.rfl', hs⟩ ?_ ?_ ?_
  · intro i _ w s' hi hJ hk
    repeat (refine wl_p rfl rfl rfl ?_)
    exact wl_nil (wk_weak (by repeat (first | exact trivial | refine ⟨rfl, ?_⟩)) hk)
  · rintro k ⟨out, done⟩ w hk ⟨hx, g2, hg12, hs⟩
    have hcl := cTo_len (n := n) (ls := ls) (all := all) (pairs := pairs) (rec := rec) (inn := inn) k
    rw [← hx] at hcl
    obtain ⟨hol, hdl⟩ := hcl
    simp only at hol hdl hs
    have hg02 := Ghost.tr hg1 hg12
    have hstep : cTo n ls all pairs rec inn (k + 1) = cStep n ls all pairs rec inn (out, done) k := by
      unfold cTo at hx ⊢
      rw [List.range_succ, List.foldl_append, ← hx]
      rfl
    have cell : (done.map Value.bool)[k]? = some (.bool (done[k]'(by omega))) := by simp [hdl, hk]
    have hdk : done.getD k false = done[k]'(by omega) := getD_at (by omega)
    unfold cStep at hstep
    rw [hdk] at hstep
    generalize done[k]'(by omega) = q0 at cell hstep
    repeat (refine wc_seq ?_)
    refine wc_region ?_
    repeat (refine wl_p rfl rfl rfl ?_)
    refine wl_ixJ _ rfl rfl rfl rfl rfl (hk) rfl rfl rfl ?_
    refine wl_ldO hs 0 rfl rfl cell rfl rfl rfl rfl ?_
    refine wl_nil (wk_seq ?_)
    cases q0 with
    | true =>
      refine wc_condT rfl rfl ?_
      exact wc_exit rfl (wk_nexti (out, done) hk (by omega) ⟨by rw [hstep]; rfl, g2, hg12, hs⟩ rfl rfl rfl rfl (by repeat (first | exact trivial | refine ⟨rfl, ?_⟩)))
    | false =>
    rw [if_neg (by decide)] at hstep
    refine wc_condF rfl rfl (wc_skip (wk_seq ?_))
    obtain ⟨c, hc⟩ : ∃ c, c = compR n ls inn k := ⟨_, rfl⟩
    have hcn : c.length = n := by rw [hc]; exact compR_len _ _ _ _
    repeat (refine wc_seq ?_)
    refine wc_region ?_
    repeat (refine wl_p rfl rfl rfl ?_)
    refine wl_call rfl rfl rfl (L := []) hs (refComponent_spec g2 vl vin n k ls inn (hl.mono hg02) hv (hin.mono hg02) hlen hk) ?_
    rintro vc g3 Hc w hg3 hs hownc
    rw [← hc] at hownc hstep
    repeat (refine wl_p rfl rfl rfl ?_)
    refine wl_nil (wk_seq ?_)
    obtain ⟨g4, hg4, hs, rc⟩ := hownc.freezeB hs
    replace hs := (show St g4 w ((db, cellsO (done.map .bool) 4) :: (ob, cellsO (out.map .bool) 4) :: F) from hs)
    have hg14 := Ghost.tr hg12 (Ghost.tr hg3 hg4)
    obtain ⟨ac, cc, rfl⟩ := rc.form
    rw [hcn] at rc ⊢
    have hT1 : (orB n done c).length = n := orB_len _ _ _
    repeat (refine wc_seq ?_)
    refine wc_region ?_
    repeat (refine wl_p rfl rfl rfl ?_)
    refine wl_nil (wk_seq ?_)
    repeat (refine wc_seq ?_)
    refine wc_fori n (fun _ (_ : List Bool) => [(0, .int .i64 (n : Int)), (1, vl), (2, vin), (7, .pointer (some ⟨wb, 0, none⟩)), (9, .slice (some ⟨ob, 0, none⟩) n n), (10, .slice (some ⟨db, 0, none⟩) n n), (11, .int .i64 (k : Int)), (12, .slice ac n cc)]) (fun i (x : List Bool) w => Part n i done (orB n done c) x ∧ St g4 w ((db, cellsO (x.map .bool) 4) :: (ob, cellsO (out.map .bool) 4) :: F)) done (by repeat (first | exact trivial | refine ⟨rfl, ?_⟩)) ⟨Part.start hdl, hs⟩ ?_ ?_ ?_
    · intro i _ w s' hi hJ hk
      repeat (refine wl_p rfl rfl rfl ?_)
      exact wl_nil (wk_weak (by repeat (first | exact trivial | refine ⟨rfl, ?_⟩)) hk)
    · clear hs
      rintro i x w hi ⟨hp1, hs⟩
      have hxl := hp1.1
      have hb2 := rc.base (i := i) (by omega)
      have hc2 := rc.bool (i := i) (by omega)
      have cell : (x.map Value.bool)[i]? = some (.bool (x[i]'(by omega))) := by simp [hxl, hi]
      have hq := hp1.at_ hi
      rw [getD_at (show i < x.length by omega)] at hq
      have hTi : (orB n done c).getD i false = (done.getD i false || c.getD i false) := by unfold orB; rw [getD_rangeB, decide_eq_true hi, Bool.true_and]
      rw [← hq, getD_at (show i < c.length by omega)] at hTi
      generalize c[i]'(by omega) = q2 at hc2 hTi
      generalize x[i]'(by omega) = q1 at cell hTi
      repeat (refine wc_seq ?_)
      refine wc_region ?_
      repeat (refine wl_p rfl rfl rfl ?_)
      refine wl_ixJ _ rfl rfl rfl rfl rfl (hi) rfl rfl rfl ?_
      refine wl_ldO hs 0 rfl rfl cell rfl rfl rfl rfl ?_
      repeat (refine wl_p rfl rfl rfl ?_)
      cases q1 with
      | true =>
        repeat (first | refine wl_p rfl rfl rfl ?_ | refine wl_skip rfl rfl rfl ?_)
        refine wl_ixJ _ rfl rfl rfl rfl rfl (hi) rfl rfl rfl ?_
        refine wl_st hs 0 rfl rfl rfl cell rfl rfl rfl rfl ?_
        clear hs; intro w hs
        exact wl_nil (wk_blk (wk_nexti (x.set i true) hi (by omega) ⟨hp1.set hi (by rw [hTi]; rfl), by rw [List.map_set]; exact hs⟩ rfl rfl rfl rfl (by repeat (first | exact trivial | refine ⟨rfl, ?_⟩))))
      | false =>
        repeat (first | refine wl_p rfl rfl rfl ?_ | refine wl_skip rfl rfl rfl ?_)
        refine wl_ix rfl rfl rfl rfl rfl (by omega) hb2 rfl rfl ?_
        refine wl_ldG hs (hc2) rfl rfl rfl rfl rfl ?_
        repeat (first | refine wl_p rfl rfl rfl ?_ | refine wl_skip rfl rfl rfl ?_)
        refine wl_ixJ _ rfl rfl rfl rfl rfl (hi) rfl rfl rfl ?_
        refine wl_st hs 0 rfl rfl rfl cell rfl rfl rfl rfl ?_
        clear hs; intro w hs
        exact wl_nil (wk_blk (wk_nexti (x.set i q2) hi (by omega) ⟨hp1.set hi (by rw [hTi, Bool.false_or]), by rw [List.map_set]; exact hs⟩ rfl rfl rfl rfl (by repeat (first | exact trivial | refine ⟨rfl, ?_⟩))))
    clear hs
    rintro x w ⟨hp1, hs⟩
    have := hp1.done hT1
    subst this
    clear hp1
    obtain ⟨D', hD'⟩ : ∃ D', D' = orB n done c := ⟨_, rfl⟩
    rw [← hD'] at hs hstep
    obtain ⟨inner, hI⟩ : ∃ inner, inner = withinR ls inn c := ⟨_, rfl⟩
    have hil : inner.length = ls.length := by rw [hI]; simp [withinR]
    have hg04 := Ghost.tr hg1 hg14
    refine wk_seq ?_
    repeat (refine wc_seq ?_)
    refine wc_region ?_
    repeat (refine wl_p rfl rfl rfl ?_)
    refine wl_call rfl rfl rfl (L := []) hs (refWithin_spec g4 vl vin (.slice ac n cc) n ls inn c (hl.mono hg04) hv (hin.mono hg04) hlen rc hcn) ?_
    rintro vi g5 Hi w hg5 hs howni
    rw [← hI] at howni hstep
    repeat (refine wl_p rfl rfl rfl ?_)
    refine wl_nil (wk_seq ?_)
    obtain ⟨g6, hg6, hs, ri, hback⟩ := howni.lendB hs
    obtain ⟨ai, ci, rfl⟩ := howni.form
    replace hs := (show St g6 w ((db, cellsO (D'.map .bool) 4) :: (ob, cellsO (out.map .bool) 4) :: F) from hs)
    have hg46 := Ghost.tr hg5 hg6
    have hg16 := Ghost.tr hg14 hg46
    have hg06 := Ghost.tr hg1 hg16
    repeat (refine wc_seq ?_)
    refine wc_region ?_
    repeat (refine wl_p rfl rfl rfl ?_)
    refine wl_call rfl rfl rfl (L := []) hs (containsB_spec g6 _ inner ri (by omega)) ?_
    rintro u g7 L' w hg7 hs ⟨rfl, rfl⟩
    replace hs := (show St g7 w ((db, cellsO (D'.map .bool) 4) :: (ob, cellsO (out.map .bool) 4) :: F) from hs)
    have hg17 := Ghost.tr hg16 hg7
    have hg07 := Ghost.tr hg1 hg17
    repeat (refine wl_p rfl rfl rfl ?_)
    refine wl_nil (wk_seq ?_)
    refine wc_cond rfl (fun h1 => ?_) (fun h1 => ?_)
    · have h1' : inner.any id = false := by simpa using h1
      rw [if_pos h1'] at hstep
      exact wc_exit rfl (wk_nexti (out, D') hk (by omega) ⟨hstep.symm, g7, hg17, hs⟩ rfl rfl rfl rfl (by repeat (first | exact trivial | refine ⟨rfl, ?_⟩)))
    have h1' : ¬ inner.any id = false := by
      have : (!inner.any id) = false := h1
      simpa using this
    rw [if_neg h1'] at hstep
    refine wc_skip (wk_seq ?_)
    repeat (refine wc_seq ?_)
    refine wc_region ?_
    repeat (refine wl_p rfl rfl rfl ?_)
    refine wl_nil (wk_seq ?_)
    repeat (refine wc_seq ?_)
    refine wc_region ?_
    repeat (refine wl_p rfl rfl rfl ?_)
    refine wl_nil (wk_seq ?_)
    repeat (refine wc_seq ?_)
    have hm0 : (all.take 0).any (fun m => !someR ls inner m) = false := rfl
    refine wc_fori all.length (fun i (_ : Unit) => [(0, .int .i64 (n : Int)), (1, vl), (2, vin), (7, .pointer (some ⟨wb, 0, none⟩)), (9, .slice (some ⟨ob, 0, none⟩) n n), (10, .slice (some ⟨db, 0, none⟩) n n), (11, .int .i64 (k : Int)), (12, .slice ac n cc), (14, .slice ai inner.length ci), (15, .bool ((all.take i).any fun m => !someR ls inner m))]) (fun i (_ : Unit) w => ∃ g', g7 ≤ g' ∧ St g' w ((db, cellsO (D'.map .bool) 4) :: (ob, cellsO (out.map .bool) 4) :: F)) () (by repeat (first | exact trivial | refine ⟨rfl, ?_⟩)) ⟨g7, Ghost.rfl', hs⟩ ?_ ?_ ?_
    · rintro i _ w s' hi ⟨g8, hg8, hs⟩ hk
      repeat (refine wl_p rfl rfl rfl ?_)
      refine wl_ldG hs (hwb.mono (Ghost.tr hg17 hg8) 0 _ rfl) rfl rfl rfl rfl rfl ?_
      repeat (refine wl_p rfl rfl rfl ?_)
      exact wl_nil (wk_weak (by repeat (first | exact trivial | refine ⟨rfl, ?_⟩)) hk)
    · clear hs
      rintro i _ w hi ⟨g8, hg8, hs⟩
      have hg18 := Ghost.tr hg17 hg8
      have hg08 := Ghost.tr hg1 hg18
      have hb := ha.base hi
      have hcx := (ha.mono hg08).nat hi
      have hsn : (all.take (i + 1)).any (fun m => !someR ls inner m) = ((all.take i).any (fun m => !someR ls inner m) || !someR ls inner all[i]) := by rw [take_snoc hi, List.any_append]; simp
      generalize (all.take i).any (fun m => !someR ls inner m) = q1 at hsn ⊢
      repeat (refine wc_seq ?_)
      refine wc_region ?_
      repeat (refine wl_p rfl rfl rfl ?_)
      cases q1 with
      | true =>
        repeat (first | refine wl_p rfl rfl rfl ?_ | refine wl_skip rfl rfl rfl ?_)
        exact wl_nil (wk_blk (wk_nexti () hi (by omega) ⟨g8, hg8, hs⟩ rfl rfl rfl rfl (by rw [hsn, Bool.true_or]; exact (by repeat (first | exact trivial | refine ⟨rfl, ?_⟩)))))
      | false =>
        repeat (first | refine wl_p rfl rfl rfl ?_ | refine wl_skip rfl rfl rfl ?_)
        refine wl_ldG hs (hwb.mono hg18 0 _ rfl) rfl rfl rfl rfl rfl ?_
        repeat (first | refine wl_p rfl rfl rfl ?_ | refine wl_skip rfl rfl rfl ?_)
        refine wl_ix rfl rfl rfl rfl rfl (by omega) hb rfl rfl ?_
        refine wl_ldG hs (hcx) rfl rfl rfl rfl rfl ?_
        repeat (first | refine wl_p rfl rfl rfl ?_ | refine wl_skip rfl rfl rfl ?_)
        refine wl_call rfl rfl rfl (L := []) hs (refSome_spec g8 vl _ n all[i] ls inner (hl.mono hg08) hv (ri.mono (Ghost.tr hg7 hg8)) hil) ?_
        rintro u g9 L' w hg9 hs ⟨rfl, rfl⟩
        repeat (first | refine wl_p rfl rfl rfl ?_ | refine wl_skip rfl rfl rfl ?_)
        exact wl_nil (wk_blk (wk_nexti () hi (by omega) ⟨g9, Ghost.tr hg8 hg9, hs⟩ rfl rfl rfl rfl (by rw [hsn, Bool.false_or]; exact (by repeat (first | exact trivial | refine ⟨rfl, ?_⟩)))))
    clear hs
    rintro _ w ⟨g8, hg8, hs⟩
    rw [List.take_length]
    have hg18 := Ghost.tr hg17 hg8
    have hg08 := Ghost.tr hg1 hg18
    refine wk_seq ?_
    repeat (refine wc_seq ?_)
    refine wc_region ?_
    repeat (refine wl_p rfl rfl rfl ?_)
    refine wl_nil (wk_seq ?_)
    refine wc_cond rfl (fun h2 => ?_) (fun h2 => ?_)
    · rw [if_pos h2] at hstep
      exact wc_exit rfl (wk_nexti (out, D') hk (by omega) ⟨hstep.symm, g8, hg18, hs⟩ rfl rfl rfl rfl (by repeat (first | exact trivial | refine ⟨rfl, ?_⟩)))
    rw [if_neg (by rw [h2]; decide)] at hstep
    refine wc_skip (wk_seq ?_)
    repeat (refine wc_seq ?_)
    refine wc_region ?_
    repeat (refine wl_p rfl rfl rfl ?_)
    refine wl_ldGN (cs := [.slice aa all.length ca, .slice ap pairs.length cp]) hs (hwb.mono hg18).at' rfl rfl rfl rfl rfl rfl ?_
    refine wl_call rfl rfl rfl (L := []) hs (refSatisfied_spec g8 vl _ _ _ n ls inner all pairs (hl.mono hg08) hv (ri.mono (Ghost.tr hg7 hg8)) hil (ha.mono hg08) (hp.mono hg08) hal hpl) ?_
    rintro u g9 L' w hg9 hs ⟨rfl, rfl⟩
    replace hs := (show St g9 w ((db, cellsO (D'.map .bool) 4) :: (ob, cellsO (out.map .bool) 4) :: F) from hs)
    have hg89 := Ghost.tr hg8 hg9
    have hg19 := Ghost.tr hg17 hg89
    have hg09 := Ghost.tr hg1 hg19
    refine wl_nil (wk_seq ?_)
    have rc9 := rc.mono (Ghost.tr hg46 (Ghost.tr hg7 hg89))
    refine wc_cond rfl (fun h3 => ?_) (fun h3 => ?_)
    · rw [if_pos h3] at hstep
      have hT2 : (orB n out c).length = n := orB_len _ _ _
      repeat (refine wc_seq ?_)
      refine wc_region ?_
      repeat (refine wl_p rfl rfl rfl ?_)
      refine wl_nil (wk_seq ?_)
      repeat (refine wc_seq ?_)
      refine wc_fori n (fun _ (_ : List Bool) => [(0, .int .i64 (n : Int)), (1, vl), (2, vin), (7, .pointer (some ⟨wb, 0, none⟩)), (9, .slice (some ⟨ob, 0, none⟩) n n), (10, .slice (some ⟨db, 0, none⟩) n n), (11, .int .i64 (k : Int)), (12, .slice ac n cc)]) (fun i (x : List Bool) w => Part n i out (orB n out c) x ∧ St g9 w ((db, cellsO (D'.map .bool) 4) :: (ob, cellsO (x.map .bool) 4) :: F)) out (by repeat (first | exact trivial | refine ⟨rfl, ?_⟩)) ⟨Part.start hol, hs⟩ ?_ ?_ ?_
      · intro i _ w s' hi hJ hk
        repeat (refine wl_p rfl rfl rfl ?_)
        exact wl_nil (wk_weak (by repeat (first | exact trivial | refine ⟨rfl, ?_⟩)) hk)
      · clear hs
        rintro i x w hi ⟨hp1, hs⟩
        have hxl := hp1.1
        have hb2 := rc.base (i := i) (by omega)
        have hc2 := rc9.bool (i := i) (by omega)
        have cell : (x.map Value.bool)[i]? = some (.bool (x[i]'(by omega))) := by simp [hxl, hi]
        have hq := hp1.at_ hi
        rw [getD_at (show i < x.length by omega)] at hq
        have hTi : (orB n out c).getD i false = (out.getD i false || c.getD i false) := by unfold orB; rw [getD_rangeB, decide_eq_true hi, Bool.true_and]
        rw [← hq, getD_at (show i < c.length by omega)] at hTi
        generalize c[i]'(by omega) = q2 at hc2 hTi
        generalize x[i]'(by omega) = q1 at cell hTi
        repeat (refine wc_seq ?_)
        refine wc_region ?_
        repeat (refine wl_p rfl rfl rfl ?_)
        refine wl_ixJ _ rfl rfl rfl rfl rfl (hi) rfl rfl rfl ?_
        refine wl_ldO hs 1 rfl rfl cell rfl rfl rfl rfl ?_
        repeat (refine wl_p rfl rfl rfl ?_)
        cases q1 with
        | true =>
          repeat (first | refine wl_p rfl rfl rfl ?_ | refine wl_skip rfl rfl rfl ?_)
          refine wl_ixJ _ rfl rfl rfl rfl rfl (hi) rfl rfl rfl ?_
          refine wl_st hs 1 rfl rfl rfl cell rfl rfl rfl rfl ?_
          clear hs; intro w hs
          exact wl_nil (wk_blk (wk_nexti (x.set i true) hi (by omega) ⟨hp1.set hi (by rw [hTi]; rfl), by rw [List.map_set]; exact hs⟩ rfl rfl rfl rfl (by repeat (first | exact trivial | refine ⟨rfl, ?_⟩))))
        | false =>
          repeat (first | refine wl_p rfl rfl rfl ?_ | refine wl_skip rfl rfl rfl ?_)
          refine wl_ix rfl rfl rfl rfl rfl (by omega) hb2 rfl rfl ?_
          refine wl_ldG hs (hc2) rfl rfl rfl rfl rfl ?_
          repeat (first | refine wl_p rfl rfl rfl ?_ | refine wl_skip rfl rfl rfl ?_)
          refine wl_ixJ _ rfl rfl rfl rfl rfl (hi) rfl rfl rfl ?_
          refine wl_st hs 1 rfl rfl rfl cell rfl rfl rfl rfl ?_
          clear hs; intro w hs
          exact wl_nil (wk_blk (wk_nexti (x.set i q2) hi (by omega) ⟨hp1.set hi (by rw [hTi, Bool.false_or]), by rw [List.map_set]; exact hs⟩ rfl rfl rfl rfl (by repeat (first | exact trivial | refine ⟨rfl, ?_⟩))))
      · clear hs
        rintro x w ⟨hp1, hs⟩
        have := hp1.done hT2
        subst this
        exact wk_seq (wc_exit rfl (wk_nexti (_, D') hk (by omega) ⟨hstep.symm, g9, hg19, hs⟩ rfl rfl rfl rfl (by repeat (first | exact trivial | refine ⟨rfl, ?_⟩))))
    rw [if_neg (by rw [h3]; decide)] at hstep
    have hless := pairs_less (ls := ls) (all := all) (pairs := pairs) (inn := inn) (nodes := c) (by rw [← hI]; exact h2) (by rw [← hI]; exact h3)
    rw [← hI] at hless
    obtain ⟨ga, hga1, hga2, hs⟩ := hback g9 w _ (Ghost.tr hg7 hg89) hs
    have hg4a := Ghost.tr hg5 hga1
    have hg1a := Ghost.tr hg14 hg4a
    have hg0a := Ghost.tr hg1 hg1a
    refine wc_skip (wk_seq ?_)
    rw [hil] at howni ⊢
    repeat (refine wc_seq ?_)
    refine wc_region ?_
    repeat (refine wl_p rfl rfl rfl ?_)
    refine wl_nil (wk_seq ?_)
    repeat (refine wc_seq ?_)
    refine wc_fori pairs.length (fun i (_ : List Bool × Own) => [(0, .int .i64 (n : Int)), (1, vl), (2, vin), (7, .pointer (some ⟨wb, 0, none⟩)), (9, .slice (some ⟨ob, 0, none⟩) n n), (10, .slice (some ⟨db, 0, none⟩) n n), (11, .int .i64 (k : Int)), (12, .slice ac n cc), (14, .slice ai ls.length ci)]) (fun i (x : List Bool × Own) w => x.1 = (pairs.take i).foldl (pairStep ls) inner ∧ x.1.length = ls.length ∧ OwnB (.slice ai ls.length ci) x.1 x.2 ∧ ∃ g', ga ≤ g' ∧ St g' w (x.2 ++ (db, cellsO (D'.map .bool) 4) :: (ob, cellsO (out.map .bool) 4) :: F)) (inner, Hi) (by repeat (first | exact trivial | refine ⟨rfl, ?_⟩)) ⟨rfl, hil, howni, ga, Ghost.rfl', hs⟩ ?_ ?_ ?_
    · rintro i x w s' hi ⟨_, _, _, g8, hg8, hs⟩ hk
      repeat (refine wl_p rfl rfl rfl ?_)
      refine wl_ldG hs (hwb.mono (Ghost.tr hg1a hg8) 1 _ rfl) rfl rfl rfl rfl rfl ?_
      repeat (refine wl_p rfl rfl rfl ?_)
      exact wl_nil (wk_weak (by repeat (first | exact trivial | refine ⟨rfl, ?_⟩)) hk)
    · clear hs
      rintro i ⟨I, H⟩ w hi ⟨hIe, hIl, hown, gb, hgb, hs⟩
      simp only at hIe hIl hown hs
      have hg1b := Ghost.tr hg1a hgb
      have hg0b := Ghost.tr hg1 hg1b
      have hnx : (pairs.take (i + 1)).foldl (pairStep ls) inner = pairStep ls I pairs[i] := by rw [pairs_take ls pairs inner hi, hIe]
      obtain ⟨pb, po, rfl⟩ := hp.base hi
      replace hs : St gb w (H ++ (db, cellsO (D'.map .bool) 4) :: (ob, cellsO (out.map .bool) 4) :: F) := by assumption
      have hb : ∃ b o, some (⟨pb, po, none⟩ : Addr) = some ⟨b, o, none⟩ := ⟨pb, po, rfl⟩
      obtain ⟨m1, hm1⟩ : ∃ m, m = pairs[i].1 := ⟨_, rfl⟩
      obtain ⟨m2, hm2⟩ : ∃ m, m = pairs[i].2 := ⟨_, rfl⟩
      have hcc : Lies gb pb (po + i * 2) [.int .i64 (m1 : Int), .int .i64 (m2 : Int)] := by rw [hm1, hm2]; exact (hp.mono hg0b).enc hi
      unfold pairStep at hnx
      rw [← hm1, ← hm2] at hnx
      obtain ⟨gc, hgc, hs, rI, hbk⟩ := hown.lendB hs
      have hgbc := Ghost.tr hgb hgc
      have hg1c := Ghost.tr hg1b hgc
      have hg0c := Ghost.tr hg0b hgc
      repeat (refine wc_seq ?_)
      refine wc_region ?_
      repeat (refine wl_p rfl rfl rfl ?_)
      refine wl_ldG hs (hwb.mono hg1c 1 _ rfl) rfl rfl rfl rfl rfl ?_
      repeat (refine wl_p rfl rfl rfl ?_)
      refine wl_ix rfl rfl rfl rfl rfl (by omega) (hb) rfl rfl ?_
      refine wl_ixA rfl rfl rfl rfl rfl (by omega) rfl rfl ?_
      refine wl_ldG hs (hcc.mono hgc 0 _ rfl) rfl rfl rfl rfl rfl ?_
      refine wl_call rfl rfl rfl (L := []) hs (refSome_spec gc vl _ n m1 ls I (hl.mono hg0c) hv rI hIl) ?_
      rintro u gd L' w hgd hs ⟨rfl, rfl⟩
      replace hs := (show St gd w ((db, cellsO (D'.map .bool) 4) :: (ob, cellsO (out.map .bool) 4) :: F) from hs)
      have hg0d := Ghost.tr hg0c hgd
      repeat (refine wl_p rfl rfl rfl ?_)
      refine wl_case 123 rfl (fun q1 => ?_) (fun q1 => ?_)
      · rw [q1, Bool.true_and] at hnx
        repeat (first | refine wl_p rfl rfl rfl ?_ | refine wl_skip rfl rfl rfl ?_)
        refine wl_ldG hs (hwb.mono (Ghost.tr hg1c hgd) 1 _ rfl) rfl rfl rfl rfl rfl ?_
        repeat (first | refine wl_p rfl rfl rfl ?_ | refine wl_skip rfl rfl rfl ?_)
        refine wl_ix rfl rfl rfl rfl rfl (by omega) (hb) rfl rfl ?_
        repeat (first | refine wl_p rfl rfl rfl ?_ | refine wl_skip rfl rfl rfl ?_)
        refine wl_ixA rfl rfl rfl rfl rfl (by omega) rfl rfl ?_
        refine wl_ldG hs (hcc.mono (Ghost.tr hgc hgd) 1 _ rfl) rfl rfl rfl rfl rfl ?_
        refine wl_call rfl rfl rfl (L := []) hs (refSome_spec gd vl _ n m2 ls I (hl.mono hg0d) hv (rI.mono hgd) hIl) ?_
        rintro u ge L' w hge hs ⟨rfl, rfl⟩
        replace hs := (show St ge w ((db, cellsO (D'.map .bool) 4) :: (ob, cellsO (out.map .bool) 4) :: F) from hs)
        repeat (first | refine wl_p rfl rfl rfl ?_ | refine wl_skip rfl rfl rfl ?_)
        refine wl_nil (wk_seq ?_)
        obtain ⟨gf, hgf1, hgf2, hs⟩ := hbk ge w _ (Ghost.tr hgd hge) hs
        have hgaf := Ghost.tr hgb hgf1
        have hg1f := Ghost.tr hg1b hgf1
        have hg0f := Ghost.tr hg1 hg1f
        replace hcc := hcc.mono hgf1
        refine wc_cond rfl (fun h => ?_) (fun h => ?_)
        · rw [if_pos h] at hnx
          have hTl : (withoutF ls I m1).length = ls.length := by simp [withoutF]
          repeat (refine wc_seq ?_)
          refine wc_region ?_
          repeat (refine wl_p rfl rfl rfl ?_)
          refine wl_nil (wk_seq ?_)
          repeat (refine wc_seq ?_)
          refine wc_fori ls.length (fun _ (_ : List Bool × Own) => [(0, .int .i64 (n : Int)), (1, vl), (2, vin), (7, .pointer (some ⟨wb, 0, none⟩)), (9, .slice (some ⟨ob, 0, none⟩) n n), (10, .slice (some ⟨db, 0, none⟩) n n), (11, .int .i64 (k : Int)), (12, .slice ac n cc), (14, .slice ai ls.length ci), (18, .int .i64 (i : Int))]) (fun a (x : List Bool × Own) w => Part ls.length a I (withoutF ls I m1) x.1 ∧ OwnB (.slice ai ls.length ci) x.1 x.2 ∧ ∃ g', gf ≤ g' ∧ St g' w (x.2 ++ (db, cellsO (D'.map .bool) 4) :: (ob, cellsO (out.map .bool) 4) :: F)) (I, H) (by repeat (first | exact trivial | refine ⟨rfl, ?_⟩)) ⟨Part.start hIl, hown, gf, Ghost.rfl', hs⟩ ?_ ?_ ?_
          · rintro a x w s' hi2 _ hk2
            obtain ⟨al, cl, rfl⟩ := hl.form
            repeat (refine wl_p rfl rfl rfl ?_)
            exact wl_nil (wk_weak (by repeat (first | exact trivial | refine ⟨rfl, ?_⟩)) hk2)
          · clear hs hown
            rintro a ⟨J, H⟩ w hla ⟨hpt, hown, gg, hgg, hs⟩
            simp only at hpt hown hs
            have hJl := hpt.1
            have hg0g := Ghost.tr hg0f hgg
            obtain ⟨al, cl, rfl⟩ := hl.form
            have hbl := hl.base hla
            have hcl2 := (hl.mono hg0g).enc hla
            obtain ⟨b, cap, cs, hve, rfl, hcs, hset⟩ := hown.open' (by omega)
            rw [hJl] at hve
            simp only [Value.slice.injEq, true_and] at hve
            obtain ⟨rfl, rfl⟩ := hve
            have cell := hcs a (by omega)
            have hq := hpt.at_ hla
            rw [getD_at (show a < J.length by omega)] at hq
            have hTi := without_part (ls := ls) (inn := I) (m := m1) hla
            rw [← hq] at hTi
            have hs1 := fun c => hset a c (by omega)
            rw [hJl] at hs1
            generalize J[a]'(by omega) = q2 at cell hTi
            have hwg := hwb.mono (Ghost.tr hg1f hgg)
            have hms := (hv.ok _ (List.getElem_mem hla)).2.2
            repeat (refine wc_seq ?_)
            refine wc_draw 20 [] pp_mix (by kernel_rfl) rfl hs ?_
            repeat (first | refine sg_p rfl rfl ?_ | refine sg_skip rfl rfl ?_)
            refine sg_ixJ _ rfl rfl rfl rfl rfl (hla) rfl rfl ?_
            refine sg_ldO 0 rfl rfl cell rfl rfl rfl ?_
            repeat (first | refine sg_p rfl rfl ?_ | refine sg_skip rfl rfl ?_)
            cases q2 with
            | true =>
              repeat (first | refine sg_p rfl rfl ?_ | refine sg_skip rfl rfl ?_)
              refine sg_ix rfl rfl rfl rfl rfl (by omega) hbl rfl ?_
              refine sg_ldGN (hcl2.of_eaddr) rfl rfl rfl rfl rfl ?_
              repeat (first | refine sg_p rfl rfl ?_ | refine sg_skip rfl rfl ?_)
              refine sg_ldG (hwg 1 _ rfl) rfl rfl rfl rfl ?_
              repeat (first | refine sg_p rfl rfl ?_ | refine sg_skip rfl rfl ?_)
              refine sg_ix rfl rfl rfl rfl rfl (by omega) hb rfl ?_
              repeat (first | refine sg_p rfl rfl ?_ | refine sg_skip rfl rfl ?_)
              refine sg_ixA rfl rfl rfl rfl rfl (by omega) rfl ?_
              refine sg_ldG (hcc.mono hgg 0 _ rfl) rfl rfl rfl rfl ?_
              refine sg_callK (vs := [.agg #[.int .i64 (ls[a].fr : Int), .int .i64 (ls[a].to : Int), .int .u32 (ls[a].ms : Int)], .int .i64 (m1 : Int)]) [] [] rfl rfl rfl (fun g' hg' => refHas_spec g' _ _ ls[a].ms m1 (by omega) rfl rfl) (fun g' L' v' h => h) ?_
              repeat (first | refine sg_p rfl rfl ?_ | refine sg_skip rfl rfl ?_)
              refine sg_end ?_
              intro gh w hgh
              intro hs
              refine wl_ixJ _ rfl rfl rfl rfl rfl (hla) rfl rfl rfl ?_
              refine wl_st hs 0 rfl rfl rfl cell rfl rfl rfl rfl ?_
              clear hs; intro w hs
              exact wl_nil (wk_blk (wk_nexti (J.set a (!ls[a].ms.testBit m1), [(b, cellsO (cs.set a (.bool (!ls[a].ms.testBit m1))) 4)]) hla (by omega) ⟨hpt.set hla (by rw [hTi, Bool.true_and]), by simpa [List.length_set] using hs1 _, gh, Ghost.tr hgg hgh, hs⟩ rfl rfl rfl rfl (by repeat (first | exact trivial | refine ⟨rfl, ?_⟩))))
            | false =>
              repeat (first | refine sg_p rfl rfl ?_ | refine sg_skip rfl rfl ?_)
              refine sg_end ?_
              intro gh w hgh
              intro hs
              refine wl_ixJ _ rfl rfl rfl rfl rfl (hla) rfl rfl rfl ?_
              refine wl_st hs 0 rfl rfl rfl cell rfl rfl rfl rfl ?_
              clear hs; intro w hs
              exact wl_nil (wk_blk (wk_nexti (J.set a false, [(b, cellsO (cs.set a (.bool false)) 4)]) hla (by omega) ⟨hpt.set hla (by rw [hTi]; rfl), by simpa [List.length_set] using hs1 _, gh, Ghost.tr hgg hgh, hs⟩ rfl rfl rfl rfl (by repeat (first | exact trivial | refine ⟨rfl, ?_⟩))))
          · clear hs hown
            rintro ⟨J, H⟩ w ⟨hpt, hown, gg, hgg, hs⟩
            simp only at hpt hown hs
            have := hpt.done hTl
            subst this
            exact wk_blk (wk_nexti (_, H) hi (by omega) ⟨hnx.symm, hTl, hown, gg, Ghost.tr hgaf hgg, hs⟩ rfl rfl rfl rfl (by repeat (first | exact trivial | refine ⟨rfl, ?_⟩)))
        · rw [if_neg (by rw [h]; decide)] at hnx
          exact wc_skip (wk_blk (wk_nexti (I, H) hi (by omega) ⟨hnx.symm, hIl, hown, gf, hgaf, hs⟩ rfl rfl rfl rfl (by repeat (first | exact trivial | refine ⟨rfl, ?_⟩))))
      · rw [q1, Bool.false_and, if_neg (by decide)] at hnx
        repeat (first | refine wl_p rfl rfl rfl ?_ | refine wl_skip rfl rfl rfl ?_)
        refine wl_nil (wk_seq ?_)
        obtain ⟨gf, hgf1, hgf2, hs⟩ := hbk gd w _ hgd hs
        exact wc_condF rfl rfl (wc_skip (wk_blk (wk_nexti (I, H) hi (by omega) ⟨hnx.symm, hIl, hown, gf, Ghost.tr hgb hgf1, hs⟩ rfl rfl rfl rfl (by repeat (first | exact trivial | refine ⟨rfl, ?_⟩)))))
    clear hs
    rintro ⟨I, H⟩ w ⟨hIe, hIl, hown, gb, hgb, hs⟩
    simp only at hIe hIl hown hs
    rw [List.take_length] at hIe
    have hIe' : I = pairsR ls pairs inner := hIe
    rw [← hIe'] at hstep hless
    clear hIe hIe'
    obtain ⟨gc, hgc, hs, rI⟩ := hown.freezeB hs
    have hg4c := Ghost.tr hg4a (Ghost.tr hgb hgc)
    have hg1c := Ghost.tr hg14 hg4c
    have hg0c := Ghost.tr hg1 hg1c
    refine wk_seq ?_
    repeat (refine wc_seq ?_)
    refine wc_region ?_
    repeat (refine wl_p rfl rfl rfl ?_)
    refine wl_ldGN (cs := [.slice aa all.length ca, .slice ap pairs.length cp]) hs (hwb.mono hg1c).at' rfl rfl rfl rfl rfl rfl ?_
    refine wl_call rfl rfl rfl (L := []) hs (ih gc vl _ _ _ I (hl.mono hg0c) rI hIl (ha.mono hg0c) (hp.mono hg0c) (by omega)) ?_
    rintro vr gd Hr w hgd hs hownr
    repeat (refine wl_p rfl rfl rfl ?_)
    refine wl_nil (wk_seq ?_)
    obtain ⟨ge, hge, hs, rr⟩ := hownr.freezeB hs
    obtain ⟨ar, cr, rfl⟩ := rr.form
    replace hs := (show St ge w ((db, cellsO (D'.map .bool) 4) :: (ob, cellsO (out.map .bool) 4) :: F) from hs)
    have hg4e := Ghost.tr hg4c (Ghost.tr hgd hge)
    have hg1e := Ghost.tr hg14 hg4e
    have hrl' := hrl I
    obtain ⟨R, hR⟩ : ∃ R, R = rec I := ⟨_, rfl⟩
    rw [← hR] at rr hrl' hstep ⊢
    have rce := rc.mono hg4e
    have hT3 : (orB n out (andB n c R)).length = n := orB_len _ _ _
    repeat (refine wc_seq ?_)
    refine wc_region ?_
    repeat (refine wl_p rfl rfl rfl ?_)
    refine wl_nil (wk_seq ?_)
    repeat (refine wc_seq ?_)
    refine wc_fori n (fun _ (_ : List Bool) => [(0, .int .i64 (n : Int)), (1, vl), (2, vin), (7, .pointer (some ⟨wb, 0, none⟩)), (9, .slice (some ⟨ob, 0, none⟩) n n), (10, .slice (some ⟨db, 0, none⟩) n n), (11, .int .i64 (k : Int)), (12, .slice ac n cc), (20, .slice ar R.length cr)]) (fun i (x : List Bool) w => Part n i out (orB n out (andB n c R)) x ∧ St ge w ((db, cellsO (D'.map .bool) 4) :: (ob, cellsO (x.map .bool) 4) :: F)) out (by repeat (first | exact trivial | refine ⟨rfl, ?_⟩)) ⟨Part.start hol, hs⟩ ?_ ?_ ?_
    · intro i _ w s' hi hJ hk
      repeat (refine wl_p rfl rfl rfl ?_)
      exact wl_nil (wk_weak (by repeat (first | exact trivial | refine ⟨rfl, ?_⟩)) hk)
    · clear hs
      rintro i x w hi ⟨hp1, hs⟩
      have hxl := hp1.1
      have hb2 := rc.base (i := i) (by omega)
      have hc2 := rce.bool (i := i) (by omega)
      have hb3 := rr.base (i := i) (by omega)
      have hc3 := rr.bool (i := i) (by omega)
      have cell : (x.map Value.bool)[i]? = some (.bool (x[i]'(by omega))) := by simp [hxl, hi]
      have hq := hp1.at_ hi
      rw [getD_at (show i < x.length by omega)] at hq
      have hTi : (orB n out (andB n c R)).getD i false = (out.getD i false || c.getD i false && R.getD i false) := by unfold orB andB; rw [getD_rangeB, getD_rangeB, decide_eq_true hi, Bool.true_and, Bool.true_and]
      rw [← hq, getD_at (show i < c.length by omega), getD_at (show i < R.length by omega)] at hTi
      generalize c[i]'(by omega) = q2 at hc2 hTi
      generalize R[i]'(by omega) = q3 at hc3 hTi
      generalize x[i]'(by omega) = q1 at cell hTi
      repeat (refine wc_seq ?_)
      refine wc_region ?_
      repeat (refine wl_p rfl rfl rfl ?_)
      refine wl_ixJ _ rfl rfl rfl rfl rfl (hi) rfl rfl rfl ?_
      refine wl_ldO hs 1 rfl rfl cell rfl rfl rfl rfl ?_
      repeat (refine wl_p rfl rfl rfl ?_)
      cases q1 with
      | true =>
        repeat (first | refine wl_p rfl rfl rfl ?_ | refine wl_skip rfl rfl rfl ?_)
        refine wl_ixJ _ rfl rfl rfl rfl rfl (hi) rfl rfl rfl ?_
        refine wl_st hs 1 rfl rfl rfl cell rfl rfl rfl rfl ?_
        clear hs; intro w hs
        exact wl_nil (wk_blk (wk_nexti (x.set i true) hi (by omega) ⟨hp1.set hi (by rw [hTi]; rfl), by rw [List.map_set]; exact hs⟩ rfl rfl rfl rfl (by repeat (first | exact trivial | refine ⟨rfl, ?_⟩))))
      | false =>
        repeat (first | refine wl_p rfl rfl rfl ?_ | refine wl_skip rfl rfl rfl ?_)
        refine wl_ix rfl rfl rfl rfl rfl (by omega) hb2 rfl rfl ?_
        refine wl_ldG hs (hc2) rfl rfl rfl rfl rfl ?_
        repeat (first | refine wl_p rfl rfl rfl ?_ | refine wl_skip rfl rfl rfl ?_)
        cases q2 with
        | false =>
          repeat (first | refine wl_p rfl rfl rfl ?_ | refine wl_skip rfl rfl rfl ?_)
          refine wl_ixJ _ rfl rfl rfl rfl rfl (hi) rfl rfl rfl ?_
          refine wl_st hs 1 rfl rfl rfl cell rfl rfl rfl rfl ?_
          clear hs; intro w hs
          exact wl_nil (wk_blk (wk_nexti (x.set i false) hi (by omega) ⟨hp1.set hi (by rw [hTi]; rfl), by rw [List.map_set]; exact hs⟩ rfl rfl rfl rfl (by repeat (first | exact trivial | refine ⟨rfl, ?_⟩))))
        | true =>
          repeat (first | refine wl_p rfl rfl rfl ?_ | refine wl_skip rfl rfl rfl ?_)
          refine wl_ix rfl rfl rfl rfl rfl (by omega) hb3 rfl rfl ?_
          refine wl_ldG hs (hc3) rfl rfl rfl rfl rfl ?_
          repeat (first | refine wl_p rfl rfl rfl ?_ | refine wl_skip rfl rfl rfl ?_)
          refine wl_ixJ _ rfl rfl rfl rfl rfl (hi) rfl rfl rfl ?_
          refine wl_st hs 1 rfl rfl rfl cell rfl rfl rfl rfl ?_
          clear hs; intro w hs
          exact wl_nil (wk_blk (wk_nexti (x.set i q3) hi (by omega) ⟨hp1.set hi (by rw [hTi]; simp), by rw [List.map_set]; exact hs⟩ rfl rfl rfl rfl (by repeat (first | exact trivial | refine ⟨rfl, ?_⟩))))
    · clear hs
      rintro x w ⟨hp1, hs⟩
      have := hp1.done hT3
      subst this
      exact wk_blk (wk_nexti (_, D') hk (by omega) ⟨hstep.symm, ge, hg1e, hs⟩ rfl rfl rfl rfl (by repeat (first | exact trivial | refine ⟨rfl, ?_⟩)))
  · clear hs
    rintro ⟨out, done⟩ w ⟨hx, g2, hg12, hs⟩
    have hcl := cTo_len (n := n) (ls := ls) (all := all) (pairs := pairs) (rec := rec) (inn := inn) n
    rw [← hx] at hcl
    refine wk_seq ?_
    repeat (refine wc_seq ?_)
    refine wc_region ?_
    repeat (refine wl_p rfl rfl rfl ?_)
    refine wl_nil (wk_seq ?_)
    refine wc_retV (res1 rfl rfl) ⟨g2, [(ob, cellsO (out.map .bool) 4)], Ghost.tr hg1 hg12, hs.drop, ?_⟩
    rw [← hx]
    show OwnS 4 1 _ out.length (out.map .bool) _
    rw [hcl.1]
    exact OwnS.lit (by simp [hcl.1])
end Go.Proofs.YtnanffbjmfgafaaGreat.S
namespace Go.Proofs.YtnanffbjmfgafaaGreat.S
open Go.RowKit
theorem Cl.freezeB {f : FuncId} {vs : List Value} {g : Ghost} {l : List Bool} (h : Cl PP f vs g [] fun _ L' r => OwnB r l L') : Cl PP f vs g [] fun g' L' r => L' = [] ∧ RS kBool g' r l :=
  ⟨h.enters, fun w F hs => (h.call w F hs).mono fun _ _ ⟨v, g', L', e1, e2, e3, e4⟩ => by
    obtain ⟨g2, h1, h2, h3⟩ := OwnB.freezeB e4 e3
    exact ⟨v, g2, [], e1, Ghost.tr e2 h1, h2, rfl, h3⟩⟩
section
variable {n : Int} {init : List Int} {ls : List ArrowI} {all : List Int} {pairs : List (Int × Int)}
theorem refEvery_I (hC : Checked n init ls all pairs) {g : Ghost} {vl : Value} (hl : RS kArrI g vl ls) : Cl PP 27 [vl] g [] fun g' L' r => L' = [] ∧ RS kBool g' r (everyR (ls.map toA)) := every_spec g vl _ (hC.rsA hl) hC.validG.len
theorem refCores_I (hC : Checked n init ls all pairs) {g : Ghost} {vl vin va vp : Value} (hl : RS kArrI g vl ls) (ha : RS kInt g va all) (hp : RS kPairI g vp pairs) (ha0 : all.length ≤ 4611686018427387904) (hin : RS kBool g vin (everyR (ls.map toA))) :
    Cl PP 30 [.int .i64 (n.toNat : Int), vl, vin, .agg #[va, vp]] g [] fun g' L' r => L' = [] ∧ RS kBool g' r (coresM n.toNat (ls.map toA) (all.map Int.toNat) (pairs.map toP)) :=
  (refCores_spec n.toNat _ _ _ hC.validG hC.validW (by simpa using ha0) (by have := hC.plen; simp; omega) _ g vl vin va vp _ (hC.rsA hl) hin (by simp [everyR]) (hC.all.rs ha) (hC.rsP hp) (Nat.lt_succ_of_le (onCnt_le _))).freezeB
theorem refReach_I (hC : Checked n init ls all pairs) {g : Ghost} {vl vin vf : Value} {back : Bool} {fr : List Bool} (hl : RS kArrI g vl ls) (hin : RS kBool g vin (everyR (ls.map toA))) (hf : RS kBool g vf fr) (hfl : fr.length = n.toNat) :
    Cl PP 52 [.int .i64 (n.toNat : Int), vl, vin, vf, .bool back] g [] fun g' L' r => L' = [] ∧ RS kBool g' r (rchR (ls.map toA) (everyR (ls.map toA)) back n.toNat fr) :=
  (refReach_spec g vl vin vf n.toNat _ _ _ back (hC.rsA hl) hC.validG hin (by simp [everyR]) hf hfl).freezeB
end
end Go.Proofs.YtnanffbjmfgafaaGreat.S
