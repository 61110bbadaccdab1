/- What the statement FairEither is proved with, part 6: walks of the code, each against a pure version of it. -/
import Derived.Test.YtnanffbjmfgafaaWFairEither5
set_option linter.all false
namespace Go.Proofs.Ytnanffbjmfgafaa.S
open Go.RowKit
theorem lack3 {ms : List Bool} {all : List Nat} {pairs : List (Nat × Nat)} {i : Nat} (h : lackingF ms all pairs = (3, i)) : i < all.length ∧ ms.getD (all.getD i 0) false = false := by
  unfold lackingF at h
  split at h
  · rename_i j hj
    cases h
    obtain ⟨h1, h2, _⟩ := List.findIdx?_eq_some_iff_getElem.1 hj
    refine ⟨h1, ?_⟩
    rw [List.getD_eq_getElem?_getD (l := all), List.getElem?_eq_getElem h1]
    simpa using h2
  · split at h <;> simp at h
theorem lack4 {ms : List Bool} {all : List Nat} {pairs : List (Nat × Nat)} {i : Nat} (h : lackingF ms all pairs = (4, i)) : i < pairs.length ∧ ms.getD (pairs.getD i (0, 0)).1 false = true ∧ ms.getD (pairs.getD i (0, 0)).2 false = false := by
  unfold lackingF at h
  split at h
  · simp at h
  · split at h
    · rename_i j hj
      cases h
      obtain ⟨h1, h2, _⟩ := List.findIdx?_eq_some_iff_getElem.1 hj
      refine ⟨h1, ?_⟩
      rw [List.getD_eq_getElem?_getD (l := pairs), List.getElem?_eq_getElem h1]
      simpa using h2
    · simp at h
theorem ixIn_at {nodes : List Nat} (h : nodes.Pairwise (· < ·)) {j : Nat} (hj : j < nodes.length) : ixIn nodes nodes[j] = j := by
  unfold ixIn
  have e : nodes = nodes.take j ++ nodes.drop j := (List.take_append_drop j nodes).symm
  have h1 : (nodes.take j).countP (fun y => decide (y < nodes[j])) = j := by
    rw [List.countP_eq_length.2, List.length_take]
    · omega
    · intro x hx
      obtain ⟨i, hi, rfl⟩ := List.getElem_of_mem hx
      rw [List.length_take] at hi
      rw [List.getElem_take]
      exact decide_eq_true (List.pairwise_iff_getElem.1 h i j (by omega) hj (by omega))
  have h2 : (nodes.drop j).countP (fun y => decide (y < nodes[j])) = 0 := by
    rw [List.countP_eq_zero]
    intro x hx
    obtain ⟨i, hi, rfl⟩ := List.getElem_of_mem hx
    rw [List.length_drop] at hi
    rw [List.getElem_drop]
    rw [decide_eq_true_eq]
    rcases Nat.eq_zero_or_pos i with e0 | e0
    · subst e0; exact Nat.lt_irrefl nodes[j]
    · have := List.pairwise_iff_getElem.1 h j (j + i) hj (by omega) (by omega)
      omega
  calc nodes.countP (fun y => decide (y < nodes[j])) = (nodes.take j ++ nodes.drop j).countP (fun y => decide (y < nodes[j])) := by rw [List.take_append_drop]
    _ = j := by rw [List.countP_append, h1, h2, Nat.add_zero]
theorem rankRow_at {nodes : List Nat} (h : nodes.Pairwise (· < ·)) (v : Nat) : ∀ (r rk : List Nat), (∀ x ∈ r, x ∈ nodes) → rk.length = nodes.length → ∀ j (hj : j < nodes.length), (rankRow nodes rk r v).getD j 0 = if nodes[j] ∈ r then v else rk.getD j 0
  | [], rk, _, _, j, hj => by simp [rankRow]
  | x :: r, rk, hr, hl, j, hj => by
    have e : rankRow nodes rk (x :: r) v = rankRow nodes (rk.set (ixIn nodes x) v) r v := rfl
    rw [e, rankRow_at h v r _ (fun y hy => hr y (by simp [hy])) (by simpa using hl) j hj]
    obtain ⟨i, hi, rfl⟩ := List.getElem_of_mem (hr x (by simp))
    rw [ixIn_at h hi]
    by_cases h1 : nodes[j] ∈ r
    · simp [h1]
    · rw [if_neg h1]
      by_cases h2 : i = j
      · subst h2
        rw [if_pos (by simp), List.getD_eq_getElem?_getD, List.getElem?_set_self (by omega)]
        rfl
      · have hne : nodes[j] ≠ nodes[i] := by
          rcases Nat.lt_or_gt_of_ne h2 with hh | hh
          · have := List.pairwise_iff_getElem.1 h i j hi hj hh; omega
          · have := List.pairwise_iff_getElem.1 h j i hj hi hh; omega
        rw [if_neg (by simp [hne, h1]), List.getD_eq_getElem?_getD, List.getElem?_set_ne h2, ← List.getD_eq_getElem?_getD]
theorem rkTo_at {nodes : List Nat} {rs : List (List Nat)} (h : nodes.Pairwise (· < ·)) (hsub : ∀ r ∈ rs, ∀ x ∈ r, x ∈ nodes) (hn : rs.flatten.Nodup) : ∀ i, i ≤ rs.length → ∀ j (hj : j < nodes.length) k (hk : k < rs.length), k < i → nodes[j] ∈ rs[k] → (rkTo nodes rs i).getD j 0 = k
  | 0, _, _, _, _, _, h, _ => by omega
  | i + 1, hi, j, hj, k, hk, hki, hm => by
    have hil : i < rs.length := by omega
    rw [rkTo_succ _ _ _ hil, rankRow_at h i _ _ (hsub _ (List.getElem_mem hil)) (rkTo_length _ _ _ (by omega)) j hj]
    split
    · rename_i h1
      exact (comp_uniq hn hk hil hm h1).symm
    · rename_i h1
      have hne : k ≠ i := fun e => by subst e; exact h1 hm
      exact rkTo_at h hsub hn i (by omega) j hj k hk (by omega) hm
theorem asc_ext : ∀ {l1 l2 : List Nat}, l1.Pairwise (· < ·) → l2.Pairwise (· < ·) → (∀ x, x ∈ l1 ↔ x ∈ l2) → l1 = l2
  | [], [], _, _, _ => rfl
  | [], y :: l2, _, _, h => by have := (h y).2 (by simp); cases this
  | x :: l1, [], _, _, h => by have := (h x).1 (by simp); cases this
  | x :: l1, y :: l2, h1, h2, h => by
    obtain ⟨a1, a2⟩ := List.pairwise_cons.1 h1
    obtain ⟨b1, b2⟩ := List.pairwise_cons.1 h2
    have e : x = y := by
      have q1 := (h x).1 (by simp)
      have q2 := (h y).2 (by simp)
      rcases List.mem_cons.1 q1 with e | q1
      · exact e
      · rcases List.mem_cons.1 q2 with e | q2
        · exact e.symm
        · have := a1 y q2; have := b1 x q1; omega
    subst e
    rw [asc_ext a2 b2 fun z => ⟨fun hz => by
      have := (h z).1 (by simp [hz])
      rcases List.mem_cons.1 this with e | this
      · have := a1 z hz; omega
      · exact this, fun hz => by
      have := (h z).2 (by simp [hz])
      rcases List.mem_cons.1 this with e | this
      · have := b1 z hz; omega
      · exact this⟩]
def cntD : Nat → Drop → Nat
  | 0, _ => 0
  | k + 1, d => 1 + (d.l.map (cntD k)).sum
def wtD : Nat → Drop → Nat
  | 0, _ => 0
  | k + 1, d => 1 + d.nodes.length + d.rank.length + (d.l.map (wtD k)).sum
def depD : Nat → Drop → Nat
  | 0, _ => 0
  | k + 1, d => 1 + (d.l.map (depD k)).foldr max 0
theorem sum_le {α : Type} {f g : α → Nat} : ∀ {l : List α}, (∀ x ∈ l, f x ≤ g x) → (l.map f).sum ≤ (l.map g).sum
  | [], _ => Nat.le_refl _
  | x :: l, h => by
    have h1 := h x (by simp)
    have h2 := sum_le (f := f) (g := g) (l := l) fun y hy => h y (by simp [hy])
    simp only [List.map_cons, List.sum_cons]
    omega
theorem max_le {α : Type} {f : α → Nat} {b : Nat} : ∀ {l : List α}, (∀ x ∈ l, f x ≤ b) → (l.map f).foldr max 0 ≤ b
  | [], _ => Nat.zero_le _
  | x :: l, h => by
    have h1 := h x (by simp)
    have h2 := max_le (f := f) (l := l) fun y hy => h y (by simp [hy])
    simp only [List.map_cons, List.foldr_cons]
    omega
theorem sum_len (a : Nat) : ∀ rs : List (List Nat), (rs.map fun r => a * r.length).sum = a * rs.flatten.length
  | [] => rfl
  | r :: rs => by simp only [List.map_cons, List.sum_cons, sum_len a rs, List.flatten_cons, List.length_append, Nat.mul_add]
theorem allO_ok {α : Type} {f : α → Option Drop} : ∀ {l : List α}, (∀ x ∈ l, ∃ d, f x = some d) → allO (l.map f) = some (l.map fun x => (f x).getD noDrop)
  | [], _ => rfl
  | x :: l, h => by
    obtain ⟨d, hd⟩ := h x (by simp)
    have ih := allO_ok (f := f) (l := l) fun y hy => h y (by simp [hy])
    simp only [List.map_cons, allO, hd, ih, Option.getD_some]
theorem ne_len {cs : List (List Nat)} (h : ∀ c ∈ cs, c ≠ []) : cs.length ≤ cs.flatten.length := by
  induction cs with
  | nil => simp
  | cons c cs ih =>
    have h1 := List.length_pos_iff.2 (h c (by simp))
    have h2 := ih fun d hd => h d (by simp [hd])
    simp only [List.length_cons, List.flatten_cons, List.length_append]
    omega
section
variable (n : Nat) (ls : List Arrow) (all : List Nat) (pairs : List (Nat × Nat))
def mu (on : List Bool) : Nat := (List.range 16).countP fun m => (List.range ls.length).any fun k => on.getD k false && hasM ls k m
/-- The piece is proved, h deep at most. -/
structure PrOk (f : Nat) (nodes : List Nat) (on : List Bool) (h : Nat) (d : Drop) : Prop where
  eq : provedR n ls all pairs f nodes on = some d
  ok : DropOk f d
  shows : ∀ deep, deep + h ≤ 101 → showsF ls all pairs f d nodes on deep = true
  cnt : cntD f d ≤ h * max nodes.length 1
  wt : wtD f d ≤ h * (3 * max nodes.length 1)
  dep : depD f d ≤ h
end
theorem mu_le (ls : List Arrow) (on : List Bool) : mu ls on ≤ 16 := by
  have := List.countP_le_length (p := fun m => (List.range ls.length).any fun k => on.getD k false && hasM ls k m) (l := List.range 16)
  simpa [mu] using this
theorem mu_without {ls : List Arrow} {on : List Bool} {m k : Nat} (hm : m < 16) (hk : k < ls.length) (h1 : on.getD k false = true) (h2 : hasM ls k m = true) : mu ls (withoutF ls on m) < mu ls on := by
  refine countP_lt (fun q _ hq => ?_) ⟨m, List.mem_range.2 hm, List.any_eq_true.2 ⟨k, List.mem_range.2 hk, by rw [h1, h2]; rfl⟩, ?_⟩
  · obtain ⟨j, hj, h⟩ := List.any_eq_true.1 hq
    rw [withoutF_at (List.mem_range.1 hj)] at h
    simp only [Bool.and_eq_true] at h
    exact List.any_eq_true.2 ⟨j, hj, by rw [h.1.1, h.2]; rfl⟩
  · rw [List.any_eq_false]
    intro j hj
    rw [withoutF_at (List.mem_range.1 hj)]
    cases hasM ls j m <;> simp
end Go.Proofs.Ytnanffbjmfgafaa.S

namespace Go.Proofs.Ytnanffbjmfgafaa.S
open Go.RowKit
section
variable {n : Nat} {ls : List Arrow} {all : List Nat} {pairs : List (Nat × Nat)}
theorem dropOk_mk {f : Nat} {k i : Int} {nodes rank : List Int} {l : List Drop} (h1 : l.length ≤ 1048576) (h2 : nodes.length ≤ 1048576) (h3 : rank.length ≤ 1048576) (h4 : ∀ d ∈ l, DropOk f d) : DropOk (f + 1) (.mk k i nodes rank l) :=
  ⟨h1, h2, h3, fun i h => h4 _ (List.getElem_mem h)⟩
theorem leaf2 {f h : Nat} {nodes : List Nat} {on : List Bool} (hn : nodes.length ≤ 20000) (hw : (withinF ls nodes on).length = 0) (hh : 1 ≤ h) : PrOk n ls all pairs (f + 1) nodes on h (.mk 2 0 (nodes.map Int.ofNat) [] []) := by
  have hm : 1 * max nodes.length 1 ≤ h * max nodes.length 1 := Nat.mul_le_mul_right _ hh
  have hm2 : 1 * (3 * max nodes.length 1) ≤ h * (3 * max nodes.length 1) := Nat.mul_le_mul_right _ hh
  have hx := Nat.le_max_left nodes.length 1
  have hy := Nat.le_max_right nodes.length 1
  refine ⟨by unfold provedR; rw [if_pos hw], dropOk_mk (by simp) (by simp; omega) (by simp) (fun d hd => by cases hd), fun deep hd => ?_, ?_, ?_, ?_⟩
  · unfold showsF
    rw [if_neg (by simp [Drop.nodes]; omega), if_pos (show (Drop.mk 2 0 (nodes.map Int.ofNat) [] []).kind = 2 from rfl), decide_eq_true hw]
    rfl
  · show 1 + 0 ≤ _; omega
  · show 1 + (nodes.map Int.ofNat).length + 0 + 0 ≤ _
    rw [List.length_map]; omega
  · show 1 + 0 ≤ _; omega
theorem leaf3 {f h i : Nat} {nodes : List Nat} {on : List Bool} (hn : nodes.length ≤ 20000) (hw : ¬ (withinF ls nodes on).length = 0) (hl : lackingF (metF ls (withinF ls nodes on)) all pairs = (3, i)) (hh : 1 ≤ h) : PrOk n ls all pairs (f + 1) nodes on h (.mk 3 i (nodes.map Int.ofNat) [] []) := by
  have hm : 1 * max nodes.length 1 ≤ h * max nodes.length 1 := Nat.mul_le_mul_right _ hh
  have hm2 : 1 * (3 * max nodes.length 1) ≤ h * (3 * max nodes.length 1) := Nat.mul_le_mul_right _ hh
  have hx := Nat.le_max_left nodes.length 1
  have hy := Nat.le_max_right nodes.length 1
  obtain ⟨l1, l2⟩ := lack3 hl
  refine ⟨by unfold provedR; rw [if_neg hw, hl, if_pos rfl], dropOk_mk (by simp) (by simp; omega) (by simp) (fun d hd => by cases hd), fun deep hd => ?_, ?_, ?_, ?_⟩
  · unfold showsF
    rw [if_neg (by simp [Drop.nodes]; omega), if_neg (by simp [Drop.kind]), if_pos (show (Drop.mk 3 (i : Int) (nodes.map Int.ofNat) [] []).kind = 3 from rfl)]
    have e : (Drop.mk 3 (i : Int) (nodes.map Int.ofNat) [] []).n.toNat = i := rfl
    rw [e, l2]
    have h1 : decide ((0 : Int) ≤ (Drop.mk 3 (i : Int) (nodes.map Int.ofNat) [] []).n) = true := decide_eq_true (by show (0 : Int) ≤ (i : Int); omega)
    have h2 : decide ((Drop.mk 3 (i : Int) (nodes.map Int.ofNat) [] []).n < (all.length : Int)) = true := decide_eq_true (by show (i : Int) < (all.length : Int); omega)
    rw [h1, h2]
    rfl
  · show 1 + 0 ≤ _; omega
  · show 1 + (nodes.map Int.ofNat).length + 0 + 0 ≤ _
    rw [List.length_map]; omega
  · show 1 + 0 ≤ _; omega
theorem noRound_sub {c nodes : List Nat} {on : List Bool} (h : ∀ x ∈ c, x ∈ nodes) (hn : NoRound ls all pairs nodes on) : NoRound ls all pairs c on := fun x w hx hne hw => hn x w (h x hx) hne (hw.mono fun _ _ hp => ⟨hp.1, h _ hp.2⟩)
theorem noRound_without {nodes : List Nat} {on : List Bool} {m : Nat} (hn : NoRound ls all pairs nodes on) : NoRound ls all pairs nodes (withoutF ls on m) := fun x w hx hne hw => hn x w hx hne (hw.mono fun k hk hp => by
  have hkl := (hw.all k hk).1
  rw [withoutF_at hkl] at hp
  exact ⟨(Bool.and_eq_true _ _ ▸ hp.1).1, hp.2⟩)
/-- A connected piece whose arrows satisfy the condition has a round. -/
theorem conn_round {nodes : List Nat} {on : List Bool} (hconn : ∀ x ∈ nodes, ∀ y ∈ nodes, Rc (EdgeP ls nodes on) x y) (hw : ¬ (withinF ls nodes on).length = 0) (hs : Sats ls all pairs (withinF ls nodes on)) : ¬ NoRound ls all pairs nodes on := by
  intro hno
  obtain ⟨k, r, hk⟩ := List.exists_cons_of_ne_nil (fun e => hw (by rw [e]; rfl) : withinF ls nodes on ≠ [])
  have hkm : k ∈ withinF ls nodes on := by rw [hk]; simp
  have hx := (mem_withinF.1 hkm).2.1
  obtain ⟨w, h1, h2⟩ := wk_tour (c := nodes) (l := withinF ls nodes on) (fun x hx y hy => by
    obtain ⟨w, hw⟩ := rc_wk (hconn x hx y hy)
    exact ⟨w, hw.mono fun k hk _ => wk_within hw hx k hk⟩) (fun k hk => ⟨(mem_withinF.1 hk).1, (mem_withinF.1 hk).2.1, (mem_withinF.1 hk).2.2.2⟩) hx _ (fun k hk => hk)
  refine hno _ w hx (List.ne_nil_of_mem (h2 k hkm)) (h1.mono fun k _ hk => (mem_withinF.1 hk).2.2) (sats_same (fun k => ⟨h2 k, fun hk => (h1.all k hk).2⟩) hs)
theorem conn_comps {nodes : List Nat} {on : List Bool} {parts : List (List Nat)} (hc : CompsOk ls nodes on parts) (hconn : ∀ x ∈ nodes, ∀ y ∈ nodes, Rc (EdgeP ls nodes on) x y) (hne : nodes ≠ []) : parts.length = 1 := by
  rcases hp : parts with _ | ⟨c, _ | ⟨d, r⟩⟩
  · obtain ⟨x, t, e⟩ := List.exists_cons_of_ne_nil hne
    have := (hc.mem x).2 (by rw [e]; simp)
    rw [hp] at this
    cases this
  · rfl
  · exfalso
    have h0 : 0 < parts.length := by rw [hp]; simp
    have h1 : 1 < parts.length := by rw [hp]; simp
    have hx := getD_head (hc.scc _ (List.getElem_mem h0)).1
    have hy := getD_head (hc.scc _ (List.getElem_mem h1)).1
    obtain ⟨w, hw⟩ := rc_wk (hconn _ ((hc.mem _).1 (List.mem_flatten.2 ⟨_, List.getElem_mem h0, hx⟩)) _ ((hc.mem _).1 (List.mem_flatten.2 ⟨_, List.getElem_mem h1, hy⟩)))
    obtain ⟨b, hb, hb0, hyb, _⟩ := wk_ord hc hw 0 h0 hx
    have := comp_uniq hc.nodup hb h1 hyb hy
    omega
theorem one_conn {nodes : List Nat} {on : List Bool} {parts : List (List Nat)} (hc : CompsOk ls nodes on parts) (h1 : parts.length = 1) : ∀ x ∈ nodes, ∀ y ∈ nodes, Rc (EdgeP ls nodes on) x y := by
  obtain ⟨c, rfl⟩ := List.length_eq_one_iff.1 h1
  intro x hx y hy
  have e : ∀ z ∈ nodes, z ∈ c := fun z hz => by simpa using (hc.mem z).2 hz
  exact (hc.scc c (by simp)).2.2 x (e x hx) y (e y hy)
/-- A connected piece, or one without arrows: what is proved with less marks is used. -/
theorem prov_conn (hv : ValidG n ls) (hw : ValidW all pairs) (hb : n * (ls.length + 3) ≤ 1000000) {m f : Nat} {nodes : List Nat} {on : List Bool} (hf : 2 * m + 2 ≤ f) (hmu : mu ls on ≤ m) (hasc : nodes.Pairwise (· < ·)) (hlt : ∀ x ∈ nodes, x < n) (hno : NoRound ls all pairs nodes on)
    (hconn : (withinF ls nodes on).length = 0 ∨ ∀ x ∈ nodes, ∀ y ∈ nodes, Rc (EdgeP ls nodes on) x y)
    (ih : ∀ m' on', m = m' + 1 → mu ls on' ≤ m' → NoRound ls all pairs nodes on' → ∃ d, PrOk n ls all pairs (f - 1) nodes on' (2 * m' + 3) d) :
    ∃ d, PrOk n ls all pairs f nodes on (2 * m + 2) d := by
  obtain ⟨f, rfl⟩ : ∃ f', f = f' + 1 := ⟨f - 1, by omega⟩
  have hnl := nodup_len n nodes (hasc.imp fun h => Nat.ne_of_lt h) hlt
  have hn2 := hv.size
  by_cases h0 : (withinF ls nodes on).length = 0
  · exact ⟨_, leaf2 (by omega) h0 (by omega)⟩
  · replace hconn := hconn.resolve_left h0
    rcases lackingF_cases (metF ls (withinF ls nodes on)) all pairs with h3 | ⟨h4, h4l⟩ | hz
    · obtain ⟨i, hi⟩ : ∃ i, lackingF (metF ls (withinF ls nodes on)) all pairs = (3, i) := ⟨(lackingF (metF ls (withinF ls nodes on)) all pairs).2, by rw [← h3]⟩
      exact ⟨_, leaf3 (by omega) h0 hi (by omega)⟩
    · obtain ⟨i, hi⟩ : ∃ i, lackingF (metF ls (withinF ls nodes on)) all pairs = (4, i) := ⟨(lackingF (metF ls (withinF ls nodes on)) all pairs).2, by rw [← h4]⟩
      obtain ⟨q1, q2, q3⟩ := lack4 hi
      have e : pairs.getD i (0, 0) = pairs[i] := by rw [List.getD_eq_getElem?_getD, List.getElem?_eq_getElem q1]; rfl
      have hpo := hw.pairs_ok _ (List.getElem_mem q1)
      rw [e] at q2
      obtain ⟨k, hk, hkm⟩ := (met_yes hpo.1).1 q2
      obtain ⟨k1, _, k3, _⟩ := mem_withinF.1 hk
      have hlt2 := mu_without hpo.1 k1 k3 hkm
      obtain ⟨m', rfl⟩ : ∃ m', m = m' + 1 := ⟨m - 1, by omega⟩
      obtain ⟨d, hd⟩ := ih m' (withoutF ls on pairs[i].1) rfl (by omega) (noRound_without hno)
      have hne : nodes ≠ [] := List.ne_nil_of_mem (mem_withinF.1 hk).2.1
      obtain ⟨parts, hp1, hp2⟩ := comps_total ls nodes on (Nat.le_trans (Nat.mul_le_mul_right _ hnl) hb)
      have hp3 := conn_comps hp2 hconn hne
      have hx := Nat.le_max_left nodes.length 1
      have hy := Nat.le_max_right nodes.length 1
      have hde : provedR n ls all pairs f nodes (withoutF ls on pairs[i].1) = some d := hd.eq
      refine ⟨.mk 4 i (nodes.map Int.ofNat) [] [d], ?_, dropOk_mk (by simp) (by simp; omega) (by simp) (fun d' hd' => by rw [List.mem_singleton.1 hd']; exact hd.ok), fun deep hdp => ?_, ?_, ?_, ?_⟩
      · unfold provedR
        rw [if_neg h0, if_neg (by rw [hi]; simp), hp1]
        simp only
        rw [if_pos hp3, hi, if_pos q1, e, hde]
        rfl
      · unfold showsF
        rw [if_neg (by simp [Drop.nodes]; omega), if_neg (by simp [Drop.kind]), if_neg (by simp [Drop.kind]), if_pos (show (Drop.mk 4 (i : Int) (nodes.map Int.ofNat) [] [d]).kind = 4 from rfl)]
        have en : (Drop.mk 4 (i : Int) (nodes.map Int.ofNat) [] [d]).n.toNat = i := rfl
        have hc : ¬ (!plainF (Drop.mk 4 (i : Int) (nodes.map Int.ofNat) [] [d]) true false 1 || decide ((Drop.mk 4 (i : Int) (nodes.map Int.ofNat) [] [d]).n < 0) || decide ((Drop.mk 4 (i : Int) (nodes.map Int.ofNat) [] [d]).n ≥ (pairs.length : Int)) || (metF ls (withinF ls nodes on)).getD (pairs.getD (Drop.mk 4 (i : Int) (nodes.map Int.ofNat) [] [d]).n.toNat (0, 0)).2 false) = true := by
          rw [en, q3]
          simp only [Bool.or_eq_true, not_or, decide_eq_true_eq, Bool.not_eq_true]
          refine ⟨⟨⟨rfl, ?_⟩, ?_⟩, trivial⟩
          · show ¬ ((i : Int) < 0); omega
          · show ¬ ((i : Int) ≥ (pairs.length : Int)); omega
        rw [if_neg hc]
        simp only [Drop.l]
        rw [en, e]
        exact hd.shows (deep + 1) (by omega)
      · show 1 + (cntD f d + 0) ≤ _
        have := hd.cnt
        have e2 : (2 * (m' + 1) + 2) * max nodes.length 1 = (2 * m' + 3) * max nodes.length 1 + max nodes.length 1 := by rw [show 2 * (m' + 1) + 2 = (2 * m' + 3) + 1 by omega, Nat.add_mul, Nat.one_mul]
        simp only [Nat.add_sub_cancel] at this
        omega
      · show 1 + (nodes.map Int.ofNat).length + 0 + (wtD f d + 0) ≤ _
        have := hd.wt
        have e2 : (2 * (m' + 1) + 2) * (3 * max nodes.length 1) = (2 * m' + 3) * (3 * max nodes.length 1) + 3 * max nodes.length 1 := by rw [show 2 * (m' + 1) + 2 = (2 * m' + 3) + 1 by omega, Nat.add_mul, Nat.one_mul]
        simp only [Nat.add_sub_cancel] at this
        rw [List.length_map]
        omega
      · show 1 + max (depD f d) 0 ≤ _
        have := hd.dep
        simp only [Nat.add_sub_cancel] at this
        omega
    · exfalso
      have hs : Sats ls all pairs (withinF ls nodes on) := by
        rcases lack_cases (ls := ls) (l := withinF ls nodes on) hw with ⟨i, e, _⟩ | ⟨i, _, e, _⟩ | ⟨_, h⟩
        · rw [hz] at e; cases e
        · rw [hz] at e; cases e
        · exact h
      exact conn_round hconn h0 hs hno
end
end Go.Proofs.Ytnanffbjmfgafaa.S

namespace Go.Proofs.Ytnanffbjmfgafaa.S
open Go.RowKit
section
variable {n : Nat} {ls : List Arrow} {all : List Nat} {pairs : List (Nat × Nat)}
theorem PrOk.le {f h h' : Nat} {nodes : List Nat} {on : List Bool} {d : Drop} (hp : PrOk n ls all pairs f nodes on h d) (hh : h ≤ h') : PrOk n ls all pairs f nodes on h' d :=
  ⟨hp.eq, hp.ok, fun deep hd => hp.shows deep (by omega), Nat.le_trans hp.cnt (Nat.mul_le_mul_right _ hh), Nat.le_trans hp.wt (Nat.mul_le_mul_right _ hh), Nat.le_trans hp.dep hh⟩
theorem wk_rc {c : List Nat} {on : List Bool} {x y : Nat} {w : List Nat} (h : Wk ls (· ∈ withinF ls c on) x w y) : Rc (EdgeP ls c on) x y := by
  induction h with
  | nil x => exact .refl x
  | @cons k y w hk hp _ ih =>
    obtain ⟨_, _, h3, h4⟩ := mem_withinF.1 hp
    exact (Rc.one (edge_iff.2 ⟨k, hk, rfl, rfl, h3, h4⟩)).trans ih
theorem back_map (rk : List Nat) : (rk.map Int.ofNat).map Int.toNat = rk := by
  rw [List.map_map]
  exact (List.map_congr_left (g := id) (fun x _ => rfl)).trans (List.map_id _)
theorem prov_total (hv : ValidG n ls) (hw : ValidW all pairs) (hb : n * (ls.length + 3) ≤ 1000000) : ∀ (m f : Nat) (nodes : List Nat) (on : List Bool), 2 * m + 3 ≤ f → mu ls on ≤ m → nodes.Pairwise (· < ·) → (∀ x ∈ nodes, x < n) → NoRound ls all pairs nodes on →
    ∃ d, PrOk n ls all pairs f nodes on (2 * m + 3) d := by
  intro m
  induction m with
  | zero => ?_
  | succ m ihm => ?_
  all_goals
    intro f nodes on hf hmu hasc hlt hno
    have hconn : ∀ (f' : Nat) (c : List Nat), 2 * _ + 2 ≤ f' → c.Pairwise (· < ·) → (∀ x ∈ c, x < n) → NoRound ls all pairs c on → ((withinF ls c on).length = 0 ∨ ∀ x ∈ c, ∀ y ∈ c, Rc (EdgeP ls c on) x y) → ∃ d, PrOk n ls all pairs f' c on (2 * _ + 2) d :=
      fun f' c hf' h1 h2 h3 h4 => prov_conn hv hw hb hf' hmu h1 h2 h3 h4 (fun m' on' e h5 h6 => by
        first
          | (exfalso; omega)
          | (have e' := Nat.succ.inj e
             subst e'
             exact ihm _ _ _ (by omega) h5 h1 h2 h6))
    obtain ⟨f, rfl⟩ : ∃ f', f = f' + 1 := ⟨f - 1, by omega⟩
    have hnodup := hasc.imp fun {a b : Nat} (h : a < b) => Nat.ne_of_lt h
    have hnl := nodup_len n nodes hnodup hlt
    have hn2 := hv.size
    by_cases h0 : (withinF ls nodes on).length = 0
    · obtain ⟨d, hd⟩ := hconn (f + 1) nodes (by omega) hasc hlt hno (.inl h0)
      exact ⟨d, hd.le (by omega)⟩
    by_cases h3 : (lackingF (metF ls (withinF ls nodes on)) all pairs).1 = 3
    · obtain ⟨i, hi⟩ : ∃ i, lackingF (metF ls (withinF ls nodes on)) all pairs = (3, i) := ⟨(lackingF (metF ls (withinF ls nodes on)) all pairs).2, by rw [← h3]⟩
      exact ⟨_, leaf3 (by omega) h0 hi (by omega)⟩
    obtain ⟨parts, hp1, hc⟩ := comps_total ls nodes on (Nat.le_trans (Nat.mul_le_mul_right _ hnl) hb)
    by_cases hp3 : parts.length = 1
    · obtain ⟨d, hd⟩ := hconn (f + 1) nodes (by omega) hasc hlt hno (.inr (one_conn hc hp3))
      exact ⟨d, hd.le (by omega)⟩
    have hR := ranked_ok hc
    obtain ⟨rs, hrs⟩ : ∃ rs, rs = rankedF ls nodes on parts := ⟨_, rfl⟩
    rw [← hrs] at hR
    have hsub : ∀ r ∈ rs, ∀ x ∈ r, x ∈ nodes := fun r hr x hx => (hR.mem x).1 (List.mem_flatten.2 ⟨r, hr, hx⟩)
    have hrasc : ∀ r ∈ rs, r.Pairwise (· < ·) := fun r hr => asc_of (hR.kind r hr).2.1 ((List.pairwise_flatten.1 hR.nodup).1 r hr)
    have hne0 : nodes ≠ [] := fun e => h0 (by rw [e]; rfl)
    have hfl : rs.flatten.length = nodes.length := by
      have hp : rs.flatten.Perm nodes := (List.perm_ext_iff_of_nodup hR.nodup hnodup).2 hR.mem
      exact hp.length_eq
    have hpfl : parts.flatten.length = nodes.length := by
      have hp : parts.flatten.Perm nodes := (List.perm_ext_iff_of_nodup hc.nodup hnodup).2 hc.mem
      exact hp.length_eq
    have hrsl := ne_len fun r hr => (hR.kind r hr).1
    have hpl := ne_len fun c hcm => (hc.scc c hcm).1
    have hrow : ∀ r ∈ rs, ∃ d, PrOk n ls all pairs f r on (2 * _ + 2) d := fun r hr => hconn f r (by omega) (hrasc r hr) (fun x hx => hlt x (hsub r hr x hx)) (noRound_sub (hsub r hr) hno) (by
      rcases (hR.kind r hr).2.2 with h | h
      · exact .inl h
      · exact .inr fun x hx y hy => by
          obtain ⟨w, hw⟩ := comp_conn hc h hx hy
          exact wk_rc hw)
    have hG : ∀ r ∈ rs, PrOk n ls all pairs f r on (2 * _ + 2) ((provedR n ls all pairs f r on).getD noDrop) := fun r hr => by
      obtain ⟨d, hd⟩ := hrow r hr
      have := hd.eq
      rw [this]
      exact hd
    have hlenr : ∀ r ∈ rs, r.length ≤ nodes.length := fun r hr => by
      have := nodup_len
      have h1 : r.Sublist rs.flatten := List.sublist_flatten_of_mem hr
      have := h1.length_le
      omega
    have hpok : provOk n nodes parts rs = true := by
      unfold provOk
      simp only [Bool.and_eq_true, List.all_eq_true, decide_eq_true_eq]
      refine ⟨⟨⟨⟨⟨strictly_of hasc, fun c hcm => ⟨List.length_pos_iff.2 (hc.scc c hcm).1, fun x hx => hlt x ((hc.mem x).1 (List.mem_flatten.2 ⟨c, hcm, hx⟩))⟩⟩, by omega⟩, by omega⟩, fun r hr => ⟨fun x hx => ⟨hlt x (hsub r hr x hx), ?_⟩, by have := hlenr r hr; omega⟩⟩, by omega⟩
      obtain ⟨j, hj, rfl⟩ := List.getElem_of_mem (hsub r hr x hx)
      rw [ixIn_at hasc hj]; exact hj
    have hrkl : (rkTo nodes rs rs.length).length = nodes.length := rkTo_length _ _ _ (Nat.le_refl _)
    have hrk : ∀ j (hj : j < nodes.length) k (hk : k < rs.length), nodes[j] ∈ rs[k] → (rkTo nodes rs rs.length).getD j 0 = k := fun j hj k hk hm => rkTo_at hasc hsub hR.nodup rs.length (Nat.le_refl _) j hj k hk hk hm
    have hlow : ∀ x k (hk : k < rs.length), x ∈ rs[k] → lowOf (rankM nodes (rkTo nodes rs rs.length) nodes.length) x = k := fun x k hk hx => by
      obtain ⟨j, hj, rfl⟩ := List.getElem_of_mem (hsub _ (List.getElem_mem hk) x hx)
      have e : nodes.getD j 0 = nodes[j] := by rw [List.getD_eq_getElem?_getD, List.getElem?_eq_getElem hj]; rfl
      have := rankM_at (rk := rkTo nodes rs rs.length) hnodup _ (Nat.le_refl _) j hj
      rw [e] at this
      rw [this, hrk j hj k hk hx]
    have hfind : ∀ x ∈ nodes, ∃ k, ∃ hk : k < rs.length, x ∈ rs[k] := fun x hx => by
      obtain ⟨r, hr, hxr⟩ := List.mem_flatten.1 ((hR.mem x).2 hx)
      obtain ⟨k, hk, rfl⟩ := List.getElem_of_mem hr
      exact ⟨k, hk, hxr⟩
    have hpart : ∀ k (hk : k < rs.length), partAt nodes (rkTo nodes rs rs.length) nodes.length k = rs[k] := fun k hk => by
      refine asc_ext (hasc.sublist (partAt_sub nodes _ k)) (hrasc _ (List.getElem_mem hk)) fun x => ?_
      rw [mem_partAt hnodup]
      constructor
      · rintro ⟨hx, hv'⟩
        obtain ⟨k', hk', hxk⟩ := hfind x hx
        rw [hlow x k' hk' hxk] at hv'
        subst hv'
        exact hxk
      · exact fun hx => ⟨hsub _ (List.getElem_mem hk) x hx, hlow x k hk hx⟩
    have hx := Nat.le_max_left nodes.length 1
    have hy := Nat.le_max_right nodes.length 1
    have hN : max nodes.length 1 = nodes.length := by
      have := List.length_pos_iff.2 hne0
      omega
    have hrN : ∀ r ∈ rs, max r.length 1 = r.length := fun r hr => by
      have := List.length_pos_iff.2 (hR.kind r hr).1
      omega
    refine ⟨.mk 1 0 (nodes.map Int.ofNat) ((rkTo nodes rs rs.length).map Int.ofNat) (rs.map fun r => (provedR n ls all pairs f r on).getD noDrop), ?_, dropOk_mk (by rw [List.length_map]; omega) (by rw [List.length_map]; omega) (by rw [List.length_map, hrkl]; omega) (fun d hd => by
      obtain ⟨r, hr, rfl⟩ := List.mem_map.1 hd
      exact (hG r hr).ok), fun deep hdp => ?_, ?_, ?_, ?_⟩
    · conv => lhs; unfold provedR
      rw [if_neg h0, if_neg h3, hp1]
      simp only
      rw [if_neg hp3, ← hrs, if_pos hpok, allO_ok fun r hr => ⟨_, (hG r hr).eq⟩]
      rfl
    · unfold showsF
      obtain ⟨D, hD⟩ : ∃ D, D = Drop.mk 1 0 (nodes.map Int.ofNat) ((rkTo nodes rs rs.length).map Int.ofNat) (rs.map fun r => (provedR n ls all pairs f r on).getD noDrop) := ⟨_, rfl⟩
      have d1 : D.kind = 1 := by rw [hD]; rfl
      have d2 : D.nodes = nodes.map Int.ofNat := by rw [hD]; rfl
      have d3 : D.rank = (rkTo nodes rs rs.length).map Int.ofNat := by rw [hD]; rfl
      have d4 : D.l = rs.map fun r => (provedR n ls all pairs f r on).getD noDrop := by rw [hD]; rfl
      have d5 : D.n = 0 := by rw [hD]; rfl
      rw [← hD, if_neg (by rw [d2]; simp; omega), if_neg (by rw [d1]; decide), if_neg (by rw [d1]; decide), if_neg (by rw [d1]; decide), if_pos d1]
      have hpl2 : plainF D false true (-1) = true := by unfold plainF; rw [d5]; rfl
      rw [hpl2, Bool.true_and]
      unfold ranksF
      have d6 : D.l.length = rs.length := by rw [d4, List.length_map]
      have hrs0 : rs.length ≠ 0 := fun e => by
        rw [List.length_eq_zero_iff.1 e] at hfl
        simp at hfl
        exact hne0 (List.length_eq_zero_iff.1 hfl.symm)
      rw [if_neg (by rw [d3, d6, List.length_map, hrkl]; simp; intro e; rw [e] at hrs0; exact hrs0 rfl)]
      rw [if_neg (by
        rw [Bool.not_eq_false, List.all_eq_true]
        intro a ha
        rw [d3] at ha
        obtain ⟨b, hb', rfl⟩ := List.mem_map.1 ha
        obtain ⟨j, hj, rfl⟩ := List.getElem_of_mem hb'
        rw [hrkl] at hj
        obtain ⟨k, hk, hm⟩ := hfind _ (List.getElem_mem hj)
        have := hrk j hj k hk hm
        rw [List.getD_eq_getElem?_getD, List.getElem?_eq_getElem (by rw [hrkl]; exact hj)] at this
        simp only [Option.getD_some] at this
        rw [d6, this]
        simp only [Bool.and_eq_true, decide_eq_true_eq]
        exact ⟨Int.natCast_nonneg k, by show (k : Int) < (rs.length : Int); omega⟩)]
      rw [d3, back_map, if_neg (by
        rw [Bool.not_eq_true, List.any_eq_false]
        intro i hi
        rw [decide_eq_true_eq]
        obtain ⟨q1, q2, q3, q4⟩ := mem_withinF.1 hi
        obtain ⟨a, ha, hfa⟩ := hfind _ q2
        obtain ⟨b, hb', htb⟩ := hfind _ q4
        have := hR.down a ha b hb' _ hfa _ htb (edge_iff.2 ⟨i, q1, rfl, rfl, q3, q4⟩)
        rw [hlow _ a ha hfa, hlow _ b hb' htb]
        omega)]
      rw [d6, List.all_eq_true]
      intro k hk
      have hk' := List.mem_range.1 hk
      rw [hpart k hk', d4, List.getElem?_map, List.getElem?_eq_getElem hk']
      simp only [Option.map_some, Bool.and_eq_true, decide_eq_true_eq]
      exact ⟨fun e => (hR.kind _ (List.getElem_mem hk')).1 (List.length_eq_zero_iff.1 e), (hG _ (List.getElem_mem hk')).shows (deep + 1) (by omega)⟩
    · show 1 + ((rs.map fun r => (provedR n ls all pairs f r on).getD noDrop).map (cntD f)).sum ≤ _
      rw [List.map_map]
      have h1 := sum_le (f := cntD f ∘ fun r => (provedR n ls all pairs f r on).getD noDrop) (g := fun r => (2 * _ + 2) * r.length) (l := rs) fun r hr => by
        have := (hG r hr).cnt
        rw [hrN r hr] at this
        exact this
      rw [sum_len, hfl] at h1
      rw [hN]
      have h2 : ∀ q, (2 * q + 3) * nodes.length = (2 * q + 2) * nodes.length + nodes.length := fun q => by rw [show 2 * q + 3 = (2 * q + 2) + 1 by omega, Nat.add_mul, Nat.one_mul]
      rw [h2]
      omega
    · show 1 + (nodes.map Int.ofNat).length + ((rkTo nodes rs rs.length).map Int.ofNat).length + ((rs.map fun r => (provedR n ls all pairs f r on).getD noDrop).map (wtD f)).sum ≤ _
      rw [List.map_map, List.length_map, List.length_map, hrkl]
      have h1 := sum_le (f := wtD f ∘ fun r => (provedR n ls all pairs f r on).getD noDrop) (g := fun r => ((2 * _ + 2) * 3) * r.length) (l := rs) fun r hr => by
        have := (hG r hr).wt
        rw [hrN r hr, ← Nat.mul_assoc] at this
        exact this
      rw [sum_len, hfl] at h1
      rw [hN, ← Nat.mul_assoc]
      have h2 : ∀ q, (2 * q + 3) * 3 * nodes.length = (2 * q + 2) * 3 * nodes.length + 3 * nodes.length := fun q => by rw [show (2 * q + 3) * 3 = (2 * q + 2) * 3 + 3 by omega, Nat.add_mul]
      rw [h2]
      omega
    · show 1 + ((rs.map fun r => (provedR n ls all pairs f r on).getD noDrop).map (depD f)).foldr max 0 ≤ _
      rw [List.map_map]
      have h1 := max_le (f := depD f ∘ fun r => (provedR n ls all pairs f r on).getD noDrop) (b := 2 * _ + 2) (l := rs) fun r hr => (hG r hr).dep
      omega
end
end Go.Proofs.Ytnanffbjmfgafaa.S

namespace Go.Proofs.Ytnanffbjmfgafaa.S
open Go.RowKit
section
variable {n : Int} {init : List Int} {ls : List ArrowI} {all : List Int} {pairs : List (Int × Int)}
theorem init_lt (hC : checkI n init ls all pairs = 0) : ∀ x ∈ init.map Int.toNat, x < n.toNat := fun x hx => by
  obtain ⟨y, hy, rfl⟩ := List.mem_map.1 hx
  have := (checked hC).init.low y hy
  omega
theorem noCore_round {ls : List Arrow} {all : List Nat} {pairs : List (Nat × Nat)} {n : Nat} {init r : List Nat} (hR : ReachOk ls n init r) : NoCore ls all pairs init ↔ NoRound ls all pairs r (List.replicate ls.length true) := by
  constructor
  · intro h x w hx hne hw hs
    obtain ⟨s, hs', u, hu⟩ := (hR.mem x).1 hx
    exact h s hs' u x hu ⟨w, hne, hw.mono fun _ _ _ => trivial, hs⟩
  · intro h x hx w y hw ⟨v, hne, hv, hs⟩
    have hy := (hR.mem y).2 ⟨x, hx, w, hw⟩
    exact h y v hy hne (hR.walk hv hy) hs
theorem verify_total (hC : checkI n init ls all pairs = 0) (k : Nat) (d : Drop) : ∃ r, ReachOk (ls.map toA) n.toNat (init.map Int.toNat) r ∧
    verifyI k n init ls all pairs d = some (if showsF (ls.map toA) (all.map Int.toNat) (pairs.map toP) k d r (List.replicate (ls.map toA).length true) 1 = true then 0 else 312) := by
  have hk := checked hC
  obtain ⟨r, h1, h2⟩ := reachR_total hk.validG (init_lt hC)
  refine ⟨r, h2, ?_⟩
  unfold verifyI
  rw [if_pos hC, h1]
  rfl
theorem verify_sound (hC : checkI n init ls all pairs = 0) {k : Nat} {d : Drop} (h : verifyI k n init ls all pairs d = some 0) : NoCore (ls.map toA) (all.map Int.toNat) (pairs.map toP) (init.map Int.toNat) := by
  obtain ⟨r, h1, h2⟩ := verify_total hC k d
  rw [h2] at h
  split at h
  · rename_i hs
    exact (noCore_round h1).2 (shows_sound (checked hC).validW k d r _ 1 (h1.asc.imp fun h => Nat.ne_of_lt h) hs)
  · cases h
theorem verify_more {all2 : List Int} {pairs2 : List (Int × Int)} (hC : checkI n init ls all pairs = 0) (hC2 : checkI n init ls (all ++ all2) (pairs ++ pairs2) = 0) {k : Nat} {d : Drop} (h : verifyI k n init ls all pairs d = some 0) : verifyI k n init ls (all ++ all2) (pairs ++ pairs2) d = some 0 := by
  unfold verifyI at h ⊢
  rw [if_pos hC] at h
  rw [if_pos hC2]
  rcases hr : reachR n.toNat (ls.map toA) (init.map Int.toNat) with _ | r
  · rw [hr] at h; cases h
  · rw [hr] at h
    simp only [Option.map_some, Option.some.injEq] at h ⊢
    split at h
    · rename_i hs
      rw [List.map_append, List.map_append, if_pos (shows_more k d _ _ 1 hs)]
    · cases h
theorem prove_small (hC : checkI n init ls all pairs = 0) (hn : n ≤ 12) (hl : ls.length ≤ 41) {f : Nat} (hf : 35 ≤ f) :
    (∃ d, proveI f n init ls all pairs = some (some d, 0) ∧ DropOk f d ∧ verifyI f n init ls all pairs d = some 0 ∧ NoCore (ls.map toA) (all.map Int.toNat) (pairs.map toP) (init.map Int.toNat) ∧ cntD f d ≤ 35 * max n.toNat 1 ∧ wtD f d ≤ 1260 ∧ depD f d ≤ 35) ∨
    (proveI f n init ls all pairs = some (none, 0) ∧ ¬ NoCore (ls.map toA) (all.map Int.toNat) (pairs.map toP) (init.map Int.toNat)) := by
  have hk := checked hC
  have hb : n.toNat * ((ls.map toA).length + 3) ≤ 1000000 := by simpa using small_bound (n := n.toNat) (by omega) hl
  rcases findI_small hC hn hl with ⟨r, e, h⟩ | ⟨e, h⟩
  · refine .inr ⟨by unfold proveI; rw [e]; rfl, fun hno => ?_⟩
    obtain ⟨y, h1, h2⟩ := h.round
    exact hno _ h.start _ y h1 ⟨_, h.ne, h2, h.sats⟩
  · obtain ⟨r, h1, h2⟩ := reachR_total hk.validG (init_lt hC)
    obtain ⟨d, hd⟩ := prov_total hk.validG hk.validW hb 16 f r (List.replicate (ls.map toA).length true) (by omega) (mu_le _ _) h2.asc h2.lt ((noCore_round h2).1 h)
    have hrl := h2.len
    have hmax : max r.length 1 ≤ max n.toNat 1 := by omega
    refine .inl ⟨d, ?_, hd.ok, ?_, h, Nat.le_trans hd.cnt (Nat.mul_le_mul_left _ hmax), Nat.le_trans hd.wt ?_, hd.dep⟩
    · unfold proveI
      rw [e]
      simp only
      rw [if_neg (by decide), h1]
      simp only
      rw [hd.eq]
      rfl
    · unfold verifyI
      rw [if_pos hC, h1]
      simp only [Option.map_some]
      rw [if_pos (hd.shows 1 (by decide))]
    · have : max r.length 1 ≤ 12 := by omega
      omega
end
end Go.Proofs.Ytnanffbjmfgafaa.S

namespace Go.Proofs.Ytnanffbjmfgafaa.S
open Go.RowKit
theorem either_spec (k : Nat) (g : Ghost) (n : Int) (vi vl va vp : Value) (init : List Int) (ls : List ArrowI) (all : List Int) (pairs : List (Int × Int)) (cs : List Value) (d : Drop) (start : Int) (vs vlo : Value) (stem loop : List Int)
    (hi : RS kInt g vi init) (hl : RS kArrI g vl ls) (ha : RS kInt g va all) (hp : RS kPairI g vp pairs) (hd : DropRn k g cs d) (hdw : DropW k d) (hst : RS kInt g vs stem) (hlo : RS kInt g vlo loop) :
    Cl PP 3 [.agg #[.int .i64 n, vi, vl, va, vp], .agg cs.toArray, .agg #[.int .i64 start, vs, vlo]] g [] (Det (.bool true)) := by
  obtain ⟨e1, e2, e3, e4, e5, rfl, hone⟩ := hd.cells5
  refine cl_intro Try.func3 rfl rfl Try.ntmps3 rfl ?_
  intro w F hs
  repeat (refine wc_seq ?_)
  refine wc_region ?_
  refine wl_box hs rfl rfl rfl rfl ?_; clear hs; intro nb w hs
  refine wl_box hs rfl rfl rfl rfl ?_; clear hs; intro db w hs
  refine wl_box hs rfl rfl rfl rfl ?_; clear hs; intro rb w hs
  repeat (refine wl_p rfl rfl rfl ?_)
  refine wl_nil (wk_seq ?_)
  obtain ⟨g01, hg01, hs, hrb⟩ := freezeB hs
  obtain ⟨g02, hg02, hs, hdb⟩ := freezeB hs
  obtain ⟨g1, hg03, hs, hnb⟩ := freezeB hs
  have hg1 := Ghost.tr hg01 (Ghost.tr hg02 hg03)
  replace hs := (show St g1 w F from hs)
  replace hrb := (show Lies g1 rb 0 [.int .i64 start, vs, vlo] from hrb.mono (Ghost.tr hg02 hg03))
  replace hdb := (show Lies g1 db 0 [e1, e2, e3, e4, e5] from hdb.mono hg03)
  replace hnb := (show Lies g1 nb 0 [.int .i64 n, vi, vl, va, vp] from hnb)
  repeat (refine wc_seq ?_)
  refine wc_region ?_
  refine wl_call (L := []) rfl rfl rfl hs (sane_spec g1) ?_
  rintro u g2 L' w hg2 hs ⟨rfl, rfl⟩
  have hg02 := Ghost.tr hg1 hg2
  replace hrb := hrb.mono hg2
  replace hdb := hdb.mono hg2
  replace hnb := hnb.mono hg2
  repeat (refine wl_p rfl rfl rfl ?_)
  refine wl_nil (wk_seq ?_)
  refine wc_condF rfl rfl (wc_skip (wk_seq ?_))
  have fin : ∀ {g' : Ghost} {w' : World}, g2 ≤ g' → St g' w' F → ∃ g'' L', g ≤ g'' ∧ St g'' w' (L' ++ F) ∧ Det (.bool true) g'' L' (.bool true) := fun hg' hs' => ⟨_, [], Ghost.tr hg02 hg', hs', rfl, rfl⟩
  repeat (refine wc_seq ?_)
  refine wc_region ?_
  refine wl_ldGN (cs := [.int .i64 n, vi, vl, va, vp]) hs hnb.at' rfl rfl rfl rfl rfl rfl ?_
  refine wl_call (L := []) rfl rfl rfl hs (right_spec g2 n _ _ _ _ init ls all pairs (hi.mono hg02) (hl.mono hg02) (ha.mono hg02) (hp.mono hg02)) ?_
  rintro u g3 L' w hg3 hs ⟨rfl, rfl⟩
  have hg03 := Ghost.tr hg02 hg3
  repeat (refine wl_p rfl rfl rfl ?_)
  refine wl_case 23 rfl (fun q1 => ?_) (fun q1 => ?_)
  · repeat (first | refine wl_p rfl rfl rfl ?_ | refine wl_skip rfl rfl rfl ?_)
    refine wl_nil (wk_seq ?_)
    refine wc_condT rfl rfl ?_
    repeat (refine wc_seq ?_)
    refine wc_region ?_
    repeat (refine wl_p rfl rfl rfl ?_)
    refine wl_nil (wk_seq ?_)
    exact wc_retV (res1 rfl rfl) (fin hg3 hs)
  have hR : rightB n init ls all pairs = true := by simpa using q1
  obtain ⟨⟨l1, l2, l3, l4⟩, hC⟩ := rightB_iff hR
  have hn12 := right_n hR
  repeat (first | refine wl_p rfl rfl rfl ?_ | refine wl_skip rfl rfl rfl ?_)
  refine wl_ldGN (cs := [e1, e2, e3, e4, e5]) hs (hdb.mono hg3).at' rfl rfl rfl rfl rfl rfl ?_
  refine wl_call (L := []) rfl rfl rfl hs (slim_spec k g3 [e1, e2, e3, e4, e5] d (hd.mono hg03) hdw) ?_
  rintro u g4 L' w hg4 hs ⟨rfl, rfl⟩
  have hg04 := Ghost.tr hg03 hg4
  have hg24 := Ghost.tr hg3 hg4
  repeat (refine wl_p rfl rfl rfl ?_)
  refine wl_case 28 rfl (fun q2 => ?_) (fun q2 => ?_)
  · repeat (first | refine wl_p rfl rfl rfl ?_ | refine wl_skip rfl rfl rfl ?_)
    refine wl_nil (wk_seq ?_)
    refine wc_condT rfl rfl ?_
    repeat (refine wc_seq ?_)
    refine wc_region ?_
    repeat (refine wl_p rfl rfl rfl ?_)
    refine wl_nil (wk_seq ?_)
    exact wc_retV (res1 rfl rfl) (fin hg24 hs)
  have hok : DropOk k d := slim_ok hdw (by simpa using q2)
  repeat (first | refine wl_p rfl rfl rfl ?_ | refine wl_skip rfl rfl rfl ?_)
  refine wl_ldGN (cs := [.int .i64 start, vs, vlo]) hs (hrb.mono hg24).at' rfl rfl rfl rfl rfl rfl ?_
  refine wl_call (L := []) rfl rfl rfl hs (brief_spec g4 _ _ _ stem loop (hst.mono hg04) (hlo.mono hg04)) ?_
  rintro u g5 L' w hg5 hs ⟨rfl, rfl⟩
  have hg05 := Ghost.tr hg04 hg5
  have hg25 := Ghost.tr hg24 hg5
  repeat (first | refine wl_p rfl rfl rfl ?_ | refine wl_skip rfl rfl rfl ?_)
  refine wl_nil (wk_seq ?_)
  refine wc_cond rfl (fun q3 => ?_) (fun q3 => ?_)
  · repeat (refine wc_seq ?_)
    refine wc_region ?_
    repeat (refine wl_p rfl rfl rfl ?_)
    refine wl_nil (wk_seq ?_)
    exact wc_retV (res1 rfl rfl) (fin hg25 hs)
  have hBr : briefB stem loop = true := by
    have : (!briefB stem loop) = false := q3
    simpa using this
  simp only [briefB, Bool.and_eq_true, decide_eq_true_eq] at hBr
  replace hs := (show St g5 w F from hs)
  refine wc_skip (wk_seq ?_)
  replace hrb := hrb.mono hg25
  replace hdb := hdb.mono hg25
  replace hnb := hnb.mono hg25
  replace hi := hi.mono hg05
  replace hl := hl.mono hg05
  replace ha := ha.mono hg05
  replace hp := hp.mono hg05
  replace hst := hst.mono hg05
  replace hlo := hlo.mono hg05
  replace hd := hd.mono hg05
  have hfound : ∀ r, RdOk (ls.map toA) n.toNat (all.map Int.toNat) (pairs.map toP) (init.map Int.toNat) r → ¬ NoCore (ls.map toA) (all.map Int.toNat) (pairs.map toP) (init.map Int.toNat) := fun r h hno => by
    obtain ⟨y, h1, h2⟩ := h.round
    exact hno _ h.start _ y h1 ⟨_, h.ne, h2, h.sats⟩
  have fin5 : ∀ {g' : Ghost} {w' : World}, g5 ≤ g' → St g' w' F → ∃ g'' L', g ≤ g'' ∧ St g'' w' (L' ++ F) ∧ Det (.bool true) g'' L' (.bool true) := fun hg' hs' => ⟨_, [], Ghost.tr hg05 hg', hs', rfl, rfl⟩
  rcases findI_small hC hn12 (by omega) with ⟨r, hrr, hr⟩ | ⟨hrr, hno⟩
  · obtain hdd : proveI 36 n init ls all pairs = some (none, 0) := by
      rcases prove_small hC hn12 (by omega) (show 35 ≤ 36 by omega) with ⟨d0, h1, h2, h3, h4, _⟩ | ⟨h1, h2⟩
      · exact absurd h4 (hfound r hr)
      · exact h1
    have hac := accepts_found hC hr
    have hrs := hr.stem
    have hrl := hr.loop
    repeat (refine wc_seq ?_)
    refine wc_region ?_
    repeat (refine wl_p rfl rfl rfl ?_)
    refine wl_ldG hs (hnb 0 _ rfl) rfl rfl rfl rfl rfl ?_
    repeat (refine wl_p rfl rfl rfl ?_)
    refine wl_ldG hs (hnb 1 _ rfl) rfl rfl rfl rfl rfl ?_
    repeat (refine wl_p rfl rfl rfl ?_)
    refine wl_ldG hs (hnb 2 _ rfl) rfl rfl rfl rfl rfl ?_
    repeat (refine wl_p rfl rfl rfl ?_)
    refine wl_ldGN (cs := [va, vp]) hs (hnb).at3 rfl rfl rfl rfl rfl rfl ?_
    refine wl_call (L := []) rfl rfl rfl hs (Find_spec g5 n _ _ va vp init ls all pairs hi hl ha hp (by omega) (by omega) (by omega) (by omega) (some r, 0) hrr) ?_
    rintro u g6 L' w hg6 hs ⟨rfl, ws, wlo, rfl, rs1, rs2⟩
    obtain ⟨as1, cs1, rfl⟩ := rs1.form
    obtain ⟨as2, cs2, rfl⟩ := rs2.form
    repeat (refine wl_p rfl rfl rfl ?_)
    refine wl_new hs rfl rfl rfl ?_; clear hs; intro ob w hs
    refine wl_stN hs 0 rfl rfl rfl rfl rfl (Nat.le_of_ble_eq_true rfl) rfl rfl ?_
    clear hs; intro w hs
    repeat (refine wl_p rfl rfl rfl ?_)
    refine wl_nil (wk_seq ?_)
    obtain ⟨g7, hg67, hs, hob⟩ := freezeB hs
    replace hs := (show St g7 w F from hs)
    have hg57 := Ghost.tr hg6 hg67
    replace rs1 := rs1.mono hg67
    replace rs2 := rs2.mono hg67
    repeat (refine wc_seq ?_)
    refine wc_region ?_
    repeat (refine wl_p rfl rfl rfl ?_)
    refine wl_ldG hs (hnb.mono hg57 0 _ rfl) rfl rfl rfl rfl rfl ?_
    repeat (refine wl_p rfl rfl rfl ?_)
    refine wl_ldG hs (hnb.mono hg57 1 _ rfl) rfl rfl rfl rfl rfl ?_
    repeat (refine wl_p rfl rfl rfl ?_)
    refine wl_ldG hs (hnb.mono hg57 2 _ rfl) rfl rfl rfl rfl rfl ?_
    repeat (refine wl_p rfl rfl rfl ?_)
    refine wl_ldGN (cs := [va, vp]) hs (hnb.mono hg57).at3 rfl rfl rfl rfl rfl rfl ?_
    refine wl_call (L := []) rfl rfl rfl hs (Prove_spec 35 g7 n _ _ va vp init ls all pairs (hi.mono hg57) (hl.mono hg57) (ha.mono hg57) (hp.mono hg57) (by omega) (by omega) (by omega) (by omega) (none, 0) hdd) ?_
    rintro u g8 L' w hg8 hs ⟨rfl, cp, rfl, hdp⟩
    obtain ⟨p1, p2, p3, p4, p5, rfl, hpone⟩ := hdp.cells5
    repeat (refine wl_p rfl rfl rfl ?_)
    refine wl_new hs rfl rfl rfl ?_; clear hs; intro pb w hs
    refine wl_stN (cs := [p1, p2, p3, p4, p5]) hs 0 rfl rfl rfl rfl rfl (Nat.le_of_ble_eq_true rfl) hpone rfl ?_
    clear hs; intro w hs
    repeat (refine wl_p rfl rfl rfl ?_)
    refine wl_nil (wk_seq ?_)
    obtain ⟨g9, hg89, hs, hpb⟩ := freezeB hs
    replace hs := (show St g9 w F from hs)
    have hg79 := Ghost.tr hg8 hg89
    have hg59 := Ghost.tr hg57 hg79
    replace hpb := (show Lies g9 pb 0 [p1, p2, p3, p4, p5] from hpb)
    repeat (refine wc_seq ?_)
    refine wc_region ?_
    repeat (refine wl_p rfl rfl rfl ?_)
    refine wl_eqB false rfl rfl rfl rfl rfl rfl rfl ?_
    repeat (first | refine wl_p rfl rfl rfl ?_ | refine wl_skip rfl rfl rfl ?_)
    refine wl_nil (wk_seq ?_)
    refine wc_condF rfl rfl (wc_skip (wk_seq ?_))
    repeat (refine wc_seq ?_)
    refine wc_region ?_
    repeat (refine wl_p rfl rfl rfl ?_)
    refine wl_nil (wk_seq ?_)
    refine wc_condT rfl rfl ?_
    repeat (refine wc_seq ?_)
    refine wc_region ?_
    repeat (refine wl_p rfl rfl rfl ?_)
    refine wl_ldG hs (hnb.mono hg59 0 _ rfl) rfl rfl rfl rfl rfl ?_
    repeat (refine wl_p rfl rfl rfl ?_)
    refine wl_ldG hs (hnb.mono hg59 1 _ rfl) rfl rfl rfl rfl rfl ?_
    repeat (refine wl_p rfl rfl rfl ?_)
    refine wl_ldG hs (hnb.mono hg59 2 _ rfl) rfl rfl rfl rfl rfl ?_
    repeat (refine wl_p rfl rfl rfl ?_)
    refine wl_ldGN (cs := [va, vp]) hs (hnb.mono hg59).at3 rfl rfl rfl rfl rfl rfl ?_
    refine wl_ldGN hs (hob.mono hg79).at' rfl rfl rfl rfl rfl rfl ?_
    refine wl_call (L := []) rfl rfl rfl hs (accepts_spec g9 n _ _ va vp _ _ init ls all pairs (r.1 : Int) (r.2.1.map Int.ofNat) (r.2.2.map Int.ofNat) (hi.mono hg59) (hl.mono hg59) (ha.mono hg59) (hp.mono hg59) (rs1.mono hg79).ofNat (rs2.mono hg79).ofNat (by omega) (by omega) (by omega) (by omega) (by rw [List.length_map]; omega) (by rw [List.length_map]; omega)) ?_
    rintro u g10 L' w hg10 hs ⟨rfl, rfl⟩
    rw [hac]
    have hg510 := Ghost.tr hg59 hg10
    repeat (refine wl_p rfl rfl rfl ?_)
    refine wl_nil (wk_seq ?_)
    repeat (refine wc_seq ?_)
    refine wc_region ?_
    repeat (refine wl_p rfl rfl rfl ?_)
    refine wl_nil (wk_seq ?_)
    refine wc_condF rfl rfl (wc_skip (wk_seq ?_))
    repeat (refine wc_seq ?_)
    refine wc_region ?_
    repeat (refine wl_p rfl rfl rfl ?_)
    refine wl_ldG hs (hnb.mono hg510 0 _ rfl) rfl rfl rfl rfl rfl ?_
    repeat (refine wl_p rfl rfl rfl ?_)
    refine wl_ldG hs (hnb.mono hg510 1 _ rfl) rfl rfl rfl rfl rfl ?_
    repeat (refine wl_p rfl rfl rfl ?_)
    refine wl_ldG hs (hnb.mono hg510 2 _ rfl) rfl rfl rfl rfl rfl ?_
    repeat (refine wl_p rfl rfl rfl ?_)
    refine wl_ldGN (cs := [va, vp]) hs (hnb.mono hg510).at3 rfl rfl rfl rfl rfl rfl ?_
    refine wl_ldGN (cs := [.int .i64 start, vs, vlo]) hs (hrb.mono hg510).at' rfl rfl rfl rfl rfl rfl ?_
    refine wl_call (L := []) rfl rfl rfl hs (accepts_spec g10 n _ _ va vp _ _ init ls all pairs start stem loop (hi.mono (hg510)) (hl.mono (hg510)) (ha.mono (hg510)) (hp.mono (hg510)) (hst.mono (hg510)) (hlo.mono (hg510)) (by omega) (by omega) (by omega) (by omega) (by omega) (by omega)) ?_
    rintro u g12 L' w hg12 hs ⟨rfl, rfl⟩
    have hg512 := Ghost.tr (hg510) hg12
    repeat (refine wl_p rfl rfl rfl ?_)
    refine wl_nil (wk_seq ?_)
    repeat (refine wc_seq ?_)
    refine wc_region ?_
    repeat (refine wl_p rfl rfl rfl ?_)
    refine wl_ldG hs (hnb.mono hg512 0 _ rfl) rfl rfl rfl rfl rfl ?_
    repeat (refine wl_p rfl rfl rfl ?_)
    refine wl_ldG hs (hnb.mono hg512 1 _ rfl) rfl rfl rfl rfl rfl ?_
    repeat (refine wl_p rfl rfl rfl ?_)
    refine wl_ldG hs (hnb.mono hg512 2 _ rfl) rfl rfl rfl rfl rfl ?_
    repeat (refine wl_p rfl rfl rfl ?_)
    refine wl_ldGN (cs := [va, vp]) hs (hnb.mono hg512).at3 rfl rfl rfl rfl rfl rfl ?_
    refine wl_ldGN (cs := [e1, e2, e3, e4, e5]) hs (hdb.mono hg512).at' rfl rfl rfl rfl rfl rfl ?_
    obtain ⟨r0, hr0, hver⟩ := verify_total hC k d
    refine wl_call (L := []) rfl rfl rfl hs (Verify_spec k g12 n _ _ va vp _ init ls all pairs d (hi.mono hg512) (hl.mono hg512) (ha.mono hg512) (hp.mono hg512) (hd.mono hg512) hok (by omega) (by omega) (by omega) (by omega) _ hver) ?_
    rintro u g13 L' w hg13 hs ⟨rfl, rfl⟩
    have hg513 := Ghost.tr hg512 hg13
    repeat (refine wl_p rfl rfl rfl ?_)
    refine wl_nil (wk_seq ?_)
    have hpr : (if showsF (ls.map toA) (all.map Int.toNat) (pairs.map toP) k d r0 (List.replicate (ls.map toA).length true) 1 = true then (0 : Int) else 312) = 312 := by
      rw [if_neg]
      intro hh
      rw [if_pos hh] at hver
      exact hfound r hr (verify_sound hC hver)
    rw [hpr]
    generalize (acceptsI n init ls all pairs start stem loop).1 = fb
    cases fb
    · repeat (refine wc_seq ?_)
      refine wc_region ?_
      repeat (first | refine wl_p rfl rfl rfl ?_ | refine wl_skip rfl rfl rfl ?_)
      refine wl_nil (wk_seq ?_)
      exact wc_retV (res1 rfl rfl) (fin5 hg513 hs)
    · repeat (refine wc_seq ?_)
      refine wc_region ?_
      repeat (first | refine wl_p rfl rfl rfl ?_ | refine wl_skip rfl rfl rfl ?_)
      refine wl_nil (wk_seq ?_)
      exact wc_retV (res1 rfl rfl) (fin5 hg513 hs)
  · obtain ⟨d0, hdd, hdok, hdv⟩ : ∃ d0, proveI 36 n init ls all pairs = some (some d0, 0) ∧ DropOk 36 d0 ∧ verifyI 36 n init ls all pairs d0 = some 0 := by
      rcases prove_small hC hn12 (by omega) (show 35 ≤ 36 by omega) with ⟨d0, h1, h2, h3, h4, _⟩ | ⟨h1, h2⟩
      · exact ⟨d0, h1, h2, h3⟩
      · exact absurd hno h2
    repeat (refine wc_seq ?_)
    refine wc_region ?_
    repeat (refine wl_p rfl rfl rfl ?_)
    refine wl_ldG hs (hnb 0 _ rfl) rfl rfl rfl rfl rfl ?_
    repeat (refine wl_p rfl rfl rfl ?_)
    refine wl_ldG hs (hnb 1 _ rfl) rfl rfl rfl rfl rfl ?_
    repeat (refine wl_p rfl rfl rfl ?_)
    refine wl_ldG hs (hnb 2 _ rfl) rfl rfl rfl rfl rfl ?_
    repeat (refine wl_p rfl rfl rfl ?_)
    refine wl_ldGN (cs := [va, vp]) hs (hnb).at3 rfl rfl rfl rfl rfl rfl ?_
    refine wl_call (L := []) rfl rfl rfl hs (Find_spec g5 n _ _ va vp init ls all pairs hi hl ha hp (by omega) (by omega) (by omega) (by omega) (none, 0) hrr) ?_
    rintro u g6 L' w hg6 hs ⟨rfl, ws, wlo, rfl, rs1, rs2⟩
    obtain ⟨as1, cs1, rfl⟩ := rs1.form
    obtain ⟨as2, cs2, rfl⟩ := rs2.form
    repeat (refine wl_p rfl rfl rfl ?_)
    refine wl_new hs rfl rfl rfl ?_; clear hs; intro ob w hs
    refine wl_stN hs 0 rfl rfl rfl rfl rfl (Nat.le_of_ble_eq_true rfl) rfl rfl ?_
    clear hs; intro w hs
    repeat (refine wl_p rfl rfl rfl ?_)
    refine wl_nil (wk_seq ?_)
    obtain ⟨g7, hg67, hs, hob⟩ := freezeB hs
    replace hs := (show St g7 w F from hs)
    have hg57 := Ghost.tr hg6 hg67
    replace rs1 := rs1.mono hg67
    replace rs2 := rs2.mono hg67
    repeat (refine wc_seq ?_)
    refine wc_region ?_
    repeat (refine wl_p rfl rfl rfl ?_)
    refine wl_ldG hs (hnb.mono hg57 0 _ rfl) rfl rfl rfl rfl rfl ?_
    repeat (refine wl_p rfl rfl rfl ?_)
    refine wl_ldG hs (hnb.mono hg57 1 _ rfl) rfl rfl rfl rfl rfl ?_
    repeat (refine wl_p rfl rfl rfl ?_)
    refine wl_ldG hs (hnb.mono hg57 2 _ rfl) rfl rfl rfl rfl rfl ?_
    repeat (refine wl_p rfl rfl rfl ?_)
    refine wl_ldGN (cs := [va, vp]) hs (hnb.mono hg57).at3 rfl rfl rfl rfl rfl rfl ?_
    refine wl_call (L := []) rfl rfl rfl hs (Prove_spec 35 g7 n _ _ va vp init ls all pairs (hi.mono hg57) (hl.mono hg57) (ha.mono hg57) (hp.mono hg57) (by omega) (by omega) (by omega) (by omega) (some d0, 0) hdd) ?_
    rintro u g8 L' w hg8 hs ⟨rfl, cp, rfl, hdp⟩
    obtain ⟨p1, p2, p3, p4, p5, rfl, hpone⟩ := hdp.cells5
    repeat (refine wl_p rfl rfl rfl ?_)
    refine wl_new hs rfl rfl rfl ?_; clear hs; intro pb w hs
    refine wl_stN (cs := [p1, p2, p3, p4, p5]) hs 0 rfl rfl rfl rfl rfl (Nat.le_of_ble_eq_true rfl) hpone rfl ?_
    clear hs; intro w hs
    repeat (refine wl_p rfl rfl rfl ?_)
    refine wl_nil (wk_seq ?_)
    obtain ⟨g9, hg89, hs, hpb⟩ := freezeB hs
    replace hs := (show St g9 w F from hs)
    have hg79 := Ghost.tr hg8 hg89
    have hg59 := Ghost.tr hg57 hg79
    replace hpb := (show Lies g9 pb 0 [p1, p2, p3, p4, p5] from hpb)
    repeat (refine wc_seq ?_)
    refine wc_region ?_
    repeat (refine wl_p rfl rfl rfl ?_)
    refine wl_eqB false rfl rfl rfl rfl rfl rfl rfl ?_
    repeat (first | refine wl_p rfl rfl rfl ?_ | refine wl_skip rfl rfl rfl ?_)
    refine wl_nil (wk_seq ?_)
    refine wc_condF rfl rfl (wc_skip (wk_seq ?_))
    repeat (refine wc_seq ?_)
    refine wc_region ?_
    repeat (refine wl_p rfl rfl rfl ?_)
    refine wl_nil (wk_seq ?_)
    refine wc_condF rfl rfl ?_
    repeat (refine wc_seq ?_)
    refine wc_region ?_
    repeat (refine wl_p rfl rfl rfl ?_)
    refine wl_ldG hs (hnb.mono hg59 0 _ rfl) rfl rfl rfl rfl rfl ?_
    repeat (refine wl_p rfl rfl rfl ?_)
    refine wl_ldG hs (hnb.mono hg59 1 _ rfl) rfl rfl rfl rfl rfl ?_
    repeat (refine wl_p rfl rfl rfl ?_)
    refine wl_ldG hs (hnb.mono hg59 2 _ rfl) rfl rfl rfl rfl rfl ?_
    repeat (refine wl_p rfl rfl rfl ?_)
    refine wl_ldGN (cs := [va, vp]) hs (hnb.mono hg59).at3 rfl rfl rfl rfl rfl rfl ?_
    refine wl_ldGN (cs := [p1, p2, p3, p4, p5]) hs hpb.at' rfl rfl rfl rfl rfl rfl ?_
    refine wl_call (L := []) rfl rfl rfl hs (Verify_spec 36 g9 n _ _ va vp _ init ls all pairs d0 (hi.mono hg59) (hl.mono hg59) (ha.mono hg59) (hp.mono hg59) (DropRn.mono hg89 hdp) hdok (by omega) (by omega) (by omega) (by omega) _ hdv) ?_
    rintro u g10 L' w hg10 hs ⟨rfl, rfl⟩
    have hg510 := Ghost.tr hg59 hg10
    repeat (refine wl_p rfl rfl rfl ?_)
    refine wl_nil (wk_seq ?_)
    refine wc_condF rfl rfl (wc_skip (wk_seq ?_))
    repeat (refine wc_seq ?_)
    refine wc_region ?_
    repeat (refine wl_p rfl rfl rfl ?_)
    refine wl_ldG hs (hnb.mono hg510 0 _ rfl) rfl rfl rfl rfl rfl ?_
    repeat (refine wl_p rfl rfl rfl ?_)
    refine wl_ldG hs (hnb.mono hg510 1 _ rfl) rfl rfl rfl rfl rfl ?_
    repeat (refine wl_p rfl rfl rfl ?_)
    refine wl_ldG hs (hnb.mono hg510 2 _ rfl) rfl rfl rfl rfl rfl ?_
    repeat (refine wl_p rfl rfl rfl ?_)
    refine wl_ldGN (cs := [va, vp]) hs (hnb.mono hg510).at3 rfl rfl rfl rfl rfl rfl ?_
    refine wl_ldGN (cs := [.int .i64 start, vs, vlo]) hs (hrb.mono hg510).at' rfl rfl rfl rfl rfl rfl ?_
    refine wl_call (L := []) rfl rfl rfl hs (accepts_spec g10 n _ _ va vp _ _ init ls all pairs start stem loop (hi.mono (hg510)) (hl.mono (hg510)) (ha.mono (hg510)) (hp.mono (hg510)) (hst.mono (hg510)) (hlo.mono (hg510)) (by omega) (by omega) (by omega) (by omega) (by omega) (by omega)) ?_
    rintro u g12 L' w hg12 hs ⟨rfl, rfl⟩
    have hg512 := Ghost.tr (hg510) hg12
    repeat (refine wl_p rfl rfl rfl ?_)
    refine wl_nil (wk_seq ?_)
    repeat (refine wc_seq ?_)
    refine wc_region ?_
    repeat (refine wl_p rfl rfl rfl ?_)
    refine wl_ldG hs (hnb.mono hg512 0 _ rfl) rfl rfl rfl rfl rfl ?_
    repeat (refine wl_p rfl rfl rfl ?_)
    refine wl_ldG hs (hnb.mono hg512 1 _ rfl) rfl rfl rfl rfl rfl ?_
    repeat (refine wl_p rfl rfl rfl ?_)
    refine wl_ldG hs (hnb.mono hg512 2 _ rfl) rfl rfl rfl rfl rfl ?_
    repeat (refine wl_p rfl rfl rfl ?_)
    refine wl_ldGN (cs := [va, vp]) hs (hnb.mono hg512).at3 rfl rfl rfl rfl rfl rfl ?_
    refine wl_ldGN (cs := [e1, e2, e3, e4, e5]) hs (hdb.mono hg512).at' rfl rfl rfl rfl rfl rfl ?_
    obtain ⟨r0, hr0, hver⟩ := verify_total hC k d
    refine wl_call (L := []) rfl rfl rfl hs (Verify_spec k g12 n _ _ va vp _ init ls all pairs d (hi.mono hg512) (hl.mono hg512) (ha.mono hg512) (hp.mono hg512) (hd.mono hg512) hok (by omega) (by omega) (by omega) (by omega) _ hver) ?_
    rintro u g13 L' w hg13 hs ⟨rfl, rfl⟩
    have hg513 := Ghost.tr hg512 hg13
    repeat (refine wl_p rfl rfl rfl ?_)
    refine wl_nil (wk_seq ?_)
    have hfb : (acceptsI n init ls all pairs start stem loop).1 = false := by
      cases hh : (acceptsI n init ls all pairs start stem loop).1 with
      | false => rfl
      | true => exact absurd hno (accepted_core hC hh)
    rw [hfb]
    generalize ((if showsF (ls.map toA) (all.map Int.toNat) (pairs.map toP) k d r0 (List.replicate (ls.map toA).length true) 1 = true then (0 : Int) else 312) == 0) = vb
    cases vb
    · repeat (refine wc_seq ?_)
      refine wc_region ?_
      repeat (first | refine wl_p rfl rfl rfl ?_ | refine wl_skip rfl rfl rfl ?_)
      refine wl_nil (wk_seq ?_)
      exact wc_retV (res1 rfl rfl) (fin5 hg513 hs)
    · repeat (refine wc_seq ?_)
      refine wc_region ?_
      repeat (first | refine wl_p rfl rfl rfl ?_ | refine wl_skip rfl rfl rfl ?_)
      refine wl_nil (wk_seq ?_)
      exact wc_retV (res1 rfl rfl) (fin5 hg513 hs)
end Go.Proofs.Ytnanffbjmfgafaa.S
