/- What the statement FairRounds is proved with, part 3: walks of the code, each against a pure version of it. -/
import Derived.Shelf.Sort.Plain
import Derived.Shelf.Slices.Reverse
import Derived.Shelf.Slices.SearchI
import Derived.Shelf.Slices.Empties
import Derived.Shelf.Slices.In.SortNone
import Derived.Ground.Names2Prog
import Derived.Test.YtpmlighdpgbecaaGreatDoorProg
import Derived.Test.YtpmlighdpgbecaaGreatDoorWFairRounds2
set_option linter.all false
namespace Go.Proofs.YtpmlighdpgbecaaGreatDoor.S
section
open Go.RowKit
def Vk (b : Nat) (v : Value) : Nat × Obj := (b, Xa [v, .int .i64 0, .int .i8 0] 206)
def rowC (r : Nat) (l : List Value) : Nat × Obj := (r, Xa l 5)
theorem tryGrow_spec (g : Ghost) (b r len cap n : Nat) (hl : len ≤ cap) (hc : cap ≤ 9223372036854775807) (hn : n ≤ 1099511627776) :
  Cl PP 170 [.pointer (some ⟨b, 0, none⟩), .int .i64 (n : Int)] g [Vk b (.slice (some ⟨r, 0, none⟩) len cap)] fun _ L' v =>
   if n ≤ cap - len then v = .tuple #[.int .i64 (len : Int), .bool true] ∧ L' = [Vk b (.slice (some ⟨r, 0, none⟩) (len + n) cap)] else v = .tuple #[.int .i64 0, .bool false] ∧ L' = [Vk b (.slice (some ⟨r, 0, none⟩) len cap)] := by
 unfold Vk
 refine Qm Tryz.func170 rfl rfl Tryz.ntmps170 rfl fun F => ?_
 repeat' (first | refine zA4 ?_ | refine zBD (fun h => ?_) fun h => ?_ | fail)
 intro w hs
 refine wl_cap rfl rfl rfl rfl rfl ?_
 revert w hs
 repeat' (first | refine zA4 ?_ | refine zBD (fun h => ?_) fun h => ?_ | fail)
 ·intro w hs;refine wl_sliceTo (len + n) rfl rfl (by omega) rfl rfl rfl rfl rfl ?_;revert w hs
  repeat' (first | refine zA4 ?_ | refine zBD (fun h => ?_) fun h => ?_ | fail)
  intro w hs;refine Xb (res2 rfl rfl rfl) ⟨g, [(b, Xa [.slice (some ⟨r, 0, none⟩) (len + n) cap, .int .i64 0, .int .i8 0] 206)], Ghost.rfl', hs, ?_⟩;rw [if_pos (by omega)]; exact ⟨rfl, rfl⟩
 ·intro w hs;refine Xb (res2 rfl rfl rfl) ⟨g, _, Ghost.rfl', hs, ?_⟩;rw [if_neg (by omega)]; exact ⟨rfl, rfl⟩
theorem tryGrow0_spec (g : Ghost) (b n : Nat) (h1 : 1 ≤ n) (hn : n ≤ 1099511627776) :
  Cl PP 170 [.pointer (some ⟨b, 0, none⟩), .int .i64 (n : Int)] g [Vk b (.slice none 0 0)] fun _ L' v => v = .tuple #[.int .i64 0, .bool false] ∧ L' = [Vk b (.slice none 0 0)] := by
 unfold Vk
 refine Qm Tryz.func170 rfl rfl Tryz.ntmps170 rfl fun F => ?_
 repeat' (first | refine zA4 ?_ | refine zBD (fun h => ?_) fun h => ?_ | fail)
 intro w hs
 refine wl_cap rfl rfl rfl rfl rfl ?_
 revert w hs
 repeat' (first | refine zA4 ?_ | refine zBD (fun h => ?_) fun h => ?_ | fail)
 ·exfalso; omega
 ·intro w hs;exact Xb (res2 rfl rfl rfl) ⟨g, _, Ghost.rfl', hs, rfl, rfl⟩
theorem len_spec (g : Ghost) (b len cap : Nat) (a : Option Addr) (hl : len ≤ 1099511627776) :
  Cl PP 183 [.pointer (some ⟨b, 0, none⟩)] g [Vk b (.slice a len cap)] fun _ L' v => v = .int .i64 (len : Int) ∧ L' = [Vk b (.slice a len cap)] := by
 unfold Vk
 refine Qm Tryz.func183 rfl rfl Tryz.ntmps183 rfl fun F => ?_
 repeat' (first | refine zA4 ?_ | refine zBD (fun h => ?_) fun h => ?_ | fail)
 intro w hs
 exact Xb (Xo rfl rfl) ⟨g, _, Ghost.rfl', hs, by simp, rfl⟩
theorem growSl_spec (g : Ghost) (r l c n : Nat) (cur : List Value) (hr : g.heap r = some (Xa cur 5)) (hcs : cur.length = c) (hlc : l ≤ c) (hn : 1 ≤ n) (hlim : l + n ≤ 1099511627776) (hc2 : c ≤ 1099511627776) (h1 : (cur.take l).all Value.oneCell' = true) :
  Cl PP 185 [.slice (some ⟨r, 0, none⟩) l c, .int .i64 (n : Int)] g [] fun _ L' v => ∃ nb cap2 cells, v = .slice (some ⟨nb, 0, none⟩) l cap2 ∧ L' = [rowC nb cells] ∧ cells.length = cap2 ∧ cells.take l = cur.take l ∧ l + n ≤ cap2 ∧ cap2 ≤ 9223372036854775807 := by
 refine ⟨Go.Proofs.enters_of Tryz.func185 rfl rfl, fun w F hs => ?_⟩
 have hb := hs.imm r _ hr
 refine (YtpmlighdpgbecaaGreatDoor.growSlice_row r l c n cur.toArray w hb (by simpa using hcs) hlc hn (by omega) (by omega) (fun v hv => List.all_eq_true.1 h1 v (by simpa using hv))).mono ?_
 rintro e w' ⟨cap2, cells, rfl, q1, q2, q3, q4, q5, q6⟩
 refine ⟨_, g, [rowC w.heap.size cells.toList], rfl, Ghost.rfl', ?_, w.heap.size, cap2, cells.toList, rfl, rfl, by simpa using q2, by simpa using q3, q4, q5⟩
 have := hs.newAt q6 q1
 simpa [rowC, Xa] using this
theorem grow0_spec (g : Ghost) (b n : Nat) (h1 : 1 ≤ n) (hn : n ≤ 64) :
  Cl PP 171 [.pointer (some ⟨b, 0, none⟩), .int .i64 (n : Int)] g [Vk b (.slice none 0 0)] fun _ L' v => v = .int .i64 0 ∧ ∃ nb cells, L' = [rowC nb cells, Vk b (.slice (some ⟨nb, 0, none⟩) n 64)] ∧ cells.length = 64 := by
 refine Qm Tryz.func171 rfl rfl Tryz.ntmps171 rfl fun F => ?_
 repeat' (first | refine zA4 ?_ | refine zBD (fun h => ?_) fun h => ?_ | fail)
 refine zcl (fun g1 (_ : g ≤ g1) => len_spec g1 b 0 0 none (by omega)) fun v g1 L1 hg1 hp => ?_
 obtain ⟨rfl, rfl⟩ := hp
 unfold Vk
 repeat' (first | refine zA4 ?_ | refine zBD (fun h => ?_) fun h => ?_ | fail)
 refine zcl (fun g2 (_ : g1 ≤ g2) => tryGrow0_spec g2 b n h1 (by omega)) fun v g2 L2 hg2 hp => ?_
 obtain ⟨rfl, rfl⟩ := hp
 unfold Vk
 repeat' (first | refine zA4 ?_ | refine zBD (fun h => ?_) fun h => ?_ | fail)
 intro w hs
 refine wl_isNil rfl rfl rfl rfl rfl rfl ?_
 revert w hs
 repeat' (first | refine zA4 ?_ | refine zBD (fun h => ?_) fun h => ?_ | fail)
 ·intro w hs;refine wl_makeC (m := 64) hs rfl rfl ⟨hn, by decide, by decide⟩ rfl rfl rfl rfl rfl rfl rfl ?_;clear hs;intro nb cells hcl
  repeat' (first | refine zA4 ?_ | refine zBD (fun h => ?_) fun h => ?_ | fail)
  intro w hs;exact Xb (Xo rfl rfl) ⟨g2, [rowC nb cells, (b, Xa [.slice (some ⟨nb, 0, none⟩) n 64, .int .i64 0, .int .i8 0] 206)], Ghost.tr hg1 hg2, hs, rfl, nb, cells, rfl, hcl⟩
 ·exfalso; omega
end
section
open Go.RowKit
set_option maxHeartbeats 4000000 in
theorem grow_spec (g : Ghost) (b r len cap n : Nat) (cur : List Value) (hcl : cur.length = cap) (hl : len ≤ cap) (h1 : 1 ≤ n) (hn : len + n ≤ 1099511627776) (hno : cap - len < n) (ho : (cur.take len).all Value.oneCell' = true) :
  Cl PP 171 [.pointer (some ⟨b, 0, none⟩), .int .i64 (n : Int)] g [rowC r cur, Vk b (.slice (some ⟨r, 0, none⟩) len cap)] fun _ L' v => v = .int .i64 (len : Int) ∧ ∃ nb cap2 cells, L' = [rowC nb cells, Vk b (.slice (some ⟨nb, 0, none⟩) (len + n) cap2)] ∧ cells.length = cap2 ∧ cells.take len = cur.take len ∧ len + n ≤ cap2 ∧ cap2 ≤ 9223372036854775807 := by
 refine Qm Tryz.func171 rfl rfl Tryz.ntmps171 rfl fun F => ?_
 refine zfzH fun g0 hg0 hr => ?_
 repeat' (first | refine zA4 ?_ | refine zBD (fun h => ?_) fun h => ?_ | fail)
 refine zcl (fun g1 (_ : g0 ≤ g1) => len_spec g1 b len cap _ (by omega)) fun v g1 L1 hg1 hp => ?_
 obtain ⟨rfl, rfl⟩ := hp
 unfold Vk
 repeat' (first | refine zA4 ?_ | refine zBD (fun h => ?_) fun h => ?_ | fail)
 all_goals (
  refine zcl (fun g2 (_ : g1 ≤ g2) => tryGrow_spec g2 b r len cap n hl (by omega) (by omega)) fun v g2 L2 hg2 hp => ?_
  rw [if_neg (by omega)] at hp
  obtain ⟨rfl, rfl⟩ := hp;unfold Vk
  repeat' (first | refine zA4 ?_ | refine zBD (fun h => ?_) fun h => ?_ | fail)
  intro w hs;refine wl_isNil rfl rfl rfl rfl rfl rfl ?_;revert w hs
  repeat' (first | refine zA4 ?_ | refine zBD (fun h => ?_) fun h => ?_ | fail)
  intro w hs;refine wl_cap rfl rfl rfl rfl rfl ?_;revert w hs
  repeat' (first | refine zA4 ?_ | refine zBD (fun h => ?_) fun h => ?_ | fail)
  all_goals try (exfalso; omega))
 all_goals (
  refine zDm 17 Yd (by kernel_rfl) rfl fun gd hgd => ?_
  repeat (first | refine sg_p rfl rfl ?_ | refine Xv 0 rfl rfl rfl rfl rfl rfl ?_)
  refine sg_slice0 rfl rfl hl rfl rfl rfl rfl ?_
  repeat (first | refine sg_p rfl rfl ?_ | refine Xv 0 rfl rfl rfl rfl rfl rfl ?_)
  refine sg_arK (n : Int) rfl rfl (by simp [Qn]) (by omega) rfl ?_;refine Uf [] [] rfl rfl rfl (fun g3 hg3 => growSl_spec g3 r len cap n cur (Ghost.Le.heap' (Ghost.tr hg1 (Ghost.tr hg2 (Ghost.tr hgd hg3))) hr) hcl hl h1 hn (by omega) ho) ?_;refine Xy ?_;rintro g3 hg3 v L3 ⟨ga, hga, nb, cap2, cells, rfl, rfl, q1, q2, q3, q4⟩;have hg23 := Ghost.tr hgd hg3;unfold rowC
  repeat' (first | refine zA4 ?_ | refine zBD (fun h => ?_) fun h => ?_ | fail)
  intro w hs;refine wl_sliceTo (len + n) rfl rfl (by omega) rfl rfl rfl rfl rfl ?_;revert w hs
  repeat' (first | refine zA4 ?_ | refine zBD (fun h => ?_) fun h => ?_ | fail)
  intro w hs;exact Xb (Xo rfl rfl) ⟨g3, [rowC nb cells, (b, Xa [.slice (some ⟨nb, 0, none⟩) (len + n) cap2, .int .i64 0, .int .i8 0] 206)], Ghost.tr hg0 (Ghost.tr hg1 (Ghost.tr hg2 hg23)), hs, rfl, nb, cap2, cells, rfl, q1, q2, q3, q4⟩)
end
section
open Go.RowKit
theorem zswap {g : Ghost} {p q : Nat × Obj} {L : Own} {X : World → Prop} (h : ∀ w, Sg g w (q :: p :: L) → X w) : ∀ w, Sg g w (p :: q :: L) → X w := fun w ⟨g1, hg, hs⟩ => h w ⟨g1, hg, hs.perm (List.Perm.swap _ _ _)⟩
def BufO (b : Nat) (bs : List Int) (L : Own) : Prop := (bs = [] ∧ L = [Vk b (.slice none 0 0)]) ∨ ∃ r cap cells, L = [rowC r cells, Vk b (.slice (some ⟨r, 0, none⟩) bs.length cap)] ∧ cells.length = cap ∧ cells.take bs.length = u8s bs ∧ bs.length ≤ cap ∧ cap ≤ 9223372036854775807
theorem set_take : ∀ {l : List Value} {i : Nat} {v : Value}, i < l.length → (l.set i v).take (i + 1) = l.take i ++ [v]
 | _ :: _, 0, _, _ => by simp
 | x :: l, i + 1, v, h => by
  have := set_take (l := l) (i := i) (v := v) (by simpa using h);simp only [List.set_cons_succ, List.take_succ_cons, this, List.cons_append]
set_option maxHeartbeats 4000000 in
theorem Kv (g : Ghost) (b : Nat) (bs : List Int) (c : Int) (L : Own) (hB : BufO b bs L) (hl : bs.length + 1 ≤ 1000000000) :
  Cl PP 156 [.pointer (some ⟨b, 0, none⟩), .int .u8 c] g L fun _ L' v => v = .nilIface ∧ BufO b (bs ++ [c]) L' := by
 have fin : ∀ {nb cap2 : Nat} {cells : List Value}, cells.length = cap2 → cells.take bs.length = u8s bs → bs.length + 1 ≤ cap2 → cap2 ≤ 9223372036854775807 → BufO b (bs ++ [c]) [rowC nb (cells.set bs.length (.int .u8 c)), Vk b (.slice (some ⟨nb, 0, none⟩) (bs.length + 1) cap2)] := fun {nb cap2 cells} h1 h2 h3 h4 =>
  .inr ⟨nb, cap2, cells.set bs.length (.int .u8 c), by simp, by simpa using h1, by simp only [List.length_append, List.length_cons, List.length_nil, Nat.zero_add]; rw [set_take (by omega), h2, u8s_app]; rfl, by simpa using h3, h4⟩
 refine Qm Tryz.func156 rfl rfl Tryz.ntmps156 rfl fun F => ?_
 rcases hB with ⟨rfl, rfl⟩ | ⟨r, cap, cells, rfl, h1, h2, h3, h4⟩
 ·unfold Vk
  repeat' (first | refine zA4 ?_ | refine zBD (fun h => ?_) fun h => ?_ | fail)
  refine zcl (fun g2 (_ : g ≤ g2) => tryGrow0_spec g2 b 1 (by omega) (by omega)) fun v g2 L2 hg2 hp => ?_
  obtain ⟨rfl, rfl⟩ := hp
  repeat' (first | refine zA4 ?_ | refine zBD (fun h => ?_) fun h => ?_ | fail)
  refine zcl (fun g3 (_ : g2 ≤ g3) => grow0_spec g3 b 1 (by omega) (by omega)) fun v g3 L3 hg3 hp => ?_
  obtain ⟨rfl, nb, cells, rfl, hc⟩ := hp;unfold Vk rowC
  repeat' (first | refine zA4 ?_ | refine zBD (fun h => ?_) fun h => ?_ | fail)
  intro w hs;refine wl_ixO rfl rfl rfl rfl rfl (by omega) rfl rfl ?_;refine wl_stS hs 0 rfl rfl rfl (List.getElem?_eq_getElem (by simp; omega)) rfl rfl rfl rfl ?_;clear hs; intro w hs;revert w hs
  repeat' (first | refine zA4 ?_ | refine zBD (fun h => ?_) fun h => ?_ | fail)
  intro w hs;exact Xb (Xo rfl rfl) ⟨g3, [rowC nb (cells.set 0 (.int .u8 c)), Vk b (.slice (some ⟨nb, 0, none⟩) (0 + 1) 64)], Ghost.tr hg2 hg3, hs, rfl, fin hc rfl (by simp) (by omega)⟩
 ·unfold Vk rowC
  repeat' (first | refine zA4 ?_ | refine zBD (fun h => ?_) fun h => ?_ | fail)
  refine zswap ?_;refine zcl (fun g2 (_ : g ≤ g2) => tryGrow_spec g2 b r bs.length cap 1 h3 h4 (by omega)) fun v g2 L2 hg2 hp => ?_
  split at hp
  ·obtain ⟨rfl, rfl⟩ := hp;unfold Vk
   repeat' (first | refine zA4 ?_ | refine zBD (fun h => ?_) fun h => ?_ | fail)
   intro w hs;refine wl_ixO rfl rfl rfl rfl rfl (by omega) rfl rfl ?_;refine wl_stS hs 1 rfl rfl rfl (List.getElem?_eq_getElem (by simp; omega)) rfl rfl rfl rfl ?_;clear hs; intro w hs;revert w hs
   repeat' (first | refine zA4 ?_ | refine zBD (fun h => ?_) fun h => ?_ | fail)
   refine zswap ?_;intro w hs;refine Xb (Xo rfl rfl) ⟨g2, _, hg2, ?_, rfl, fin (nb := r) h1 h2 (by omega) h4⟩;simpa [rowC, Vk] using hs
  ·obtain ⟨rfl, rfl⟩ := hp;unfold Vk
   repeat' (first | refine zA4 ?_ | refine zBD (fun h => ?_) fun h => ?_ | fail)
   refine zswap ?_;refine zcl (fun g3 (_ : g2 ≤ g3) => grow_spec g3 b r bs.length cap 1 cells h1 h3 (by omega) (by omega) (by omega) (by rw [h2]; exact u8s_one _)) fun v g3 L3 hg3 hp => ?_
   obtain ⟨rfl, nb, cap2, cells2, rfl, q1, q2, q3, q4⟩ := hp;unfold Vk rowC
   repeat' (first | refine zA4 ?_ | refine zBD (fun h => ?_) fun h => ?_ | fail)
   intro w hs;refine wl_ixO rfl rfl rfl rfl rfl (by omega) rfl rfl ?_;refine wl_stS hs 0 rfl rfl rfl (List.getElem?_eq_getElem (by simp; omega)) rfl rfl rfl rfl ?_;clear hs; intro w hs;revert w hs
   repeat' (first | refine zA4 ?_ | refine zBD (fun h => ?_) fun h => ?_ | fail)
   intro w hs;refine Xb (Xo rfl rfl) ⟨g3, _, Ghost.tr hg2 hg3, ?_, rfl, fin (nb := nb) q1 (q2.trans h2) q3 q4⟩;simpa [rowC, Vk] using hs
end
def beB : Nat → Int → List Int
 | 0, _ => []
 | k + 1, n => n / 256 ^ k % 256 :: beB k n
mutual
def Qr : ValT → List Int
 | .mk k n g d s l m => k % 256 :: (if k = 1 then [n % 256] else if k = 2 then (if g then 1 else 0) :: (beB 1 d.length ++ d.flatMap (beB 4)) else if k = 3 ∨ k = 4 then beB 1 s.toList.length ++ s.toList.map (fun c => (c.toNat : Int)) else beB 2 l.length ++ (Uo l ++ Uo m))
def Uo : List ValT → List Int
 | [] => []
 | v :: r => Qr v ++ Uo r
end
theorem Yq : ∀ (k : Nat) (n : Int), (beB k n).length = k
 | 0, _ => rfl
 | k + 1, n => by rw [beB, List.length_cons, Yq k n]
theorem beB1 {a b : Int} (ha : 0 ≤ a ∧ a < 256) (hb : 0 ≤ b ∧ b < 256) (h : beB 1 a = beB 1 b) : a = b := by
 simp only [beB, List.cons.injEq, and_true] at h
 omega
theorem beB2 {a b : Int} (ha : 0 ≤ a ∧ a < 65536) (hb : 0 ≤ b ∧ b < 65536) (h : beB 2 a = beB 2 b) : a = b := by
 simp only [beB, List.cons.injEq, and_true] at h
 omega
theorem beB4 {a b : Int} (ha : 0 ≤ a ∧ a < 4294967296) (hb : 0 ≤ b ∧ b < 4294967296) (h : beB 4 a = beB 4 b) : a = b := by
 simp only [beB, List.cons.injEq, and_true] at h
 omega
theorem app_len {a b s t : List Int} (hl : a.length = b.length) (h : a ++ s = b ++ t) : a = b ∧ s = t := List.append_inj h hl
theorem flat4 : ∀ {d e : List Int}, (∀ x ∈ d, 0 ≤ x ∧ x ≤ 999999999) → (∀ x ∈ e, 0 ≤ x ∧ x ≤ 999999999) → d.length = e.length → ∀ {s t : List Int}, d.flatMap (beB 4) ++ s = e.flatMap (beB 4) ++ t → d = e ∧ s = t
 | [], [], _, _, _, _, _, h => ⟨rfl, h⟩
 | a :: d, b :: e, hd, he, hl, s, t, h => by
  simp only [List.flatMap_cons, List.append_assoc] at h
  obtain ⟨h1, h2⟩ := app_len (by rw [Yq, Yq]) h;have h3 := beB4 (by have := hd a (by simp); omega) (by have := he b (by simp); omega) h1;obtain ⟨h4, h5⟩ := flat4 (fun x hx => hd x (by simp [hx])) (fun x hx => he x (by simp [hx])) (by simpa using hl) h2;exact ⟨by rw [h3, h4], h5⟩
theorem strs_inj : ∀ {a b : List UInt8}, a.length = b.length → ∀ {s t : List Int}, a.map (fun c => (c.toNat : Int)) ++ s = b.map (fun c => (c.toNat : Int)) ++ t → a = b ∧ s = t
 | [], [], _, _, _, h => ⟨rfl, h⟩
 | x :: a, y :: b, hl, s, t, h => by
  simp only [List.map_cons, List.cons_append, List.cons.injEq] at h
  obtain ⟨h1, h2⟩ := strs_inj (by simpa using hl) h.2;have : x = y := UInt8.toNat_inj.1 (by omega);exact ⟨by rw [this, h1], h2⟩
def Shp (k n : Int) (g : Bool) (d : List Int) (s : ByteArray) (l m : List ValT) : Prop :=
 (k = 1 ∧ (n = 0 ∨ n = 1) ∧ g = false ∧ d = [] ∧ s.toList = [] ∧ l = [] ∧ m = []) ∨ (k = 2 ∧ n = 0 ∧ s.toList = [] ∧ l = [] ∧ m = [] ∧ d.length ≤ 40 ∧ ∀ x ∈ d, 0 ≤ x ∧ x ≤ 999999999) ∨
 ((k = 3 ∨ k = 4) ∧ n = 0 ∧ g = false ∧ d = [] ∧ l = [] ∧ m = [] ∧ s.toList.length ≤ 200) ∨ (k = 5 ∧ n = 0 ∧ g = false ∧ d = [] ∧ s.toList = [] ∧ m = [] ∧ l.length ≤ 4000 ∧ Qq l = true) ∨
 (k = 6 ∧ n = 0 ∧ g = false ∧ d = [] ∧ s.toList = [] ∧ m.length = l.length ∧ l.length ≤ 4000 ∧ Qq l = true ∧ Qq m = true)
theorem numB_false {k n : Int} {g : Bool} {d : List Int} {s : ByteArray} {l m : List ValT} (h : (!numB (.mk k n g d s l m)) = true) : g = false ∧ d = [] := by
 simp [numB, ValT.neg, ValT.d] at h
 exact ⟨h.1, List.length_eq_zero_iff.1 (by have := of_decide_eq_false h.2; omega)⟩
theorem size_toL (s : ByteArray) : s.toList.length = s.size := by rw [ByteArray.toList_eq]; rfl
theorem sz0 {s : ByteArray} (h : (s.size == 0) = true) : s.toList = [] := by
 have : s.size = 0 := by simpa using h
 rw [← size_toL] at this
 exact List.length_eq_zero_iff.1 this
theorem shp {k n : Int} {g : Bool} {d : List Int} {s : ByteArray} {l m : List ValT} (h : okR (.mk k n g d s l m) = true) : Shp k n g d s l m := by
 rw [okR] at h
 simp only [leafB, ValT.kind, ValT.n, ValT.s, ValT.d, ValT.neg] at h
 by_cases k1 : k = 1
 ·subst k1;simp only [if_true, Bool.and_eq_true, beq_iff_eq, Bool.or_eq_true] at h
  obtain ⟨⟨⟨h1, h2⟩, h3⟩, h4⟩ := h;obtain ⟨q1, q2⟩ := numB_false h2;have h4 : l.length = 0 ∧ m.length = 0 := by simpa using h4
  exact .inl ⟨rfl, h1, q1, q2, sz0 (by simpa using h3), List.length_eq_zero_iff.1 h4.1, List.length_eq_zero_iff.1 h4.2⟩
 ·by_cases k2 : k = 2
  ·subst k2;simp only [k1, if_false, if_true, Bool.and_eq_true, beq_iff_eq, Jf] at h
   obtain ⟨⟨⟨h1, h2⟩, h3⟩, h4⟩ := h;have h4 : l.length = 0 ∧ m.length = 0 := by simpa using h4
   refine .inr (.inl ⟨rfl, h1, sz0 (by simpa using h3), List.length_eq_zero_iff.1 h4.1, List.length_eq_zero_iff.1 h4.2, by simpa using h2.1.1.1, fun x hx => ?_⟩);have := List.all_eq_true.1 h2.2 x hx;simpa using this
  ·by_cases k3 : k = 3
   ·subst k3;simp only [k1, k2, if_false, if_true, Bool.and_eq_true, beq_iff_eq, isStrB] at h
    obtain ⟨⟨⟨h1, h2⟩, h3⟩, h4⟩ := h;obtain ⟨q1, q2⟩ := numB_false h2;have h4 : l.length = 0 ∧ m.length = 0 := by simpa using h4
    exact .inr (.inr (.inl ⟨.inl rfl, h1, q1, q2, List.length_eq_zero_iff.1 h4.1, List.length_eq_zero_iff.1 h4.2, by rw [size_toL]; simpa using h3.2⟩))
   ·by_cases k4 : k = 4
    ·subst k4;simp only [k1, k2, k3, if_false, if_true, Bool.and_eq_true, beq_iff_eq, isNameB] at h
     obtain ⟨⟨⟨h1, h2⟩, h3⟩, h4⟩ := h;obtain ⟨q1, q2⟩ := numB_false h2;have h4 : l.length = 0 ∧ m.length = 0 := by simpa using h4
     have h5 : s.toList.length ≤ 40 := by simpa using h3.1.1.1.1.2
     exact .inr (.inr (.inl ⟨.inr rfl, h1, q1, q2, List.length_eq_zero_iff.1 h4.1, List.length_eq_zero_iff.1 h4.2, by omega⟩))
    ·by_cases k5 : k = 5 ∨ k = 6
     ·simp only [k1, k2, k3, k4, k5, if_false, if_true, Bool.and_eq_true, beq_iff_eq, not_true_eq_false] at h
      obtain ⟨⟨⟨h1, h2⟩, h3⟩, h4⟩ := h;obtain ⟨q1, q2⟩ := numB_false h2;have q3 := sz0 (s := s) (by simpa using h3)
      split at h4
      ·cases h4
      ·rename_i h5;simp only [Bool.and_eq_true] at h4
       rcases k5 with rfl | rfl
       ·refine .inr (.inr (.inr (.inl ⟨rfl, h1, q1, q2, q3, ?_, by omega, h4.1.1⟩)));exact List.length_eq_zero_iff.1 (by omega)
       ·exact .inr (.inr (.inr (.inr ⟨rfl, h1, q1, q2, q3, by omega, by omega, h4.1.1, h4.1.2⟩)))
     ·simp [k1, k2, k3, k4, k5] at h
theorem Shp.kind {k n : Int} {g : Bool} {d : List Int} {s : ByteArray} {l m : List ValT} (h : Shp k n g d s l m) : 1 ≤ k ∧ k ≤ 6 := by
 rcases h with h | h | h | h | h <;> obtain ⟨h, _⟩ := h <;> omega
mutual
theorem encV_inj : ∀ (a b : ValT), okR a = true → okR b = true → ∀ {x y : List Int}, Qr a ++ x = Qr b ++ y → a = b ∧ x = y
 | .mk k n g d s l m, .mk k' n' g' d' s' l' m', ha, hb, x, y, h => by
  have sa := shp ha;have sb := shp hb;rw [Qr, Qr] at h
  simp only [List.cons_append, List.cons.injEq] at h
  obtain ⟨hk, h⟩ := h;have ek : k = k' := by have := sa.kind; have := sb.kind; omega
  subst ek;have il : Qq l = true → Qq l' = true → l.length = l'.length → ∀ {x y : List Int}, Uo l ++ x = Uo l' ++ y → l = l' ∧ x = y := fun h1 h2 h3 _ _ h => encL_inj l l' h1 h2 h3 h
  have im : Qq m = true → Qq m' = true → m.length = m'.length → ∀ {x y : List Int}, Uo m ++ x = Uo m' ++ y → m = m' ∧ x = y := fun h1 h2 h3 _ _ h => encL_inj m m' h1 h2 h3 h
  rcases sa with ⟨rfl, a1, a2, a3, a4, a5, a6⟩ | ⟨rfl, a1, a2, a3, a4, a5, a6⟩ | ⟨a0, a1, a2, a3, a4, a5, a6⟩ | ⟨rfl, a1, a2, a3, a4, a5, a6, a7⟩ | ⟨rfl, a1, a2, a3, a4, a5, a6, a7, a8⟩
  ·rcases sb with ⟨_, b1, b2, b3, b4, b5, b6⟩ | ⟨b0, _⟩ | ⟨b0, _⟩ | ⟨b0, _⟩ | ⟨b0, _⟩ <;> first | omega | skip
   simp only [if_true, List.cons_append, List.nil_append, List.cons.injEq] at h
   have en : n = n' := by omega
   rw [en, a2, b2, a3, b3, toList_inj (a4.trans b4.symm), a5, b5, a6, b6];exact ⟨rfl, h.2⟩
  ·rcases sb with ⟨b0, _⟩ | ⟨_, b1, b2, b3, b4, b5, b6⟩ | ⟨b0, _⟩ | ⟨b0, _⟩ | ⟨b0, _⟩ <;> first | omega | skip
   simp only [show ¬ (2 : Int) = 1 by decide, if_false, if_true, List.cons_append, List.cons.injEq, List.append_assoc] at h
   obtain ⟨h1, h⟩ := h;obtain ⟨h2, h⟩ := app_len (by rw [Yq, Yq]) h;have h3 := beB1 (by omega) (by omega) h2;obtain ⟨h4, h5⟩ := flat4 a6 b6 (by omega) h;have eg : g = g' := by cases g <;> cases g' <;> simp_all
   rw [eg, a1, b1, h4, toList_inj (a2.trans b2.symm), a3, b3, a4, b4];exact ⟨rfl, h5⟩
  ·rcases sb with ⟨b0, _⟩ | ⟨b0, _⟩ | ⟨b0, b1, b2, b3, b4, b5, b6⟩ | ⟨b0, _⟩ | ⟨b0, _⟩ <;> first | omega | skip
   rw [if_neg (by omega), if_neg (by omega), if_pos a0, if_neg (by omega), if_neg (by omega), if_pos a0] at h
   simp only [List.append_assoc] at h
   obtain ⟨h2, h⟩ := app_len (by rw [Yq, Yq]) h;have h3 := beB1 (by omega) (by omega) h2;obtain ⟨h4, h5⟩ := strs_inj (by omega) h;rw [a1, b1, a2, b2, a3, b3, toList_inj h4, a4, b4, a5, b5];exact ⟨rfl, h5⟩
  ·rcases sb with ⟨b0, _⟩ | ⟨b0, _⟩ | ⟨b0, _⟩ | ⟨_, b1, b2, b3, b4, b5, b6, b7⟩ | ⟨b0, _⟩ <;> first | omega | skip
   rw [if_neg (by omega), if_neg (by omega), if_neg (by omega), if_neg (by omega), if_neg (by omega), if_neg (by omega)] at h
   simp only [List.append_assoc] at h
   obtain ⟨h2, h⟩ := app_len (by rw [Yq, Yq]) h;have h3 := beB2 (by omega) (by omega) h2;obtain ⟨h4, h5⟩ := il a7 b7 (by omega) h;rw [a5, b5, Uo] at h5
   rw [a1, b1, a2, b2, a3, b3, toList_inj (a4.trans b4.symm), h4, a5, b5];exact ⟨rfl, h5⟩
  ·rcases sb with ⟨b0, _⟩ | ⟨b0, _⟩ | ⟨b0, _⟩ | ⟨b0, _⟩ | ⟨_, b1, b2, b3, b4, b5, b6, b7, b8⟩ <;> first | omega | skip
   rw [if_neg (by omega), if_neg (by omega), if_neg (by omega), if_neg (by omega), if_neg (by omega), if_neg (by omega)] at h
   simp only [List.append_assoc] at h
   obtain ⟨h2, h⟩ := app_len (by rw [Yq, Yq]) h;have h3 := beB2 (by omega) (by omega) h2;obtain ⟨h4, h5⟩ := il a7 b7 (by omega) h;obtain ⟨h6, h7⟩ := im a8 b8 (by omega) h5;rw [a1, b1, a2, b2, a3, b3, toList_inj (a4.trans b4.symm), h4, h6];exact ⟨rfl, h7⟩
theorem encL_inj : ∀ (l l' : List ValT), Qq l = true → Qq l' = true → l.length = l'.length → ∀ {x y : List Int}, Uo l ++ x = Uo l' ++ y → l = l' ∧ x = y
 | [], [], _, _, _, x, y, h => ⟨rfl, by rw [Uo] at h; exact h⟩
 | a :: s, b :: t, ha, hb, hl, x, y, h => by
  rw [Qq, Bool.and_eq_true] at ha hb
  rw [Uo, Uo, List.append_assoc, List.append_assoc] at h
  obtain ⟨h1, h2⟩ := encV_inj a b ha.1 hb.1 h;obtain ⟨h3, h4⟩ := encL_inj s t ha.2 hb.2 (by simpa using hl) h2;exact ⟨by rw [h1, h3], h4⟩
end
mutual
theorem encV_len : ∀ (v : ValT), okR v = true → (Qr v).length ≤ 300 * cntV v
 | .mk k n g d s l m, h => by
  have hl := fun h => encL_len l h
  have hm := fun h => encL_len m h
  rw [Qr, cntV, List.length_cons]
  rcases shp h with ⟨rfl, a1, a2, a3, a4, a5, a6⟩ | ⟨rfl, a1, a2, a3, a4, a5, a6⟩ | ⟨a0, a1, a2, a3, a4, a5, a6⟩ | ⟨rfl, a1, a2, a3, a4, a5, a6, a7⟩ | ⟨rfl, a1, a2, a3, a4, a5, a6, a7, a8⟩
  ·simp; omega
  ·simp only [show ¬ (2 : Int) = 1 by decide, if_false, if_true, List.length_cons, List.length_append, Yq]
   have : (d.flatMap (beB 4)).length = d.length * 4 := by
    clear h a5 a6 hl hm
    induction d with
    | nil => rfl
    | cons x d ih => rw [List.flatMap_cons, List.length_append, Yq, ih, List.length_cons]; omega
   omega
  ·rw [if_neg (by omega), if_neg (by omega), if_pos a0, List.length_append, Yq, List.length_map]; omega
  ·rw [if_neg (by omega), if_neg (by omega), if_neg (by omega), List.length_append, Yq, List.length_append];have := hl a7;rw [a5, Uo, List.length_nil]; omega
  ·rw [if_neg (by omega), if_neg (by omega), if_neg (by omega), List.length_append, Yq, List.length_append];have := hl a7;have := hm a8;omega
theorem encL_len : ∀ (l : List ValT), Qq l = true → (Uo l).length ≤ 300 * Zz l
 | [], _ => by rw [Uo]; simp
 | v :: r, h => by
  rw [Qq, Bool.and_eq_true] at h
  have h1 := encV_len v h.1;have h2 := encL_len r h.2;rw [Uo, Zz, List.length_append]; omega
end
theorem validR_ok {v : ValT} (h : Zn v = true) : okR v = true ∧ cntV v ≤ 8000 := by
 simp only [Zn, Bool.and_eq_true, decide_eq_true_eq] at h
 exact ⟨h.2, by omega⟩
def Km : List ValT → List Int
 | [] => []
 | v :: r => beB 4 (Qr v).length ++ (Qr v ++ Km r)
theorem keyS_inj : ∀ {s t : List ValT}, s.all Zn = true → t.all Zn = true → Km s = Km t → s = t
 | [], [], _, _, _ => rfl
 | [], v :: r, _, _, h => by have := congrArg List.length h; simp [Km, Yq] at this; omega
 | v :: r, [], _, _, h => by have := congrArg List.length h; simp [Km, Yq] at this
 | v :: r, u :: t, h1, h2, h => by
  rw [List.all_cons, Bool.and_eq_true] at h1 h2
  rw [Km, Km] at h
  obtain ⟨_, h⟩ := app_len (by rw [Yq, Yq]) h;obtain ⟨e1, h⟩ := encV_inj v u (validR_ok h1.1).1 (validR_ok h2.1).1 h;rw [e1, keyS_inj h1.2 h2.2 h]
section
open Go.RowKit
theorem beB_get : ∀ (k : Nat) (n : Int) (i : Nat), i < k → (beB k n)[i]? = some (n / 256 ^ (k - 1 - i) % 256)
 | k + 1, n, 0, _ => by simp [beB]
 | k + 1, n, i + 1, h => by
  have := beB_get k n i (by omega);simp only [beB, List.getElem?_cons_succ, this];rw [show k - 1 - i = k + 1 - 1 - (i + 1) by omega]
theorem beB_take {k : Nat} {n : Int} {i : Nat} (h : i < k) : (beB k n).take (i + 1) = (beB k n).take i ++ [n / 256 ^ (k - 1 - i) % 256] := by
 rw [List.take_add_one, beB_get k n i h]; rfl
set_option maxHeartbeats 4000000 in
theorem number_spec (g : Ghost) (b : Nat) (bs : List Int) (n : Int) (k : Nat) (L : Own) (hB : BufO b bs L) (hk : k ≤ 8) (hl : bs.length + k ≤ 1000000000) :
  Cl PP 158 [.pointer (some ⟨b, 0, none⟩), .int .i64 n, .int .i64 (k : Int)] g L fun _ L' v => v = .tuple #[] ∧ BufO b (bs ++ beB k n) L' := by
 refine Qm Tryz.func158 rfl rfl Tryz.ntmps158 rfl fun F => ?_
 repeat' (first | refine zA4 ?_ | refine zBD (fun h => ?_) fun h => ?_ | fail)
 refine zLg (σ := Nat × Ghost × Own) (fun x => [(6, .int .i64 ((x.1 : Int) - 1))]) [0, 1] (fun x => x.2.1) (fun x => x.2.2 ++ F) (fun x => x.1 ≤ k ∧ g ≤ x.2.1 ∧ BufO b (bs ++ (beB k n).take (k - x.1)) x.2.2) (fun x => x.1) (k, g, L) ⟨Nat.le_refl _, Ghost.rfl', by simpa using hB⟩ rfl rfl fun (j, g1, L1) ⟨hj, hg1, hB1⟩ => ?_
 simp only at hj hg1 hB1
 dsimp only
 repeat' (first | refine zA4 ?_ | refine zBD (fun h => ?_) fun h => ?_ | fail)
 ·obtain ⟨i, rfl⟩ : ∃ i, j = i + 1 := ⟨j - 1, by omega⟩
  have e1 : ((i + 1 : Nat) : Int) - 1 = (i : Int) := by omega
  rw [e1];refine zDR L1 Yd (by kernel_rfl) rfl fun gd hgd => ?_
  repeat (first | refine sg_p rfl rfl ?_)
  refine sg_arK (8 * (i : Int)) rfl rfl rfl (by omega) rfl ?_;refine sg_shr rfl rfl (by omega) rfl ?_;refine sg_conv _ rfl (byteOf n i (by omega)) rfl rfl rfl rfl ?_;refine Uf L1 [] (by simp) rfl rfl (fun g2 hg2 => Kv g2 b _ (n / 256 ^ i % 256) L1 hB1 (by simp [Yq]; omega)) ?_;refine Xy ?_;rintro g2 hg2 v L2 ⟨ga, hga, rfl, hB2⟩
  have hB3 : BufO b (bs ++ (beB k n).take (k - i)) L2 := by
   have e2 : k - i = (k - (i + 1)) + 1 := by omega
   rw [e2, beB_take (by omega), show k - 1 - (k - (i + 1)) = i by omega, ← List.append_assoc];exact hB2
  rw [show L2 ++ [] ++ F = L2 ++ F by simp]
  repeat' (first | refine zA4 ?_ | refine zBD (fun h => ?_) fun h => ?_ | fail)
  refine Zo (i, g2, L2) ⟨by dsimp only; omega, Ghost.tr hg1 (Ghost.tr hgd hg2), hB3⟩ (by dsimp only; omega) fun _ h => h
 ·have e0 : j = 0 := by omega
  subst e0;rintro w ⟨g3, hg3, hs⟩;refine wk_end (res0 rfl) ⟨g3, L1, Ghost.tr hg1 hg3, .of hs, rfl, ?_⟩;rw [Nat.sub_zero, List.take_of_length_le (by rw [Yq]; exact Nat.le_refl _)] at hB1
  exact hB1
theorem wr_take {cells : List Value} {bs xs : List Int} {o : Nat} (h1 : cells.take bs.length = u8s bs) (ho : o = bs.length ∨ (o = 0 ∧ xs = [])) (hl : bs.length + xs.length ≤ cells.length) : (cells.take o ++ u8s xs ++ cells.drop (o + xs.length)).take (bs ++ xs).length = u8s (bs ++ xs) := by
 rcases ho with rfl | ⟨rfl, rfl⟩
 ·rw [h1, ← u8s_app, List.take_append_of_le_length (by rw [u8s_len]; exact Nat.le_refl _), List.take_of_length_le (by rw [u8s_len]; exact Nat.le_refl _)]
 ·simpa [u8s] using h1
set_option maxHeartbeats 4000000 in
theorem writeStr_spec (g : Ghost) (b : Nat) (bs : List Int) (str : ByteArray) (L : Own) (hB : BufO b bs L) (h0 : bs ≠ []) (hl : bs.length + str.size ≤ 1000000000) :
  Cl PP 159 [.pointer (some ⟨b, 0, none⟩), .string str] g L fun _ L' _ => BufO b (bs ++ strI str) L' := by
 have hsl : str.toList.length = str.size := szL str
 have fin : ∀ {nb cap2 : Nat} {cells : List Value}, cells.length = cap2 → cells.take bs.length = u8s bs → bs.length + str.size ≤ cap2 → cap2 ≤ 9223372036854775807 → BufO b (bs ++ strI str) [rowC nb (cells.take (if cap2 = bs.length then 0 else bs.length) ++ u8s (strI str) ++ cells.drop ((if cap2 = bs.length then 0 else bs.length) + str.size)), Vk b (.slice (some ⟨nb, 0, none⟩) (bs.length + str.size) cap2)] := fun {nb cap2 cells} h1 h2 h3 h4 => by
  refine .inr ⟨nb, cap2, _, by rw [List.length_append, strI_len], ?_, ?_, by rw [List.length_append, strI_len]; exact h3, h4⟩
  ·rw [List.length_append, List.length_append, List.length_take, List.length_drop, u8s_len, strI_len];split <;> omega
  ·have := wr_take (cells := cells) (bs := bs) (xs := strI str) (o := if cap2 = bs.length then 0 else bs.length) h2 (by
    split
    ·exact .inr ⟨rfl, List.length_eq_zero_iff.1 (by rw [strI_len]; omega)⟩
    ·exact .inl rfl) (by rw [strI_len]; omega)
   rw [strI_len] at this
   exact this
 refine Qm Tryz.func159 rfl rfl Tryz.ntmps159 rfl fun F => ?_
 rcases hB with ⟨rfl, _⟩ | ⟨r, cap, cells, rfl, h1, h2, h3, h4⟩
 ·exact absurd rfl h0
 unfold Vk rowC
 repeat' (first | refine zA4 ?_ | refine zBD (fun h => ?_) fun h => ?_ | fail)
 refine zswap ?_
 refine zcl (fun g2 (_ : g ≤ g2) => tryGrow_spec g2 b r bs.length cap str.toList.length h3 h4 (by omega)) fun v g2 L2 hg2 hp => ?_
 split at hp
 ·obtain ⟨rfl, rfl⟩ := hp;unfold Vk
  repeat' (first | refine zA4 ?_ | refine zBD (fun h => ?_) fun h => ?_ | fail)
  intro w hs;refine wl_sliceFrom rfl rfl (by omega) rfl rfl rfl rfl rfl rfl ?_;revert w hs
  repeat' (first | refine zA4 ?_ | refine zBD (fun h => ?_) fun h => ?_ | fail)
  intro w hs;refine wl_copyS hs 1 rfl rfl rfl rfl rfl rfl rfl (by omega) (by simp only [h1]; split <;> omega) rfl rfl ?_;clear hs; intro w hs;revert w hs
  repeat' (first | refine zA4 ?_ | refine zBD (fun h => ?_) fun h => ?_ | fail)
  refine zswap ?_;intro w hs;refine Xb (res2 rfl rfl rfl) ⟨g2, _, hg2, ?_, fin (nb := r) h1 h2 (by omega) h4⟩;simpa [rowC, Vk, hsl] using hs
 ·obtain ⟨rfl, rfl⟩ := hp;unfold Vk
  repeat' (first | refine zA4 ?_ | refine zBD (fun h => ?_) fun h => ?_ | fail)
  refine zswap ?_;refine zcl (fun g3 (_ : g2 ≤ g3) => grow_spec g3 b r bs.length cap str.toList.length cells h1 h3 (by omega) (by omega) (by omega) (by rw [h2]; exact u8s_one _)) fun v g3 L3 hg3 hp => ?_
  obtain ⟨rfl, nb, cap2, cells2, rfl, q1, q2, q3, q4⟩ := hp;unfold Vk rowC
  repeat' (first | refine zA4 ?_ | refine zBD (fun h => ?_) fun h => ?_ | fail)
  intro w hs;refine wl_sliceFrom rfl rfl (by omega) rfl rfl rfl rfl rfl rfl ?_;revert w hs
  repeat' (first | refine zA4 ?_ | refine zBD (fun h => ?_) fun h => ?_ | fail)
  intro w hs;refine wl_copyS hs 0 rfl rfl rfl rfl rfl rfl rfl (by omega) (by simp only [q1]; split <;> omega) rfl rfl ?_;clear hs; intro w hs;revert w hs
  repeat' (first | refine zA4 ?_ | refine zBD (fun h => ?_) fun h => ?_ | fail)
  intro w hs;refine Xb (res2 rfl rfl rfl) ⟨g3, _, Ghost.tr hg2 hg3, ?_, fin (nb := nb) q1 (q2.trans h2) (by omega) q4⟩;simpa [rowC, Vk, hsl] using hs
theorem bytes_spec (g : Ghost) (b : Nat) (bs : List Int) (L : Own) (hB : BufO b bs L) (h0 : bs ≠ []) : Cl PP 140 [.pointer (some ⟨b, 0, none⟩)] g L fun _ L' v => L' = L ∧ ∃ r cap cells, v = .slice (some ⟨r, 0, none⟩) bs.length cap ∧ L = [rowC r cells, Vk b v] ∧ cells.take bs.length = u8s bs ∧ cells.length = cap ∧ bs.length ≤ cap := by
 refine Qm Tryz.func140 rfl rfl Tryz.ntmps140 rfl fun F => ?_
 rcases hB with ⟨rfl, _⟩ | ⟨r, cap, cells, rfl, h1, h2, h3, h4⟩
 ·exact absurd rfl h0
 unfold Vk rowC
 repeat' (first | refine zA4 ?_ | refine zBD (fun h => ?_) fun h => ?_ | fail)
 refine zD Yd (by kernel_rfl) rfl fun gd hgd => ?_
 repeat (first | refine sg_p rfl rfl ?_ | refine Xv 1 rfl rfl rfl rfl rfl rfl ?_)
 refine sg_slice0 rfl rfl h3 rfl rfl rfl rfl ?_
 repeat (first | refine sg_p rfl rfl ?_)
 refine Xy ?_
 intro g1 hg1 w hs
 exact Xb (Xo rfl rfl) ⟨g1, [(r, Xa cells 5), (b, Xa [.slice (some ⟨r, 0, none⟩) bs.length cap, .int .i64 0, .int .i8 0] 206)], Ghost.tr hgd hg1, hs, rfl, r, cap, cells, rfl, rfl, h2, h1, h3⟩
end
section
open Go.RowKit
theorem kVal_one (k : Nat) : ∀ g cs x, (Ud k).R g cs x → cs.all Value.oneCell' = true := fun _ _ _ h => ValRn.one h
theorem kInt_one : ∀ g cs x, kInt.R g cs x → cs.all Value.oneCell' = true := fun g cs x (h : cs = [.int .i64 x]) => by rw [h]; rfl
theorem growV_spec (g : Ghost) (n : Nat) (hn : n ≤ 1000000000) : Cl PP 172 [.slice none 0 0, .int .i64 (n : Int)] g [] fun _ L' v => OwnS 85 7 v 0 [] L' := by
 refine Qm Tryz.func172 rfl rfl Tryz.ntmps172 rfl fun F => ?_
 repeat' (first | refine zA4 ?_ | refine zBD (fun h => ?_) fun h => ?_ | fail)
 intro w hs
 refine wl_cap rfl rfl rfl rfl rfl ?_
 revert w hs
 repeat' (first | refine zA4 ?_ | refine zBD (fun h => ?_) fun h => ?_ | fail)
 ·intro w hs;refine wl_cap rfl rfl rfl rfl rfl ?_;refine wl_slice rfl rfl rfl (by omega) (by omega) rfl rfl rfl rfl rfl ?_;revert w hs
  repeat' (first | refine zA4 ?_ | refine zBD (fun h => ?_) fun h => ?_ | fail)
  intro w hs;refine wl_appendZ (n := n) hs rfl rfl (by omega) rfl rfl rfl rfl rfl rfl rfl rfl rfl ?_;clear hs;intro b cap l hc hl
  repeat' (first | refine zA4 ?_ | refine zBD (fun h => ?_) fun h => ?_ | fail)
  intro w hs;refine wl_sliceTo 0 rfl rfl (by omega) rfl rfl rfl rfl rfl ?_;revert w hs
  repeat' (first | refine zA4 ?_ | refine zBD (fun h => ?_) fun h => ?_ | fail)
  intro w hs;exact Xb (Xo rfl rfl) ⟨g, [(b, Xa l 85)], Ghost.rfl', hs, .inr ⟨b, cap, l, rfl, by simp, by simpa using hl, by omega, by simp⟩⟩
 ·intro w hs;exact Xb (Xo rfl rfl) ⟨g, [], Ghost.rfl', hs, OwnS.nil _ _⟩
set_option maxHeartbeats 2000000 in
theorem concatV_spec (k : Nat) (g : Ghost) (v : Value) (LM : List (List ValT)) (hv : RS (kSl (Ud k)) g v LM) (hl : LM.length ≤ 1000000) (hb : LM.flatten.length ≤ 1000000) : Pr PP 160 [v] g fun g2 r => RS (Ud k) g2 r LM.flatten := fun g' hg => by
 have hv := hv.mono hg
 obtain ⟨a, c, rfl⟩ := hv.form
 have hfl : ∀ i, i ≤ LM.length → (LM.take i).flatten.length ≤ 1000000 := fun i _ => by
  have : LM.flatten = (LM.take i).flatten ++ (LM.drop i).flatten := by rw [← List.flatten_append, List.take_append_drop]
  rw [this, List.length_append] at hb; omega
 have hst : ∀ i (hi : i < LM.length), (LM.take (i + 1)).flatten = (LM.take i).flatten ++ LM[i] := fun i hi => by rw [tkS hi, List.flatten_append]; simp
 refine cl_pr (fun _ _ _ hg h => h.mono hg) Tryz.func160 rfl rfl Tryz.ntmps160 rfl fun F => ?_
 repeat' (first | refine zA4 ?_ | refine zBD (fun h => ?_) fun h => ?_ | fail)
 refine zL (fun i : Nat => [(11, .int .i64 (i : Int)), (3, .int .i64 ((LM.take i).flatten.length : Int))]) [0, 9, 10] (fun i => i ≤ LM.length) (fun i => LM.length - i) 0 (Nat.zero_le _) (fun i hi => ?_)
 repeat' (first | refine zA4 ?_ | refine zBD (fun h => ?_) fun h => ?_ | fail)
 ·have hil : i < LM.length := by omega
  obtain ⟨b1, c1', e1, r1⟩ := hv.sl (i := i) hil;have q1 := hfl (i + 1) hil;rw [hst i hil, List.length_append] at q1
  repeat' (first | refine zA4 ?_ | refine zBD (fun h => ?_) fun h => ?_ | fail)
  ·refine Vc (i + 1) (by omega) (by omega) ⟨rfl, congrArg (fun x => some (Value.int .i64 x)) ?_, by repeat (first | exact trivial | refine ⟨rfl, ?_⟩)⟩;rw [hst i hil, List.length_append]; omega
 ·rw [List.take_of_length_le (by omega)];refine zcl0 (fun g1 (_ : g' ≤ g1) => growV_spec g1 LM.flatten.length (by omega)) fun v1 g1 H1 hg1 ho => ?_
  have hB0 : Bld (Ud k) 85 g1 v1 [] H1 := ⟨[], ho, fun i hi => by simp at hi⟩
  have hv1 := hv.mono hg1
  repeat' (first | refine zA4 ?_ | refine zBD (fun h => ?_) fun h => ?_ | fail)
  refine zLg (σ := Nat × Value × Own) (fun x => [(27, .int .i64 (x.1 : Int)), (6, x.2.1)]) [0, 25, 26] (fun _ => g1) (fun x => x.2.2 ++ F) (fun x => x.1 ≤ LM.length ∧ Bld (Ud k) 85 g1 x.2.1 (LM.take x.1).flatten x.2.2) (fun x => LM.length - x.1) (0, v1, H1) ⟨Nat.zero_le _, hB0⟩ rfl rfl fun (i, v2, H2) ⟨hi, hB⟩ => ?_
  simp only at hi hB
  dsimp only
  repeat' (first | refine zA4 ?_ | refine zBD (fun h => ?_) fun h => ?_ | fail)
  ·have hil : i < LM.length := by omega
   obtain ⟨b1, c1', e1, r1⟩ := hv1.sl (i := i) hil;have q1 := hfl (i + 1) hil;rw [hst i hil, List.length_append] at q1
   repeat' (first | refine zA4 ?_ | refine zBD (fun h => ?_) fun h => ?_ | fail)
   refine zab hB r1 (kVal_one k) fun v3 H3 hB3 => ?_
   repeat' (first | refine zA4 ?_ | refine zBD (fun h => ?_) fun h => ?_ | fail)
   exact Zo (i + 1, v3, H3) ⟨by dsimp only; omega, by dsimp only; rw [hst i hil]; exact hB3⟩ (by dsimp only; omega) fun _ h => h
  ·intro w hs;rw [List.take_of_length_le (by omega)] at hB
   obtain ⟨g2, h1, h2, h3⟩ := hB.freeze hs;exact Xb (Xo rfl rfl) ⟨g2, Ghost.tr hg1 h1, h2, h3⟩
theorem growI_spec (g : Ghost) (n : Nat) (hn : n ≤ 1000000000) : Cl PP 60 [.slice none 0 0, .int .i64 (n : Int)] g [] fun _ L' v => OwnS 3 1 v 0 [] L' := by
 refine Qm Tryz.func60 rfl rfl Tryz.ntmps60 rfl fun F => ?_
 repeat' (first | refine zA4 ?_ | refine zBD (fun h => ?_) fun h => ?_ | fail)
 intro w hs
 refine wl_cap rfl rfl rfl rfl rfl ?_
 revert w hs
 repeat' (first | refine zA4 ?_ | refine zBD (fun h => ?_) fun h => ?_ | fail)
 ·intro w hs;refine wl_cap rfl rfl rfl rfl rfl ?_;refine wl_slice rfl rfl rfl (by omega) (by omega) rfl rfl rfl rfl rfl ?_;revert w hs
  repeat' (first | refine zA4 ?_ | refine zBD (fun h => ?_) fun h => ?_ | fail)
  intro w hs;refine wl_appendZ (n := n) hs rfl rfl (by omega) rfl rfl rfl rfl rfl rfl rfl rfl rfl ?_;clear hs;intro b cap l hc hl
  repeat' (first | refine zA4 ?_ | refine zBD (fun h => ?_) fun h => ?_ | fail)
  intro w hs;refine wl_sliceTo 0 rfl rfl (by omega) rfl rfl rfl rfl rfl ?_;revert w hs
  repeat' (first | refine zA4 ?_ | refine zBD (fun h => ?_) fun h => ?_ | fail)
  intro w hs;exact Xb (Xo rfl rfl) ⟨g, [(b, Xa l 3)], Ghost.rfl', hs, .inr ⟨b, cap, l, rfl, by simp, by simpa using hl, by omega, by simp⟩⟩
 ·intro w hs;exact Xb (Xo rfl rfl) ⟨g, [], Ghost.rfl', hs, OwnS.nil _ _⟩
set_option maxHeartbeats 2000000 in
theorem concatI_spec  (g : Ghost) (v : Value) (LM : List (List Int)) (hv : RS (kSl (kInt)) g v LM) (hl : LM.length ≤ 1000000) (hb : LM.flatten.length ≤ 1000000) : Pr PP 28 [v] g fun g2 r => RS (kInt) g2 r LM.flatten := fun g' hg => by
 have hv := hv.mono hg
 obtain ⟨a, c, rfl⟩ := hv.form
 have hfl : ∀ i, i ≤ LM.length → (LM.take i).flatten.length ≤ 1000000 := fun i _ => by
  have : LM.flatten = (LM.take i).flatten ++ (LM.drop i).flatten := by rw [← List.flatten_append, List.take_append_drop]
  rw [this, List.length_append] at hb; omega
 have hst : ∀ i (hi : i < LM.length), (LM.take (i + 1)).flatten = (LM.take i).flatten ++ LM[i] := fun i hi => by rw [tkS hi, List.flatten_append]; simp
 refine cl_pr (fun _ _ _ hg h => h.mono hg) Tryz.func28 rfl rfl Tryz.ntmps28 rfl fun F => ?_
 repeat' (first | refine zA4 ?_ | refine zBD (fun h => ?_) fun h => ?_ | fail)
 refine zL (fun i : Nat => [(11, .int .i64 (i : Int)), (3, .int .i64 ((LM.take i).flatten.length : Int))]) [0, 9, 10] (fun i => i ≤ LM.length) (fun i => LM.length - i) 0 (Nat.zero_le _) (fun i hi => ?_)
 repeat' (first | refine zA4 ?_ | refine zBD (fun h => ?_) fun h => ?_ | fail)
 ·have hil : i < LM.length := by omega
  obtain ⟨b1, c1', e1, r1⟩ := hv.sl (i := i) hil;have q1 := hfl (i + 1) hil;rw [hst i hil, List.length_append] at q1
  repeat' (first | refine zA4 ?_ | refine zBD (fun h => ?_) fun h => ?_ | fail)
  ·refine Vc (i + 1) (by omega) (by omega) ⟨rfl, congrArg (fun x => some (Value.int .i64 x)) ?_, by repeat (first | exact trivial | refine ⟨rfl, ?_⟩)⟩;rw [hst i hil, List.length_append]; omega
 ·rw [List.take_of_length_le (by omega)];refine zcl0 (fun g1 (_ : g' ≤ g1) => growI_spec g1 LM.flatten.length (by omega)) fun v1 g1 H1 hg1 ho => ?_
  have hB0 : Bld (kInt) 3 g1 v1 [] H1 := ⟨[], ho, fun i hi => by simp at hi⟩
  have hv1 := hv.mono hg1
  repeat' (first | refine zA4 ?_ | refine zBD (fun h => ?_) fun h => ?_ | fail)
  refine zLg (σ := Nat × Value × Own) (fun x => [(27, .int .i64 (x.1 : Int)), (6, x.2.1)]) [0, 25, 26] (fun _ => g1) (fun x => x.2.2 ++ F) (fun x => x.1 ≤ LM.length ∧ Bld (kInt) 3 g1 x.2.1 (LM.take x.1).flatten x.2.2) (fun x => LM.length - x.1) (0, v1, H1) ⟨Nat.zero_le _, hB0⟩ rfl rfl fun (i, v2, H2) ⟨hi, hB⟩ => ?_
  simp only at hi hB
  dsimp only
  repeat' (first | refine zA4 ?_ | refine zBD (fun h => ?_) fun h => ?_ | fail)
  ·have hil : i < LM.length := by omega
   obtain ⟨b1, c1', e1, r1⟩ := hv1.sl (i := i) hil;have q1 := hfl (i + 1) hil;rw [hst i hil, List.length_append] at q1
   repeat' (first | refine zA4 ?_ | refine zBD (fun h => ?_) fun h => ?_ | fail)
   refine zab hB r1 (kInt_one) fun v3 H3 hB3 => ?_
   repeat' (first | refine zA4 ?_ | refine zBD (fun h => ?_) fun h => ?_ | fail)
   exact Zo (i + 1, v3, H3) ⟨by dsimp only; omega, by dsimp only; rw [hst i hil]; exact hB3⟩ (by dsimp only; omega) fun _ h => h
  ·intro w hs;rw [List.take_of_length_le (by omega)] at hB
   obtain ⟨g2, h1, h2, h3⟩ := hB.freeze hs;exact Xb (Xo rfl rfl) ⟨g2, Ghost.tr hg1 h1, h2, h3⟩
end
section
open Go.RowKit
theorem boolV_spec (g : Ghost) (c : Bool) : Pu PP 157 [.bool c] g (.agg #[.int .i64 1, .int .i64 (if c then 1 else 0), .bool false, .slice none 0 0, .string ⟨#[]⟩, .slice none 0 0, .slice none 0 0]) := fun g' _ => by
 cases c
 all_goals (
  refine Ym Tryz.func157 rfl rfl Tryz.ntmps157 rfl fun F => ?_
  repeat' (first | refine zA4 ?_ | refine zBD (fun h => ?_) fun h => ?_ | fail)
  refine zne fun b2 => ?_
  repeat' (first | refine zA4 ?_ | refine zBD (fun h => ?_) fun h => ?_ | fail)
  intro w hs;refine Yg (ps := [(0, .const (.int .i64 1))]) rfl rfl rfl rfl rfl rfl rfl ?_;revert w hs;refine zne fun b3 => ?_
  refine zsw ?_
  repeat' (first | refine zA4 ?_ | refine zBD (fun h => ?_) fun h => ?_ | fail))
 all_goals (
  refine zswap ?_;refine zsw ?_
  repeat' (first | refine zA4 ?_ | refine zBD (fun h => ?_) fun h => ?_ | fail)
  rintro w ⟨g2, hg2, hs⟩;exact Xb (resCN (k := 0) hs rfl rfl rfl rfl rfl rfl) ⟨⟨g2, hg2, hs.drop.drop⟩, rfl⟩)
theorem encL_take {l : List ValT} {i : Nat} (h : i < l.length) : Uo (l.take (i + 1)) = Uo (l.take i) ++ Qr l[i] := by
 have app : ∀ (a b : List ValT), Uo (a ++ b) = Uo a ++ Uo b := by
  intro a b
  induction a with
  | nil => rw [List.nil_append, Uo, List.nil_append]
  | cons x a ih => rw [List.cons_append, Uo, Uo, ih, List.append_assoc]
 rw [tkS h, app, Uo, Uo, List.append_nil]
theorem encL_app : ∀ (a b : List ValT), Uo (a ++ b) = Uo a ++ Uo b
 | [], b => by rw [List.nil_append, Uo, List.nil_append]
 | x :: a, b => by rw [List.cons_append, Uo, Uo, encL_app a b, List.append_assoc]
theorem enc_eq (v : ValT) : Qr v = v.kind % 256 :: (if v.kind = 1 then [v.n % 256] else if v.kind = 2 then (if v.neg then 1 else 0) :: (beB 1 v.d.length ++ v.d.flatMap (beB 4)) else if v.kind = 3 ∨ v.kind = 4 then beB 1 v.s.toList.length ++ v.s.toList.map (fun c => (c.toNat : Int)) else beB 2 v.l.length ++ (Uo v.l ++ Uo v.m)) := by cases v; rw [Qr]; rfl
theorem flat4_len : ∀ d : List Int, (d.flatMap (beB 4)).length = d.length * 4
 | [] => rfl
 | x :: d => by rw [List.flatMap_cons, List.length_append, Yq, flat4_len d, List.length_cons]; omega
theorem lenL_cnt : ∀ l : List ValT, l.length ≤ Zz l
 | [] => by rw [Zz]; exact Nat.le_refl _
 | v :: r => by have := lenL_cnt r; have := cnt_eq v; rw [Zz, List.length_cons]; omega
def CodeOk (k : Nat) : Prop := ∀ (g : Ghost) (cs : List Value) (v : ValT) (b : Nat) (bs : List Int) (L : Own), ValRn k g cs v → okR v = true → BufO b bs L → bs.length + 300 * cntV v ≤ 100000000 →
 Cl PP 139 [.pointer (some ⟨b, 0, none⟩), .agg cs.toArray] g L fun _ L' _ => BufO b (bs ++ Qr v) L'
theorem nel_app (a : List Int) (x : Int) : a ++ [x] ≠ [] := by simp
set_option maxHeartbeats 8000000 in
theorem code_spec : ∀ k, CodeOk k
 | 0 => fun _ _ _ _ _ _ h => h.elim
 | k + 1 => fun g cs v b bs L h1 hok hB hlen => by
  have ih := code_spec k;obtain ⟨vd, vl, vm, rfl, d1, l1, m1, b1, b2, b3, b4⟩ := h1.open';have hel := encV_len v hok;have hsh : Shp v.kind v.n v.neg v.d v.s v.l v.m := by cases v; exact shp hok
  rw [enc_eq] at hel ⊢
  rw [List.length_cons] at hel
  obtain ⟨ad, cd, rfl⟩ := d1.form;obtain ⟨al, cl, rfl⟩ := l1.form;obtain ⟨am, cm, rfl⟩ := m1.form;have hcnt := cnt_eq v;generalize v.kind = kd at *
  generalize v.n = vn at *
  generalize v.neg = nb at *
  generalize v.d = dd at *
  generalize v.s = ss at *
  generalize v.l = ll at *
  generalize v.m = mm at *
  refine Qm Tryz.func139 rfl rfl Tryz.ntmps139 rfl fun F => ?_
  refine ze fun p3 => ?_
  refine zfz fun g1 hg1 hb => ?_
  have f0 := hb.cells0 0 _ rfl
  repeat' (first | refine zA4 ?_ | refine zBD (fun h => ?_) fun h => ?_ | fail)
  refine zDR L Yd (by kernel_rfl) rfl fun gd hgd => ?_
  repeat (first | refine sg_p rfl rfl ?_ | refine Xp (hgd.cell f0) rfl rfl rfl rfl ?_)
  refine sg_conv _ rfl (u8wrap _) rfl rfl rfl rfl ?_;refine Uf L [] (by simp) rfl rfl (fun g2 hg2 => Kv g2 b bs _ L hB (by omega)) ?_;refine Xy ?_;rintro g2 hg2 u L2 ⟨ga, hga, _, hB2⟩;rw [show L2 ++ [] ++ F = L2 ++ F by simp];refine zup (Ghost.tr hgd hg2) ?_;have hne2 := nel_app bs (kd % 256)
  have hap : ∀ X : List Int, bs ++ kd % 256 :: X = (bs ++ [kd % 256]) ++ X := fun X => by simp
  rw [hap];have hl2 : (bs ++ [kd % 256]).length = bs.length + 1 := by simp
  generalize bs ++ [kd % 256] = bs2 at *
  rcases hsh with ⟨rfl, a1, a2, a3, a4, a5, a6⟩ | ⟨rfl, a1, a2, a3, a4, a5, a6⟩ | ⟨a0, a1, a2, a3, a4, a5, a6⟩ | ⟨rfl, a1, a2, a3, a4, a5, a6, a7⟩ | ⟨rfl, a1, a2, a3, a4, a5, a6, a7, a8⟩
  ·have f1 := hb.cells0 1 _ rfl
   repeat' (first | refine zA4 ?_ | refine zBD (fun h => ?_) fun h => ?_ | fail)
   refine zDR L2 Yd (by kernel_rfl) rfl fun gd hgd => ?_
   repeat (first | refine sg_p rfl rfl ?_ | refine Xp (hgd.cell f1) rfl rfl rfl rfl ?_)
   refine sg_conv _ rfl (u8wrap _) rfl rfl rfl rfl ?_;refine Uf L2 [] (by simp) rfl rfl (fun g2 hg2 => Kv g2 b bs2 _ L2 hB2 (by omega)) ?_;refine Xy ?_;rintro g2 hg2 u L3 ⟨ga, hga, _, hB3⟩;rw [show L3 ++ [] ++ F = L3 ++ F by simp];refine zup (Ghost.tr hgd hg2) ?_
   repeat' (first | refine zA4 ?_ | refine zBD (fun h => ?_) fun h => ?_ | fail)
   rintro w hs;exact wk_end (res0 rfl) ⟨g1, L3, hg1, hs, by rw [if_pos rfl]; exact hB3⟩
  ·have f2 := hb.cells0 2 _ rfl;have f3 := hb.cells0 3 _ rfl;rw [if_neg (by decide), if_pos rfl];rw [if_neg (by decide), if_pos rfl] at hel
   have hdl := flat4_len dd;rw [List.length_cons, List.length_append, Yq, hdl] at hel
   have hd1 := d1.mono hg1
   repeat' (first | refine zA2 ?_ | refine zB (fun h => ?_) fun h => ?_ | fail)
   refine zDR L2 Yd (by kernel_rfl) rfl fun gd hgd => ?_
   repeat (first | refine sg_p rfl rfl ?_ | refine Xp (hgd.cell f2) rfl rfl rfl rfl ?_ | refine Vq [] L2 rfl rfl rfl (fun g' hg' => boolV_spec gd nb g' hg') (fun _ _ _ h => h) ?_)
   refine sg_conv _ rfl (u8wrap _) rfl rfl rfl rfl ?_;refine Uf L2 [] (by simp) rfl rfl (fun g2 hg2 => Kv g2 b bs2 _ L2 hB2 (by omega)) ?_;refine Xy ?_;rintro g2 hg2 u L3 ⟨ga, hga, _, hB3⟩;rw [show L3 ++ [] ++ F = L3 ++ F by simp];refine zup (Ghost.tr hgd hg2) ?_;have e01 : (if nb = true then (1 : Int) else 0) % 256 = if nb = true then 1 else 0 := by split <;> rfl
   rw [e01] at hB3
   have hap : ∀ X : List Int, bs2 ++ (if nb = true then (1 : Int) else 0) :: X = (bs2 ++ [if nb = true then (1 : Int) else 0]) ++ X := fun X => by simp
   rw [hap];have hl3 : (bs2 ++ [if nb = true then (1 : Int) else 0]).length = bs2.length + 1 := by simp
   generalize bs2 ++ [if nb = true then (1 : Int) else 0] = bs3 at *
   repeat' (first | refine zA4 ?_ | refine zBD (fun h => ?_) fun h => ?_ | fail)
   refine zcl (fun g2 (_ : g1 ≤ g2) => number_spec g2 b bs3 dd.length 1 L3 hB3 (by omega) (by omega)) fun u g2 L4 hg2 hp => ?_
   obtain ⟨rfl, hB4⟩ := hp;refine zup hg2 ?_
   repeat' (first | refine zA4 ?_ | refine zBD (fun h => ?_) fun h => ?_ | fail)
   refine zLg (σ := Nat × Own) (fun x => [(68, .int .i64 (x.1 : Int))]) [0, 66, 67] (fun _ => g1) (fun x => x.2 ++ F) (fun x => x.1 ≤ dd.length ∧ BufO b (bs3 ++ beB 1 dd.length ++ (dd.take x.1).flatMap (beB 4)) x.2) (fun x => dd.length - x.1) (0, L4) ⟨Nat.zero_le _, by simpa using hB4⟩ rfl rfl fun (i, L5) ⟨hi, hB5⟩ => ?_
   simp only at hi hB5
   dsimp only
   repeat' (first | refine zA4 ?_ | refine zBD (fun h => ?_) fun h => ?_ | fail)
   ·have hil : i < dd.length := by omega
    have hti : ((dd.take i).flatMap (beB 4)).length ≤ (dd.flatMap (beB 4)).length := by
     have : dd.flatMap (beB 4) = (dd.take i).flatMap (beB 4) ++ (dd.drop i).flatMap (beB 4) := by rw [← List.flatMap_append, List.take_append_drop]
     rw [this, List.length_append]; omega
    refine zcl (fun g2 (_ : g1 ≤ g2) => number_spec g2 b _ dd[i] 4 L5 hB5 (by omega) (by rw [List.length_append, List.length_append, Yq]; omega)) fun u g2 L6 hg2 hp => ?_
    obtain ⟨rfl, hB6⟩ := hp;refine zup hg2 ?_
    repeat' (first | refine zA4 ?_ | refine zBD (fun h => ?_) fun h => ?_ | fail)
    refine Zo (i + 1, L6) ⟨by dsimp only; omega, ?_⟩ (by dsimp only; omega) fun _ h => h
    dsimp only
    rw [tkS hil, List.flatMap_append, List.flatMap_cons, List.flatMap_nil, List.append_nil, ← List.append_assoc];exact hB6
   ·rw [List.take_of_length_le (by omega), List.append_assoc] at hB5
    rintro w hs;exact wk_end (res0 rfl) ⟨g1, L5, hg1, hs, hB5⟩
  ·have f4 := hb.cells0 4 _ rfl;have e34 : ∀ X Y : List Int, (if kd = 1 then [vn % 256] else if kd = 2 then X else if kd = 3 ∨ kd = 4 then beB 1 ss.toList.length ++ ss.toList.map (fun c => (c.toNat : Int)) else Y) = beB 1 ss.toList.length ++ strI ss := fun X Y => by rw [if_neg (by omega), if_neg (by omega), if_pos a0]; rfl
   rw [e34];rw [e34, List.length_append, Yq, strI_len] at hel
   have hsl := szL ss
   rcases a0 with rfl | rfl
   all_goals (
    repeat' (first | refine zA4 ?_ | refine zBD (fun h => ?_) fun h => ?_ | fail)
    refine zcl (fun g2 (_ : g1 ≤ g2) => number_spec g2 b bs2 ss.toList.length 1 L2 hB2 (by omega) (by omega)) fun u g2 L3 hg2 hp => ?_
    obtain ⟨rfl, hB3⟩ := hp;refine zup hg2 ?_
    repeat' (first | refine zA4 ?_ | refine zBD (fun h => ?_) fun h => ?_ | fail)
    refine zDR L3 Yd (by kernel_rfl) rfl fun gd hgd => ?_
    repeat (first | refine sg_p rfl rfl ?_ | refine Xp (hgd.cell f4) rfl rfl rfl rfl ?_)
    refine Uf L3 [] (by simp) rfl rfl (fun g2 hg2 => writeStr_spec g2 b _ ss L3 hB3 (by simp [beB]) (by rw [List.length_append, Yq]; omega)) ?_;refine Xy ?_;rintro g2 hg2 u L4 ⟨ga, hga, hB4⟩;rw [show L4 ++ [] ++ F = L4 ++ F by simp];refine zup (Ghost.tr hgd hg2) ?_
    repeat' (first | refine zA4 ?_ | refine zBD (fun h => ?_) fun h => ?_ | fail)
    rintro w hs;exact wk_end (res0 rfl) ⟨g1, L4, hg1, hs, by rw [← List.append_assoc]; exact hB4⟩)
  ·have f5 := hb.cells0 5 _ rfl;have f6 := hb.cells0 6 _ rfl
   repeat' (first | refine zA4 ?_ | refine zBD (fun h => ?_) fun h => ?_ | fail)
   refine zcl (fun g2 (_ : g1 ≤ g2) => number_spec g2 b bs2 ll.length 2 L2 hB2 (by omega) (by omega)) fun u g2 L3 hg2 hp => ?_
   obtain ⟨rfl, hB3⟩ := hp;refine zup hg2 ?_
   repeat' (first | refine zA4 ?_ | refine zBD (fun h => ?_) fun h => ?_ | fail)
   intro w hs;refine wl_lits (ps := [(0, .tmp 23), (1, .tmp 25)]) hs rfl rfl rfl rfl rfl rfl rfl rfl rfl rfl ?_;clear hs;intro b20;refine zfz fun g3 hg3 h20 => ?_
   have hLM : RS (kSl (Ud k)) g3 (.slice (some ⟨b20, 0, none⟩) 2 2) [ll, mm] := RS.mk' rfl h20 fun i hi => match i, hi with
    | 0, _ => slR (l1.mono (Ghost.tr hg1 hg3))
    | 1, _ => slR (m1.mono (Ghost.tr hg1 hg3))
   have hfl : [ll, mm].flatten = ll ++ mm := by simp
   have hc1 := lenL_cnt ll;have hc2 := lenL_cnt mm;have hcc : ∀ i, Zz ((ll ++ mm).take i) ≤ Zz ll + Zz mm := fun i => by have := cntL_le (ll ++ mm) i; rw [cntL_app] at this; exact this
   have hoks : ∀ x ∈ ll ++ mm, okR x = true := fun x hx => by
    rcases List.mem_append.1 hx with hx | hx
    ·exact List.all_eq_true.1 (by rw [← okRs_all]; exact a7) x hx
    ·rw [a5] at hx; cases hx
   have hen : ∀ i, i ≤ (ll ++ mm).length → (Uo ((ll ++ mm).take i)).length ≤ 300 * Zz ((ll ++ mm).take i) := fun i _ => encL_len _ (by rw [okRs_all]; exact List.all_eq_true.2 fun x hx => hoks x (List.mem_of_mem_take hx))
   refine zpr (concatV_spec k g3 _ [ll, mm] hLM (by simp) (by rw [hfl, List.length_append]; omega)) fun g4 rv hg4 hrv => ?_
   rw [hfl] at hrv
   obtain ⟨ax, cx, rfl⟩ := hrv.form;have hxl : (ll ++ mm).length ≤ 1000000000 := by rw [List.length_append]; omega
   have hE : Uo (ll ++ mm) = Uo ll ++ Uo mm := encL_app ll mm;rw [← hE];generalize ll ++ mm = xs at *
   repeat' (first | refine zA4 ?_ | refine zBD (fun h => ?_) fun h => ?_ | fail)
   refine zLg (σ := Nat × Own) (fun x => [(29, .int .i64 (x.1 : Int))]) [0, 27, 28] (fun _ => g4) (fun x => x.2 ++ F) (fun x => x.1 ≤ xs.length ∧ BufO b (bs2 ++ beB 2 ll.length ++ Uo (xs.take x.1)) x.2) (fun x => xs.length - x.1) (0, L3) ⟨Nat.zero_le _, by simpa [Uo] using hB3⟩ rfl rfl fun (i, L4) ⟨hi, hB4⟩ => ?_
   simp only at hi hB4
   dsimp only
   repeat' (first | refine zA4 ?_ | refine zBD (fun h => ?_) fun h => ?_ | fail)
   ·have hil : i < xs.length := by omega
    obtain ⟨cs1, r1, q1⟩ := hrv.get (i := i) hil;have n1 : cs1.length = 7 := r1.len;have q1 := q1.of_eaddr;have hc3 := hcc (i + 1);have hc4 := hen i (by omega);rw [cntL_take hil] at hc3
    repeat' (first | refine zA4 ?_ | refine zBD (fun h => ?_) fun h => ?_ | fail)
    refine zne fun b7 => ?_
    refine zsw1 r1.one ?_;refine zfz fun g5 hg5 h7 => ?_
    have q7 := h7.cells0
    repeat' (first | refine zA4 ?_ | refine zBD (fun h => ?_) fun h => ?_ | fail)
    refine zcl (fun g6 (hg6 : g5 ≤ g6) => ih g6 cs1 xs[i] b _ L4 (r1.mono (Ghost.tr hg5 hg6)) (hoks _ (List.getElem_mem hil)) hB4 (by rw [List.length_append, List.length_append, Yq]; omega)) fun u g6 L5 hg6 hB5 => ?_
    refine zup (Ghost.tr hg5 hg6) ?_
    repeat' (first | refine zA4 ?_ | refine zBD (fun h => ?_) fun h => ?_ | fail)
    refine Zo (i + 1, L5) ?_ ?_ fun _ h => h
    ·exact ⟨by dsimp only; omega, by dsimp only; rw [encL_take hil, ← List.append_assoc]; exact hB5⟩
    ·dsimp only; omega
   ·rw [List.take_of_length_le (by omega), List.append_assoc] at hB4
    rintro w hs;exact wk_end (res0 rfl) ⟨g4, L4, Ghost.tr hg1 (Ghost.tr hg3 hg4), hs, by rw [if_neg (by decide), if_neg (by decide), if_neg (by decide)]; exact hB4⟩
  ·have f5 := hb.cells0 5 _ rfl;have f6 := hb.cells0 6 _ rfl
   repeat' (first | refine zA4 ?_ | refine zBD (fun h => ?_) fun h => ?_ | fail)
   refine zcl (fun g2 (_ : g1 ≤ g2) => number_spec g2 b bs2 ll.length 2 L2 hB2 (by omega) (by omega)) fun u g2 L3 hg2 hp => ?_
   obtain ⟨rfl, hB3⟩ := hp;refine zup hg2 ?_
   repeat' (first | refine zA4 ?_ | refine zBD (fun h => ?_) fun h => ?_ | fail)
   intro w hs;refine wl_lits (ps := [(0, .tmp 23), (1, .tmp 25)]) hs rfl rfl rfl rfl rfl rfl rfl rfl rfl rfl ?_;clear hs;intro b20;refine zfz fun g3 hg3 h20 => ?_
   have hLM : RS (kSl (Ud k)) g3 (.slice (some ⟨b20, 0, none⟩) 2 2) [ll, mm] := RS.mk' rfl h20 fun i hi => match i, hi with
    | 0, _ => slR (l1.mono (Ghost.tr hg1 hg3))
    | 1, _ => slR (m1.mono (Ghost.tr hg1 hg3))
   have hfl : [ll, mm].flatten = ll ++ mm := by simp
   have hc1 := lenL_cnt ll;have hc2 := lenL_cnt mm;have hcc : ∀ i, Zz ((ll ++ mm).take i) ≤ Zz ll + Zz mm := fun i => by have := cntL_le (ll ++ mm) i; rw [cntL_app] at this; exact this
   have hoks : ∀ x ∈ ll ++ mm, okR x = true := fun x hx => by
    rcases List.mem_append.1 hx with hx | hx
    ·exact List.all_eq_true.1 (by rw [← okRs_all]; exact a7) x hx
    ·exact List.all_eq_true.1 (by rw [← okRs_all]; exact a8) x hx
   have hen : ∀ i, i ≤ (ll ++ mm).length → (Uo ((ll ++ mm).take i)).length ≤ 300 * Zz ((ll ++ mm).take i) := fun i _ => encL_len _ (by rw [okRs_all]; exact List.all_eq_true.2 fun x hx => hoks x (List.mem_of_mem_take hx))
   refine zpr (concatV_spec k g3 _ [ll, mm] hLM (by simp) (by rw [hfl, List.length_append]; omega)) fun g4 rv hg4 hrv => ?_
   rw [hfl] at hrv
   obtain ⟨ax, cx, rfl⟩ := hrv.form;have hxl : (ll ++ mm).length ≤ 1000000000 := by rw [List.length_append]; omega
   have hE : Uo (ll ++ mm) = Uo ll ++ Uo mm := encL_app ll mm;rw [← hE];generalize ll ++ mm = xs at *
   repeat' (first | refine zA4 ?_ | refine zBD (fun h => ?_) fun h => ?_ | fail)
   refine zLg (σ := Nat × Own) (fun x => [(29, .int .i64 (x.1 : Int))]) [0, 27, 28] (fun _ => g4) (fun x => x.2 ++ F) (fun x => x.1 ≤ xs.length ∧ BufO b (bs2 ++ beB 2 ll.length ++ Uo (xs.take x.1)) x.2) (fun x => xs.length - x.1) (0, L3) ⟨Nat.zero_le _, by simpa [Uo] using hB3⟩ rfl rfl fun (i, L4) ⟨hi, hB4⟩ => ?_
   simp only at hi hB4
   dsimp only
   repeat' (first | refine zA4 ?_ | refine zBD (fun h => ?_) fun h => ?_ | fail)
   ·have hil : i < xs.length := by omega
    obtain ⟨cs1, r1, q1⟩ := hrv.get (i := i) hil;have n1 : cs1.length = 7 := r1.len;have q1 := q1.of_eaddr;have hc3 := hcc (i + 1);have hc4 := hen i (by omega);rw [cntL_take hil] at hc3
    repeat' (first | refine zA4 ?_ | refine zBD (fun h => ?_) fun h => ?_ | fail)
    refine zne fun b7 => ?_
    refine zsw1 r1.one ?_;refine zfz fun g5 hg5 h7 => ?_
    have q7 := h7.cells0
    repeat' (first | refine zA4 ?_ | refine zBD (fun h => ?_) fun h => ?_ | fail)
    refine zcl (fun g6 (hg6 : g5 ≤ g6) => ih g6 cs1 xs[i] b _ L4 (r1.mono (Ghost.tr hg5 hg6)) (hoks _ (List.getElem_mem hil)) hB4 (by rw [List.length_append, List.length_append, Yq]; omega)) fun u g6 L5 hg6 hB5 => ?_
    refine zup (Ghost.tr hg5 hg6) ?_
    repeat' (first | refine zA4 ?_ | refine zBD (fun h => ?_) fun h => ?_ | fail)
    refine Zo (i + 1, L5) ?_ ?_ fun _ h => h
    ·exact ⟨by dsimp only; omega, by dsimp only; rw [encL_take hil, ← List.append_assoc]; exact hB5⟩
    ·dsimp only; omega
   ·rw [List.take_of_length_le (by omega), List.append_assoc] at hB4
    rintro w hs;exact wk_end (res0 rfl) ⟨g4, L4, Ghost.tr hg1 (Ghost.tr hg3 hg4), hs, by rw [if_neg (by decide), if_neg (by decide), if_neg (by decide)]; exact hB4⟩
end
section
open Go.RowKit
theorem enc_ne (v : ValT) : Qr v ≠ [] := by rw [enc_eq]; simp
theorem encode_spec (k : Nat) (hk : k ≤ 1000) (g : Ghost) (cs : List Value) (v : ValT) (hv : ValRn k g cs v) (hok : Zn v = true) : Pr PP 119 [.agg cs.toArray] g fun g2 r => ∃ v', r = .tuple #[v', .int .i64 0] ∧ RS kU8 g2 v' (Qr v) := fun g' hg => by
 have hv := hv.mono hg
 have n1 : cs.length = 7 := hv.len
 obtain ⟨hok1, hcnt⟩ := validR_ok hok
 refine cl_pr (fun _ _ _ hg ⟨v', e, h⟩ => ⟨v', e, h.mono hg⟩) Tryz.func119 rfl rfl Tryz.ntmps119 rfl fun F => ?_
 refine ze fun p1 => ?_
 refine zfz fun g1 hg1 h1 => ?_
 have q1 := h1.cells0
 have c1 := is_spec k hk g1 cs v (hv.mono hg1)
 rw [valid_eq, hok] at c1
 repeat' (first | refine zA4 ?_ | refine zBD (fun h => ?_) fun h => ?_ | fail)
 refine zne fun b => ?_
 repeat' (first | refine zA4 ?_ | refine zBD (fun h => ?_) fun h => ?_ | fail)
 have hB : BufO b [] [Vk b (.slice none 0 0)] := .inl ⟨rfl, rfl⟩
 refine zcl (fun g2 (hg2 : g1 ≤ g2) => code_spec k g2 cs v b [] [Vk b (.slice none 0 0)] (hv.mono (Ghost.tr hg1 hg2)) hok1 hB (by simp; omega)) fun u g2 L2 hg2 hB2 => ?_
 rw [List.nil_append] at hB2
 repeat' (first | refine zA4 ?_ | refine zBD (fun h => ?_) fun h => ?_ | fail)
 refine zcl (fun g3 (hg3 : g2 ≤ g3) => bytes_spec g3 b (Qr v) L2 hB2 (enc_ne v)) fun u g3 L3 hg3 hp => ?_
 obtain ⟨rfl, r, cap, cells, rfl, rfl, q2, q3, q4⟩ := hp
 unfold rowC Vk
 repeat' (first | refine zA4 ?_ | refine zBD (fun h => ?_) fun h => ?_ | fail)
 refine zfz fun g4 hg4 h4 => ?_
 rintro w hs
 exact Xb (res2 rfl rfl rfl) ⟨g4, Ghost.tr hg1 (Ghost.tr hg2 (Ghost.tr hg3 hg4)), hs.drop, _, rfl, rs_u8 rfl h4 q2⟩
def keyB (s : List ValT) : ByteArray := (⟨#[98]⟩ : ByteArray) ++ strOfNums (Km s)
set_option maxHeartbeats 4000000 in
theorem key_spec (k : Nat) (hk : k ≤ 1000) (g : Ghost) (va : Value) (s : List ValT) (hs : RS (Ud k) g va s) (hok : s.all Zn = true) (hl : s.length ≤ 1000) : Pu PP 99 [va] g (.string (keyB s)) := fun g' hg => by
 have hs := hs.mono hg
 obtain ⟨a, c, rfl⟩ := hs.form
 have hlen : ∀ i, i ≤ s.length → (Km (s.take i)).length ≤ i * 3000000 := fun i => by
  induction i with
  | zero => intro _; simp [Km]
  | succ i ih =>
   intro hi;have := ih (by omega)
   have happ : ∀ (a b : List ValT), Km (a ++ b) = Km a ++ Km b := fun a b => by
    induction a with
    | nil => rfl
    | cons x a ih => rw [List.cons_append, Km, Km, ih]; simp
   obtain ⟨q1, q2⟩ := validR_ok (List.all_eq_true.1 hok _ (List.getElem_mem (show i < s.length by omega)));have q3 := encV_len _ q1;rw [tkS (by omega), happ, List.length_append, Km, Km, List.append_nil, List.length_append, Yq];omega
 have hst : ∀ i (hi : i < s.length), Km (s.take (i + 1)) = Km (s.take i) ++ beB 4 (Qr s[i]).length ++ Qr s[i] := fun i hi => by
  have happ : ∀ (a b : List ValT), Km (a ++ b) = Km a ++ Km b := fun a b => by
   induction a with
   | nil => rfl
   | cons x a ih => rw [List.cons_append, Km, Km, ih]; simp
  rw [tkS hi, happ, Km, Km]; simp
 refine Ym Tryz.func99 rfl rfl Tryz.ntmps99 rfl fun F => ?_
 repeat' (first | refine zA4 ?_ | refine zBD (fun h => ?_) fun h => ?_ | fail)
 refine zLg (σ := Nat × Ghost × Value × Own) (fun x => [(10, .int .i64 (x.1 : Int)), (3, x.2.2.1)]) [0, 8, 9] (fun x => x.2.1) (fun x => x.2.2.2 ++ F) (fun x => x.1 ≤ s.length ∧ g' ≤ x.2.1 ∧ Bld kU8 5 x.2.1 x.2.2.1 (Km (s.take x.1)) x.2.2.2) (fun x => s.length - x.1) (0, g', .slice none 0 0, []) ⟨Nat.zero_le _, Ghost.rfl', Bld.nil⟩ rfl rfl fun (i, g1, v1, H1) ⟨hi, hg1, hB⟩ => ?_
 simp only at hi hg1 hB
 dsimp only
 repeat' (first | refine zA4 ?_ | refine zBD (fun h => ?_) fun h => ?_ | fail)
 ·have hil : i < s.length := by omega
  obtain ⟨cs1, r1, q1⟩ := (hs.mono hg1).get (i := i) hil;have n1 : cs1.length = 7 := r1.len;have q1 := q1.of_eaddr;have hvi := List.all_eq_true.1 hok _ (List.getElem_mem hil);have hel := encV_len _ (validR_ok hvi).1;have hcn := (validR_ok hvi).2;have hln := hlen i (by omega)
  repeat' (first | refine zA4 ?_ | refine zBD (fun h => ?_) fun h => ?_ | fail)
  refine zne fun b5 => ?_
  refine zsw1 r1.one ?_;refine zfz fun g2 hg2 h5 => ?_
  have q5 := h5.cells0
  repeat' (first | refine zA4 ?_ | refine zBD (fun h => ?_) fun h => ?_ | fail)
  refine zpr (encode_spec k hk g2 cs1 s[i] (r1.mono hg2) hvi) fun g3 rv hg3 hrv => ?_
  obtain ⟨v', rfl, hv'⟩ := hrv;obtain ⟨a', c', rfl⟩ := hv'.form;obtain ⟨a1, c1', rfl⟩ := hB.form
  repeat' (first | refine zA4 ?_ | refine zBD (fun h => ?_) fun h => ?_ | fail)
  intro w hs;refine wl_shr rfl rfl (by decide) rfl rfl ?_;refine wl_conv ((Qr s[i]).length / 256 ^ 3 % 256) (byteOf _ 3 (by decide)) rfl rfl rfl rfl rfl rfl ?_;revert w hs
  repeat' (first | refine zA4 ?_ | refine zBD (fun h => ?_) fun h => ?_ | fail)
  intro w hs;refine wl_shr rfl rfl (by decide) rfl rfl ?_;refine wl_conv ((Qr s[i]).length / 256 ^ 2 % 256) (byteOf _ 2 (by decide)) rfl rfl rfl rfl rfl rfl ?_;revert w hs
  repeat' (first | refine zA4 ?_ | refine zBD (fun h => ?_) fun h => ?_ | fail)
  intro w hs;refine wl_shr rfl rfl (by decide) rfl rfl ?_;refine wl_conv ((Qr s[i]).length / 256 ^ 1 % 256) (byteOf _ 1 (by decide)) rfl rfl rfl rfl rfl rfl ?_;revert w hs
  repeat' (first | refine zA4 ?_ | refine zBD (fun h => ?_) fun h => ?_ | fail)
  intro w hs;refine wl_conv ((Qr s[i]).length / 256 ^ 0 % 256) (by rw [u8wrap]; simp) rfl rfl rfl rfl rfl rfl ?_;refine wl_lits (ps := [(0, .tmp 27), (1, .tmp 31), (2, .tmp 35), (3, .tmp 38)]) hs rfl rfl rfl rfl rfl rfl rfl rfl rfl rfl ?_;clear hs;intro b39;refine zfz fun g4 hg4 h39 => ?_
  have hr4 : RS kU8 g4 (.slice (some ⟨b39, 0, none⟩) 4 4) (beB 4 (Qr s[i]).length) := rs_u8 (by rw [Yq]) h39 rfl;have hln4 := hlen (i + 1) (by omega);rw [hst i hil, List.length_append, List.length_append, Yq] at hln4
  have hbl : (beB 4 ((Qr s[i]).length : Int)).length = 4 := Yq _ _;refine zab (hB.mono (Ghost.tr hg2 (Ghost.tr hg3 hg4))) hr4 kU8_one fun v3 H3 hB3 => ?_
  repeat' (first | refine zA4 ?_ | refine zBD (fun h => ?_) fun h => ?_ | fail)
  have hln5 : (Km (s.take i) ++ beB 4 ((Qr s[i]).length : Int)).length + (Qr s[i]).length ≤ 4000000000 := by rw [List.length_append, Yq]; omega
  refine zab hB3 (hv'.mono hg4) kU8_one fun v5 H5 hB5 => ?_
  repeat' (first | refine zA4 ?_ | refine zBD (fun h => ?_) fun h => ?_ | fail)
  refine Zo (i + 1, g4, v5, H5) ⟨by dsimp only; omega, Ghost.tr hg1 (Ghost.tr hg2 (Ghost.tr hg3 hg4)), ?_⟩ (by dsimp only; omega) fun _ h => h
  dsimp only
  rw [hst i hil]; exact hB5
 ·rw [List.take_of_length_le (by omega)] at hB
  have hln := hlen s.length (Nat.le_refl _);rw [List.take_of_length_le (Nat.le_refl _)] at hln
  intro w hs0;obtain ⟨g2, hg2, hs, hr⟩ := hB.freeze hs0;clear hs0;obtain ⟨a1, c1', rfl⟩ := hr.form;revert w hs
  repeat' (first | refine zA4 ?_ | refine zBD (fun h => ?_) fun h => ?_ | fail)
  intro w hs;refine wl_b2s hs rfl hr rfl rfl rfl rfl rfl rfl rfl rfl ?_;refine wl_sadd rfl rfl (by rw [strOfNums_size]; simp [ByteArray.size]; omega) rfl rfl ?_;replace hs := hs.up (Ghost.tr hg1 hg2);revert w hs
  repeat' (first | refine zA4 ?_ | refine zBD (fun h => ?_) fun h => ?_ | fail)
  exact zt rfl
end
section
open Go.RowKit
def cmpSt (a b : List ValT) : Int := thn (Jm a b) (Zc a.length b.length)
theorem cmpLs_nil (a : List ValT) : Jm a [] = 0 := by cases a <;> rw [Jm] <;> simp
theorem refCmpSt_spec (k : Nat) (g : Ghost) (va vb : Value) (a b : List ValT) (ha : RS (Ud k) g va a) (hb : RS (Ud k) g vb b) (hal : a.length ≤ 35184372088832) (_hbl : b.length ≤ 35184372088832) :
  Pu PP 12 [va, vb] g (.int .i64 (cmpSt a b)) := fun g' hg => by
 have ha := ha.mono hg
 have hb := hb.mono hg
 obtain ⟨aa, ca, rfl⟩ := ha.form
 obtain ⟨ab, cb, rfl⟩ := hb.form
 have key : ∀ {i : Nat}, i ≤ a.length → i ≤ b.length → ¬ (i < a.length ∧ i < b.length) → cmpSt a b = thn (Jm (a.drop i) (b.drop i)) (Zc a.length b.length) → cmpSt a b = Zc a.length b.length := fun {i} h1 h2 h3 h => by
  rw [h]
  have : Jm (a.drop i) (b.drop i) = 0 := by
   by_cases hi : i < a.length
   ·rw [List.drop_of_length_le (l := b) (by omega), cmpLs_nil]
   ·rw [List.drop_of_length_le (by omega), Jm]; simp
  rw [this]; rfl
 refine Ym Tryz.func12 rfl rfl Tryz.ntmps12 rfl fun F => ?_
 repeat' (first | refine zA2 ?_ | refine zB (fun h => ?_) fun h => ?_ | fail)
 refine zl 5 [0, 1] (fun i => (i : Int)) (fun i => (i ≤ a.length ∧ i ≤ b.length) ∧ cmpSt a b = thn (Jm (a.drop i) (b.drop i)) (Zc a.length b.length)) (fun i => a.length - i) 0 ⟨⟨Nat.zero_le _, Nat.zero_le _⟩, rfl⟩ fun i ⟨⟨hi, hi'⟩, hd⟩ => ?_
 repeat' (first | refine zA2 ?_ | refine zB (fun h => ?_) fun h => ?_ | fail)
 ·have h1 : i < a.length := by omega
  have h2 : i < b.length := by omega
  obtain ⟨cs1, r1, l1⟩ := ha.get (i := i) h1;obtain ⟨cs2, r2, l2⟩ := hb.get (i := i) h2;have n1 : cs1.length = 7 := r1.len;have n2 : cs2.length = 7 := r2.len;have l1 := l1.of_eaddr;have l2 := l2.of_eaddr;have c1 := refCompare_spec k g' cs1 cs2 _ _ r1 r2;rw [List.drop_eq_getElem_cons h1, List.drop_eq_getElem_cons (l := b) h2, Jm] at hd
  repeat' (first | refine zA2 ?_ | refine zB (fun h => ?_) fun h => ?_ | fail)
  ·refine zt (congrArg _ ?_);have h : vcmp a[i] b[i] ≠ 0 := by simpa using h
   rw [hd]; unfold thn; rw [if_neg h, if_neg h]
  ·have h : vcmp a[i] b[i] = 0 := by simpa using h
   exact Vo (i + 1) ⟨⟨by omega, by omega⟩, by rw [hd, h]; rfl⟩ (by omega)
 all_goals
  refine zt (congrArg _ ?_);have := key hi hi' (by omega) hd;rw [this]; unfold Zc; (repeat' split) <;> omega
theorem mrg_nil {α : Type} {c : α → α → Int} (a : List α) : mrg c a [] = a := by cases a <;> rw [mrg]
set_option maxHeartbeats 2000000 in
theorem refMerged_spec (k : Nat) (g : Ghost) (va vb : Value) (a b : List (List ValT)) (ha : RS (kSl (Ud k)) g va a) (hb : RS (kSl (Ud k)) g vb b) (hal : a.length + b.length ≤ 1000000)
  (hla : ∀ s ∈ a, s.length ≤ 35184372088832) (hlb : ∀ s ∈ b, s.length ≤ 35184372088832) :
  Pr PP 124 [va, vb] g fun g2 r => RS (kSl (Ud k)) g2 r (mrg cmpSt a b) := fun g' hg => by
 have ha := ha.mono hg
 have hb := hb.mono hg
 obtain ⟨aa, ca, rfl⟩ := ha.form
 obtain ⟨ab, cb, rfl⟩ := hb.form
 refine cl_pr (fun _ _ _ hg h => h.mono hg) Tryz.func124 rfl rfl Tryz.ntmps124 rfl fun F => ?_
 repeat' (first | refine zA2 ?_ | refine zB (fun h => ?_) fun h => ?_ | fail)
 refine zLg (σ := (Nat × Nat) × Value × Own × List (List ValT)) (fun x => [(6, .int .i64 (x.1.1 : Nat)), (7, .int .i64 (x.1.2 : Nat)), (5, x.2.1)]) [0, 1] (fun _ => g') (fun x => x.2.2.1 ++ F) (fun x => (x.1.1 ≤ a.length ∧ x.1.2 ≤ b.length ∧ x.2.2.2.length ≤ x.1.1 + x.1.2) ∧ Bld (kSl (Ud k)) 44 g' x.2.1 x.2.2.2 x.2.2.1 ∧ mrg cmpSt a b = x.2.2.2 ++ mrg cmpSt (a.drop x.1.1) (b.drop x.1.2)) (fun x => (a.length - x.1.1) + (b.length - x.1.2)) ((0, 0), .slice none 0 0, [], []) ⟨⟨Nat.zero_le _, Nat.zero_le _, Nat.le_refl _⟩, Bld.nil, rfl⟩ rfl rfl fun ((i, j), v, H, o) ⟨⟨hi, hj, hol⟩, hB, hm⟩ => ?_
 simp only at hi hj hol hB hm
 dsimp only
 repeat' (first | refine zA2 ?_ | refine zB (fun h => ?_) fun h => ?_ | fail)
 all_goals try (exfalso; omega)
 ·have h1 : i < a.length := by omega
  obtain ⟨b1, c1', e1, r1⟩ := ha.sl (i := i) h1
  repeat' (first | refine zA2 ?_ | refine zB (fun h => ?_) fun h => ?_ | fail)
  refine zpb hB (slR r1) fun v' H' hB' => ?_
  repeat' (first | refine zA2 ?_ | refine zB (fun h => ?_) fun h => ?_ | fail)
  refine Zo ((i + 1, j), v', H', o ++ [a[i]]) ⟨⟨by show i + 1 ≤ _; omega, by show j ≤ _; omega, by simp; omega⟩, hB', ?_⟩ (by dsimp only; omega) fun _ h => h
  rw [hm, List.drop_eq_getElem_cons h1, List.drop_of_length_le (l := b) (by omega), mrg_nil, mrg_nil, List.append_assoc]; rfl
 ·have h1 : i < a.length := by omega
  have h2 : j < b.length := by omega
  obtain ⟨b1, c1', e1, r1⟩ := ha.sl (i := i) h1;obtain ⟨b2, c2', e2, r2⟩ := hb.sl (i := j) h2;have c1 := refCmpSt_spec k g' _ _ _ _ r1 r2 (hla _ (List.getElem_mem h1)) (hlb _ (List.getElem_mem h2));rw [List.drop_eq_getElem_cons h1, List.drop_eq_getElem_cons h2, mrg] at hm
  generalize cmpSt a[i] b[j] = c at c1 hm
  repeat' (first | refine zA2 ?_ | refine zB (fun h => ?_) fun h => ?_ | fail)
  ·refine zpb hB (slR r1) fun v' H' hB' => ?_
   repeat' (first | refine zA2 ?_ | refine zB (fun h => ?_) fun h => ?_ | fail)
   ·refine Zo ((i + 1, j + 1), v', H', o ++ [a[i]]) ⟨⟨by show i + 1 ≤ _; omega, by show j + 1 ≤ _; omega, by simp; omega⟩, hB', ?_⟩ (by dsimp only; omega) fun _ h => h
    rw [hm, if_neg (by omega), if_pos (by omega), List.append_assoc]; rfl
   ·refine Zo ((i + 1, j), v', H', o ++ [a[i]]) ⟨⟨by show i + 1 ≤ _; omega, by show j ≤ _; omega, by simp; omega⟩, hB', ?_⟩ (by dsimp only; omega) fun _ h => h
    rw [hm, if_pos (by omega), List.append_assoc, List.drop_eq_getElem_cons h2]; rfl
  ·refine zpb hB (slR r2) fun v' H' hB' => ?_
   repeat' (first | refine zA2 ?_ | refine zB (fun h => ?_) fun h => ?_ | fail)
   ·refine Zo ((i, j + 1), v', H', o ++ [b[j]]) ⟨⟨by show i ≤ _; omega, by show j + 1 ≤ _; omega, by simp; omega⟩, hB', ?_⟩ (by dsimp only; omega) fun _ h => h
    rw [hm, if_neg (by omega), if_neg (by omega), List.append_assoc, List.drop_eq_getElem_cons h1]; rfl
   ·exfalso; omega
 ·have h2 : j < b.length := by omega
  obtain ⟨b2, c2', e2, r2⟩ := hb.sl (i := j) h2
  repeat' (first | refine zA2 ?_ | refine zB (fun h => ?_) fun h => ?_ | fail)
  refine zpb hB (slR r2) fun v' H' hB' => ?_
  repeat' (first | refine zA2 ?_ | refine zB (fun h => ?_) fun h => ?_ | fail)
  refine Zo ((i, j + 1), v', H', o ++ [b[j]]) ⟨⟨by show i ≤ _; omega, by show j + 1 ≤ _; omega, by simp; omega⟩, hB', ?_⟩ (by dsimp only; omega) fun _ h => h
  rw [hm, List.drop_of_length_le (l := a) (by omega), List.drop_eq_getElem_cons h2, mrg, mrg, List.append_assoc]; rfl
 ·intro w hs;obtain ⟨g2, h1, h2, h3⟩ := hB.freeze hs;refine Xb (Xo rfl rfl) ⟨g2, h1, h2, ?_⟩;rw [hm, List.drop_of_length_le (l := a) (by omega), List.drop_of_length_le (l := b) (by omega), mrg_nil, List.append_nil];exact h3
end
section
open Go.RowKit
section
variable {α : Type} {c : α → α → Int}
theorem mrg_mem : ∀ (a b : List α) (x : α), x ∈ mrg c a b → x ∈ a ∨ x ∈ b
 | [], b, x, h => by rw [mrg] at h; exact .inr h
 | y :: a, [], x, h => by rw [mrg] at h; exact .inl h
 | y :: a, z :: b, x, h => by
  rw [mrg] at h
  split at h
  ·rcases List.mem_cons.1 h with rfl | h
   ·exact .inl (by simp)
   ·exact (mrg_mem a (z :: b) x h).imp (List.mem_cons_of_mem _) id
  ·split at h
   ·rcases List.mem_cons.1 h with rfl | h
    ·exact .inl (by simp)
    ·exact (mrg_mem a b x h).imp (List.mem_cons_of_mem _) (List.mem_cons_of_mem _)
   ·rcases List.mem_cons.1 h with rfl | h
    ·exact .inr (by simp)
    ·exact (mrg_mem (y :: a) b x h).imp id (List.mem_cons_of_mem _)
termination_by a b => a.length + b.length
theorem mrg_len : ∀ (a b : List α), (mrg c a b).length ≤ a.length + b.length
 | [], b => by rw [mrg]; simp
 | y :: a, [] => by rw [mrg]; simp
 | y :: a, z :: b => by
  rw [mrg]
  split
  ·have := mrg_len a (z :: b); simp only [List.length_cons] at this ⊢; omega
  ·split
   ·have := mrg_len a b; simp only [List.length_cons] at this ⊢; omega
   ·have := mrg_len (y :: a) b; simp only [List.length_cons] at this ⊢; omega
termination_by a b => a.length + b.length
theorem srt_mem : ∀ (f : Nat) (l : List α) (x : α), x ∈ srt c f l → x ∈ l
 | 0, l, x, h => by rw [srt] at h; exact h
 | f + 1, l, x, h => by
  rw [srt] at h
  split at h
  ·exact h
  ·rcases mrg_mem _ _ _ h with h | h
   ·exact List.mem_of_mem_take (srt_mem f _ x h)
   ·exact List.mem_of_mem_drop (srt_mem f _ x h)
theorem srt_len : ∀ (f : Nat) (l : List α), (srt c f l).length ≤ l.length
 | 0, l => by rw [srt]; exact Nat.le_refl _
 | f + 1, l => by
  rw [srt]
  split
  ·exact Nat.le_refl _
  ·refine Nat.le_trans (mrg_len _ _) ?_;have h1 := srt_len f (l.take (l.length / 2));have h2 := srt_len f (l.drop (l.length / 2));rw [List.length_take] at h1; rw [List.length_drop] at h2; omega
end
set_option maxHeartbeats 2000000 in
theorem refSorted_spec (k : Nat) : ∀ (f : Nat) (g : Ghost) (a : Option Addr) (n cap : Nat) (l : List (List ValT)), RS (kSl (Ud k)) g (.slice a n cap) l → n ≤ cap → l.length ≤ f → l.length ≤ 1000000 → (∀ s ∈ l, s.length ≤ 35184372088832) →
  Pr PP 104 [.slice a n cap] g fun g2 r => RS (kSl (Ud k)) g2 r (srt cmpSt f l)
 | 0 => fun g a n cap l hl hc hf _ hs g' hg => by
  have hl := hl.mono hg;have e0 : l = [] := List.length_eq_zero_iff.1 (by omega);subst e0;obtain ⟨_, _, e1⟩ := hl.form;simp only [Value.slice.injEq] at e1
  obtain ⟨rfl, rfl, rfl⟩ := e1;refine cl_pr (fun _ _ _ hg h => h.mono hg) Tryz.func104 rfl rfl Tryz.ntmps104 rfl fun F => ?_
  repeat' (first | refine zA2 ?_ | refine zB (fun h => ?_) fun h => ?_ | fail)
  intro w hs;exact Xb (Xo rfl rfl) ⟨g', Ghost.rfl', hs, RS.nil _ _ _ _⟩
 | f + 1 => fun g a n cap l hl hc hf hb hs g' hg => by
  have ih := refSorted_spec k f;have hl := hl.mono hg;obtain ⟨_, _, e1⟩ := hl.form;simp only [Value.slice.injEq] at e1
  obtain ⟨rfl, rfl, rfl⟩ := e1;rw [srt];refine cl_pr (fun _ _ _ hg h => h.mono hg) Tryz.func104 rfl rfl Tryz.ntmps104 rfl fun F => ?_
  repeat' (first | refine zA2 ?_ | refine zB (fun h => ?_) fun h => ?_ | fail)
  ·intro w hs;refine Xb (Xo rfl rfl) ⟨g', Ghost.rfl', hs, ?_⟩;rw [if_pos (by omega)]; exact hl
  ·have eh : ((l.length : Int) / 2).toNat = l.length / 2 := by omega
   have p1 := hl.part (0 : Int).toNat ((l.length : Int) / 2).toNat (by simp) (by omega) hc _ rfl;have p2 := hl.part ((l.length : Int) / 2).toNat (l.length : Int).toNat (by omega) (by simp) hc _ rfl;have e1 : (l.take ((l.length : Int) / 2).toNat).drop (0 : Int).toNat = l.take (l.length / 2) := by rw [eh]; rfl
   have e2 : (l.take (l.length : Int).toNat).drop ((l.length : Int) / 2).toNat = l.drop (l.length / 2) := by rw [eh, Int.toNat_natCast, List.take_length]
   rw [e1] at p1
   rw [e2] at p2
   refine zD Yd (by kernel_rfl) rfl fun gd hgd => ?_
   refine zW ?_;refine zW ?_;refine sg_slice rfl rfl rfl (by omega) hc rfl rfl rfl rfl ?_;refine Uf [] [] rfl rfl rfl (fun g2 hg2 => ih g2 _ _ _ _ (p1.mono (Ghost.tr hgd hg2)) (by omega) (by rw [List.length_take]; omega) (by rw [List.length_take]; omega) (fun s h => hs s (List.mem_of_mem_take h)) g2 Ghost.rfl') ?_;refine zW ?_;refine zW ?_
   refine sg_slice rfl rfl rfl (by omega) hc rfl rfl rfl rfl ?_;refine Uf [] [] rfl rfl rfl (fun g2 hg2 => ih g2 _ _ _ _ (p2.mono (Ghost.tr hgd hg2)) (by omega) (by rw [List.length_drop]; omega) (by rw [List.length_drop]; omega) (fun s h => hs s (List.mem_of_mem_drop h)) g2 Ghost.rfl') ?_
   refine sg_callW2 14 18 [] [] rfl rfl rfl rfl rfl (fun _ _ => rfl) (fun _ _ => rfl) (fun g2 g3 v L' v2 L2 hg3 ⟨ga, hga, _, ha⟩ ⟨gb, hgb, _, hb'⟩ hg2 => refMerged_spec k g2 v v2 _ _ (ha.mono (Ghost.tr hga hg2)) (hb'.mono (Ghost.tr hgb hg2)) ?_ (fun s h => hs s (List.mem_of_mem_take (srt_mem _ _ _ h))) (fun s h => hs s (List.mem_of_mem_drop (srt_mem _ _ _ h))) g2 Ghost.rfl') ?_
   ·have h1 := srt_len (c := cmpSt) f (l.take (l.length / 2));have h2 := srt_len (c := cmpSt) f (l.drop (l.length / 2));rw [List.length_take] at h1; rw [List.length_drop] at h2; omega
   refine sg_assignW (ky := 19) (Kf _) (fun g v L' h => by obtain ⟨_, _, h, _⟩ := h; exact h) rfl rfl (fun _ => rfl) ?_;refine Xy ?_;rintro g1 hg1 v1 L1 ⟨_, _, rfl, _⟩ v2 L2 ⟨_, _, rfl, _⟩ v3 L3 ⟨_, _, rfl, _⟩ v4 L4 ⟨g4, hg4, rfl, h4⟩;intro w hs;refine Xb (Xo rfl rfl) ⟨g1, Ghost.tr hgd hg1, hs, ?_⟩;rw [if_neg (by omega)];exact h4.mono hg4
end
section
open Go.RowKit
def kEdge : Kd (Int × Int) := kEnc (fun e => [.int .i64 e.1, .int .i64 e.2]) 2 (fun _ => rfl)
structure GraphV where
 sts : List (List ValT)
 init : List Int
 es : List (Int × Int)
def edBad (n f : Int) (prev : Option (Int × Int)) (e : Int × Int) : Prop :=
 e.1 < 0 ∨ e.1 ≥ n ∨ e.2 < 0 ∨ e.2 ≥ n ∨ (∃ p, prev = some p ∧ ¬ (p.1 < e.1 ∨ p.1 = e.1 ∧ p.2 < e.2)) ∨ e.1 ≥ f ∨ e.2 > f
open Classical in
noncomputable def edW (n : Int) : Option (Int × Int) → List (Int × Int) → Int → Option Int
 | _, [], f => some f
 | prev, e :: r, f => if edBad n f prev e then none else edW n (some e) r (if e.2 = f then f + 1 else f)
def prevE (es : List (Int × Int)) : Nat → Option (Int × Int)
 | 0 => none
 | i + 1 => es[i]?
structure GraphOk (G : GraphV) : Prop where
 n : G.sts.length ≤ 20000
 m : G.es.length ≤ 100000
 k : G.init.length ≤ G.sts.length
 st : ∀ s ∈ G.sts, s.length = (G.sts.headD []).length ∧ s.all Zn = true
 nd : G.sts.Nodup
 ini : ∀ i (h : i < G.init.length), G.init[i] = i
 ed : edW G.sts.length none G.es G.init.length = some (G.sts.length : Int)
open Classical in
noncomputable def Vv (G : GraphV) : Bool := decide (GraphOk G)
theorem Un {G : GraphV} (h : ¬ GraphOk G) : Vv G = false := by classical exact decide_eq_false h
structure GrRn (k : Nat) (g : Ghost) (cs : List Value) (G : GraphV) : Prop where
 cs : ∃ vs vi ve, cs = [vs, vi, ve] ∧ (∃ a c, vs = .slice a G.sts.length c ∧ G.sts.length ≤ c) ∧ RS (kSl (Ud k)) g vs G.sts ∧ RS kInt g vi G.init ∧ RS kEdge g ve G.es
 n : G.sts.length ≤ 1000
 i : G.init.length ≤ 1000
 e : G.es.length ≤ 1000
 s : ∀ s ∈ G.sts, s.length ≤ 1000 ∧ Zz s ≤ 1000000
theorem refAre_spec (k : Nat) (g : Ghost) (vl : Value) (l : List ValT) (hl : RS (Ud k) g vl l) (hb : l.length ≤ 35184372088832) (hc : Zz l ≤ 1000000) : Pu PP 103 [vl] g (.bool (l.all Zn)) := fun g' hg => by
 have hl := hl.mono hg
 obtain ⟨al, cl, rfl⟩ := hl.form
 have hIs : ∀ g cs v, ValRn k g cs v → cntV v ≤ 1000000000 → Pu PP 123 [.agg cs.toArray] g (.bool (Zn v)) := fun g cs v h1 hc g' hg => by
  have c1 := refSize_spec k g' cs v (h1.mono hg) hc;have c2 := refFormed_spec k g' cs v (h1.mono hg);have n1 := (h1.mono hg).len;obtain ⟨k, rfl⟩ : ∃ j, k = j + 1 := ⟨k - 1, by cases k; exact h1.elim; rfl⟩
  obtain ⟨vd, vl, vm, rfl, d1, l1, m1, _⟩ := (h1.mono hg).open';obtain ⟨_, _, rfl⟩ := d1.form;obtain ⟨_, _, rfl⟩ := l1.form;obtain ⟨_, _, rfl⟩ := m1.form;unfold Zn;refine Ym Tryz.func123 rfl rfl Tryz.ntmps123 rfl fun F => ?_
  refine ze fun b => ?_
  repeat' (first | refine zA3 ?_ | refine zBD (fun h => ?_) fun h => ?_ | fail)
  all_goals (refine zt (congrArg _ ?_); first | (rw [decide_eq_true (show (cntV v : Int) ≤ 8000 by omega), decide_eq_true (show (depV v : Int) ≤ 50 by omega)]; rfl) | (rw [decide_eq_false (show ¬ (depV v : Int) ≤ 50 by omega), Bool.and_false]; rfl) | (rw [decide_eq_false (show ¬ (cntV v : Int) ≤ 8000 by omega)]; rfl))
 refine Ym Tryz.func103 rfl rfl Tryz.ntmps103 rfl fun F => ?_
 repeat' (first | refine zA3 ?_ | refine zBD (fun h => ?_) fun h => ?_ | fail)
 refine zl 3 [0] (fun i => (i : Int)) (fun i => i ≤ l.length ∧ (l.take i).all Zn = true) (fun i => l.length - i) 0 ⟨Nat.zero_le _, rfl⟩ fun i ⟨hi, hp⟩ => ?_
 repeat' (first | refine zA3 ?_ | refine zBD (fun h => ?_) fun h => ?_ | fail)
 ·have hil : i < l.length := by omega
  obtain ⟨cs1, r1, q1⟩ := hl.get (i := i) hil;have n1 : cs1.length = 7 := r1.len;have q1 := q1.of_eaddr;have c1 := hIs g' cs1 _ r1 (by have := cntV_le hil; omega)
  repeat' (first | refine zA3 ?_ | refine zBD (fun h => ?_) fun h => ?_ | fail)
  ·refine zt (congrArg _ ?_);exact (Qo hil (by simpa using h)).symm
  ·exact Vo (i + 1) ⟨by omega, Kc hil hp (by simpa using h)⟩ (by omega)
 ·exact zt (congrArg _ (all_end (by omega) hp).symm)
set_option maxHeartbeats 4000000 in
theorem refIsG_spec (k : Nat) (g : Ghost) (cs : List Value) (G : GraphV) (hG : GrRn k g cs G) : Pu PP 61 [.agg cs.toArray] g (.bool (Vv G)) := fun g' hg => by
 obtain ⟨⟨vs, vi, ve, rfl, ⟨a1, q1, rfl, hcap⟩, hS, hI, hE⟩, bn, bi, be, bs⟩ := hG
 have hS := hS.mono hg
 have hI := hI.mono hg
 have hE := hE.mono hg
 obtain ⟨ai, ci, rfl⟩ := hI.form
 obtain ⟨ae, ce, rfl⟩ := hE.form
 obtain ⟨sts, init, es⟩ := G
 simp only at *
 refine Ym Tryz.func61 rfl rfl Tryz.ntmps61 rfl fun F => ?_
 refine ze fun b => ?_
 repeat' (first | refine zA3 ?_ | refine zBD (fun h => ?_) fun h => ?_ | fail)
 ·refine zt (congrArg _ (Un ?_).symm);intro H; have := H.n; simp only at this; omega
 ·refine zt (congrArg _ (Un ?_).symm);intro H; have := H.m; simp only at this; omega
 ·refine zt (congrArg _ (Un ?_).symm);intro H; have := H.k; simp only at this; omega
 rename_i k1 k2
 refine zl 4 [1, 3] (fun i => (i : Int)) (fun i => i ≤ sts.length ∧ ∀ j (h : j < i) (h2 : j < sts.length), sts[j].length = (sts.headD []).length ∧ sts[j].all Zn = true) (fun i => sts.length - i) 0 ⟨Nat.zero_le _, fun j h => by omega⟩ fun i ⟨hi, hp⟩ => ?_
 repeat' (first | refine zA3 ?_ | refine zBD (fun h => ?_) fun h => ?_ | fail)
 ·have hil : i < sts.length := by omega
  obtain ⟨b1, q1', e1, r1⟩ := hS.sl (i := i) hil;obtain ⟨b0, q0', e0, r0⟩ := hS.sl (i := 0) (by omega);have hs1 := bs _ (List.getElem_mem hil);have hs0 := bs _ (List.getElem_mem (show 0 < sts.length by omega));have c1 := refAre_spec k g' _ _ r1 (by omega) hs1.2;have eh : sts.headD [] = sts[0]'(by omega) := by cases sts; simp at hil; rfl
  repeat' (first | refine zA3 ?_ | refine zBD (fun h => ?_) fun h => ?_ | fail)
  ·refine zt (congrArg _ (Un ?_).symm);intro H;have := (H.st _ (List.getElem_mem hil)).1;simp only [bne_iff_ne, ne_eq] at h
   rw [eh] at this
   omega
  ·refine zt (congrArg _ (Un ?_).symm);intro H;have := (H.st _ (List.getElem_mem hil)).2;rw [this] at h; cases h
  ·rename_i h0;refine Vo (i + 1) ⟨by omega, fun j hj h2 => ?_⟩ (by omega)
   by_cases e : j = i
   ·subst e;simp only [bne_eq_false_iff_eq] at h0
    exact ⟨by rw [eh]; omega, by simpa using h⟩
   ·exact hp j (by omega) h2
 ·have hst : ∀ s ∈ sts, s.length = (sts.headD []).length ∧ s.all Zn = true := fun s hs => by
   obtain ⟨j, hj, rfl⟩ := List.getElem_of_mem hs;exact hp j (by omega) hj
  have hord : Ord cmpSt flatL (fun s : List ValT => s.length = (sts.headD []).length) := ⟨fun x y hx hy => by
   rw [← cmpLs_lex (hx.trans hy.symm)];unfold cmpSt;rw [show (x.length : Int) = y.length by rw [hx, hy], Vu, thn_zero], fun x y hx hy h => by
   unfold cmpSt at h
   exact cmpLs_eq0 _ _ (hx.trans hy.symm) (thn_eq0.1 h).1⟩
  have hsrt := (srt_ok hord sts.length sts (Nat.le_refl _) (fun s hs => (hst s hs).1)).2.2.2;refine zpr (refSorted_spec k sts.length g' a1 sts.length q1 sts hS hcap (Nat.le_refl _) (by omega) (fun s hs => by have := (bs s hs).1; omega)) fun g2 v hg2 hv => ?_
  obtain ⟨av, cv, rfl⟩ := hv.form;refine zup hg2 ?_
  repeat' (first | refine zA3 ?_ | refine zBD (fun h => ?_) fun h => ?_ | fail)
  ·refine zt (congrArg _ (Un ?_).symm);intro H;have := hsrt.2 H.nd;simp only [bne_iff_ne, ne_eq] at h
   omega
  simp only [bne_eq_false_iff_eq] at h
  have hnd : sts.Nodup := hsrt.1 (by omega);refine zl 5 [1, 3] (fun i => (i : Int)) (fun i => i ≤ init.length ∧ ∀ j (h : j < i) (h2 : j < init.length), init[j] = j) (fun i => init.length - i) 0 ⟨Nat.zero_le _, fun j h => by omega⟩ fun i ⟨hi, hp⟩ => ?_
  repeat' (first | refine zA3 ?_ | refine zBD (fun h => ?_) fun h => ?_ | fail)
  ·have hil : i < init.length := by omega
   refine zt (congrArg _ (Un ?_).symm);intro H;have := H.ini i hil;simp only [bne_iff_ne, ne_eq] at h
   exact h this
  ·simp only [bne_eq_false_iff_eq] at h
   refine Vo (i + 1) ⟨by omega, fun j hj h2 => ?_⟩ (by omega)
   by_cases e : j = i
   ·subst e; exact h
   ·exact hp j (by omega) h2
  have hini : ∀ j (h : j < init.length), init[j] = j := fun j h => hp j (by omega) h
  refine zL (fun x : Nat × Int => [(7, .int .i64 (x.1 : Int)), (6, .int .i64 x.2)]) [1, 3] (fun x => x.1 ≤ es.length ∧ (0 ≤ x.2 ∧ x.2 ≤ (init.length : Int) + x.1) ∧ edW sts.length none es init.length = edW sts.length (prevE es x.1) (es.drop x.1) x.2) (fun x => es.length - x.1) (0, (init.length : Int)) ⟨Nat.zero_le _, ⟨by omega, by simp⟩, rfl⟩ fun (i, f) ⟨hi, hf, he⟩ => ?_
  simp only at hi hf he
  dsimp only
  repeat' (first | refine zA3 ?_ | refine zBD (fun h => ?_) fun h => ?_ | fail)
  ·have hil : i < es.length := by omega
   have hEe : ∀ j (hj : j < es.length) q u, [Value.int .i64 es[j].1, .int .i64 es[j].2][q]? = some u → g'.cell ((Zj ae 2 j).add q) = some u := fun j hj => Lies.of_eaddr (RS.enc (e := fun e : Int × Int => [.int .i64 e.1, .int .i64 e.2]) (h0 := fun _ => rfl) hE hj)
   have q1 := hEe i hil;have n1 : [Value.int .i64 es[i].1, .int .i64 es[i].2].length = 2 := rfl;rw [List.drop_eq_getElem_cons hil, edW] at he
   have bad : edBad sts.length f (prevE es i) es[i] → Value.bool false = .bool (Vv ⟨sts, init, es⟩) := fun hb => congrArg _ (Un fun H => by
    have := H.ed;simp only at this
    rw [he, if_pos hb] at this; cases this).symm
   have good : ¬ edBad sts.length f (prevE es i) es[i] → edW sts.length none es init.length = edW sts.length (prevE es (i + 1)) (es.drop (i + 1)) (if es[i].2 = f then f + 1 else f) := fun hb => by
    rw [he, if_neg hb]
    show _ = edW _ es[i]? _ _
    rw [List.getElem?_eq_getElem hil]
   generalize es[i] = e at q1 n1 bad good
   unfold edBad at bad good
   have fin : ∀ {i' : Int}, edW sts.length none es init.length = edW sts.length (prevE es (i + 1)) (es.drop (i + 1)) i' → 0 ≤ i' ∧ i' ≤ f + 1 → (i + 1 ≤ es.length ∧ (0 ≤ i' ∧ i' ≤ (init.length : Int) + (i + 1 : Nat)) ∧ edW sts.length none es init.length = edW sts.length (prevE es (i + 1)) (es.drop (i + 1)) i') := fun h1 h2 => ⟨by omega, by omega, h1⟩
   rcases Nat.eq_zero_or_pos i with rfl | hip
   ·have hpr : prevE es 0 = none := rfl;rw [hpr] at bad good
    repeat' (first | refine zA3 ?_ | refine zBD (fun h => ?_) fun h => ?_ | fail)
    refine zne fun b8 => ?_
    refine zsw ?_
    repeat' (first | refine zA3 ?_ | refine zBD (fun h => ?_) fun h => ?_ | fail)
    all_goals try (exfalso; omega)
    all_goals first
     | exact zt (bad (by first | exact .inl ‹_› | exact .inr (.inl ‹_›) | exact .inr (.inr (.inl ‹_›)) | exact .inr (.inr (.inr (.inl ‹_›))) | exact .inr (.inr (.inr (.inr (.inr (.inl ‹_›))))) | exact .inr (.inr (.inr (.inr (.inr (.inr ‹_›)))))))
     | exact Ku (Vc (0 + 1, f + 1) (fin (by have := good (by rintro (q | q | q | q | ⟨p, q, _⟩ | q | q) <;> first | omega | cases q); rwa [if_pos h] at this) (by omega)) (by dsimp only; omega))
     | exact Ku (Vc (0 + 1, f) (fin (by have := good (by rintro (q | q | q | q | ⟨p, q, _⟩ | q | q) <;> first | omega | cases q); rwa [if_neg h] at this) (by omega)) (by dsimp only; omega))
   ·obtain ⟨j, rfl⟩ : ∃ j, i = j + 1 := ⟨i - 1, by omega⟩
    have ej : (((j + 1 : Nat) : Int) - 1).toNat = j := by omega
    have q2 : ∀ q u, [Value.int .i64 es[j].1, .int .i64 es[j].2][q]? = some u → g'.cell ((Zj ae 2 (((j + 1 : Nat) : Int) - 1).toNat).add q) = some u := by rw [ej]; exact hEe j (by omega)
    have p0 := q2 0 _ rfl;have p1 := q2 1 _ rfl;have hpr : prevE es (j + 1) = some es[j] := List.getElem?_eq_getElem (by omega);rw [hpr] at bad good
    generalize es[j] = pe at p0 p1 bad good
    clear q2 hEe hpr
    repeat' (first | refine zA3 ?_ | refine zBD (fun h => ?_) fun h => ?_ | fail)
    refine zne fun b8 => ?_
    refine zsw ?_
    repeat' (first | refine zA3 ?_ | refine zBD (fun h => ?_) fun h => ?_ | fail)
    all_goals try (exfalso; omega)
    all_goals first
     | exact zt (bad (by first | exact .inl ‹_› | exact .inr (.inl ‹_›) | exact .inr (.inr (.inl ‹_›)) | exact .inr (.inr (.inr (.inl ‹_›))) | exact .inr (.inr (.inr (.inr (.inr (.inl ‹_›))))) | exact .inr (.inr (.inr (.inr (.inr (.inr ‹_›))))) | exact .inr (.inr (.inr (.inr (.inl ⟨pe, rfl, by omega⟩))))))
     | exact Ku (Vc (j + 1 + 1, f + 1) (fin (by have := good (by rintro (q | q | q | q | ⟨p, q, _⟩ | q | q) <;> first | omega | (cases q; omega)); rwa [if_pos h] at this) (by omega)) (by dsimp only; omega))
     | exact Ku (Vc (j + 1 + 1, f) (fin (by have := good (by rintro (q | q | q | q | ⟨p, q, _⟩ | q | q) <;> first | omega | (cases q; omega)); rwa [if_neg h] at this) (by omega)) (by dsimp only; omega))
  ·refine zt (congrArg Value.bool ?_);rw [List.drop_of_length_le (by omega), edW] at he
   classical
   unfold Vv;rw [Bool.eq_iff_iff];simp only [beq_iff_eq, decide_eq_true_eq];exact ⟨fun h => ⟨by simp only; omega, by simp only; omega, by simp only; omega, hst, hnd, hini, by simp only; rw [he, h]⟩, fun H => by have := H.ed; simp only at this; rw [he] at this; simpa using this⟩
end
section
open Go.RowKit
def byR (x : Int) : Prop := 0 ≤ x ∧ x < 256
theorem beB_r : ∀ (k : Nat) (n : Int), ∀ x ∈ beB k n, byR x
 | 0, _, x, h => by cases h
 | k + 1, n, x, h => by
  rw [beB] at h
  rcases List.mem_cons.1 h with rfl | h
  ·exact ⟨Int.emod_nonneg _ (by decide), Int.emod_lt_of_pos _ (by decide)⟩
  ·exact beB_r k n x h
mutual
theorem encV_r : ∀ (v : ValT), ∀ x ∈ Qr v, byR x
 | .mk k n g d s l m, x, h => by
  have il := fun h => encL_r l x h
  have im := fun h => encL_r m x h
  rw [Qr] at h
  rcases List.mem_cons.1 h with rfl | h
  ·exact ⟨Int.emod_nonneg _ (by decide), Int.emod_lt_of_pos _ (by decide)⟩
  split at h
  ·have := List.mem_singleton.1 h;subst this;exact ⟨Int.emod_nonneg _ (by decide), Int.emod_lt_of_pos _ (by decide)⟩
  split at h
  ·rcases List.mem_cons.1 h with rfl | h
   ·unfold byR; split <;> omega
   rcases List.mem_append.1 h with h | h
   ·exact beB_r _ _ x h
   ·obtain ⟨y, _, h⟩ := List.mem_flatMap.1 h;exact beB_r _ _ x h
  split at h
  ·rcases List.mem_append.1 h with h | h
   ·exact beB_r _ _ x h
   ·obtain ⟨c, _, rfl⟩ := List.mem_map.1 h;have := c.toNat_lt;unfold byR; omega
  ·rcases List.mem_append.1 h with h | h
   ·exact beB_r _ _ x h
   rcases List.mem_append.1 h with h | h
   ·exact il h
   ·exact im h
theorem encL_r : ∀ (l : List ValT), ∀ x ∈ Uo l, byR x
 | [], x, h => by rw [Uo] at h; cases h
 | v :: r, x, h => by
  rw [Uo] at h
  rcases List.mem_append.1 h with h | h
  ·exact encV_r v x h
  ·exact encL_r r x h
end
theorem keyS_r : ∀ (s : List ValT), ∀ x ∈ Km s, byR x
 | [], x, h => by rw [Km] at h; cases h
 | v :: r, x, h => by
  rw [Km] at h
  rcases List.mem_append.1 h with h | h
  ·exact beB_r _ _ x h
  rcases List.mem_append.1 h with h | h
  ·exact encV_r v x h
  ·exact keyS_r r x h
theorem nums_inj : ∀ {a b : List Int}, (∀ x ∈ a, byR x) → (∀ x ∈ b, byR x) → a.map (fun n => UInt8.ofNat n.toNat) = b.map (fun n => UInt8.ofNat n.toNat) → a = b
 | [], [], _, _, _ => rfl
 | [], _ :: _, _, _, h => by simp at h
 | _ :: _, [], _, _, h => by simp at h
 | x :: a, y :: b, ha, hb, h => by
  simp only [List.map_cons, List.cons.injEq] at h
  have h1 := ha x (by simp);have h2 := hb y (by simp);unfold byR at h1 h2
  have h3 := congrArg UInt8.toNat h.1;rw [UInt8.toNat_ofNat', UInt8.toNat_ofNat'] at h3
  rw [nums_inj (fun x hx => ha x (by simp [hx])) (fun x hx => hb x (by simp [hx])) h.2, show x = y by omega]
theorem keyB_inj {s t : List ValT} (hs : s.all Zn = true) (ht : t.all Zn = true) (h : keyB s = keyB t) : s = t := by
 unfold keyB at h
 have h1 := congrArg (fun b : ByteArray => b.data.toList) h
 simp only [ByteArray.data_append, Array.toList_append, List.append_cancel_left_eq] at h1
 exact keyS_inj hs ht (nums_inj (keyS_r s) (keyS_r t) h1)
theorem chk_spec (k : Nat) (hk : k ≤ 1000) (g : Ghost) (cs : List Value) (v : ValT) (hv : ValRn k g cs v) : Pu PP 97 [.agg cs.toArray] g (.bool (!Zn v)) := fun g' hg => by
 have hv := hv.mono hg
 have c1 := checkV_spec k hk g' cs v hv
 obtain ⟨k, rfl⟩ : ∃ j, k = j + 1 := ⟨k - 1, by cases k; exact hv.elim; rfl⟩
 obtain ⟨vd, vl, vm, rfl, d1, l1, m1, _⟩ := hv.open'
 obtain ⟨_, _, rfl⟩ := d1.form
 obtain ⟨_, _, rfl⟩ := l1.form
 obtain ⟨_, _, rfl⟩ := m1.form
 refine Ym Tryz.func97 rfl rfl Tryz.ntmps97 rfl fun F => ?_
 refine ze fun b => ?_
 repeat' (first | refine zA4 ?_ | refine zBD (fun h => ?_) fun h => ?_ | fail)
 refine zt (congrArg _ ?_)
 cases Zn v <;> rfl
theorem cfVal_spec (k : Nat) (hk : k ≤ 1000) (g : Ghost) (va : Value) (s : List ValT) (hs : RS (Ud k) g va s) (hl : s.length ≤ 1000000000) : Pu PP 96 [va, .func (.func 97) #[] #[]] g (.bool (!s.all Zn)) := fun g' hg => by
 have hs := hs.mono hg
 obtain ⟨a, c, rfl⟩ := hs.form
 have hix : ∃ r : Int, (0 ≤ r ↔ s.all Zn = false) ∧ Pu PP 117 [.slice a s.length c, .func (.func 97) #[] #[]] g' (.int .i64 r) := by
  refine ⟨match s.findIdx? (fun x => !Zn x) with | some i => i | none => -1, ?_, fun g' hg => ?_⟩
  ·cases h : s.findIdx? (fun x => !Zn x) with
   | none =>
    rw [List.findIdx?_eq_none_iff] at h
    simp only [show ¬ (0 : Int) ≤ -1 by decide, false_iff, Bool.not_eq_false, List.all_eq_true];exact fun x hx => by simpa using h x hx
   | some i =>
    obtain ⟨h1, h2, _⟩ := List.findIdx?_eq_some_iff_getElem.1 h;simp only [Int.natCast_nonneg, true_iff];exact Qo h1 (by simpa using h2)
  ·have hs := hs.mono hg;refine Ym Tryz.func117 rfl rfl Tryz.ntmps117 rfl fun F => ?_
   repeat' (first | refine zA4 ?_ | refine zBD (fun h => ?_) fun h => ?_ | fail)
   refine zl 8 [0, 1, 7] (fun i => (i : Int)) (fun i => i ≤ s.length ∧ ∀ j (h : j < s.length), j < i → Zn s[j] = true) (fun i => s.length - i) 0 ⟨Nat.zero_le _, fun j _ h => by omega⟩ fun i ⟨hi, hq⟩ => ?_
   repeat' (first | refine zA4 ?_ | refine zBD (fun h => ?_) fun h => ?_ | fail)
   ·have hil : i < s.length := by omega
    obtain ⟨cs1, r1, q1⟩ := hs.get (i := i) hil;have n1 : cs1.length = 7 := r1.len;have q1 := q1.of_eaddr;have c1 := chk_spec k hk g' cs1 _ r1
    repeat' (first | refine zA4 ?_ | refine zBD (fun h => ?_) fun h => ?_ | fail)
    ·refine zt (congrArg _ ?_);have : s.findIdx? (fun x => !Zn x) = some i := List.findIdx?_eq_some_iff_getElem.2 ⟨hil, h, fun j hj => by simpa using hq j (by omega) hj⟩;rw [this]
    ·refine Vo (i + 1) ⟨by omega, fun j hj hji => ?_⟩ (by omega)
     by_cases e : j = i
     ·subst e; simpa using h
     ·exact hq j hj (by omega)
   ·refine zt (congrArg _ ?_)
    have : s.findIdx? (fun x => !Zn x) = none := List.findIdx?_eq_none_iff.2 fun x hx => by
     obtain ⟨j, hj, rfl⟩ := List.getElem_of_mem hx;simpa using hq j hj (by omega)
    rw [this]
 obtain ⟨r, hr, hp⟩ := hix
 have c1 := hp
 refine Ym Tryz.func96 rfl rfl Tryz.ntmps96 rfl fun F => ?_
 repeat' (first | refine zA4 ?_ | refine zBD (fun h => ?_) fun h => ?_ | fail)
 refine zt (congrArg _ ?_)
 cases h : s.all Zn with
 | true => simp only [Bool.not_true, decide_eq_false_iff_not]; exact fun h' => by have := hr.1 h'; rw [h] at this; cases this
 | false => simp only [Bool.not_false, decide_eq_true_eq]; exact hr.2 h
theorem cmpEd_spec (g : Ghost) (p e : Int × Int) : Pu PP 100 [.agg [Value.int .i64 p.1, .int .i64 p.2].toArray, .agg [Value.int .i64 e.1, .int .i64 e.2].toArray] g (.int .i64 (thn (Zc p.1 e.1) (Zc p.2 e.2))) := fun g' _ => by
 have c1 := cmpCmp_spec g'
 refine Ym Tryz.func100 rfl rfl Tryz.ntmps100 rfl fun F => ?_
 refine ze fun b2 => ?_
 refine ze' fun b3 => ?_
 repeat' (first | refine zA2 ?_ | refine zB (fun h => ?_) fun h => ?_ | fail)
 refine zd Yd (by kernel_rfl) rfl fun gd hgd => ?_
 repeat (first | refine sg_p rfl rfl ?_ | refine Xv 0 rfl rfl rfl rfl rfl rfl ?_ | refine Xv 1 rfl rfl rfl rfl rfl rfl ?_ | refine sg_pc hgd (c1 _ _) rfl rfl ?_)
 refine sg_two rfl rfl rfl rfl rfl rfl rfl ?_
 refine sg_callWK (u := .int .i64 (thn (Zc p.1 e.1) (Zc p.2 e.2))) (vs := fun v => [v]) (post := fun _ L' r => L' = [] ∧ r = .int .i64 (thn (Zc p.1 e.1) (Zc p.2 e.2))) 15 [] [] rfl rfl rfl (fun _ => rfl) (fun _ => rfl) (fun g2 g3 v L' hg3 ⟨g4, hg4, hL, hr⟩ hg2 => by have := or_spec g4 v _ hr (by simp) g2 (Ghost.tr hg4 hg2); simpa [orL, thn_zero] using this) (fun _ _ _ h => h) ?_
 repeat (first | refine sg_p rfl rfl ?_)
 refine Xy ?_
 intro v
 repeat' (first | refine zA4 ?_ | refine zBD (fun h => ?_) fun h => ?_ | fail)
 exact zt rfl
end
section
open Go.RowKit
theorem thn_ord {p e : Int × Int} : ¬ (thn (Zc p.1 e.1) (Zc p.2 e.2) ≥ 0) ↔ (p.1 < e.1 ∨ p.1 = e.1 ∧ p.2 < e.2) := by
 unfold thn Zc
 constructor
 ·intro h; revert h; (repeat' split) <;> omega
 ·intro h; (repeat' split) <;> omega
set_option maxHeartbeats 8000000 in
theorem isGraph_spec (k : Nat) (hk : k ≤ 1000) (g : Ghost) (cs : List Value) (G : GraphV) (hG : GrRn k g cs G) : Pu PP 54 [.agg cs.toArray] g (.bool (Vv G)) := fun g' hg => by
 obtain ⟨⟨vs, vi, ve, rfl, ⟨a1, q1, rfl, hcap⟩, hS, hI, hE⟩, bn, bi, be, bs⟩ := hG
 have hS := hS.mono hg
 have hI := hI.mono hg
 have hE := hE.mono hg
 obtain ⟨ai, ci, rfl⟩ := hI.form
 obtain ⟨ae, ce, rfl⟩ := hE.form
 obtain ⟨sts, init, es⟩ := G
 simp only at *
 refine Ym Tryz.func54 rfl rfl Tryz.ntmps54 rfl fun F => ?_
 refine ze fun b => ?_
 repeat' (first | refine zA4 ?_ | refine zBD (fun h => ?_) fun h => ?_ | fail)
 ·refine zt (congrArg _ (Un ?_).symm);intro H; have := H.n; simp only at this; omega
 ·refine zt (congrArg _ (Un ?_).symm);intro H; have := H.m; simp only at this; omega
 ·refine zt (congrArg _ (Un ?_).symm);intro H; have := H.k; simp only at this; omega
 intro w hs
 refine wl_makeSS hs rfl rfl ?_
 clear hs
 intro r o w hm hs
 revert w hs
 rename_i k1 k2
 repeat' (first | refine zA4 ?_ | refine zBD (fun h => ?_) fun h => ?_ | fail)
 refine zLg (σ := Nat × Obj) (fun x => [(35, .int .i64 (x.1 : Int))]) [1, 3, 4, 33, 34] (fun _ => g') (fun x => (r, x.2) :: (b, Xa [.slice a1 sts.length q1, .slice ai init.length ci, .slice ae es.length ce] 32) :: F) (fun x => x.1 ≤ sts.length ∧ OwnSS ((sts.take x.1).map keyB) x.2 ∧ (∀ j (h : j < x.1) (h2 : j < sts.length), sts[j].length = (sts.headD []).length ∧ sts[j].all Zn = true) ∧ (sts.take x.1).Nodup) (fun x => sts.length - x.1) (0, o) ⟨Nat.zero_le _, hm, fun j h => by simp at h, by simp⟩ rfl rfl fun (i, o1) ⟨hi, hm1, hp, hnd⟩ => ?_
 simp only at hi hm1 hp hnd
 dsimp only
 repeat' (first | refine zA4 ?_ | refine zBD (fun h => ?_) fun h => ?_ | fail)
 ·have hil : i < sts.length := by omega
  obtain ⟨b1, q1', e1, r1⟩ := hS.sl (i := i) hil;obtain ⟨b0, q0', e0, r0⟩ := hS.sl (i := 0) (by omega);have hs1 := bs _ (List.getElem_mem hil);have hs0 := bs _ (List.getElem_mem (show 0 < sts.length by omega));have c1 := cfVal_spec k hk g' _ _ r1 (by omega);have eh : sts.headD [] = sts[0]'(by omega) := by cases sts; simp at hil; rfl
  repeat' (first | refine zA4 ?_ | refine zBD (fun h => ?_) fun h => ?_ | fail)
  ·refine zt (congrArg _ (Un ?_).symm);intro H;have := (H.st _ (List.getElem_mem hil)).1;simp only [bne_iff_ne, ne_eq] at h
   rw [eh] at this
   omega
  ·refine zt (congrArg _ (Un ?_).symm);intro H;have := (H.st _ (List.getElem_mem hil)).2;rw [this] at h; cases h
  rename_i h0;simp only [bne_eq_false_iff_eq] at h0
  have hok : sts[i].all Zn = true := by simpa using h
  have c1 := key_spec k hk g' _ _ r1 hok (by omega)
  repeat' (first | refine zA4 ?_ | refine zBD (fun h => ?_) fun h => ?_ | fail)
  intro w hs;refine wl_lookS hs 0 hm1 rfl rfl rfl rfl rfl rfl rfl rfl rfl rfl rfl ?_;revert w hs
  repeat' (first | refine zA4 ?_ | refine zBD (fun h => ?_) fun h => ?_ | fail)
  ·refine zt (congrArg _ (Un ?_).symm);intro H;obtain ⟨t', ht, hkk⟩ := List.mem_map.1 h;have hnd2 := H.nd;simp only at hnd2
   obtain ⟨j, hj, rfl⟩ := List.getElem_of_mem ht;rw [List.length_take] at hj
   have hjl : j < sts.length := by omega
   rw [List.getElem_take] at hkk
   have he := keyB_inj (hp j (by omega) hjl).2 hok hkk;exact List.pairwise_iff_getElem.1 hnd2 j i hjl hil (by omega) he
  intro w hs;refine wl_putS hs 0 hm1 rfl rfl rfl rfl h rfl rfl rfl rfl rfl ?_;clear hs;intro o2 w hm2 hs;revert w hs
  repeat' (first | refine zA4 ?_ | refine zBD (fun h => ?_) fun h => ?_ | fail)
  refine Zo (i + 1, o2) ⟨by dsimp only; omega, ?_, fun j hj h2 => ?_, ?_⟩ (by dsimp only; omega) fun _ h => h
  ·dsimp only
   rw [tkS hil, List.map_append]; exact hm2
  ·by_cases e : j = i
   ·subst e;exact ⟨by rw [eh]; omega, hok⟩
   ·exact hp j (by simp only at hj; omega) h2
  ·dsimp only
   rw [tkS hil, List.nodup_append];refine ⟨hnd, by simp, fun x hx y hy e => h ?_⟩;rw [List.mem_singleton] at hy
   subst hy; subst e;exact List.mem_map_of_mem hx
 ·refine Ku ?_
  have hst : ∀ s ∈ sts, s.length = (sts.headD []).length ∧ s.all Zn = true := fun s hs => by
   obtain ⟨j, hj, rfl⟩ := List.getElem_of_mem hs;exact hp j (by omega) hj
  rw [List.take_of_length_le (by omega)] at hnd
  clear hm1 hm hp;refine zl 62 [1, 3, 60, 61] (fun i => (i : Int)) (fun i => i ≤ init.length ∧ ∀ j (h : j < i) (h2 : j < init.length), init[j] = j) (fun i => init.length - i) 0 ⟨Nat.zero_le _, fun j h => by omega⟩ fun i ⟨hi, hp⟩ => ?_
  repeat' (first | refine zA4 ?_ | refine zBD (fun h => ?_) fun h => ?_ | fail)
  ·have hil : i < init.length := by omega
   refine zt (congrArg _ (Un ?_).symm);intro H;have := H.ini i hil;simp only [bne_iff_ne, ne_eq] at h
   exact h this
  ·simp only [bne_eq_false_iff_eq] at h
   refine Vo (i + 1) ⟨by omega, fun j hj h2 => ?_⟩ (by omega)
   by_cases e : j = i
   ·subst e; exact h
   ·exact hp j (by omega) h2
  have hini : ∀ j (h : j < init.length), init[j] = j := fun j h => hp j (by omega) h
  refine zL (fun x : Nat × Int => [(77, .int .i64 (x.1 : Int)), (10, .int .i64 x.2)]) [1, 3, 75, 76] (fun x => x.1 ≤ es.length ∧ (0 ≤ x.2 ∧ x.2 ≤ (init.length : Int) + x.1) ∧ edW sts.length none es init.length = edW sts.length (prevE es x.1) (es.drop x.1) x.2) (fun x => es.length - x.1) (0, (init.length : Int)) ⟨Nat.zero_le _, ⟨by omega, by simp⟩, rfl⟩ fun (i, f) ⟨hi, hf, he⟩ => ?_
  simp only at hi hf he
  dsimp only
  clear bs hS hp
  repeat' (first | refine zA4 ?_ | refine zBD (fun h => ?_) fun h => ?_ | fail)
  ·have hil : i < es.length := by omega
   have hEe : ∀ j (hj : j < es.length) q u, [Value.int .i64 es[j].1, .int .i64 es[j].2][q]? = some u → g'.cell ((Zj ae 2 j).add q) = some u := fun j hj => Lies.of_eaddr (RS.enc (e := fun e : Int × Int => [.int .i64 e.1, .int .i64 e.2]) (h0 := fun _ => rfl) hE hj)
   have q1 := hEe i hil;have n1 : [Value.int .i64 es[i].1, .int .i64 es[i].2].length = 2 := rfl;rw [List.drop_eq_getElem_cons hil, edW] at he
   have bad : edBad sts.length f (prevE es i) es[i] → Value.bool false = .bool (Vv ⟨sts, init, es⟩) := fun hb => congrArg _ (Un fun H => by
    have := H.ed;simp only at this
    rw [he, if_pos hb] at this; cases this).symm
   have good : ¬ edBad sts.length f (prevE es i) es[i] → edW sts.length none es init.length = edW sts.length (prevE es (i + 1)) (es.drop (i + 1)) (if es[i].2 = f then f + 1 else f) := fun hb => by
    rw [he, if_neg hb]
    show _ = edW _ es[i]? _ _
    rw [List.getElem?_eq_getElem hil]
   generalize es[i] = e at q1 n1 bad good
   unfold edBad at bad good
   have fin : ∀ {i' : Int}, edW sts.length none es init.length = edW sts.length (prevE es (i + 1)) (es.drop (i + 1)) i' → 0 ≤ i' ∧ i' ≤ f + 1 → (i + 1 ≤ es.length ∧ (0 ≤ i' ∧ i' ≤ (init.length : Int) + (i + 1 : Nat)) ∧ edW sts.length none es init.length = edW sts.length (prevE es (i + 1)) (es.drop (i + 1)) i') := fun h1 h2 => ⟨by omega, by omega, h1⟩
   rcases Nat.eq_zero_or_pos i with rfl | hip
   ·have hpr : prevE es 0 = none := rfl;rw [hpr] at bad good
    clear hEe
    repeat' (first | refine zA4 ?_ | refine zBD (fun h => ?_) fun h => ?_ | fail)
    refine zne fun b8 => ?_
    repeat' (first | refine zA4 ?_ | refine zBD (fun h => ?_) fun h => ?_ | fail)
    refine zsw ?_
    repeat' (first | refine zA4 ?_ | refine zBD (fun h => ?_) fun h => ?_ | fail)
    all_goals try (exfalso; omega)
    all_goals first
     | exact zt (bad (by first | exact .inl ‹_› | exact .inr (.inl ‹_›) | exact .inr (.inr (.inl ‹_›)) | exact .inr (.inr (.inr (.inl ‹_›))) | exact .inr (.inr (.inr (.inr (.inr (.inl ‹_›))))) | exact .inr (.inr (.inr (.inr (.inr (.inr ‹_›)))))))
     | exact Ku (Vc (0 + 1, f + 1) (fin (by have := good (by rintro (q | q | q | q | ⟨p, q, _⟩ | q | q) <;> first | omega | cases q); rwa [if_pos h] at this) (by omega)) (by dsimp only; omega))
     | exact Ku (Vc (0 + 1, f) (fin (by have := good (by rintro (q | q | q | q | ⟨p, q, _⟩ | q | q) <;> first | omega | cases q); rwa [if_neg h] at this) (by omega)) (by dsimp only; omega))
   ·obtain ⟨j, rfl⟩ : ∃ j, i = j + 1 := ⟨i - 1, by omega⟩
    have ej : (((j + 1 : Nat) : Int) - 1).toNat = j := by omega
    have q2 : ∀ q u, [Value.int .i64 es[j].1, .int .i64 es[j].2][q]? = some u → g'.cell ((Zj ae 2 (((j + 1 : Nat) : Int) - 1).toNat).add q) = some u := by rw [ej]; exact hEe j (by omega)
    have n2 : [Value.int .i64 es[j].1, .int .i64 es[j].2].length = 2 := rfl;have hpr : prevE es (j + 1) = some es[j] := List.getElem?_eq_getElem (by omega);rw [hpr] at bad good
    generalize es[j] = pe at q2 n2 bad good
    clear hEe hpr;have c1 := cmpEd_spec g' pe e;have hor := @thn_ord pe e;generalize thn (Zc pe.1 e.1) (Zc pe.2 e.2) = cc at c1 hor
    repeat' (first | refine zA4 ?_ | refine zBD (fun h => ?_) fun h => ?_ | fail)
    refine zne fun b8 => ?_
    repeat' (first | refine zA4 ?_ | refine zBD (fun h => ?_) fun h => ?_ | fail)
    refine zsw ?_
    repeat' (first | refine zA4 ?_ | refine zBD (fun h => ?_) fun h => ?_ | fail)
    all_goals try (exfalso; omega)
    all_goals first
     | exact zt (bad (by first | exact .inl ‹_› | exact .inr (.inl ‹_›) | exact .inr (.inr (.inl ‹_›)) | exact .inr (.inr (.inr (.inl ‹_›))) | exact .inr (.inr (.inr (.inr (.inr (.inl ‹_›))))) | exact .inr (.inr (.inr (.inr (.inr (.inr ‹_›))))) | exact .inr (.inr (.inr (.inr (.inl ⟨pe, rfl, fun q => by have := hor.2 q; omega⟩))))))
     | exact Ku (Vc (j + 1 + 1, f + 1) (fin (by have := good (by rintro (q | q | q | q | ⟨p, q, q'⟩ | q | q) <;> first | omega | (cases q; exact q' (hor.1 (by omega)))); rwa [if_pos h] at this) (by omega)) (by dsimp only; omega))
     | exact Ku (Vc (j + 1 + 1, f) (fin (by have := good (by rintro (q | q | q | q | ⟨p, q, q'⟩ | q | q) <;> first | omega | (cases q; exact q' (hor.1 (by omega)))); rwa [if_neg h] at this) (by omega)) (by dsimp only; omega))
  ·refine zt (congrArg Value.bool ?_);rw [List.drop_of_length_le (by omega), edW] at he
   have hn : sts.Nodup := by assumption
   classical
   unfold Vv;rw [Bool.eq_iff_iff];simp only [beq_iff_eq, decide_eq_true_eq];exact ⟨fun h => ⟨by simp only; omega, by simp only; omega, by simp only; omega, hst, hn, hini, by simp only; rw [he, h]⟩, fun H => by have := H.ed; simp only at this; rw [he] at this; simpa using this⟩
end
section
open Go.RowKit
def Vn (p : Int × Int) : Bool := decide (p.1 < 0) || decide (p.1 ≥ 16) || decide (p.2 < 0) || decide (p.2 ≥ 16)
def Uu (n : Int) (a : ArrowI) : Bool := !(decide (a.fr < 0) || decide (a.fr ≥ n) || decide (a.to < 0) || decide (a.to ≥ n) || decide ((a.ms : Int) ≥ 65536))
def rises (below : Int) (xs : List Int) : Bool := Kh below xs xs.length
def Xz (n : Int) (init : List Int) (ls : List ArrowI) (all : List Int) (pairs : List (Int × Int)) : Int :=
 if (decide (n < 0) || decide (n > 20000) || !rises n init) = true then 1
 else if ls.length > 200000 then 310
 else if ls.all (Uu n) = false then 310
 else if (!rises 16 all || decide (pairs.length > 16) || pairs.any Vn) = true then 311 else 0
theorem bad_spec (g : Ghost) (p : Int × Int) : Cl PP 56 [.agg (ePairI p).toArray] g [] (Det (.bool (Vn p))) := by
 refine Xj Tryz.func56 rfl rfl Tryz.ntmps56 rfl ?_
 intro w F hs
 refine Y2 ?_
 refine Yi hs rfl rfl rfl rfl ?_; clear hs; intro b w hs
 refine zP ?_
 refine Y39 ?_
 refine Xr 6 rfl (fun h1 => ?_) (fun h1 => ?_)
 ·refine Y31 ?_;refine Xb (Xo rfl rfl) ⟨g, [], Ghost.rfl', hs.drop, rfl, ?_⟩;simp only [Vn, h1, Bool.true_or]
 ·refine zA ?_
  refine Xr 11 rfl (fun h2 => ?_) (fun h2 => ?_)
  ·refine Y31 ?_;refine Xb (Xo rfl rfl) ⟨g, [], Ghost.rfl', hs.drop, rfl, ?_⟩;simp only [Vn, h2, Bool.true_or, Bool.or_true]
  ·refine zA ?_
   refine Xr 16 rfl (fun h3 => ?_) (fun h3 => ?_)
   ·refine Y31 ?_;refine Xb (Xo rfl rfl) ⟨g, [], Ghost.rfl', hs.drop, rfl, ?_⟩;simp only [Vn, h3, Bool.true_or, Bool.or_true]
   ·refine Y31 ?_;refine Xb (Xo rfl rfl) ⟨g, [], Ghost.rfl', hs.drop, rfl, ?_⟩;simp only [Vn, h1, h2, h3, Bool.false_or]
theorem check_spec (g : Ghost) (n : Int) (vi vl va vp : Value) (init : List Int) (ls : List ArrowI) (all : List Int) (pairs : List (Int × Int)) (hi : RS kInt g vi init) (hl : RS Jl g vl ls) (ha : RS kInt g va all) (hp : RS Vh g vp pairs)
  (hi0 : init.length ≤ 4611686018427387904) (hl0 : ls.length ≤ 4611686018427387904) (ha0 : all.length ≤ 4611686018427387904) (hp0 : pairs.length ≤ 4611686018427387904) :
  Cl PP 25 [.int .i64 n, vi, vl, .agg #[va, vp]] g [] (Det (.int .i64 (Xz n init ls all pairs))) := by
 obtain ⟨ai, ci, rfl⟩ := hi.form
 obtain ⟨al, cl, rfl⟩ := hl.form
 obtain ⟨aa, ca, rfl⟩ := ha.form
 obtain ⟨ap, cp, rfl⟩ := hp.form
 refine Xj Tryz.func25 rfl rfl Tryz.ntmps25 rfl ?_
 intro w F hs
 refine Y2 ?_
 refine Yi hs rfl rfl rfl rfl ?_; clear hs; intro b w hs
 refine zP ?_
 refine Y39 ?_
 refine Xr 14 rfl (fun h1 => ?_) (fun h1 => ?_)
 ·refine Y43 ?_;refine Xb (Xo rfl rfl) ⟨g, [], Ghost.rfl', hs.drop, rfl, ?_⟩;simp only [Xz, h1, Bool.true_or, if_true]
 ·refine zA ?_
  refine Xr 18 rfl (fun h2 => ?_) (fun h2 => ?_)
  ·refine Y43 ?_;refine Xb (Xo rfl rfl) ⟨g, [], Ghost.rfl', hs.drop, rfl, ?_⟩;simp only [Xz, h2, Bool.true_or, Bool.or_true, if_true]
  ·refine zA ?_;refine Xf rfl rfl rfl (L := []) hs (rising_spec g _ init n hi hi0) ?_;rintro u g1 L' w hg1 hs ⟨rfl, rfl⟩;refine Y31 ?_
   refine Xi rfl (fun h3 => ?_) (fun h3 => ?_)
   ·refine Y20 ?_;refine Xb (Xo rfl rfl) ⟨g1, [], hg1, hs.drop, rfl, ?_⟩;simp only [Xz, rises, h3, Bool.or_true, if_true]
   ·refine zS ?_;have k1 : (decide (n < 0) || decide (n > 20000) || !rises n init) = false := by simp only [h1, h2, rises, h3, Bool.or_false]
    refine Y20 ?_
    refine Xi rfl (fun h4 => ?_) (fun h4 => ?_)
    ·refine Y20 ?_;refine Xb (Xo rfl rfl) ⟨g1, [], hg1, hs.drop, rfl, ?_⟩;have : ls.length > 200000 := by have := of_decide_eq_true h4; omega
     simp only [Xz, k1, this, if_true, Bool.false_eq_true, if_false]
    ·refine zS ?_;have k2 : ¬ ls.length > 200000 := by have := of_decide_eq_false h4; omega
     have hl1 := hl.mono hg1;refine Y20 ?_
     refine Yw ls.length (fun _ _ => [(28, .int .i64 ls.length), (27, .slice al ls.length cl), (0, .int .i64 n), (7, .pointer (some ⟨b, 0, none⟩))])
      (fun i (_ : Unit) w => St g1 w ((b, Xa [.slice aa all.length ca, .slice ap pairs.length cp] 26) :: F) ∧ ∀ j (h : j < i) (h' : j < ls.length), Uu n ls[j] = true) () hl0 ⟨rfl, rfl, rfl, rfl, rfl, trivial⟩ ⟨hs, fun j h => by omega⟩ (fun _ _ => rfl) rfl rfl rfl ?_ ?_ (fun _ _ => rfl) rfl
     ·rintro i _ w hi ⟨hs, hj⟩;have hb := hl1.base hi;have hc := hl1.enc hi;refine Y21 ?_;refine Yj hs (hc.of_eaddr) rfl rfl rfl rfl rfl rfl ?_;refine Yp hs rfl rfl rfl ?_; clear hs; intro c w hs;refine Yx hs 0 rfl rfl rfl rfl rfl (Nat.le_of_ble_eq_true rfl) rfl rfl ?_; clear hs; intro w hs;refine Y39 ?_
      refine Xr 36 rfl (fun q1 => ?_) (fun q1 => ?_)
      ·refine Y43 ?_;refine Xb (Xo rfl rfl) ⟨g1, [], hg1, hs.drop.drop, rfl, ?_⟩
       have k3 : ls.all (Uu n) = false := by
        rw [List.all_eq_false]; exact ⟨ls[i], List.getElem_mem hi, by simp only [Uu, q1, Bool.true_or, Bool.not_true]; exact Bool.false_ne_true⟩
       simp only [Xz, k1, k2, k3, if_true, Bool.false_eq_true, if_false]
      ·refine zA ?_
       refine Xr 42 rfl (fun q2 => ?_) (fun q2 => ?_)
       ·refine Y43 ?_;refine Xb (Xo rfl rfl) ⟨g1, [], hg1, hs.drop.drop, rfl, ?_⟩
        have k3 : ls.all (Uu n) = false := by
         rw [List.all_eq_false]; exact ⟨ls[i], List.getElem_mem hi, by simp only [Uu, q2, Bool.true_or, Bool.or_true, Bool.not_true]; exact Bool.false_ne_true⟩
        simp only [Xz, k1, k2, k3, if_true, Bool.false_eq_true, if_false]
       ·refine zA ?_
        refine Xr 47 rfl (fun q3 => ?_) (fun q3 => ?_)
        ·refine Y43 ?_;refine Xb (Xo rfl rfl) ⟨g1, [], hg1, hs.drop.drop, rfl, ?_⟩
         have k3 : ls.all (Uu n) = false := by
          rw [List.all_eq_false]; exact ⟨ls[i], List.getElem_mem hi, by simp only [Uu, q3, Bool.true_or, Bool.or_true, Bool.not_true]; exact Bool.false_ne_true⟩
         simp only [Xz, k1, k2, k3, if_true, Bool.false_eq_true, if_false]
        ·refine zA ?_
         refine Xr 53 rfl (fun q4 => ?_) (fun q4 => ?_)
         ·refine Y43 ?_;refine Xb (Xo rfl rfl) ⟨g1, [], hg1, hs.drop.drop, rfl, ?_⟩
          have k3 : ls.all (Uu n) = false := by
           rw [List.all_eq_false]; exact ⟨ls[i], List.getElem_mem hi, by simp only [Uu, q4, Bool.true_or, Bool.or_true, Bool.not_true]; exact Bool.false_ne_true⟩
          simp only [Xz, k1, k2, k3, if_true, Bool.false_eq_true, if_false]
         ·refine Y31 ?_
          refine Xi rfl (fun q5 => ?_) (fun q5 => ?_)
          ·refine Y20 ?_;refine Xb (Xo rfl rfl) ⟨g1, [], hg1, hs.drop.drop, rfl, ?_⟩
           have k3 : ls.all (Uu n) = false := by
            rw [List.all_eq_false]; exact ⟨ls[i], List.getElem_mem hi, by simp only [Uu, q5, Bool.true_or, Bool.or_true, Bool.not_true]; exact Bool.false_ne_true⟩
           simp only [Xz, k1, k2, k3, if_true, Bool.false_eq_true, if_false]
          ·refine Xq (Xh (Xx () hi hl0 ⟨hs.drop, fun j h1 h2 => ?_⟩ rfl rfl rfl ⟨rfl, rfl, rfl, rfl, trivial⟩))
           by_cases e : j = i
           ·subst e; simp only [Uu, q1, q2, q3, q4, q5, Bool.or_false, Bool.not_false]
           ·exact hj j (by omega) h2
     ·rintro _ w ⟨hs, hj⟩
      have k3 : ls.all (Uu n) = true := by
       rw [List.all_eq_true];intro x hx;obtain ⟨j, hj1, rfl⟩ := List.getElem_of_mem hx;exact hj j hj1 hj1
      refine zK ?_;refine Y48 ?_;refine Xf rfl rfl rfl (L := []) hs (rising_spec g1 _ all 16 (ha.mono hg1) ha0) ?_;rintro u g2 L' w hg2 hs ⟨rfl, rfl⟩;refine zA ?_
      refine Xr 63 rfl (fun q1 => ?_) (fun q1 => ?_)
      ·refine Y43 ?_;refine Xb (Xo rfl rfl) ⟨g2, [], Ghost.tr hg1 hg2, hs.drop, rfl, ?_⟩;simp only [Xz, k1, k2, k3, show (!rises 16 all) = true from q1, Bool.true_or, if_true, Bool.false_eq_true, if_false, reduceCtorEq]
      ·refine zA ?_
       refine Xr 69 rfl (fun q2 => ?_) (fun q2 => ?_)
       ·refine Y43 ?_;refine Xb (Xo rfl rfl) ⟨g2, [], Ghost.tr hg1 hg2, hs.drop, rfl, ?_⟩;have : decide (pairs.length > 16) = true := by have := of_decide_eq_true q2; exact decide_eq_true (by omega)
        simp only [Xz, k1, k2, k3, this, Bool.true_or, Bool.or_true, if_true, Bool.false_eq_true, if_false, reduceCtorEq]
       ·refine zA ?_;have k5 : decide (pairs.length > 16) = false := by have := of_decide_eq_false q2; exact decide_eq_false (by omega)
        refine Xf rfl rfl rfl (L := []) hs (containsFuncP_spec g2 _ pairs 56 #[] #[] Vn (hp.mono (Ghost.tr hg1 hg2)) hp0 (fun g' q _ => bad_spec g' q)) ?_;rintro u g3 L' w hg3 hs ⟨rfl, rfl⟩;refine Y31 ?_
        refine Xi rfl (fun q3 => ?_) (fun q3 => ?_)
        ·refine Y20 ?_;refine Xb (Xo rfl rfl) ⟨g3, [], Ghost.tr hg1 (Ghost.tr hg2 hg3), hs.drop, rfl, ?_⟩;simp only [Xz, k1, k2, k3, q3, Bool.or_true, if_true, Bool.false_eq_true, if_false, reduceCtorEq]
        ·refine zS ?_;refine Y20 ?_;refine Xb (Xo rfl rfl) ⟨g3, [], Ghost.tr hg1 (Ghost.tr hg2 hg3), hs.drop, rfl, ?_⟩;simp only [Xz, k1, k2, k3, k5, q3, show (!rises 16 all) = false from q1, Bool.or_false, if_true, Bool.false_eq_true, if_false, reduceCtorEq]
end
section
open Go.RowKit
def Xt (ls : List Arrow) (i x : Nat) : List Nat := (List.range i).filter fun k => decide ((ls[k]?).map Arrow.fr = some x)
theorem outAt_succ (ls : List Arrow) (i x : Nat) (h : i < ls.length) : Xt ls (i + 1) x = Xt ls i x ++ (if ls[i].fr = x then [i] else []) := by
 simp only [Xt, List.range_succ, List.filter_append, List.getElem?_eq_getElem h, List.filter_cons, List.filter_nil, Option.map_some, Option.some.injEq, decide_eq_true_eq]
theorem Vt (ls : List Arrow) (i x : Nat) : (Xt ls i x).length ≤ i := by
 have := List.length_filter_le (fun k => decide ((ls[k]?).map Arrow.fr = some x)) (List.range i)
 simpa [Xt] using this
def Zs (n : Nat) (ls : List Arrow) : List (List Nat) := (List.range n).map (Xt ls ls.length)
def GraphR (g : Ghost) (v : Value) (n : Nat) (ls : List Arrow) : Prop :=
 ∃ gb al cl ao co, v = .pointer (some ⟨gb, 0, none⟩) ∧ Lies g gb 0 [.int .i64 (n : Int), .slice al ls.length cl, .slice ao n co] ∧ RS kArr g (.slice al ls.length cl) ls ∧ RS (kSl kNat) g (.slice ao n co) (Zs n ls)
theorem GraphR.mono {g g' : Ghost} {v : Value} {n : Nat} {ls : List Arrow} (h : GraphR g v n ls) (hg : g ≤ g') : GraphR g' v n ls := by
 obtain ⟨gb, al, cl, ao, co, h1, h2, h3, h4⟩ := h
 exact ⟨gb, al, cl, ao, co, h1, h2.mono hg, h3.mono hg, h4.mono hg⟩
def Zd (x : Nat) : List Value := [.int .i64 (x : Int)]
theorem Jd (g : Ghost) (n : Nat) (vl : Value) (ls : List Arrow) (hl : RS kArr g vl ls) (hn : n ≤ 20000) (hl0 : ls.length ≤ 200000) (hok : ∀ a ∈ ls, a.fr < n) :
  Cl PP 26 [.int .i64 (n : Int), vl] g [] fun g' L' r => L' = [] ∧ GraphR g' r n ls := by
 obtain ⟨al, cl, rfl⟩ := hl.form
 have hl1 : ls.length ≤ 4611686018427387904 := by omega
 refine Xj Tryz.func26 rfl rfl Tryz.ntmps26 rfl ?_
 intro w F hs
 refine Y12 ?_
 refine Jk hs rfl (by omega) rfl rfl rfl rfl rfl rfl rfl ?_
 clear hs; intro ob w hs
 have hz : (List.replicate (n : Int).toNat (TE.zcells ⟨.slice 3, [.slice], 24⟩)).flatten = List.replicate n (.slice none 0 0) := by
  simp only [TE.zcells, Z.val, List.map_cons, List.map_nil, Int.toNat_natCast]
  induction n with
  | zero => rfl
  | succ n ih => rw [List.replicate_succ, List.flatten_cons, List.replicate_succ]; simp
 replace hs := (show St g w ((ob, Xa (List.replicate n (.slice none 0 0)) 22) :: ([] ++ F)) by rw [← hz]; exact hs)
 refine Yg (ps := [(0, .tmp 8), (1, .tmp 9), (2, .tmp 11)]) rfl rfl rfl rfl rfl rfl rfl ?_
 refine Yi hs rfl rfl rfl rfl ?_; clear hs; intro gb w hs
 refine Y15 ?_
 refine Yw ls.length (fun _ _ => [(15, .int .i64 ls.length), (14, .slice al ls.length cl), (5, .pointer (some ⟨gb, 0, none⟩))])
  (fun i (x : List Value × List Own × Ghost) w => g ≤ x.2.2 ∧ St x.2.2 w ((gb, Xa [.int .i64 (n : Int), .slice al ls.length cl, .slice (some ⟨ob, 0, none⟩) n n] 121) :: (ob, Xa x.1 22) :: (x.2.1.flatten ++ F)) ∧ x.1.length = n ∧ x.2.1.length = n ∧
   ∀ (k : Nat) (v : Value) (H : Own), x.1[k]? = some v → x.2.1[k]? = some H → OwnS 3 1 v (Xt ls i k).length ((Xt ls i k).flatMap Zd) H)
  (List.replicate n (.slice none 0 0), List.replicate n [], g) hl1 ⟨rfl, rfl, rfl, rfl, trivial⟩ ⟨Ghost.rfl', ?_, by simp, by simp, ?_⟩ (fun _ _ => rfl) rfl rfl rfl ?_ ?_ (fun _ _ => rfl) rfl
 ·have : (List.replicate n ([] : Own)).flatten = [] := by simp
  simp only [this];exact hs
 ·intro k v H h1 h2;have hk : k < n := by have := (List.getElem?_eq_some_iff.1 h1).1; simpa using this
  simp [hk] at h1 h2
  subst h1 h2;simpa [Xt] using OwnS.nil 3 1
 ·rintro i ⟨hd, Hs, g0⟩ w hi ⟨hg0, hs, q1, q2, q3⟩;simp only at hg0 hs q1 q2 q3
  have hb := hl.base hi;have hc := (hl.mono hg0).enc hi;have hfr : ls[i].fr < n := hok _ (List.getElem_mem hi);have hfd : ls[i].fr < hd.length := by omega
  have hfH : ls[i].fr < Hs.length := by omega
  refine Y0 ?_;refine Yb rfl rfl rfl rfl rfl (by omega) (hb) rfl rfl ?_;refine Yj hs (hc.of_eaddr) rfl rfl rfl rfl rfl rfl ?_;refine Yp hs rfl rfl rfl ?_; clear hs; intro c w hs;refine zP ?_;refine Yx hs 0 rfl rfl rfl rfl rfl (Nat.le_of_ble_eq_true rfl) rfl rfl ?_; clear hs; intro w hs;refine zn ?_
  have ho := q3 ls[i].fr hd[ls[i].fr] Hs[ls[i].fr] (List.getElem?_eq_getElem hfd) (List.getElem?_eq_getElem hfH)
  have hs2 : St g0 w (Hs[ls[i].fr] ++ ((c, Xa (eArr ls[i]) 74) :: (gb, Xa [.int .i64 (n : Int), .slice al ls.length cl, .slice (some ⟨ob, 0, none⟩) n n] 121) :: (ob, Xa hd 22) :: ((Hs.eraseIdx ls[i].fr).flatten ++ F))) := by
   refine hs.perm ?_;refine List.Perm.trans (List.perm_append_comm_assoc Hs[ls[i].fr] [(c, Xa (eArr ls[i]) 74), (gb, _), (ob, _)] ((Hs.eraseIdx ls[i].fr).flatten ++ F)) ?_;refine List.Perm.append_left _ ?_;rw [← List.append_assoc];exact ((flat_front Hs _ hfH).symm.append_right F)
  refine zQ ?_;refine Yf 18 Hs[ls[i].fr] Yd (by kernel_rfl) rfl hs2 ?_;refine zC ?_;refine Xv 1 rfl rfl rfl rfl rfl rfl ?_;refine zC ?_;refine Xv 0 rfl rfl rfl rfl rfl rfl ?_;refine zC ?_;refine Xv 1 rfl rfl rfl rfl rfl rfl ?_;refine zC ?_;refine Xv 0 rfl rfl rfl rfl rfl rfl ?_;refine sg_ixJ _ rfl rfl rfl rfl rfl (hfr) rfl rfl ?_
  refine Xv (v := hd[ls[i].fr]) 2 rfl rfl (List.getElem?_eq_getElem hfd) rfl rfl rfl ?_;refine zC ?_;refine sg_one rfl rfl rfl rfl rfl rfl rfl rfl ?_;refine sg_push Hs[ls[i].fr] [] (List.append_nil _).symm ho (by have := Vt ls i ls[i].fr; omega) rfl rfl rfl rfl rfl rfl rfl rfl rfl rfl rfl rfl (fun _ => rfl) ?_;refine sg_ixJ _ rfl rfl rfl rfl rfl (hfr) rfl rfl ?_;refine Xy ?_
  intro g1 w hg1;rintro _ _ ⟨_, _, bb, rfl, rfl, _⟩ v' L1 ⟨g2, hg2, ho'⟩ hs;simp only [List.append_nil] at hs
  have hs3 : St g1 w ((c, Xa (eArr ls[i]) 74) :: (gb, Xa [.int .i64 (n : Int), .slice al ls.length cl, .slice (some ⟨ob, 0, none⟩) n n] 121) :: (ob, Xa hd 22) :: (L1 ++ ((Hs.eraseIdx ls[i].fr).flatten ++ F))) :=
   hs.perm (List.perm_append_comm_assoc [(c, Xa (eArr ls[i]) 74), (gb, _), (ob, _)] L1 _)
  refine Yh hs3 2 rfl rfl rfl (List.getElem?_eq_getElem hfd) rfl rfl (OwnS.one ho') rfl ?_;clear hs; intro w hs
  refine Xn (Xh (Xx (hd.set ls[i].fr v', Hs.set ls[i].fr L1, g1) hi hl1 ⟨Ghost.tr hg0 hg1, ?_, by simp [q1], by simp [q2], ?_⟩ rfl rfl rfl ⟨rfl, rfl, rfl, trivial⟩))
  ·refine hs.drop.perm (List.Perm.cons _ (List.Perm.cons _ ?_));rw [← List.append_assoc];exact (flat_set Hs _ hfH L1).append_right F
  ·intro k v H e1 e2;rw [outAt_succ ls i k hi]
   by_cases hk : ls[i].fr = k
   ·subst hk;simp [hfd, hfH] at e1 e2
    subst e1 e2;rw [if_pos rfl, List.length_append, List.flatMap_append];exact ho'
   ·simp only [List.getElem?_set_ne hk] at e1 e2
    rw [if_neg hk, List.append_nil];exact q3 k v H e1 e2
 ·rintro ⟨hd, Hs, g0⟩ w ⟨hg0, hs, q1, q2, q3⟩;simp only at hg0 hs q1 q2 q3
  refine Y24 ?_
  have hs3 : St g0 w (Hs.flatten ++ ((gb, Xa [.int .i64 (n : Int), .slice al ls.length cl, .slice (some ⟨ob, 0, none⟩) n n] 121) :: (ob, Xa hd 22) :: F)) :=
   hs.perm (List.perm_append_comm_assoc Hs.flatten [(gb, _), (ob, _)] F)
  obtain ⟨g1, hg1, hs4, hr⟩ := freezeAll (e := Zd) (h0 := fun _ => rfl) hd Hs (Zs n ls) g0 w _ (by simp [Zs, q1]) (by simp [Zs, q2]) (fun k v H xs e1 e2 e3 => by
   have hk : k < n := by have := (List.getElem?_eq_some_iff.1 e1).1; omega
   have : xs = Xt ls ls.length k := by simp [Zs, hk] at e3; exact e3.symm
   subst this;exact q3 k v H e1 e2) hs3
  obtain ⟨g2, hg2, hs5, hl5⟩ := freezeB hs4;obtain ⟨g3, hg3, hs6, hl6⟩ := freezeB hs5;refine Xb (Xo rfl rfl) ⟨g3, [], Ghost.tr hg0 (Ghost.tr hg1 (Ghost.tr hg2 hg3)), hs6, rfl, gb, al, cl, some ⟨ob, 0, none⟩, n, rfl, hl5.mono hg3, hl.mono (Ghost.tr hg0 (Ghost.tr hg1 (Ghost.tr hg2 hg3))), ?_⟩
  exact RS.ofSl hl6 (by simp [Zs, q1]) (by simp [Zs]) (fun k v xs e1 e2 => (hr k v xs e1 e2).mono (Ghost.tr hg2 hg3))
end
section
open Go.RowKit
structure ValidG (n : Nat) (ls : List Arrow) : Prop where
 size : n ≤ 20000
 len : ls.length ≤ 200000
 ok : ∀ a ∈ ls, a.fr < n ∧ a.to < n ∧ a.ms < 65536
def Zv (ls : List Arrow) (i m : Nat) : Bool := match ls[i]? with
 | some a => a.ms.testBit m
 | none => false
def Zh (ls : List Arrow) (l : List Nat) : List Bool := (List.range 16).map fun m => l.any fun i => Zv ls i m
theorem RS.conv {α β : Type} {K : Kd α} {K' : Kd β} {g : Ghost} {v : Value} {xs : List α} (h : RS K g v xs) (f : α → β) (hsz : K'.sz = K.sz) (hf : ∀ g cs x, x ∈ xs → K.R g cs x → K'.R g cs (f x)) : RS K' g v (xs.map f) := by
 obtain ⟨a, cap, rfl, h⟩ := h
 refine ⟨a, cap, by simp, ?_⟩
 rcases h with rfl | ⟨b, o, e, h⟩
 ·exact .inl rfl
 ·refine .inr ⟨b, o, e, fun i hi => ?_⟩;have hi' : i < xs.length := by simpa using hi
  obtain ⟨cs, h1, h2⟩ := h i hi';exact ⟨cs, by simpa using hf g cs _ (List.getElem_mem hi') h1, by rw [hsz]; exact h2⟩
theorem RS.toNat {g : Ghost} {v : Value} {xs : List Int} (h : RS kInt g v xs) (h0 : ∀ x ∈ xs, 0 ≤ x) : RS kNat g v (xs.map Int.toNat) := h.conv (K' := kNat) Int.toNat rfl fun g cs x hx hr => by
 have := h0 x hx
 show cs = [.int .i64 (x.toNat : Int)]
 rw [Int.toNat_of_nonneg this]; exact hr
def stepB (ls : List Arrow) (l : List Nat) (j m k : Nat) : Bool := (l.take j).any (fun i => Zv ls i k) || (decide (k < m) && Zv ls (l.getD j 0) k)
def metC (ls : List Arrow) (l : List Nat) (j m : Nat) : List Value := (List.range 16).map fun k => .bool (stepB ls l j m k)
theorem metC_len (ls : List Arrow) (l : List Nat) (j m : Nat) : (metC ls l j m).length = 16 := by simp [metC]
theorem metC_at (ls : List Arrow) (l : List Nat) (j m k : Nat) (h : k < 16) : (metC ls l j m)[k]? = some (.bool (stepB ls l j m k)) := by simp [metC, h]
theorem metC_set (ls : List Arrow) (l : List Nat) (j m : Nat) (b : Bool) (hb : b = stepB ls l j (m + 1) m) : (metC ls l j m).set m (.bool b) = metC ls l j (m + 1) := by
 subst hb
 apply List.ext_getElem
 ·simp [metC]
 ·intro k h1 h2;rw [List.getElem_set]
  split
  ·rename_i e; subst e; simp [metC]
  ·rename_i e;simp only [metC, List.getElem_map, List.getElem_range, stepB];have : decide (k < m) = decide (k < m + 1) := by rw [decide_eq_decide]; omega
   rw [this]
theorem metC_next (ls : List Arrow) (l : List Nat) (j : Nat) (h : j < l.length) : metC ls l j 16 = metC ls l (j + 1) 0 := by
 apply List.map_congr_left
 intro k hk
 have : k < 16 := by simpa using hk
 congr 1
 have e : l.take (j + 1) = l.take j ++ [l[j]] := by rw [List.take_add_one, List.getElem?_eq_getElem h]; rfl
 have e2 : l.getD j 0 = l[j] := by simp [h]
 unfold stepB
 rw [e, e2, List.any_append, decide_eq_true this, decide_eq_false (Nat.not_lt_zero k)]
 simp only [List.any_cons, List.any_nil, Bool.or_false, Bool.true_and, Bool.false_and]
theorem metC_end (ls : List Arrow) (l : List Nat) : metC ls l l.length 0 = (Zh ls l).map .bool := by
 unfold metC Zh
 rw [List.map_map]
 apply List.map_congr_left
 intro k _
 simp [stepB]
theorem met_spec (g : Ghost) (vg vl : Value) (n : Nat) (ls : List Arrow) (l : List Nat) (hG : GraphR g vg n ls) (hv : ValidG n ls) (hl : RS kNat g vl l) (hl0 : l.length ≤ 4611686018427387904) (hin : ∀ i ∈ l, i < ls.length) :
  Cl PP 51 [vg, vl] g [] (Det (.agg ((Zh ls l).map .bool).toArray)) := by
 obtain ⟨gb, al, cl, ao, co, rfl, hG, hA, hO⟩ := hG
 obtain ⟨a2, c2, rfl⟩ := hl.form
 refine Xj Tryz.func51 rfl rfl Tryz.ntmps51 rfl ?_
 intro w F hs
 refine Y2 ?_
 refine Yp hs rfl rfl rfl ?_; clear hs; intro rb w hs
 refine Y9 ?_
 refine Yp hs rfl rfl rfl ?_; clear hs; intro tbk w hs
 refine Y18 ?_
 refine Yw l.length (fun _ _ => [(10, .int .i64 l.length), (9, .slice a2 l.length c2), (5, .pointer (some ⟨tbk, 0, none⟩)), (4, .pointer (some ⟨rb, 0, none⟩)), (0, .pointer (some ⟨gb, 0, none⟩))])
  (fun j (g' : Ghost) w => g ≤ g' ∧ St g' w ((tbk, Xa (metC ls l j 0) 110) :: (rb, Xa (List.replicate 16 (.bool false)) 110) :: F)) g hl0 ⟨rfl, rfl, rfl, rfl, rfl, rfl, trivial⟩ ⟨Ghost.rfl', ?_⟩ (fun _ _ => rfl) rfl rfl rfl ?_ ?_ (fun _ _ => rfl) rfl
 ·have : metC ls l 0 0 = List.replicate 16 (.bool false) := (List.map_congr_left (g := fun _ => Value.bool false) fun k _ => by simp [stepB]).trans rfl;rw [this]; exact hs
 ·rintro j g1 w hj ⟨hg1, hs⟩;have hb := hl.base hj;have hc := (hl.mono hg1).nat hj;have hlt : l[j] < ls.length := hin _ (List.getElem_mem hj);refine Y20 ?_;refine Y20 ?_
  refine Yw 16 (fun _ _ => [(7, .int .i64 (l[j] : Int)), (11, .int .i64 (j : Int)), (10, .int .i64 l.length), (9, .slice a2 l.length c2), (5, .pointer (some ⟨tbk, 0, none⟩)), (4, .pointer (some ⟨rb, 0, none⟩)), (0, .pointer (some ⟨gb, 0, none⟩))])
   (fun m (g' : Ghost) w => g ≤ g' ∧ St g' w ((tbk, Xa (metC ls l j m) 110) :: (rb, Xa (List.replicate 16 (.bool false)) 110) :: F)) g1 (by decide) ⟨rfl, rfl, rfl, rfl, rfl, rfl, rfl, rfl, trivial⟩ ⟨hg1, hs⟩ (fun _ _ => rfl) rfl rfl rfl ?_ ?_ (fun _ _ => rfl) rfl
  ·rintro m g2 w hm ⟨hg2, hs⟩;have hcell := metC_at ls l j m m hm;have hlen := metC_len ls l j m;refine Y12 ?_;refine wl_ixAJ _ rfl rfl rfl rfl rfl (hm) rfl rfl rfl ?_;refine Yu (v := .bool (stepB ls l j m m)) hs 0 rfl rfl hcell rfl rfl rfl rfl ?_;refine zP ?_;have hst : stepB ls l j (m + 1) m = (stepB ls l j m m || Zv ls l[j] m) := by simp [stepB, hj]
   refine Xr 22 rfl (fun h1 => ?_) (fun h1 => ?_)
   ·refine zG ?_;refine wl_ixAJ _ rfl rfl rfl rfl rfl (hm) rfl rfl rfl ?_;refine Yh hs 0 rfl rfl rfl hcell rfl rfl rfl rfl ?_;clear hs; intro w hs;refine Xn (Xh (Xx g2 hm (by decide) ⟨hg2, ?_⟩ rfl rfl rfl ⟨rfl, rfl, rfl, rfl, rfl, rfl, rfl, trivial⟩));rw [← metC_set ls l j m true (by rw [hst, h1]; rfl)];exact hs
   ·refine zG ?_;refine Xd hs ((hG.mono hg2) 1 _ rfl) rfl rfl rfl rfl rfl ?_;refine zG ?_;have hbA := hA.base hlt;refine Yb rfl rfl rfl rfl rfl (by omega) (hbA) rfl rfl ?_;have hcA := (hA.mono hg2).enc hlt;refine Yj hs (hcA.of_eaddr) rfl rfl rfl rfl rfl rfl ?_;refine zG ?_
    refine Xf rfl rfl rfl (L := []) hs (has_spec g2 _ _ ls[l[j]].ms m (by have := (hv.ok _ (List.getElem_mem hlt)).2.2; omega) rfl rfl) ?_;rintro u g3 L' w hg3 hs ⟨rfl, rfl⟩;refine zG ?_;refine wl_ixAJ _ rfl rfl rfl rfl rfl (hm) rfl rfl rfl ?_;refine Yh hs 0 rfl rfl rfl hcell rfl rfl rfl rfl ?_;clear hs; intro w hs
    refine Xn (Xh (Xx g3 hm (by decide) ⟨Ghost.tr hg2 hg3, ?_⟩ rfl rfl rfl ⟨rfl, rfl, rfl, rfl, rfl, rfl, rfl, trivial⟩));rw [← metC_set ls l j m (ls[l[j]].ms.testBit m) (by rw [hst, h1]; simp [Zv, hlt])];exact hs
  ·rintro g2 w ⟨hg2, hs⟩;refine Xh (Xx g2 hj hl0 ⟨hg2, ?_⟩ rfl rfl rfl ⟨rfl, rfl, rfl, rfl, rfl, trivial⟩);rw [← metC_next ls l j hj];exact hs
 ·rintro g1 w ⟨hg1, hs⟩;refine Y27 ?_;refine wl_ldON hs 0 rfl rfl rfl rfl (by simp [metC_len]) rfl rfl ?_
  have e : ((metC ls l l.length 0).drop 0).take 16 = (Zh ls l).map .bool := by
   rw [List.drop_zero, List.take_of_length_le (by rw [metC_len]; decide), metC_end]
  refine Yx hs 1 rfl (congrArg (fun l : List Value => some (Value.agg l.toArray)) e) rfl rfl (by simp [Zh]) (by simp [Zh]) (by simp [Value.oneCell']) rfl ?_;clear hs; intro w hs;rw [setL_full (by simp [Zh])] at hs
  refine Xn (Zl (Xb (v := .agg ((Zh ls l).map .bool).toArray) ?_ ?_))
  ·exact resCN hs rfl rfl (k := 1) rfl rfl rfl (by simp [Zh])
  ·exact ⟨g1, [], hg1, hs.drop.drop, rfl, rfl⟩
def Xw (ms : List Bool) (all : List Nat) (pairs : List (Nat × Nat)) : Nat × Nat :=
 match all.findIdx? fun k => !ms.getD k false with
 | some i => (3, i)
 | none => match pairs.findIdx? fun p => ms.getD p.1 false && !ms.getD p.2 false with
  | some i => (4, i)
  | none => (0, 0)
def satF (ms : List Bool) (all : List Nat) (pairs : List (Nat × Nat)) : Bool := (Xw ms all pairs).1 == 0
structure ValidW (all : List Nat) (pairs : List (Nat × Nat)) : Prop where
 all_len : all.length ≤ 16
 all_ok : ∀ k ∈ all, k < 16
 pairs_len : pairs.length ≤ 16
 pairs_ok : ∀ p ∈ pairs, p.1 < 16 ∧ p.2 < 16
theorem findIdx?_at {α : Type} {p : α → Bool} {xs : List α} {i : Nat} (hi : i < xs.length) (h0 : ∀ j (h : j < i), p (xs[j]'(by omega)) = false) (hp : p xs[i] = true) : xs.findIdx? p = some i := by
 rw [List.findIdx?_eq_some_iff_getElem]
 exact ⟨hi, hp, fun j hj => by simp [h0 j hj]⟩
theorem findIdx?_no {α : Type} {p : α → Bool} {xs : List α} (h0 : ∀ j (h : j < xs.length), p xs[j] = false) : xs.findIdx? p = none := by
 rw [List.findIdx?_eq_none_iff]
 intro x hx
 obtain ⟨j, hj, rfl⟩ := List.getElem_of_mem hx
 exact h0 j hj
theorem lacking_spec (g : Ghost) (va vp : Value) (ms : List Bool) (all : List Nat) (pairs : List (Nat × Nat)) (hms : ms.length = 16) (ha : RS kNat g va all) (hp : RS kPair g vp pairs) (hv : ValidW all pairs) :
  Cl PP 73 [.agg (ms.map .bool).toArray, .agg #[va, vp]] g [] (Det (.tuple #[.int .i64 (Xw ms all pairs).1, .int .i64 (Xw ms all pairs).2])) := by
 obtain ⟨aa, ca, rfl⟩ := ha.form
 obtain ⟨ap, cp, rfl⟩ := hp.form
 have hal : all.length ≤ 4611686018427387904 := by have := hv.all_len; omega
 have hpl : pairs.length ≤ 4611686018427387904 := by have := hv.pairs_len; omega
 have mcell : ∀ k, k < 16 → (ms.map Value.bool)[k]? = some (.bool (ms.getD k false)) := fun k hk => by
  have : k < ms.length := by omega
  simp [this]
 refine Xj Tryz.func73 rfl rfl Tryz.ntmps73 rfl ?_
 intro w F hs
 refine Y2 ?_
 refine Yi (l := ms.map .bool) hs rfl rfl rfl rfl ?_
 clear hs; intro mb w hs
 refine Yi hs rfl rfl rfl rfl ?_; clear hs; intro wb w hs
 refine Y7 ?_
 refine Y20 ?_
 refine Yw all.length (fun _ _ => [(12, .int .i64 all.length), (11, .slice aa all.length ca), (2, .pointer (some ⟨mb, 0, none⟩)), (3, .pointer (some ⟨wb, 0, none⟩))])
  (fun i (_ : Unit) w => St g w ((wb, Xa [.slice aa all.length ca, .slice ap pairs.length cp] 26) :: (mb, Xa (ms.map .bool) 110) :: F) ∧ ∀ j (h : j < i) (h' : j < all.length), (!ms.getD all[j] false) = false) () hal ⟨rfl, rfl, rfl, rfl, rfl, trivial⟩ ⟨hs, fun j h => by omega⟩ (fun _ _ => rfl) rfl rfl rfl ?_ ?_ (fun _ _ => rfl) rfl
 ·rintro i _ w hi ⟨hs, hj⟩;have hb := ha.base hi;have hc := ha.nat hi;have hk : all[i] < 16 := hv.all_ok _ (List.getElem_mem hi);have hm := mcell _ hk;refine Y48 ?_;refine Yu (v := .bool (ms.getD all[i] false)) hs 1 rfl rfl hm rfl rfl rfl rfl ?_;refine Y31 ?_
  refine Xi rfl (fun h => ?_) (fun h => ?_)
  ·refine Y20 ?_;refine Xb (res2 rfl rfl rfl) ⟨g, [], Ghost.rfl', hs.drop.drop, rfl, ?_⟩;have e : all.findIdx? (fun k => !ms.getD k false) = some i := findIdx?_at hi (fun j h' => hj j h' (by omega)) h;simp only [Xw, e];rfl
  ·refine Xq (Xh (Xx () hi hal ⟨hs, fun j h1 h2 => ?_⟩ rfl rfl rfl ⟨rfl, rfl, rfl, rfl, trivial⟩))
   by_cases e : j = i
   ·subst e; exact h
   ·exact hj j (by omega) h2
 ·rintro _ w ⟨hs, hj⟩;have e1 : all.findIdx? (fun k => !ms.getD k false) = none := findIdx?_no fun j h => hj j h h
  refine zK ?_;refine Y20 ?_
  refine Yw pairs.length (fun _ _ => [(26, .int .i64 pairs.length), (25, .slice ap pairs.length cp), (2, .pointer (some ⟨mb, 0, none⟩))])
   (fun i (_ : Unit) w => St g w ((wb, Xa [.slice aa all.length ca, .slice ap pairs.length cp] 26) :: (mb, Xa (ms.map .bool) 110) :: F) ∧ ∀ j (h : j < i) (h' : j < pairs.length), (ms.getD pairs[j].1 false && !ms.getD pairs[j].2 false) = false) () hpl ⟨rfl, rfl, rfl, rfl, trivial⟩ ⟨hs, fun j h => by omega⟩ (fun _ _ => rfl) rfl rfl rfl ?_ ?_ (fun _ _ => rfl) rfl
  ·rintro i _ w hi ⟨hs, hj⟩;have hb := hp.base hi;have hc := hp.enc hi;obtain ⟨hk1, hk2⟩ := hv.pairs_ok _ (List.getElem_mem hi);have hm1 := mcell _ hk1;have hm2 := mcell _ hk2;refine Y21 ?_;refine Yj hs (hc.of_eaddr) rfl rfl rfl rfl rfl rfl ?_;refine Yp hs rfl rfl rfl ?_; clear hs; intro c w hs;refine zP ?_
   refine Yx hs 0 rfl rfl rfl rfl rfl (Nat.le_of_ble_eq_true rfl) rfl rfl ?_; clear hs; intro w hs;refine Y39 ?_;refine Yu (v := .bool (ms.getD pairs[i].1 false)) hs 2 rfl rfl hm1 rfl rfl rfl rfl ?_;refine zP ?_
   refine Xr 36 rfl (fun q1 => ?_) (fun q1 => ?_)
   ·refine zA ?_;refine Yu (v := .bool (ms.getD pairs[i].2 false)) hs 2 rfl rfl hm2 rfl rfl rfl rfl ?_;refine Y31 ?_
    refine Xi rfl (fun h => ?_) (fun h => ?_)
    ·refine Y20 ?_;refine Xb (res2 rfl rfl rfl) ⟨g, [], Ghost.rfl', hs.drop.drop.drop, rfl, ?_⟩;have e : pairs.findIdx? (fun p => ms.getD p.1 false && !ms.getD p.2 false) = some i := findIdx?_at hi (fun j h' => hj j h' (by omega)) (by rw [q1, h]; rfl);simp only [Xw, e1, e];rfl
    ·refine Xq (Xh (Xx () hi hpl ⟨hs.drop, fun j h1 h2 => ?_⟩ rfl rfl rfl ⟨rfl, rfl, rfl, trivial⟩))
     by_cases e : j = i
     ·subst e; rw [h, Bool.and_false]
     ·exact hj j (by omega) h2
   ·refine Y40 ?_;refine zF ?_;refine Xq (Xh (Xx () hi hpl ⟨hs.drop, fun j h1 h2 => ?_⟩ rfl rfl rfl ⟨rfl, rfl, rfl, trivial⟩))
    by_cases e : j = i
    ·subst e; rw [q1, Bool.false_and]
    ·exact hj j (by omega) h2
  ·rintro _ w ⟨hs, hj⟩;have e2 : pairs.findIdx? (fun p => ms.getD p.1 false && !ms.getD p.2 false) = none := findIdx?_no fun j h => hj j h h
   refine Y24 ?_;refine Xb (res2 rfl rfl rfl) ⟨g, [], Ghost.rfl', hs.drop.drop, rfl, ?_⟩;simp only [Xw, e1, e2];rfl
theorem satisfied_spec (g : Ghost) (va vp : Value) (ms : List Bool) (all : List Nat) (pairs : List (Nat × Nat)) (hms : ms.length = 16) (ha : RS kNat g va all) (hp : RS kPair g vp pairs) (hv : ValidW all pairs) :
  Cl PP 50 [.agg (ms.map .bool).toArray, .agg #[va, vp]] g [] (Det (.bool (satF ms all pairs))) := by
 refine Xj Tryz.func50 rfl rfl Tryz.ntmps50 rfl ?_
 intro w F hs
 refine Y2 ?_
 refine Yi (l := ms.map .bool) hs rfl rfl rfl rfl ?_
 clear hs; intro mb w hs
 refine Yi hs rfl rfl rfl rfl ?_; clear hs; intro wb w hs
 refine Y6 ?_
 refine Vy hs 1 rfl rfl rfl rfl (by simp [hms]) rfl rfl ?_
 refine Vy hs 0 rfl rfl rfl rfl rfl rfl rfl ?_
 refine Xf rfl rfl rfl (L := []) hs (lacking_spec g va vp ms all pairs hms ha hp hv) ?_
 rintro u g1 L' w hg1 hs ⟨rfl, rfl⟩
 refine Y31 ?_
 refine Y20 ?_
 refine Xb (Xo rfl rfl) ⟨g1, [], hg1, hs.drop.drop, rfl, ?_⟩
 unfold satF
 congr 1
 generalize (Xw ms all pairs).1 = k
 rw [Bool.eq_iff_iff]
 simp
end
section
open Go.RowKit
def Jz (ls : List Arrow) (x at_ : Int) : Bool := match ls[x.toNat]? with
 | some a => !decide (x < 0) && decide ((a.fr : Int) = at_)
 | none => false
def stepTo (ls : List Arrow) (x : Int) : Int := match ls[x.toNat]? with
 | some a => a.to
 | none => 0
def Yl (ls : List Arrow) : List Int → Int → Option Int
 | [], a => some a
 | x :: r, a => if Jz ls x a then Yl ls r (stepTo ls x) else none
theorem followF_snoc (ls : List Arrow) (x : Int) : ∀ (p : List Int) (a : Int), Yl ls (p ++ [x]) a = (Yl ls p a).bind fun b => if Jz ls x b then some (stepTo ls x) else none
 | [], a => by simp [Yl]
 | y :: p, a => by
  simp only [List.cons_append, Yl]
  split
  ·exact followF_snoc ls x p _
  ·rfl
theorem followF_none (ls : List Arrow) : ∀ (p q : List Int) (a : Int), Yl ls p a = none → Yl ls (p ++ q) a = none
 | [], q, a, h => by simp [Yl] at h
 | y :: p, q, a, h => by
  simp only [List.cons_append, Yl] at h ⊢
  split
  ·rename_i h1; rw [if_pos h1] at h; exact followF_none ls p q _ h
  ·rfl
theorem follow_spec (g : Ghost) (vg vp : Value) (n : Nat) (ls : List Arrow) (p : List Int) (at0 : Int) (bx ab : Nat) (hG : GraphR g vg n ls) (hp : RS kInt g vp p) (hp0 : p.length ≤ 4611686018427387904) :
  Cl PP 59 [vp, .pointer (some ⟨bx, 0, none⟩), .pointer (some ⟨ab, 0, none⟩)] g [(bx, Xa [vg] 75), (ab, Xa [.int .i64 at0] 3)]
   fun g' L' r => ∃ at1, L' = [(bx, Xa [vg] 75), (ab, Xa [.int .i64 at1] 3)] ∧ r = .bool (Yl ls p at0).isSome ∧ ∀ e, Yl ls p at0 = some e → at1 = e := by
 obtain ⟨gb, al, cl, ao, co, rfl, hG, hA, hO⟩ := hG
 obtain ⟨a2, c2, rfl⟩ := hp.form
 refine Xj Tryz.func59 rfl rfl Tryz.ntmps59 rfl ?_
 intro w F hs
 refine Y22 ?_
 refine Yw p.length (fun _ _ => [(8, .int .i64 p.length), (7, .slice a2 p.length c2), (1, .pointer (some ⟨bx, 0, none⟩)), (2, .pointer (some ⟨ab, 0, none⟩))])
  (fun i (x : Int × Ghost) w => g ≤ x.2 ∧ St x.2 w ((bx, Xa [.pointer (some ⟨gb, 0, none⟩)] 75) :: (ab, Xa [.int .i64 x.1] 3) :: F) ∧ Yl ls (p.take i) at0 = some x.1) (at0, g) hp0 ⟨rfl, rfl, rfl, rfl, rfl, trivial⟩ ⟨Ghost.rfl', hs, rfl⟩ (fun _ _ => rfl) rfl rfl rfl ?_ ?_ (fun _ _ => rfl) rfl
 ·rintro i ⟨at1, g1⟩ w hi ⟨hg1, hs, hf⟩;simp only at hg1 hs hf
  have hb := hp.base hi;have hc := (hp.mono hg1).int hi;have etake : p.take (i + 1) = p.take i ++ [p[i]] := by rw [List.take_add_one, List.getElem?_eq_getElem hi]; rfl
  have hsplit : p = p.take (i + 1) ++ p.drop (i + 1) := (List.take_append_drop _ _).symm
  have bad : Jz ls p[i] at1 = false → Yl ls p at0 = none := fun h => by
   rw [hsplit];refine followF_none ls _ _ _ ?_;rw [etake, followF_snoc, hf];simp [h]
  refine Y47 ?_;refine Yf 23 [] Yd (by kernel_rfl) rfl hs ?_;refine zC ?_
  refine sg_case (fun h1 => ?_) (fun h1 => ?_)
  ·refine zC ?_;refine Xy ?_;intro g2 w hg2;intro hs;refine Y29 ?_;have hb1 := bad (by unfold Jz; rw [h1]; cases ls[p[i].toNat]? <;> rfl);refine Xb (Xo rfl rfl) ⟨g2, _, Ghost.tr hg1 hg2, hs, at1, rfl, by rw [hb1]; rfl, fun e he => by rw [hb1] at he; cases he⟩
  ·refine zC ?_;refine Xv 0 rfl rfl rfl rfl rfl rfl ?_;refine zC ?_;refine Xp ((hG.mono hg1) 1 _ rfl) rfl rfl rfl rfl ?_;refine zC ?_
   refine sg_case (fun h2 => ?_) (fun h2 => ?_)
   ·refine zC ?_;refine Xy ?_;intro g2 w hg2;intro hs;refine Y29 ?_
    have hb1 := bad (by
     have h3 := of_decide_eq_true h2;unfold Jz;rw [List.getElem?_eq_none (by omega)])
    refine Xb (Xo rfl rfl) ⟨g2, _, Ghost.tr hg1 hg2, hs, at1, rfl, by rw [hb1]; rfl, fun e he => by rw [hb1] at he; cases he⟩
   ·have h3 : 0 ≤ p[i] ∧ p[i].toNat < ls.length ∧ p[i] < (ls.length : Int) := by
     have := of_decide_eq_false h2;have := of_decide_eq_false h1;omega
    obtain ⟨h31, h32, h33⟩ := h3;obtain ⟨lb, lo, rfl⟩ := hA.base h32;have hcA := (hA.mono hg1).enc h32;refine zC ?_;refine Xv 0 rfl rfl rfl rfl rfl rfl ?_;refine zC ?_;refine Xp ((hG.mono hg1) 1 _ rfl) rfl rfl rfl rfl ?_;refine zC ?_;refine Uc rfl rfl rfl rfl rfl (by omega) (⟨lb, lo, rfl⟩) rfl ?_;refine zC ?_;refine Xp (hcA 0 _ rfl) rfl rfl rfl rfl ?_
    refine Xv 1 rfl rfl rfl rfl rfl rfl ?_;refine zC ?_;refine Xy ?_;intro g2 w hg2;intro hs;refine zn ?_
    refine Xi rfl (fun h4 => ?_) (fun h4 => ?_)
    ·refine Y1 ?_
     have hb1 := bad (by
      unfold Jz;rw [List.getElem?_eq_getElem h32];simp only [h1, Bool.not_false, Bool.true_and];simpa using h4)
     refine Xb (Xo rfl rfl) ⟨g2, _, Ghost.tr hg1 hg2, hs, at1, rfl, by rw [hb1]; rfl, fun e he => by rw [hb1] at he; cases he⟩
    ·refine Y45 ?_;refine zL0 ?_;refine zP ?_;refine Xd hs ((hG.mono (Ghost.tr hg1 hg2)) 1 _ rfl) rfl rfl rfl rfl rfl ?_;refine zP ?_;refine Yb rfl rfl rfl rfl rfl (by omega) (⟨lb, lo, rfl⟩) rfl rfl ?_;refine zP ?_;refine Xd hs ((hcA.mono hg2) 1 _ rfl) rfl rfl rfl rfl rfl ?_;refine Yh hs 1 rfl rfl rfl rfl rfl rfl rfl rfl ?_; clear hs; intro w hs
     refine Xn (Xh (Xx ((ls[p[i].toNat].to : Int), g2) hi hp0 ⟨Ghost.tr hg1 hg2, hs, ?_⟩ rfl rfl rfl ⟨rfl, rfl, rfl, rfl, trivial⟩));rw [etake, followF_snoc, hf]
     have e1 : Jz ls p[i] at1 = true := by
      unfold Jz;rw [List.getElem?_eq_getElem h32];simp only [h1, Bool.not_false, Bool.true_and];simpa using h4
     simp only [Option.bind_some, e1, if_true, stepTo, List.getElem?_eq_getElem h32]
 ·rintro ⟨at1, g1⟩ w ⟨hg1, hs, hf⟩;simp only at hg1 hs hf
  refine Y24 ?_;rw [List.take_length] at hf
  refine Xb (Xo rfl rfl) ⟨g1, _, hg1, hs, at1, rfl, by rw [hf]; rfl, fun e he => by rw [hf] at he; cases he; rfl⟩
def Yz (init : List Int) (ls : List Arrow) (start : Int) (stem loop : List Int) : Bool :=
 (init.any fun y => start == y) && !decide (loop.length = 0) && match Yl ls stem start with
  | some f => match Yl ls loop f with
   | some e => decide (e = f)
   | none => false
  | none => false
theorem isRound_spec (g : Ghost) (vg vi vs vl : Value) (n : Nat) (ls : List Arrow) (init stem loop : List Int) (start : Int) (hG : GraphR g vg n ls) (hi : RS kInt g vi init) (hst : RS kInt g vs stem) (hl : RS kInt g vl loop)
  (hi0 : init.length ≤ 4611686018427387904) (hs0 : stem.length ≤ 4611686018427387904) (hl0 : loop.length ≤ 4611686018427387904) :
  Cl PP 27 [vg, vi, .agg #[.int .i64 start, vs, vl]] g [] (Det (.bool (Yz init ls start stem loop))) := by
 obtain ⟨a2, c2, rfl⟩ := hl.form
 obtain ⟨gb, hgv⟩ : ∃ gb, vg = .pointer (some ⟨gb, 0, none⟩) := by obtain ⟨gb, _, _, _, _, rfl, _⟩ := hG; exact ⟨gb, rfl⟩
 subst hgv
 refine Xj Tryz.func27 rfl rfl Tryz.ntmps27 rfl ?_
 intro w F hs
 refine Y2 ?_
 refine Yi hs rfl rfl rfl rfl ?_; clear hs; intro bx w hs
 refine Yi hs rfl rfl rfl rfl ?_; clear hs; intro rb w hs
 refine zP ?_
 refine Y39 ?_
 refine Xf rfl rfl rfl (L := []) hs (contains_spec g vi init start hi hi0) ?_
 rintro u g1 L' w hg1 hs ⟨rfl, rfl⟩
 refine zA ?_
 refine Xr 15 rfl (fun h1 => ?_) (fun h1 => ?_)
 ·refine Y43 ?_;refine Xb (Xo rfl rfl) ⟨g1, [], hg1, hs.drop.drop, rfl, ?_⟩;have : (init.any fun y => start == y) = false := by simpa using h1
  simp only [Yz, this, Bool.false_and]
 ·have q1 : (init.any fun y => start == y) = true := by simpa using h1
  refine Y31 ?_
  refine Xi rfl (fun h2 => ?_) (fun h2 => ?_)
  ·refine Y20 ?_;refine Xb (Xo rfl rfl) ⟨g1, [], hg1, hs.drop.drop, rfl, ?_⟩;have : decide (loop.length = 0) = true := by have := of_decide_eq_true h2; exact decide_eq_true (by omega)
   simp only [Yz, this, Bool.not_true, Bool.and_false, Bool.false_and]
  ·have q2 : decide (loop.length = 0) = false := by have := of_decide_eq_false h2; exact decide_eq_false (by omega)
   refine zS ?_;refine Y21 ?_;refine Yp hs rfl rfl rfl ?_; clear hs; intro ab w hs;refine Yh hs 0 rfl rfl rfl rfl rfl rfl rfl rfl ?_; clear hs; intro w hs;refine Y8 ?_;refine Y39 ?_;replace hs := hs.front 2 rfl
   refine Xf rfl rfl rfl (L := [(bx, Xa [.pointer (some ⟨gb, 0, none⟩)] 75), (ab, Xa [.int .i64 start] 3)]) hs (follow_spec g1 _ vs n ls stem start bx ab (hG.mono hg1) (hst.mono hg1) hs0) ?_;rintro u g2 L' w hg2 hs ⟨at1, rfl, rfl, hat⟩;refine Y31 ?_
   refine Xi rfl (fun h3 => ?_) (fun h3 => ?_)
   ·refine Y20 ?_;refine Xb (Xo rfl rfl) ⟨g2, [], Ghost.tr hg1 hg2, hs.drop.drop.drop, rfl, ?_⟩
    have : Yl ls stem start = none := by cases hx : Yl ls stem start with
     | none => rfl
     | some e => rw [hx] at h3; cases h3
    simp only [Yz, this, Bool.and_false]
   ·obtain ⟨f, hf⟩ : ∃ f, Yl ls stem start = some f := by
     cases hx : Yl ls stem start with
     | none => rw [hx] at h3; cases h3
     | some e => exact ⟨e, rfl⟩
    have := hat f hf;subst this;refine zS ?_;refine Y48 ?_;refine Xf rfl rfl rfl (L := [(bx, Xa [.pointer (some ⟨gb, 0, none⟩)] 75), (ab, Xa [.int .i64 at1] 3)]) hs (follow_spec g2 _ _ n ls loop at1 bx ab (hG.mono (Ghost.tr hg1 hg2)) (hl.mono (Ghost.tr hg1 hg2)) hl0) ?_;rintro u g3 L' w hg3 hs ⟨at2, rfl, rfl, hat2⟩;refine zA ?_
    refine Xr 34 rfl (fun h4 => ?_) (fun h4 => ?_)
    ·refine Y31 ?_;refine Xb (Xo rfl rfl) ⟨g3, [], Ghost.tr hg1 (Ghost.tr hg2 hg3), hs.drop.drop.drop, rfl, ?_⟩;obtain ⟨e, he⟩ := Option.isSome_iff_exists.1 h4;have := hat2 e he;subst this;simp only [Yz, q1, q2, hf, he, Bool.not_false, Bool.true_and];rfl
    ·refine Y31 ?_;refine Xb (Xo rfl rfl) ⟨g3, [], Ghost.tr hg1 (Ghost.tr hg2 hg3), hs.drop.drop.drop, rfl, ?_⟩
     have : Yl ls loop at1 = none := by cases hx : Yl ls loop at1 with
      | none => rfl
      | some e => rw [hx] at h4; cases h4
     simp only [Yz, hf, this, Bool.and_false]
end
section
open Go.RowKit
structure Rises (below : Int) (xs : List Int) : Prop where
 low : ∀ x ∈ xs, 0 ≤ x ∧ x < below
 up : ∀ i (h : i + 1 < xs.length), xs[i] < xs[i + 1]
theorem rises_iff {below : Int} {xs : List Int} (h : rises below xs = true) : Rises below xs := by
 have key : ∀ i, i < xs.length → Vd below xs i = true := fun i hi => List.all_eq_true.1 h i (List.mem_range.2 hi)
 refine ⟨fun x hx => ?_, fun i hi => ?_⟩
 ·obtain ⟨i, hi, rfl⟩ := List.getElem_of_mem hx;have := key i hi;simp only [Vd, Bool.and_eq_true] at this
  have h1 := of_decide_eq_true this.1.1;have h2 := of_decide_eq_true this.1.2;simp only [List.getD_eq_getElem?_getD, List.getElem?_eq_getElem hi, Option.getD_some] at h1 h2
  exact ⟨h1, h2⟩
 ·have := key (i + 1) hi;simp only [Vd, Bool.and_eq_true, Bool.or_eq_true] at this
  rcases this.2 with h | h
  ·have := of_decide_eq_true h; omega
  ·have h1 := of_decide_eq_true h;simp only [List.getD_eq_getElem?_getD, Nat.add_sub_cancel, List.getElem?_eq_getElem hi, List.getElem?_eq_getElem (show i < xs.length by omega), Option.getD_some] at h1
   exact h1
theorem Rises.ge {below : Int} {xs : List Int} (h : Rises below xs) : ∀ i (hi : i < xs.length), (i : Int) ≤ xs[i]
 | 0, hi => by have := (h.low _ (List.getElem_mem hi)).1; omega
 | i + 1, hi => by have := h.ge i (by omega); have := h.up i hi; omega
theorem Rises.len {below : Int} {xs : List Int} (h : Rises below xs) (hb : 0 ≤ below) : (xs.length : Int) ≤ below := by
 rcases Nat.eq_zero_or_pos xs.length with h0 | h0
 ·omega
 ·have h1 := h.ge (xs.length - 1) (by omega);have h2 := (h.low _ (List.getElem_mem (show xs.length - 1 < xs.length by omega))).2;omega
def toA (a : ArrowI) : Arrow := ⟨a.fr.toNat, a.to.toNat, a.ms⟩
def toP (p : Int × Int) : Nat × Nat := (p.1.toNat, p.2.toNat)
structure Checked (n : Int) (init : List Int) (ls : List ArrowI) (all : List Int) (pairs : List (Int × Int)) : Prop where
 n0 : 0 ≤ n
 n1 : n ≤ 20000
 init : Rises n init
 len : ls.length ≤ 200000
 arr : ∀ a ∈ ls, 0 ≤ a.fr ∧ a.fr < n ∧ 0 ≤ a.to ∧ a.to < n ∧ (a.ms : Int) < 65536
 all : Rises 16 all
 plen : pairs.length ≤ 16
 pairs : ∀ p ∈ pairs, 0 ≤ p.1 ∧ p.1 < 16 ∧ 0 ≤ p.2 ∧ p.2 < 16
theorem Jn {n : Int} {init : List Int} {ls : List ArrowI} {all : List Int} {pairs : List (Int × Int)} (h : Xz n init ls all pairs = 0) : Checked n init ls all pairs := by
 unfold Xz at h
 split at h
 ·cases h
 ·rename_i h1
  split at h
  ·cases h
  ·rename_i h2
   split at h
   ·cases h
   ·rename_i h3
    split at h
    ·cases h
    ·rename_i h4;simp only [Bool.or_eq_true, not_or, decide_eq_true_eq, Bool.not_eq_true, Bool.not_eq_false'] at h1 h4
     obtain ⟨⟨a1, a2⟩, a3⟩ := h1;obtain ⟨⟨b1, b2⟩, b3⟩ := h4;have h3' : ls.all (Uu n) = true := by simpa using h3
     refine ⟨by omega, by omega, rises_iff a3, by omega, fun a ha => ?_, rises_iff b1, by omega, fun p hp => ?_⟩
     ·have := List.all_eq_true.1 h3' a ha;simp only [Uu, Bool.not_eq_true', Bool.or_eq_false_iff, decide_eq_false_iff_not] at this
      omega
     ·have := List.any_eq_false.1 b3 p hp;simp only [Vn, Bool.or_eq_true, not_or, decide_eq_true_eq] at this
      omega
theorem Checked.validG {n : Int} {init : List Int} {ls : List ArrowI} {all : List Int} {pairs : List (Int × Int)} (h : Checked n init ls all pairs) : ValidG n.toNat (ls.map toA) := by
 refine ⟨by have := h.n1; omega, by simpa using h.len, fun a ha => ?_⟩
 obtain ⟨b, hb, rfl⟩ := List.mem_map.1 ha
 have := h.arr b hb
 simp only [toA]
 omega
theorem Checked.validW {n : Int} {init : List Int} {ls : List ArrowI} {all : List Int} {pairs : List (Int × Int)} (h : Checked n init ls all pairs) : ValidW (all.map Int.toNat) (pairs.map toP) := by
 refine ⟨by have := h.all.len (by decide); simp; omega, fun k hk => ?_, by simpa using h.plen, fun p hp => ?_⟩
 ·obtain ⟨x, hx, rfl⟩ := List.mem_map.1 hk;have := h.all.low x hx;omega
 ·obtain ⟨q, hq, rfl⟩ := List.mem_map.1 hp;have := h.pairs q hq;simp only [toP];omega
theorem Checked.rsA {n : Int} {init : List Int} {ls : List ArrowI} {all : List Int} {pairs : List (Int × Int)} (h : Checked n init ls all pairs) {g : Ghost} {v : Value} (hr : RS Jl g v ls) : RS kArr g v (ls.map toA) :=
 hr.conv (K' := kArr) toA rfl fun g cs x hx hr => by
  have := h.arr x hx;have hr' : cs = eArrI x := hr;subst hr'
  show eArrI x = eArr (toA x)
  simp only [eArrI, eArr, toA, Int.toNat_of_nonneg this.1, Int.toNat_of_nonneg this.2.2.1]
theorem Checked.rsP {n : Int} {init : List Int} {ls : List ArrowI} {all : List Int} {pairs : List (Int × Int)} (h : Checked n init ls all pairs) {g : Ghost} {v : Value} (hr : RS Vh g v pairs) : RS kPair g v (pairs.map toP) :=
 hr.conv (K' := kPair) toP rfl fun g cs x hx hr => by
  have := h.pairs x hx;have hr' : cs = ePairI x := hr;subst hr'
  show ePairI x = ePair (toP x)
  simp only [ePairI, ePair, toP, Int.toNat_of_nonneg this.1, Int.toNat_of_nonneg this.2.2.1]
theorem Rises.rs {below : Int} {xs : List Int} (h : Rises below xs) {g : Ghost} {v : Value} (hr : RS kInt g v xs) : RS kNat g v (xs.map Int.toNat) := hr.toNat fun x hx => (h.low x hx).1
theorem follow_ok {ls : List Arrow} : ∀ {p : List Int} {a e : Int}, Yl ls p a = some e → ∀ x ∈ p, 0 ≤ x ∧ x.toNat < ls.length
 | [], _, _, _, x, hx => by cases hx
 | y :: p, a, e, h, x, hx => by
  simp only [Yl] at h
  split at h
  ·rename_i h1
   rcases List.mem_cons.1 hx with rfl | hx
   ·unfold Jz at h1
    cases h2 : ls[x.toNat]? with
    | none => rw [h2] at h1; cases h1
    | some b =>
     rw [h2] at h1
     simp only [Bool.and_eq_true, Bool.not_eq_true', decide_eq_false_iff_not] at h1
     exact ⟨by omega, (List.getElem?_eq_some_iff.1 h2).1⟩
   ·exact follow_ok h x hx
  ·cases h
theorem isRound_ok {ls : List Arrow} {init stem loop : List Int} {start : Int} (h : Yz init ls start stem loop = true) : (∀ x ∈ loop, 0 ≤ x ∧ x.toNat < ls.length) ∧ ∀ x ∈ stem, 0 ≤ x ∧ x.toNat < ls.length := by
 unfold Yz at h
 cases h1 : Yl ls stem start with
 | none => simp [h1] at h
 | some f =>
  cases h2 : Yl ls loop f with
  | none => simp [h1, h2] at h
  | some e => exact ⟨follow_ok h2, follow_ok h1⟩
def Vw (n : Int) (init : List Int) (ls : List ArrowI) (all : List Int) (pairs : List (Int × Int)) (start : Int) (stem loop : List Int) : Bool × Int :=
 if Xz n init ls all pairs = 0 then
  if Yz init (ls.map toA) start stem loop = true then (satF (Zh (ls.map toA) (loop.map Int.toNat)) (all.map Int.toNat) (pairs.map toP), 0) else (false, 322)
 else (false, Xz n init ls all pairs)
theorem metF_len (ls : List Arrow) (l : List Nat) : (Zh ls l).length = 16 := by simp [Zh]
theorem accepts_spec (g : Ghost) (n : Int) (vi vl va vp vs vlo : Value) (init : List Int) (ls : List ArrowI) (all : List Int) (pairs : List (Int × Int)) (start : Int) (stem loop : List Int)
  (hi : RS kInt g vi init) (hl : RS Jl g vl ls) (ha : RS kInt g va all) (hp : RS Vh g vp pairs) (hst : RS kInt g vs stem) (hlo : RS kInt g vlo loop)
  (hi0 : init.length ≤ 4611686018427387904) (hl0 : ls.length ≤ 4611686018427387904) (ha0 : all.length ≤ 4611686018427387904) (hp0 : pairs.length ≤ 4611686018427387904) (hs0 : stem.length ≤ 4611686018427387904) (hlo0 : loop.length ≤ 4611686018427387904) :
  Cl PP 21 [.int .i64 n, vi, vl, .agg #[va, vp], .agg #[.int .i64 start, vs, vlo]] g [] (Det (.tuple #[.bool (Vw n init ls all pairs start stem loop).1, .int .i64 (Vw n init ls all pairs start stem loop).2])) := by
 refine Xj Tryz.func21 rfl rfl Tryz.ntmps21 rfl ?_
 intro w F hs
 refine Y2 ?_
 refine Yi hs rfl rfl rfl rfl ?_; clear hs; intro wb w hs
 refine Yi hs rfl rfl rfl rfl ?_; clear hs; intro rb w hs
 refine zP ?_
 refine Y39 ?_
 refine Vy hs 1 rfl rfl rfl rfl rfl rfl rfl ?_
 refine Xf rfl rfl rfl (L := []) hs (check_spec g n vi vl va vp init ls all pairs hi hl ha hp hi0 hl0 ha0 hp0) ?_
 rintro u g1 L' w hg1 hs ⟨rfl, rfl⟩
 refine Y31 ?_
 refine Y20 ?_
 refine Xi rfl (fun h1 => ?_) (fun h1 => ?_)
 ·refine Y20 ?_;refine Xb (res2 rfl rfl rfl) ⟨g1, [], hg1, hs.drop.drop, rfl, ?_⟩;have : ¬ Xz n init ls all pairs = 0 := by simpa using h1
  simp only [Vw, if_neg this]
 ·have hc : Xz n init ls all pairs = 0 := by simpa using h1
  have hC := Jn hc;have hnn : n = (n.toNat : Int) := (Int.toNat_of_nonneg hC.n0).symm;refine zS ?_;refine Y21 ?_;refine Xf (vs := [.int .i64 (n.toNat : Int), vl]) (by rw [← hnn]; rfl) rfl rfl (L := []) hs (Jd g1 n.toNat vl (ls.map toA) (hC.rsA (hl.mono hg1)) hC.validG.size hC.validG.len (fun a ha => (hC.validG.ok a ha).1)) ?_;rintro gv g2 L' w hg2 hs ⟨rfl, hG⟩
  refine Y54 ?_;refine Vy hs 0 rfl rfl rfl rfl rfl rfl rfl ?_;have hg02 := Ghost.tr hg1 hg2;refine Xf rfl rfl rfl (L := []) hs (isRound_spec g2 gv vi vs vlo n.toNat (ls.map toA) init stem loop start hG (hi.mono hg02) (hst.mono hg02) (hlo.mono hg02) hi0 hs0 hlo0) ?_;rintro u g3 L' w hg3 hs ⟨rfl, rfl⟩;refine Y31 ?_
  refine Xi rfl (fun h2 => ?_) (fun h2 => ?_)
  ·refine Y20 ?_;refine Xb (res2 rfl rfl rfl) ⟨g3, [], Ghost.tr hg02 hg3, hs.drop.drop, rfl, ?_⟩;have : ¬ Yz init (ls.map toA) start stem loop = true := by simpa using h2
   simp only [Vw, if_pos hc, if_neg this]
  ·have hr : Yz init (ls.map toA) start stem loop = true := by simpa using h2
   have hlow := (isRound_ok hr).1;have hg03 := Ghost.tr hg02 hg3;refine zS ?_;refine zQ ?_;refine Yf 8 [] Yd (by kernel_rfl) rfl hs ?_;refine zC ?_;refine Xv 0 rfl rfl rfl rfl rfl rfl ?_
   refine Vq [] [] rfl rfl rfl (fun g' hg' => met_spec g' gv vlo n.toNat (ls.map toA) (loop.map Int.toNat) (hG.mono (Ghost.tr hg3 hg')) hC.validG ((hlo.mono (Ghost.tr hg03 hg')).toNat fun x hx => (hlow x hx).1) (by simpa using hlo0) (fun i hi => ?_)) (fun _ _ _ h => h) ?_
   ·obtain ⟨x, hx, rfl⟩ := List.mem_map.1 hi;exact (hlow x hx).2
   refine sg_ldW 1 rfl rfl rfl rfl rfl rfl ?_;refine Vq [] [] rfl rfl rfl (fun g' hg' => satisfied_spec g' va vp _ (all.map Int.toNat) (pairs.map toP) (metF_len _ _) (hC.all.rs (ha.mono (Ghost.tr hg03 hg'))) (hC.rsP (hp.mono (Ghost.tr hg03 hg'))) hC.validW) (fun _ _ _ h => h) ?_;refine zC ?_;refine Xy ?_;intro g4 w hg4;intro hs;refine zn ?_
   refine Xb (res2 rfl rfl rfl) ⟨g4, [], Ghost.tr hg03 hg4, hs.drop.drop, rfl, ?_⟩;simp only [Vw, if_pos hc, if_pos hr]
end
section
open Go.RowKit
theorem det_pu {f : Nat} {vs : List Value} {g : Ghost} {v : Value} (h : ∀ g', g ≤ g' → Cl PP f vs g' [] (Det v)) : Pu PP f vs g v := fun g' hg => h g' hg
def wkV (o : Option Int) : Value := match o with | some e => .tuple #[.int .i64 e, .bool true] | none => .tuple #[.int .i64 0, .bool false]
theorem followF_app {rs : List Arrow} {p : List Int} {a : Int} {i : Nat} (hi : i < p.length) {b : Int} (h : Yl rs (p.take i) a = some b) : Yl rs p a = if Jz rs p[i] b then Yl rs (p.drop (i + 1)) (stepTo rs p[i]) else none := by
 have key : ∀ (q r : List Int) (a b : Int), Yl rs q a = some b → Yl rs (q ++ r) a = Yl rs r b := by
  intro q
  induction q with
  | nil => intro r a b h; simp only [Yl, Option.some.injEq] at h; rw [h]; rfl
  | cons x q ih =>
   intro r a b h;simp only [Yl, List.cons_append] at h ⊢
   split at h
   ·rename_i h1; rw [if_pos h1]; exact ih r _ b h
   ·cases h
 have := key _ (p.drop i) a b h
 rw [List.take_append_drop, List.drop_eq_getElem_cons hi] at this
 rw [this, Yl]
set_option maxHeartbeats 4000000 in
theorem refWalk_spec (g : Ghost) (vl vp : Value) (rs : List Arrow) (p : List Int) (at0 : Int) (hl : RS kArr g vl rs) (hp : RS kInt g vp p) (hal : rs.length ≤ 1000000000) (hpl : p.length ≤ 1000000000) :
  Pu PP 62 [vl, .int .i64 at0, vp] g (wkV (Yl rs p at0)) := fun g' hg => by
 have hl := hl.mono hg
 have hp := hp.mono hg
 obtain ⟨aa, ca, rfl⟩ := hl.form
 obtain ⟨ap, cp, rfl⟩ := hp.form
 have hAe : ∀ j (hj : j < rs.length) q u, [Value.int .i64 (rs[j].fr : Int), .int .i64 (rs[j].to : Int), .int .u32 (rs[j].ms : Int)][q]? = some u → g'.cell ((Zj aa 3 j).add q) = some u := fun j hj => Lies.of_eaddr (RS.enc (e := eArr) (h0 := fun _ => rfl) hl hj)
 refine Ym Tryz.func62 rfl rfl Tryz.ntmps62 rfl fun F => ?_
 repeat' (first | refine zA4 ?_ | refine zBD (fun h => ?_) fun h => ?_ | fail)
 refine zL (fun x : Nat × Int => [(8, .int .i64 (x.1 : Int)), (1, .int .i64 x.2)]) [0, 2] (fun x => x.1 ≤ p.length ∧ Yl rs (p.take x.1) at0 = some x.2) (fun x => p.length - x.1) (0, at0) ⟨Nat.zero_le _, rfl⟩ fun (i, b) ⟨hi, hf⟩ => ?_
 simp only at hi hf
 dsimp only
 by_cases hil : i < p.length
 ·have hfa := followF_app hil hf;have hsn := followF_snoc rs p[i] (p.take i) at0;rw [← tkS hil, hf, Option.bind_some] at hsn
  by_cases hx : 0 ≤ p[i] ∧ p[i] < rs.length
  ·have hjl : p[i].toNat < rs.length := by omega
   have f0 := hAe _ hjl 0 _ rfl;have f1 := hAe _ hjl 1 _ rfl
   have hok : Jz rs p[i] b = decide ((rs[p[i].toNat].fr : Int) = b) := by
    unfold Jz;rw [List.getElem?_eq_getElem hjl]; simp; omega
   have hto : stepTo rs p[i] = rs[p[i].toNat].to := by
    unfold stepTo;rw [List.getElem?_eq_getElem hjl]
   rw [hok, hto] at hfa hsn
   generalize (rs[p[i].toNat].fr : Int) = fr at f0 hfa hsn
   generalize (rs[p[i].toNat].to : Int) = tt at f1 hfa hsn
   clear hAe hok hto
   repeat' (first | refine zA3 ?_ | (refine zBD (fun h => ?_) (fun h => ?_) <;> (try (exfalso; omega))) | fail)
   ·refine zt2 ?_;rename_i h;have hne : ¬ fr = b := by simpa using h
    rw [hfa, decide_eq_false hne, if_neg (by decide)];rfl
   ·rename_i h;have he : fr = b := by simpa using h
    rw [decide_eq_true he, if_pos rfl] at hsn
    exact Vc (i + 1, tt) ⟨by show i + 1 ≤ p.length; omega, hsn⟩ (by show p.length - (i + 1) < p.length - i; omega)
  ·have hok : Jz rs p[i] b = false := by
    unfold Jz
    split
    ·rename_i a ha;have := (List.getElem?_eq_some_iff.mp ha).1;have h0 : p[i] < 0 := by omega
     rw [decide_eq_true h0]; rfl
    ·rfl
   rw [hok, if_neg (by decide)] at hfa
   clear hAe hsn
   repeat' (first | refine zA3 ?_ | (refine zBD (fun h => ?_) (fun h => ?_) <;> (try (exfalso; omega))) | fail)
   all_goals (refine zt2 ?_; rw [hfa]; rfl)
 ·rw [List.take_of_length_le (by omega)] at hf
  clear hAe
  repeat' (first | refine zA3 ?_ | (refine zBD (fun h => ?_) (fun h => ?_) <;> (try (exfalso; omega))) | fail)
  all_goals (refine zt2 ?_; rw [hf]; rfl)
end
section
open Go.RowKit
theorem chunks_eq {α : Type} {e : α → List Value} {m : Nat} (h0 : ∀ x, (e x).length = m) : ∀ (xs : List α) (cs : List Value), cs.length = xs.length * m → (∀ i (hi : i < xs.length), (cs.drop (i * m)).take m = e xs[i]) → cs = xs.flatMap e
 | [], cs, hl, _ => by simpa using hl
 | x :: xs, cs, hl, h => by
  have h1 := h 0 (by simp);simp only [Nat.zero_mul, List.drop_zero, List.getElem_cons_zero] at h1
  have hl' : cs.length = xs.length * m + m := by rw [hl, List.length_cons, Nat.add_mul, Nat.one_mul]
  have ih := chunks_eq h0 xs (cs.drop m) (by rw [List.length_drop, hl']; omega) (fun i hi => by
   have := h (i + 1) (by simpa using hi);rw [List.drop_drop, show m + i * m = (i + 1) * m by rw [Nat.add_mul, Nat.one_mul]; omega];simpa using this)
  rw [List.flatMap_cons, ← h1, ← ih, List.take_append_drop]
theorem RS.flat {α : Type} {e : α → List Value} {m : Nat} {h0 : ∀ x, (e x).length = m} {g : Ghost} {a : Option Addr} {n cap : Nat} {xs : List α} (h : RS (kEnc e m h0) g (.slice a n cap) xs) :
  n = xs.length ∧ (xs.flatMap e).length = n * m ∧ (xs.flatMap e = [] ∨ ∃ b o, a = some ⟨b, o, none⟩ ∧ Lies g b o (xs.flatMap e)) := by
 obtain ⟨cs, h1, h2, h3, h4⟩ := h.cells
 have h1' : cs.length = n * m := h1
 have : cs = xs.flatMap e := chunks_eq h0 xs cs (by rw [h1', h3]) h4
 subst this
 exact ⟨h3, h1', h2⟩
theorem all_one {α : Type} {e : α → List Value} (he : ∀ x, (e x).all Value.oneCell' = true) (xs : List α) : (xs.flatMap e).all Value.oneCell' = true := by
 rw [List.all_flatMap, List.all_eq_true]
 exact fun x _ => he x
theorem RS.none {α : Type} {K : Kd α} {g : Ghost} {n cap : Nat} {xs : List α} (h : RS K g (.slice .none n cap) xs) : xs = [] := by
 obtain ⟨a, c, e, h⟩ := h
 cases e
 rcases h with h | ⟨b, o, e, _⟩
 ·exact h
 ·cases e
def eBool (b : Bool) : List Value := [.bool b]
def eInt (x : Int) : List Value := [.int .i64 x]
theorem cloneBool_spec (g : Ghost) (v : Value) (xs : List Bool) (hv : RS Yt g v xs) (hl : xs.length ≤ 4294967296) :
  Cl PP 113 [v] g [] fun _ L' r => OwnS 4 1 r xs.length (xs.flatMap eBool) L' := by
 obtain ⟨a, cap, rfl⟩ := hv.form
 obtain ⟨q1, q2, q3⟩ := RS.flat hv
 refine Xj Tryz.func113 rfl rfl Tryz.ntmps113 rfl ?_
 intro w F hs
 refine Y12 ?_
 refine wl_isNil rfl rfl rfl rfl rfl rfl ?_
 refine zn ?_
 refine Xi rfl (fun h => ?_) (fun h => ?_)
 ·refine Y1 ?_;have ha : a = none := by simpa using h
  subst ha;have := hv.none;subst this;exact Xb (Xo rfl rfl) ⟨g, [], Ghost.rfl', hs, OwnS.nil _ _⟩
 ·refine Y45 ?_;refine Ug (ps := []) (vs := []) (cs := []) hs rfl rfl rfl rfl rfl rfl rfl rfl rfl rfl ?_;clear hs; intro b w hs;refine zP ?_;refine Ju (H := [(b, Xa [] 4)]) (cs := []) (n := 0) (ys := xs.flatMap eBool) (m := xs.length) hs (OwnS.lit (m := 0) rfl) (RS.cellsAt hs q3) (by exact q2) rfl rfl rfl rfl rfl rfl rfl rfl rfl (all_one (fun _ => rfl) xs) (by omega) rfl rfl ?_
  intro v' w H' ho hs;refine Y7 ?_;refine Xb (Xo rfl rfl) ⟨g, H', Ghost.rfl', hs, ?_⟩;rw [Nat.zero_add] at ho
  exact ho
theorem cloneInt_spec (g : Ghost) (v : Value) (xs : List Int) (hv : RS kInt g v xs) (hl : xs.length ≤ 4294967296) :
  Cl PP 31 [v] g [] fun _ L' r => OwnS 3 1 r xs.length (xs.flatMap eInt) L' := by
 obtain ⟨a, cap, rfl⟩ := hv.form
 obtain ⟨q1, q2, q3⟩ := RS.flat hv
 refine Xj Tryz.func31 rfl rfl Tryz.ntmps31 rfl ?_
 intro w F hs
 refine Y12 ?_
 refine wl_isNil rfl rfl rfl rfl rfl rfl ?_
 refine zn ?_
 refine Xi rfl (fun h => ?_) (fun h => ?_)
 ·refine Y1 ?_;have ha : a = none := by simpa using h
  subst ha;have := hv.none;subst this;exact Xb (Xo rfl rfl) ⟨g, [], Ghost.rfl', hs, OwnS.nil _ _⟩
 ·refine Y45 ?_;refine Ug (ps := []) (vs := []) (cs := []) hs rfl rfl rfl rfl rfl rfl rfl rfl rfl rfl ?_;clear hs; intro b w hs;refine zP ?_;refine Ju (H := [(b, Xa [] 3)]) (cs := []) (n := 0) (ys := xs.flatMap eInt) (m := xs.length) hs (OwnS.lit (m := 0) rfl) (RS.cellsAt hs q3) (by exact q2) rfl rfl rfl rfl rfl rfl rfl rfl rfl (all_one (fun _ => rfl) xs) (by omega) rfl rfl ?_
  intro v' w H' ho hs;refine Y7 ?_;refine Xb (Xo rfl rfl) ⟨g, H', Ghost.rfl', hs, ?_⟩;rw [Nat.zero_add] at ho
  exact ho
def inF (n : Nat) (nodes : List Nat) : List Bool := (List.range n).map fun x => decide (x ∈ nodes)
theorem set_range {n : Nat} {f f' : Nat → Value} {k : Nat} {v : Value} (hk : k < n) (hv : v = f' k) (h : ∀ j, j < n → j ≠ k → f j = f' j) : ((List.range n).map f).set k v = (List.range n).map f' := by
 apply List.ext_getElem
 ·simp
 ·intro j h1 h2;have hj : j < n := by simpa using h2
  rw [List.getElem_set]
  split
  ·rename_i e; subst e; simp [hv]
  ·rename_i e; simp [h j hj (Ne.symm e)]
theorem Qy (xs : List Bool) : xs.flatMap eBool = xs.map .bool := by
 induction xs with
 | nil => rfl
 | cons x xs ih => rw [List.flatMap_cons, ih]; rfl
theorem flat_ints {α : Type} (f : α → Int) (xs : List α) : xs.flatMap (fun x => [Value.int .i64 (f x)]) = xs.map fun x => .int .i64 (f x) := by
 induction xs with
 | nil => rfl
 | cons x xs ih => rw [List.flatMap_cons, ih]; rfl
theorem own_bools {b n : Nat} {xs : List Bool} (h : xs.length = n) : OwnS 4 1 (.slice (some ⟨b, 0, none⟩) n n) xs.length (xs.flatMap eBool) [(b, Xa (xs.map .bool) 4)] := by
 subst h
 rw [Qy]
 exact OwnS.lit (by simp)
theorem rep_flat (n : Nat) (v : Value) : (List.replicate n [v]).flatten = List.replicate n v := by
 induction n with
 | zero => rfl
 | succ n ih => rw [List.replicate_succ, List.flatten_cons, ih, List.replicate_succ]; rfl
theorem zero_bools (n : Nat) : (List.replicate (n : Int).toNat (TE.zcells ⟨.bool, [.bool], 1⟩)).flatten = (List.range n).map fun _ => .bool false := by
 rw [Int.toNat_natCast, show TE.zcells ⟨.bool, [.bool], 1⟩ = [.bool false] from rfl, rep_flat]
 apply List.ext_getElem <;> simp
theorem zero_ints (n : Nat) : (List.replicate (n : Int).toNat (TE.zcells ⟨.int .i64, [.int .i64], 8⟩)).flatten = (List.range n).map fun _ => .int .i64 0 := by
 rw [Int.toNat_natCast, show TE.zcells ⟨.int .i64, [.int .i64], 8⟩ = [.int .i64 0] from rfl, rep_flat]
 apply List.ext_getElem <;> simp
theorem Yr {α : Type} {xs : List α} {i : Nat} (hi : i < xs.length) : xs.take (i + 1) = xs.take i ++ [xs[i]] := by rw [List.take_add_one, List.getElem?_eq_getElem hi]; rfl
theorem mem_snoc_self {xs : List Nat} {i : Nat} (hi : i < xs.length) : Value.bool true = .bool (decide (xs[i] ∈ xs.take (i + 1))) := by
 rw [Yr hi, decide_eq_true (List.mem_append_right _ (List.mem_singleton.2 rfl))]
theorem mem_snoc_other {xs : List Nat} {i j : Nat} (hi : i < xs.length) (hj : j ≠ xs[i]) : Value.bool (decide (j ∈ xs.take i)) = .bool (decide (j ∈ xs.take (i + 1))) := by
 rw [Yr hi]
 congr 1
 rw [decide_eq_decide, List.mem_append, List.mem_singleton]
 exact ⟨Or.inl, fun h => h.resolve_right hj⟩
theorem Ka (g : Ghost) (vg v1 v3 : Value) (n : Nat) (ls : List Arrow) (nodes : List Nat) (hG : GraphR g vg n ls) (hv : ValidG n ls) (h1 : RS kNat g v1 nodes) (h10 : nodes.length ≤ 4611686018427387904) (h3 : ∃ a k c, v3 = .slice a k c) (hn : ∀ x ∈ nodes, x < n) :
  Cl PP 71 [vg, v1, v3] g [] fun g' L' r => L' = [] ∧ ∃ v2, r = .agg #[v1, v2, v3] ∧ RS Yt g' v2 (inF n nodes) := by
 obtain ⟨gb, al, cl, ao, co, rfl, hG, hA, hO⟩ := hG
 obtain ⟨a1, c1, rfl⟩ := h1.form
 obtain ⟨a3, k3, c3, rfl⟩ := h3
 have hn0 := hv.size
 refine Xj Tryz.func71 rfl rfl Tryz.ntmps71 rfl ?_
 intro w F hs
 refine Y2 ?_
 refine Yp hs rfl rfl rfl ?_; clear hs; intro rb w hs
 refine Y8 ?_
 refine Xd hs (hG 0 _ rfl) rfl rfl rfl rfl rfl ?_
 refine Jk hs rfl (by omega) rfl rfl rfl rfl rfl rfl rfl ?_
 clear hs; intro ib w hs
 replace hs := (show St g w ((ib, Xa ((List.range n).map fun _ => .bool false) 4) :: _) by rw [← zero_bools n]; exact hs)
 refine zP ?_
 refine Yg (ps := [(0, .tmp 10), (1, .tmp 15), (2, .tmp 16)]) rfl rfl rfl rfl rfl rfl rfl ?_
 refine Yp hs rfl rfl rfl ?_; clear hs; intro pb w hs
 refine Yx hs 0 rfl rfl rfl rfl rfl (Nat.le_of_ble_eq_true rfl) rfl rfl ?_; clear hs; intro w hs
 refine zn ?_
 refine Y20 ?_
 refine Yw nodes.length (fun _ _ => [(19, .int .i64 nodes.length), (18, .slice a1 nodes.length c1), (7, .pointer (some ⟨pb, 0, none⟩)), (6, .pointer (some ⟨rb, 0, none⟩))])
  (fun i (_ : Unit) w => St g w ((pb, Xa [.slice a1 nodes.length c1, .slice (some ⟨ib, 0, none⟩) n n, .slice a3 k3 c3] 94) :: (ib, Xa ((List.range n).map fun x => .bool (decide (x ∈ nodes.take i))) 4) :: (rb, Xa [.slice none 0 0, .slice none 0 0, .slice none 0 0] 94) :: F)) () h10 ⟨rfl, rfl, rfl, rfl, rfl, trivial⟩ ?_ (fun _ _ => rfl) rfl rfl rfl ?_ ?_ (fun _ _ => rfl) rfl
 ·have e0 : ((List.range n).map fun x => Value.bool (decide (x ∈ nodes.take 0))) = (List.range n).map fun _ => .bool false := List.map_congr_left fun x _ => by simp
  rw [e0];exact hs
 ·rintro i _ w hi hs;have hb := h1.base hi;have hc := h1.nat hi;have hx : nodes[i] < n := hn _ (List.getElem_mem hi);refine Y48 ?_;refine Yv _ rfl rfl rfl rfl rfl (hx) rfl rfl rfl ?_;refine Yh (u := .bool (decide (nodes[i] ∈ nodes.take i))) hs 1 rfl rfl rfl (by simp [hx]) rfl rfl rfl rfl ?_;clear hs; intro w hs
  refine Xn (Xh (Xx () hi h10 ?_ rfl rfl rfl ⟨rfl, rfl, rfl, rfl, trivial⟩));rw [← set_range (f := fun x => .bool (decide (x ∈ nodes.take i))) (v := .bool true) hx (mem_snoc_self hi) (fun j _ hj => mem_snoc_other hi hj)];exact hs
 ·rintro _ w hs;refine Y27 ?_;refine Vy hs 0 rfl rfl rfl rfl rfl rfl rfl ?_;refine Yx hs 2 rfl rfl rfl rfl rfl (Nat.le_of_ble_eq_true rfl) rfl rfl ?_; clear hs; intro w hs;refine zn ?_;rw [List.take_length] at hs
  replace hs := hs.front 1 rfl;have e1 : (inF n nodes).map Value.bool = (List.range n).map fun x => .bool (decide (x ∈ nodes)) := by rw [inF, List.map_map]; rfl
  obtain ⟨g1, hg1, hs1, hr1⟩ := OwnS.freezeE (e := eBool) (h0 := fun _ => rfl) (xs := inF n nodes) (own_bools (n := n) (by simp [inF])) (by rw [e1]; exact hs);refine Xb (v := .agg #[.slice a1 nodes.length c1, .slice (some ⟨ib, 0, none⟩) n n, .slice a3 k3 c3]) (resCN hs1 rfl rfl (k := 1) rfl rfl rfl rfl) ⟨g1, [], hg1, hs1.drop.drop, rfl, _, rfl, hr1⟩
end
section
open Go.RowKit
def PieceR (g : Ghost) (v : Value) (n : Nat) (nodes : List Nat) (on : List Bool) : Prop :=
 ∃ v1 v2 v3, v = .agg #[v1, v2, v3] ∧ RS kNat g v1 nodes ∧ RS Yt g v2 (inF n nodes) ∧ RS Yt g v3 on
theorem Jo (n : Nat) : (List.replicate (n : Int).toNat (TE.zcells ⟨.bool, [.bool], 1⟩)).flatten = (List.replicate n false).map .bool := by
 rw [Int.toNat_natCast, show TE.zcells ⟨.bool, [.bool], 1⟩ = [.bool false] from rfl, rep_flat]
 simp
theorem whole_spec (g : Ghost) (vg v1 : Value) (n : Nat) (ls : List Arrow) (nodes : List Nat) (hG : GraphR g vg n ls) (hv : ValidG n ls) (h1 : RS kNat g v1 nodes) (h10 : nodes.length ≤ 4611686018427387904) (hn : ∀ x ∈ nodes, x < n) :
  Cl PP 37 [vg, v1] g [] fun g' L' r => L' = [] ∧ PieceR g' r n nodes (List.replicate ls.length true) := by
 have hG' := hG
 obtain ⟨gb, al, cl, ao, co, rfl, hG, hA, hO⟩ := hG
 have hl0 := hv.len
 have hl1 : ls.length ≤ 4611686018427387904 := by omega
 refine Xj Tryz.func37 rfl rfl Tryz.ntmps37 rfl ?_
 intro w F hs
 refine Y2 ?_
 refine Yp hs rfl rfl rfl ?_; clear hs; intro rb w hs
 refine Y8 ?_
 refine Xd hs (hG 1 _ rfl) rfl rfl rfl rfl rfl ?_
 refine zP ?_
 refine Jk hs rfl (by omega) rfl rfl rfl rfl rfl rfl rfl ?_
 clear hs; intro ob w hs
 replace hs := (show St g w ((ob, Xa ((List.range ls.length).map fun _ => .bool false) 4) :: _) by rw [← zero_bools]; exact hs)
 refine Y15 ?_
 refine Yw ls.length (fun _ _ => [(14, .int .i64 ls.length), (5, .slice (some ⟨ob, 0, none⟩) ls.length ls.length), (4, .pointer (some ⟨rb, 0, none⟩)), (0, .pointer (some ⟨gb, 0, none⟩)), (1, v1)])
  (fun i (_ : Unit) w => St g w ((ob, Xa ((List.range ls.length).map fun x => .bool (decide (x < i))) 4) :: (rb, Xa [.slice none 0 0, .slice none 0 0, .slice none 0 0] 94) :: F)) () hl1 ⟨rfl, rfl, rfl, rfl, rfl, rfl, trivial⟩ ?_ (fun _ _ => rfl) rfl rfl rfl ?_ ?_ (fun _ _ => rfl) rfl
 ·have e0 : ((List.range ls.length).map fun x => Value.bool (decide (x < 0))) = (List.range ls.length).map fun _ => .bool false := List.map_congr_left fun x _ => by simp
  rw [e0];exact hs
 ·rintro i _ w hi hs;refine Y12 ?_;refine Yv _ rfl rfl rfl rfl rfl (hi) rfl rfl rfl ?_;refine Yh (u := .bool (decide (i < i))) hs 0 rfl rfl rfl (by simp [hi]) rfl rfl rfl rfl ?_;clear hs; intro w hs;refine Xn (Xh (Xx () hi hl1 ?_ rfl rfl rfl ⟨rfl, rfl, rfl, rfl, rfl, trivial⟩))
  rw [← set_range (f := fun x => .bool (decide (x < i))) (v := .bool true) hi (by simp) (fun j _ hj => by congr 1; rw [decide_eq_decide]; omega)];exact hs
 ·rintro _ w hs;refine Y23 ?_;refine Xf rfl rfl rfl (L := []) hs (Ka g _ v1 (.slice (some ⟨ob, 0, none⟩) ls.length ls.length) n ls nodes hG' hv h1 h10 ⟨_, _, _, rfl⟩ hn) ?_;rintro u g1 L' w hg1 hs ⟨rfl, v2, rfl, hr2⟩;obtain ⟨a1, c1, rfl⟩ := h1.form;obtain ⟨a2, c2, rfl⟩ := hr2.form
  refine Yx (cs := [.slice a1 nodes.length c1, .slice a2 (inF n nodes).length c2, .slice (some ⟨ob, 0, none⟩) ls.length ls.length]) hs 1 rfl rfl rfl rfl rfl (Nat.le_of_ble_eq_true rfl) rfl rfl ?_;clear hs; intro w hs;refine zn ?_
  have e1 : ((List.range ls.length).map fun x => Value.bool (decide (x < ls.length))) = (List.replicate ls.length true).map .bool := by
   apply List.ext_getElem
   ·simp
   ·intro i q1 q2;have : i < ls.length := by simpa using q1
    simp [this]
  obtain ⟨g2, hg2, hs1, hr3⟩ := OwnS.freezeE (e := eBool) (h0 := fun _ => rfl) (xs := List.replicate ls.length true) (own_bools (n := ls.length) (by simp)) (by rw [← e1]; exact hs)
  refine Xb (v := .agg #[.slice a1 nodes.length c1, .slice a2 (inF n nodes).length c2, .slice (some ⟨ob, 0, none⟩) ls.length ls.length]) (resCN hs1 rfl rfl (k := 0) rfl rfl rfl rfl) ⟨g2, [], Ghost.tr hg1 hg2, hs1.drop, rfl, _, _, _, rfl, h1.mono (Ghost.tr hg1 hg2), hr2.mono hg2, hr3⟩
theorem Ks (xs : List Nat) : xs.flatMap Zd = xs.map fun (x : Nat) => .int .i64 (x : Int) := flat_ints (fun x : Nat => (x : Int)) xs
theorem own_nats {b n : Nat} {xs : List Nat} (h : xs.length = n) : OwnS 3 1 (.slice (some ⟨b, 0, none⟩) n n) xs.length (xs.flatMap Zd) [(b, Xa (xs.map fun (x : Nat) => .int .i64 (x : Int)) 3)] := by
 subst h
 rw [Ks]
 exact OwnS.lit (by simp)
theorem numbers_spec (g : Ghost) (n : Nat) (hn : n ≤ 20000) : Cl PP 91 [.int .i64 (n : Int)] g [] fun g' L' r => L' = [] ∧ RS kNat g' r (List.range n) := by
 have hl1 : n ≤ 4611686018427387904 := by omega
 refine Xj Tryz.func91 rfl rfl Tryz.ntmps91 rfl ?_
 intro w F hs
 refine Y12 ?_
 refine Jk hs rfl (by omega) rfl rfl rfl rfl rfl rfl rfl ?_
 clear hs; intro ob w hs
 replace hs := (show St g w ((ob, Xa ((List.range n).map fun _ => .int .i64 0) 3) :: _) by rw [← zero_ints]; exact hs)
 refine Y15 ?_
 refine Yw n (fun _ _ => [(8, .int .i64 n), (3, .slice (some ⟨ob, 0, none⟩) n n)])
  (fun i (_ : Unit) w => St g w ((ob, Xa ((List.range n).map fun (x : Nat) => Value.int .i64 (if x < i then (x : Int) else 0)) 3) :: F)) () hl1 ⟨rfl, rfl, rfl, trivial⟩ ?_ (fun _ _ => rfl) rfl rfl rfl ?_ ?_ (fun _ _ => rfl) rfl
 ·have e0 : ((List.range n).map fun (x : Nat) => Value.int .i64 (if x < 0 then (x : Int) else 0)) = (List.range n).map fun _ => .int .i64 0 := List.map_congr_left fun x _ => by simp
  rw [e0];exact hs
 ·rintro i _ w hi hs;refine Y12 ?_;refine Yv _ rfl rfl rfl rfl rfl (hi) rfl rfl rfl ?_;refine Yh (u := .int .i64 0) hs 0 rfl rfl rfl (by simp [hi]) rfl rfl rfl rfl ?_;clear hs; intro w hs;refine Xn (Xh (Xx () hi hl1 ?_ rfl rfl rfl ⟨rfl, rfl, trivial⟩))
  have e3 : ∀ j, j ≠ i → Value.int .i64 (if j < i then (j : Int) else 0) = .int .i64 (if j < i + 1 then (j : Int) else 0) := fun j hj => by
   have : (j < i) ↔ (j < i + 1) := by omega
   simp only [this]
  rw [← set_range (f := fun (x : Nat) => Value.int .i64 (if x < i then (x : Int) else 0)) (v := .int .i64 (i : Int)) (f' := fun (x : Nat) => Value.int .i64 (if x < i + 1 then (x : Int) else 0)) hi (by rw [if_pos (Nat.lt_succ_self i)]) (fun j _ hj => e3 j hj)];exact hs
 ·rintro _ w hs;refine Y24 ?_
  have e1 : ((List.range n).map fun (x : Nat) => Value.int .i64 (if x < n then (x : Int) else 0)) = (List.range n).map fun (x : Nat) => .int .i64 (x : Int) := List.map_congr_left fun x hx => by
   have : x < n := by simpa using hx
   simp [this]
  obtain ⟨g2, hg2, hs1, hr3⟩ := OwnS.freezeE (e := Zd) (h0 := fun _ => rfl) (xs := List.range n) (own_nats (n := n) (by simp)) (by rw [← e1]; exact hs);exact Xb (Xo rfl rfl) ⟨g2, [], hg2, hs1, rfl, hr3⟩
def Ya (ls : List Arrow) (on : List Bool) (m : Nat) : List Bool := (List.range ls.length).map fun i => on.getD i false && !Zv ls i m
theorem OwnS.pos {E sz : Nat} {v : Value} {n : Nat} {cs : List Value} {H : Own} (h : OwnS E sz v n cs H) (hn : 0 < n) : ∃ b cap pad, v = .slice (some ⟨b, 0, none⟩) n cap ∧ cs.length = n * sz ∧ (cs ++ pad).length = cap * sz ∧ n ≤ cap ∧ H = [(b, Xa (cs ++ pad) E)] := by
 rcases h with ⟨_, h, _⟩ | h
 ·omega
 ·exact h
theorem without_spec (g : Ghost) (vg vo : Value) (n m : Nat) (ls : List Arrow) (on : List Bool) (hG : GraphR g vg n ls) (hv : ValidG n ls) (ho : RS Yt g vo on) (hlen : on.length = ls.length) :
    Cl PP 74 [vg, vo, .int .i64 (m : Int)] g [] fun g' L' r => L' = [] ∧ RS Yt g' r (Ya ls on m) := by
  obtain ⟨gb, al, cl, ao, co, rfl, hG, hA, hO⟩ := hG;have hl0 := hv.len;have hl1 : ls.length ≤ 4611686018427387904 := by omega
  refine Xj Tryz.func74 rfl rfl Tryz.ntmps74 rfl ?_;intro w F hs;refine Y12 ?_;refine Xf rfl rfl rfl (L := []) hs (cloneBool_spec g vo on ho (by omega)) ?_;rintro v g1 H0 w hg1 hs hown;refine Y4 ?_;refine Xd hs (hG.mono hg1 1 _ rfl) rfl rfl rfl rfl rfl ?_;refine Y7 ?_;rw [Qy, hlen] at hown
  have step : ∀ i, (List.range ls.length).map (fun x => Value.bool (on.getD x false && !(decide (x < i) && Zv ls x m))) = (List.range ls.length).map fun x => Value.bool (if x < i then on.getD x false && !Zv ls x m else on.getD x false) := fun i => List.map_congr_left fun x _ => by
    by_cases h : x < i <;> simp [h]
  refine Yw ls.length (fun _ _ => [(16, .int .i64 ls.length), (15, .slice al ls.length cl), (7, v), (2, .int .i64 (m : Int))])
    (fun i (x : Ghost × Own) w => g ≤ x.1 ∧ OwnS 4 1 v ls.length ((List.range ls.length).map fun x => .bool (on.getD x false && !(decide (x < i) && Zv ls x m))) x.2 ∧ St x.1 w (x.2 ++ F)) (g1, H0) hl1 ⟨rfl, rfl, rfl, rfl, rfl, trivial⟩ ⟨hg1, ?_, hs⟩ (fun _ _ => rfl) rfl rfl rfl ?_ ?_ (fun _ _ => rfl) rfl
  · have e0 : ((List.range ls.length).map fun x => Value.bool (on.getD x false && !(decide (x < 0) && Zv ls x m))) = on.map .bool := by
      apply List.ext_getElem
      · simp [hlen]
      · intro i q1 q2;have : i < on.length := by simpa using q2
        simp [this]
    rw [e0];exact hown
  · rintro i ⟨g2, H⟩ w hi ⟨hg2, hown, hs⟩;simp only at hg2 hown hs
    obtain ⟨b, cap, pad, rfl, p1, p2, p3, rfl⟩ := hown.pos (by omega);have hb := hA.base hi;have hc := (hA.mono hg2).enc hi
    have hcell : ((List.range ls.length).map (fun x => Value.bool (on.getD x false && !(decide (x < i) && Zv ls x m))) ++ pad)[i]? = some (.bool (on.getD i false)) := by
      rw [List.getElem?_append_left (by simpa using hi)];simp [hi]
    have fin : ∀ (c : Bool) (g3 : Ghost) (w : World) (L : Own), c = (on.getD i false && !Zv ls i m) → St g3 w ((b, Xa (((List.range ls.length).map (fun x => Value.bool (on.getD x false && !(decide (x < i) && Zv ls x m))) ++ pad).set i (.bool c)) 4) :: L) →
        OwnS 4 1 (.slice (some ⟨b, 0, none⟩) ls.length cap) ls.length ((List.range ls.length).map fun x => .bool (on.getD x false && !(decide (x < i + 1) && Zv ls x m))) [(b, Xa ((List.range ls.length).map (fun x => .bool (on.getD x false && !(decide (x < i + 1) && Zv ls x m))) ++ pad) 4)] ∧
        St g3 w ((b, Xa ((List.range ls.length).map (fun x => .bool (on.getD x false && !(decide (x < i + 1) && Zv ls x m))) ++ pad) 4) :: L) := by
      intro c g3 w L hcc hs;refine ⟨.inr ⟨b, cap, pad, rfl, by simp, by simpa using p2, p3, rfl⟩, ?_⟩;rw [List.set_append_left _ _ (by simpa using hi)] at hs
      rw [set_range (f' := fun x => .bool (on.getD x false && !(decide (x < i + 1) && Zv ls x m))) hi (by rw [hcc]; simp) (fun j _ hj => by
        congr 1
        have : decide (j < i) = decide (j < i + 1) := by rw [decide_eq_decide]; omega
        rw [this])] at hs
      exact hs
    refine Y21 ?_;refine Yj hs (hc.of_eaddr) rfl rfl rfl rfl rfl rfl ?_;refine Yp hs rfl rfl rfl ?_; clear hs; intro ab w hs;refine zP ?_;refine Yx hs 0 rfl rfl rfl rfl rfl (Nat.le_of_ble_eq_true rfl) rfl rfl ?_; clear hs; intro w hs;refine Y8 ?_;refine Yv _ rfl rfl rfl rfl rfl (hi) rfl rfl rfl ?_;refine Yu hs 1 rfl rfl hcell rfl rfl rfl rfl ?_;refine zP ?_
    refine Xr 28 rfl (fun h1 => ?_) (fun h1 => ?_)
    · refine zG ?_;refine Vy hs 0 rfl rfl rfl rfl rfl rfl rfl ?_;refine zP ?_;refine Xf rfl rfl rfl (L := []) hs (has_spec g2 _ _ ls[i].ms m (by have := (hv.ok _ (List.getElem_mem hi)).2.2; omega) rfl rfl) ?_;rintro u g3 L' w hg3 hs ⟨rfl, rfl⟩;refine zP ?_;refine Yv _ rfl rfl rfl rfl rfl (hi) rfl rfl rfl ?_;refine Yh hs 1 rfl rfl rfl hcell rfl rfl rfl rfl ?_
      clear hs; intro w hs;obtain ⟨f1, f2⟩ := fin (!ls[i].ms.testBit m) g3 w _ (by rw [h1]; simp [Zv, hi]) hs.drop;exact Xn (Xh (Xx (g3, _) hi hl1 ⟨Ghost.tr hg2 hg3, f1, f2⟩ rfl rfl rfl ⟨rfl, rfl, rfl, rfl, trivial⟩))
    · refine zG ?_;refine Yv _ rfl rfl rfl rfl rfl (hi) rfl rfl rfl ?_;refine Yh hs 1 rfl rfl rfl hcell rfl rfl rfl rfl ?_;clear hs; intro w hs;obtain ⟨f1, f2⟩ := fin false g2 w _ (by rw [h1]; rfl) hs.drop;exact Xn (Xh (Xx (g2, _) hi hl1 ⟨hg2, f1, f2⟩ rfl rfl rfl ⟨rfl, rfl, rfl, rfl, trivial⟩))
  · rintro ⟨g2, H⟩ w ⟨hg2, hown, hs⟩;simp only at hg2 hown hs
    refine Y24 ?_
    have e1 : ((List.range ls.length).map fun x => Value.bool (on.getD x false && !(decide (x < ls.length) && Zv ls x m))) = (Ya ls on m).flatMap eBool := by
      rw [Qy, Ya, List.map_map]
      exact List.map_congr_left fun x hx => by
        have : x < ls.length := by simpa using hx
        simp [this]
    rw [e1] at hown
    obtain ⟨g3, hg3, hs1, hr3⟩ := OwnS.freezeE (e := eBool) (h0 := fun _ => rfl) (xs := Ya ls on m) (by simpa [Ya] using hown) hs;exact Xb (Xo rfl rfl) ⟨g3, [], Ghost.tr hg2 hg3, hs1, rfl, hr3⟩
end
section
open Go.RowKit
def Uk (ls : List Arrow) (nodes : List Nat) (on : List Bool) (i : Nat) : Bool := on.getD i false && match ls[i]? with
 | some a => decide (a.to ∈ nodes)
 | none => false
def Xk (ls : List Arrow) (nodes : List Nat) (on : List Bool) : List Nat := nodes.flatMap fun x => (Xt ls ls.length x).filter (Uk ls nodes on)
theorem outsF_at {n : Nat} {ls : List Arrow} {x : Nat} (h : x < n) : (Zs n ls)[x]'(by simp [Zs, h]) = Xt ls ls.length x := by simp [Zs]
theorem outAt_lt {ls : List Arrow} {i x k : Nat} (h : k ∈ Xt ls i x) : k < i := by
 have := (List.mem_filter.1 h).1
 simpa using this
theorem flat_len {α β : Type} (f : α → List β) (b : Nat) : ∀ (xs : List α), (∀ x ∈ xs, (f x).length ≤ b) → (xs.flatMap f).length ≤ xs.length * b
 | [], _ => by simp
 | x :: xs, h => by
  have h1 := h x List.mem_cons_self;have h2 := flat_len f b xs fun y hy => h y (List.mem_cons_of_mem _ hy)
  simp only [List.flatMap_cons, List.length_append, List.length_cons, Nat.add_mul, Nat.one_mul];omega
theorem inF_at {n x : Nat} {nodes : List Nat} (h : x < n) : (inF n nodes)[x]'(by simp [inF, h]) = decide (x ∈ nodes) := by simp [inF]
theorem inF_len (n : Nat) (nodes : List Nat) : (inF n nodes).length = n := by simp [inF]
theorem within_spec (g : Ghost) (vg vp : Value) (n : Nat) (ls : List Arrow) (nodes : List Nat) (on : List Bool) (hG : GraphR g vg n ls) (hv : ValidG n ls) (hp : PieceR g vp n nodes on) (hlen : on.length = ls.length) (hnl : nodes.length ≤ 20000) (hn : ∀ x ∈ nodes, x < n) :
  Cl PP 72 [vg, vp] g [] fun g' L' r => L' = [] ∧ RS kNat g' r (Xk ls nodes on) := by
 obtain ⟨gb, al, cl, ao, co, rfl, hG, hA, hO⟩ := hG
 obtain ⟨v1, v2, v3, rfl, h1, h2, h3⟩ := hp
 obtain ⟨a1, c1, rfl⟩ := h1.form
 obtain ⟨a2, c2, rfl⟩ := h2.form
 obtain ⟨a3, c3, rfl⟩ := h3.form
 have hl0 := hv.len
 have hl1 : nodes.length ≤ 4611686018427387904 := by omega
 have sel : ∀ (x : Nat), ((Xt ls ls.length x).filter (Uk ls nodes on)).length ≤ ls.length := fun x => Nat.le_trans (List.length_filter_le _ _) (Vt _ _ _)
 refine Xj Tryz.func72 rfl rfl Tryz.ntmps72 rfl ?_
 intro w F hs
 refine Y2 ?_
 refine Yi hs rfl rfl rfl rfl ?_; clear hs; intro pb w hs
 refine Y15 ?_
 refine Y20 ?_
 refine Yw nodes.length (fun _ (x : Value × List Nat × Ghost × Own) => [(12, .int .i64 nodes.length), (11, .slice a1 nodes.length c1), (5, x.1), (3, .pointer (some ⟨pb, 0, none⟩)), (0, .pointer (some ⟨gb, 0, none⟩))])
  (fun i (x : Value × List Nat × Ghost × Own) w => g ≤ x.2.2.1 ∧ OwnS 3 1 x.1 x.2.1.length (x.2.1.flatMap Zd) x.2.2.2 ∧ x.2.1 = (nodes.take i).flatMap (fun x => (Xt ls ls.length x).filter (Uk ls nodes on)) ∧
   St x.2.2.1 w ((pb, Xa [.slice a1 nodes.length c1, .slice a2 (inF n nodes).length c2, .slice a3 on.length c3] 94) :: (x.2.2.2 ++ F))) (.slice none 0 0, [], g, []) hl1 ⟨rfl, rfl, rfl, rfl, rfl, rfl, trivial⟩ ⟨Ghost.rfl', OwnS.nil _ _, rfl, hs⟩ (fun _ _ => rfl) rfl rfl rfl ?_ ?_ (fun _ _ => rfl) rfl
 ·rintro i ⟨vo, acc, g1, H⟩ w hi ⟨hg1, hown, hacc, hs⟩;simp only at hg1 hown hacc hs
  have hb := h1.base hi;have hc := (h1.mono hg1).nat hi;have hx : nodes[i] < n := hn _ (List.getElem_mem hi);have hxl : nodes[i] < (Zs n ls).length := by simpa [Zs] using hx
  have hol : n = (Zs n ls).length := by simp [Zs]
  have hO' : RS (kSl kNat) g (.slice ao (Zs n ls).length co) (Zs n ls) := by rw [← hol]; exact hO
  have hbO := hO'.base hxl;obtain ⟨sa, sc, hcO, hS⟩ := (hO'.mono hg1).sl hxl;rw [outsF_at hx] at hcO hS
  have hol2 := Vt ls ls.length nodes[i];have hl2 : (Xt ls ls.length nodes[i]).length ≤ 4611686018427387904 := by omega
  refine Y21 ?_;refine Y8 ?_;refine Xd hs (hG.mono hg1 2 _ rfl) rfl rfl rfl rfl rfl ?_;refine zP ?_;refine Yb rfl rfl rfl rfl rfl (by omega) hbO rfl rfl ?_;refine Xd hs (hcO) rfl rfl rfl rfl rfl ?_;refine Y7 ?_
  refine Yw (Xt ls ls.length nodes[i]).length (fun _ (x : Value × List Nat × Ghost × Own) => [(24, .int .i64 (Xt ls ls.length nodes[i]).length), (23, .slice sa (Xt ls ls.length nodes[i]).length sc), (13, .int .i64 (i : Int)), (12, .int .i64 nodes.length), (11, .slice a1 nodes.length c1), (5, x.1), (3, .pointer (some ⟨pb, 0, none⟩)), (0, .pointer (some ⟨gb, 0, none⟩))])
   (fun j (x : Value × List Nat × Ghost × Own) w => g1 ≤ x.2.2.1 ∧ OwnS 3 1 x.1 x.2.1.length (x.2.1.flatMap Zd) x.2.2.2 ∧ x.2.1 = acc ++ ((Xt ls ls.length nodes[i]).take j).filter (Uk ls nodes on) ∧
    St x.2.2.1 w ((pb, Xa [.slice a1 nodes.length c1, .slice a2 (inF n nodes).length c2, .slice a3 on.length c3] 94) :: (x.2.2.2 ++ F))) (vo, acc, g1, H) hl2 ⟨rfl, rfl, rfl, rfl, rfl, rfl, rfl, rfl, rfl, trivial⟩ ⟨Ghost.rfl', hown, by simp, hs⟩ (fun _ _ => rfl) rfl rfl rfl ?_ ?_ (fun _ _ => rfl) rfl
  ·rintro j ⟨vo, acc2, g2, H⟩ w hj ⟨hg2, hown, hacc2, hs⟩;simp only at hg2 hown hacc2 hs
   have hg02 := Ghost.tr hg1 hg2;have hbj := hS.base hj;have hcj := (hS.mono hg2).nat hj;generalize hk : (Xt ls ls.length nodes[i])[j] = k at hcj
   have hkl : k < ls.length := by rw [← hk]; exact outAt_lt (List.getElem_mem hj)
   have hko : k < on.length := by omega
   have hb3 := h3.base hko;have hc3 := (h3.mono hg02).bool hko;have etake : (Xt ls ls.length nodes[i]).take (j + 1) = (Xt ls ls.length nodes[i]).take j ++ [k] := by rw [Yr hj, hk]
   have hgetD : on.getD k false = on[k] := by simp [hko]
   refine Y47 ?_;refine Yf 19 [] Yd (by kernel_rfl) rfl hs ?_;refine zC ?_;refine Xv 0 rfl rfl rfl rfl rfl rfl ?_;refine zC ?_;refine Uc rfl rfl rfl rfl rfl (by omega) (hb3) rfl ?_;refine Xp (hc3) rfl rfl rfl rfl ?_;refine zC ?_
   refine sg_case (fun q1 => ?_) (fun q1 => ?_)
   ·refine zC ?_;refine Xv 0 rfl rfl rfl rfl rfl rfl ?_;refine zC ?_;refine Xp (hG.mono hg02 1 _ rfl) rfl rfl rfl rfl ?_;refine zC ?_;obtain ⟨lb, lo, rfl⟩ := hA.base hkl;have hcA := (hA.mono hg02).enc hkl;refine Uc rfl rfl rfl rfl rfl (by omega) (⟨lb, lo, rfl⟩) rfl ?_;refine zC ?_;refine Xp (hcA 1 _ rfl) rfl rfl rfl rfl ?_
    have hto : ls[k].to < n := (hv.ok _ (List.getElem_mem hkl)).2.1;have htl : ls[k].to < (inF n nodes).length := by rw [inF_len]; exact hto
    have hb2 := h2.base htl;have hc2 := (h2.mono hg02).bool htl;rw [inF_at hto] at hc2
    have hi2 := inF_len n nodes;refine Uc rfl rfl rfl rfl rfl (by omega) hb2 rfl ?_;refine Xp (hc2) rfl rfl rfl rfl ?_;refine zC ?_;refine Xy ?_;intro g3 w hg3;intro hs
    have harr : Uk ls nodes on k = decide (ls[k].to ∈ nodes) := by
     unfold Uk;rw [hgetD, q1, List.getElem?_eq_getElem hkl];rfl
    refine zn ?_
    refine Xi rfl (fun q2 => ?_) (fun q2 => ?_)
    ·refine Y0 ?_
     have hbound : acc2.length + 1 ≤ 4294967296 := by
      have e1 := flat_len (fun x => (Xt ls ls.length x).filter (Uk ls nodes on)) ls.length (nodes.take i) (fun x _ => sel x);have e2 : (((Xt ls ls.length nodes[i]).take j).filter (Uk ls nodes on)).length ≤ j := Nat.le_trans (List.length_filter_le _ _) (by rw [List.length_take]; omega)
      have e3 : (nodes.take i).length * ls.length ≤ 19999 * 200000 := Nat.mul_le_mul (by rw [List.length_take]; omega) hl0;rw [hacc2, List.length_append, hacc];omega
     replace hs := hs.perm (List.perm_middle (l₁ := H) (l₂ := F));refine Jj hs hown hbound rfl rfl rfl rfl rfl rfl rfl rfl rfl rfl rfl rfl rfl rfl ?_;intro vo' w' H' hown' hs;refine zP ?_
     refine Xn (Xh (Xx (vo', acc2 ++ [k], g3, H') hj hl2 ⟨Ghost.tr hg2 hg3, ?_, ?_, hs.perm (List.perm_middle (l₁ := H') (l₂ := F)).symm⟩ rfl rfl rfl ⟨rfl, rfl, rfl, rfl, rfl, rfl, rfl, rfl, trivial⟩))
     ·simp only [List.length_append, List.length_cons, List.length_nil, List.flatMap_append, List.flatMap_cons, List.flatMap_nil, List.append_nil];exact hown'
     ·rw [hacc2, etake, List.filter_append, List.filter_cons, harr, q2];simp
    ·refine Xq (Xh (Xx (vo, acc2, g3, H) hj hl2 ⟨Ghost.tr hg2 hg3, hown, ?_, hs⟩ rfl rfl rfl ⟨rfl, rfl, rfl, rfl, rfl, rfl, rfl, rfl, trivial⟩));rw [hacc2, etake, List.filter_append, List.filter_cons, harr, q2];simp
   ·refine zC ?_;refine Xy ?_;intro g3 w hg3;intro hs
    have harr : Uk ls nodes on k = false := by
     unfold Uk;rw [hgetD, q1];rfl
    refine zn ?_;refine zF ?_;refine Xq (Xh (Xx (vo, acc2, g3, H) hj hl2 ⟨Ghost.tr hg2 hg3, hown, ?_, hs⟩ rfl rfl rfl ⟨rfl, rfl, rfl, rfl, rfl, rfl, rfl, rfl, trivial⟩));rw [hacc2, etake, List.filter_append, List.filter_cons, harr];simp
  ·rintro ⟨vo, acc2, g2, H⟩ w ⟨hg2, hown, hacc2, hs⟩;simp only at hg2 hown hacc2 hs
   refine Xh (Xx (vo, acc2, g2, H) hi hl1 ⟨Ghost.tr hg1 hg2, hown, ?_, hs⟩ rfl rfl rfl ⟨rfl, rfl, rfl, rfl, rfl, trivial⟩);simp only;rw [hacc2, List.take_length, Yr hi, List.flatMap_append, hacc];simp
 ·rintro ⟨vo, acc, g1, H⟩ w ⟨hg1, hown, hacc, hs⟩;simp only at hg1 hown hacc hs
  refine Y24 ?_;rw [List.take_length] at hacc
  obtain ⟨g2, hg2, hs1, hr⟩ := OwnS.freezeE (e := Zd) (h0 := fun _ => rfl) hown (hs.perm (List.perm_middle (l₁ := H) (l₂ := F)));refine Xb (Xo rfl rfl) ⟨g2, [], Ghost.tr hg1 hg2, hs1.drop, rfl, ?_⟩;rw [hacc] at hr
  exact hr
end
section
open Go.RowKit
def lk {α : Type} : List (Nat × α) → Nat → Option α
 | [], _ => none
 | (k', v) :: r, k => if k = k' then some v else lk r k
def sk {α : Type} : List (Nat × α) → Nat → α → List (Nat × α)
 | [], k, v => [(k, v)]
 | (k', u) :: r, k, v => if k = k' then (k', v) :: r else (k', u) :: sk r k v
theorem lk_sk {α : Type} : ∀ (m : List (Nat × α)) (k k' : Nat) (v : α), lk (sk m k v) k' = if k' = k then some v else lk m k'
 | [], k, k', v => by simp [sk, lk]
 | (k0, u) :: r, k, k', v => by
  simp only [sk]
  split
  ·rename_i h;subst h;simp only [lk];split <;> rfl
  ·rename_i h;simp only [lk, lk_sk r]
   split
   ·rename_i h1; rw [if_neg (by rw [h1]; exact fun e => h e.symm)]
   ·rfl
def Jh {α : Type} (f : α → Value) (m : List (Nat × α)) : AMap := m.map fun p => ((p.1 : Int), f p.2)
theorem alook_enc {α : Type} (f : α → Value) : ∀ (m : List (Nat × α)) (k : Nat), Zt (Jh f m) (k : Int) = (lk m k).map f
 | [], k => rfl
 | (k0, u) :: r, k => by
  have ih := alook_enc f r k;simp only [Jh, List.map_cons, Zt, lk]
  by_cases h : k = k0
  ·subst h; simp
  ·have h' : ¬ ((k : Int) = (k0 : Int)) := by omega
   rw [if_neg h', if_neg h];exact ih
theorem Ja {α : Type} (f : α → Value) : ∀ (m : List (Nat × α)) (k : Nat) (v : α), aset (Jh f m) (k : Int) (f v) = Jh f (sk m k v)
 | [], k, v => rfl
 | (k0, u) :: r, k, v => by
  have ih := Ja f r k v;simp only [Jh, List.map_cons, aset, sk]
  by_cases h : k = k0
  ·subst h; simp
  ·have h' : ¬ ((k : Int) = (k0 : Int)) := by omega
   rw [if_neg h', if_neg h];simp only [List.map_cons]
   congr 1
theorem encM_len {α : Type} (f : α → Value) (m : List (Nat × α)) : (Jh f m).length = m.length := by simp [Jh]
structure Tj where
 idx : List (Nat × Nat)
 low : List (Nat × Nat)
 on : List (Nat × Bool)
 st : List Nat
 path : List (Nat × Nat)
 out : List (List Nat)
def Tj.init : Tj := ⟨[], [], [], [], [], []⟩
def Tj.enter (s : Tj) (x : Nat) : Tj :=
 { s with idx := sk s.idx x s.idx.length, low := sk s.low x ((lk (sk s.idx x s.idx.length) x).getD 0), on := sk s.on x true, st := s.st ++ [x], path := s.path ++ [(x, 0)] }
def vNat (x : Nat) : Value := .int .i64 (x : Int)
def Up (p : Nat × Nat) : List Value := [.int .i64 (p.1 : Int), .int .i64 (p.2 : Int)]
theorem push_spec (g : Ghost) (fb onb : Nat) (vl : Value) (rest : List Value) (st : List Nat) (on : List (Nat × Bool)) (oo : Obj) (Hl : Own) (x : Nat) (hl : OwnS 3 1 vl st.length (st.flatMap Zd) Hl) (ho : Jb (Jh .bool on) oo) (hroom : st.length + 1 ≤ 4294967296) :
  Cl PP 111 [.pointer (some ⟨fb, 0, none⟩), .int .i64 (x : Int)] g ((fb, Xa (vl :: .map (some onb) :: rest) 171) :: (onb, oo) :: Hl) fun _ L' _ =>
   ∃ vl' oo' Hl', L' = (fb, Xa (vl' :: .map (some onb) :: rest) 171) :: (onb, oo') :: Hl' ∧ OwnS 3 1 vl' (st ++ [x]).length ((st ++ [x]).flatMap Zd) Hl' ∧ Jb (Jh .bool (sk on x true)) oo' := by
 refine Xj Tryz.func111 rfl rfl Tryz.ntmps111 rfl ?_
 intro w F hs
 refine Y0 ?_
 refine zL0 ?_
 refine zP ?_
 replace hs := (show St g w (Hl ++ ((fb, Xa (vl :: .map (some onb) :: rest) 171) :: (onb, oo) :: F)) from hs.perm (List.perm_append_comm_assoc Hl [(fb, _), (onb, _)] F))
 refine Jj hs hl hroom rfl rfl rfl rfl rfl rfl rfl rfl rfl rfl rfl rfl rfl rfl ?_
 intro vl' w' Hl' hl' hs
 replace hs := (show St g w' ((fb, Xa (vl :: .map (some onb) :: rest) 171) :: (onb, oo) :: (Hl' ++ F)) from hs.perm (List.perm_append_comm_assoc [(fb, _), (onb, _)] Hl' F))
 refine zP ?_
 refine Yh hs 0 rfl rfl rfl rfl rfl rfl hl'.one rfl ?_
 clear hs; intro w hs
 refine Y8 ?_
 refine zL0 ?_
 refine zP ?_
 refine Kw hs 1 ho rfl rfl rfl rfl rfl rfl rfl rfl rfl ?_
 clear hs; intro oo' w ho' hs
 refine Xn (wk_end (res0 rfl) ⟨g, _, Ghost.rfl', hs, vl', oo', Hl', rfl, ?_, ?_⟩)
 ·simp only [List.length_append, List.length_cons, List.length_nil, List.flatMap_append, List.flatMap_cons, List.flatMap_nil, List.append_nil];exact hl'
 ·rw [← Ja]; exact ho'
theorem pop_spec (g : Ghost) (fb onb : Nat) (vl : Value) (rest : List Value) (st : List Nat) (on : List (Nat × Bool)) (oo : Obj) (Hl : Own) (y : Nat) (hl : OwnS 3 1 vl (st ++ [y]).length ((st ++ [y]).flatMap Zd) Hl) (ho : Jb (Jh .bool on) oo) (hroom : st.length + 1 ≤ 4294967296) :
  Cl PP 112 [.pointer (some ⟨fb, 0, none⟩)] g ((fb, Xa (vl :: .map (some onb) :: rest) 171) :: (onb, oo) :: Hl) fun _ L' r =>
   r = .int .i64 (y : Int) ∧ ∃ vl' oo' Hl', L' = (fb, Xa (vl' :: .map (some onb) :: rest) 171) :: (onb, oo') :: Hl' ∧ OwnS 3 1 vl' st.length (st.flatMap Zd) Hl' ∧ Jb (Jh .bool (sk on y false)) oo' := by
 have hn : (st ++ [y]).length = st.length + 1 := by simp
 rw [hn] at hl
 obtain ⟨b, cap, pad, rfl, h1, h2, h3, rfl⟩ := hl.pos (by omega)
 have hcell : ((st ++ [y]).flatMap Zd ++ pad)[st.length]? = some (.int .i64 (y : Int)) := by
  have : (st.flatMap Zd).length = st.length := by rw [Ks]; simp
  rw [List.flatMap_append, List.append_assoc, List.getElem?_append_right (by omega), this, Nat.sub_self];rfl
 refine Xj Tryz.func112 rfl rfl Tryz.ntmps112 rfl ?_
 intro w F hs
 refine Y1 ?_
 replace hs := (show St g w ((fb, Xa (.slice (some ⟨b, 0, none⟩) (st.length + 1) cap :: .map (some onb) :: rest) 171) :: (onb, oo) :: (b, Xa ((st ++ [y]).flatMap Zd ++ pad) 3) :: F) from hs)
 refine zQ ?_
 refine Yf 13 [] Yd (by kernel_rfl) rfl hs ?_
 refine zC ?_
 refine Xv 0 rfl rfl rfl rfl rfl rfl ?_
 refine zC ?_
 refine Xv 0 rfl rfl rfl rfl rfl rfl ?_
 refine zC ?_
 refine sg_arK (st.length : Int) rfl rfl (by simp only [Qn]; congr 1; omega) (by omega) rfl ?_
 refine sg_ixJ _ rfl rfl rfl rfl rfl ((Nat.lt_succ_self _)) rfl rfl ?_
 refine Xv 2 rfl rfl hcell rfl rfl rfl ?_
 refine zC ?_
 refine Xy ?_
 intro g1 w hg1
 intro hs
 refine zn ?_
 replace hs := (show St g1 w ((fb, Xa (.slice (some ⟨b, 0, none⟩) (st.length + 1) cap :: .map (some onb) :: rest) 171) :: (onb, oo) :: (b, Xa ((st ++ [y]).flatMap Zd ++ pad) 3) :: F) from hs)
 refine zQ ?_
 refine Yf 14 [] Yd (by kernel_rfl) rfl hs ?_
 refine zC ?_
 refine Xv 0 rfl rfl rfl rfl rfl rfl ?_
 refine zC ?_
 refine Xv 0 rfl rfl rfl rfl rfl rfl ?_
 refine zC ?_
 refine sg_arK (st.length : Int) rfl rfl (by simp only [Qn]; congr 1; omega) (by omega) rfl ?_
 refine sg_sliceTo st.length rfl rfl (by omega) rfl rfl rfl rfl ?_
 refine zC ?_
 refine Xy ?_
 intro g2 w hg2
 intro hs
 refine Yh hs 0 rfl rfl rfl rfl rfl rfl rfl rfl ?_; clear hs; intro w hs
 refine Y8 ?_
 refine zL0 ?_
 refine zP ?_
 refine Kw hs 1 ho rfl rfl rfl rfl rfl rfl rfl rfl rfl ?_
 clear hs; intro oo' w ho' hs
 refine Y18 ?_
 refine Xb (Xo rfl rfl) ⟨g2, (fb, Xa (.slice (some ⟨b, 0, none⟩) st.length cap :: .map (some onb) :: rest) 171) :: (onb, oo') :: [(b, Xa ((st ++ [y]).flatMap Zd ++ pad) 3)], Ghost.tr hg1 hg2, hs, rfl, _, oo', _, rfl, ?_, ?_⟩
 ·have := OwnS.cut (E := 3) (b := b) (cs' := st.flatMap Zd) (c := Zd y) (by rw [List.flatMap_append]; rfl) rfl (Nat.succ_pos st.length) h1 h2 h3;exact this
 ·rw [← Ja]; exact ho'
def FinderL (tb4 fb onb idb lob pvb : Nat) (gp v1 v2 v3 : Value) (s : Tj) (L : Own) : Prop :=
 ∃ vl Hl vp Hp oo io lo, L = (tb4, Xa [.pointer (some ⟨fb, 0, none⟩)] 167) :: (fb, Xa [vl, .map (some onb), gp, v1, v2, v3, .map (some idb), .map (some lob)] 171) :: (onb, oo) :: (idb, io) :: (lob, lo) :: (pvb, Xa [vp] 172) :: (Hl ++ Hp) ∧
  OwnS 3 1 vl s.st.length (s.st.flatMap Zd) Hl ∧ OwnS 174 2 vp s.path.length (s.path.flatMap Up) Hp ∧ Jb (Jh .bool s.on) oo ∧ Jb (Jh vNat s.idx) io ∧ Jb (Jh vNat s.low) lo
theorem enter_spec (g : Ghost) (tb4 fb onb idb lob pvb : Nat) (gp v1 v2 v3 : Value) (s : Tj) (L : Own) (x : Nat) (hF : FinderL tb4 fb onb idb lob pvb gp v1 v2 v3 s L) (h1 : s.st.length + 1 ≤ 4294967296) (h2 : s.path.length + 1 ≤ 4294967296) :
  Cl PP 110 [.int .i64 (x : Int), .pointer (some ⟨tb4, 0, none⟩), .pointer (some ⟨pvb, 0, none⟩)] g L fun _ L' _ => FinderL tb4 fb onb idb lob pvb gp v1 v2 v3 (s.enter x) L' := by
 obtain ⟨vl, Hl, vp, Hp, oo, io, lo, rfl, hl, hp, ho, hi, hlo⟩ := hF
 refine Xj Tryz.func110 rfl rfl Tryz.ntmps110 rfl ?_
 intro w F hs
 replace hs := (show St g w ((tb4, Xa [.pointer (some ⟨fb, 0, none⟩)] 167) :: (fb, Xa [vl, .map (some onb), gp, v1, v2, v3, .map (some idb), .map (some lob)] 171) :: (onb, oo) :: (idb, io) :: (lob, lo) :: (pvb, Xa [vp] 172) :: ((Hl ++ Hp) ++ F)) from hs)
 refine zQ ?_
 refine Yf 10 [] Yd (by kernel_rfl) rfl hs ?_
 refine Xv 0 rfl rfl rfl rfl rfl rfl ?_
 refine zC ?_
 refine Xv 1 rfl rfl rfl rfl rfl rfl ?_
 refine zC ?_
 refine Xv 0 rfl rfl rfl rfl rfl rfl ?_
 refine zC ?_
 refine Xv 1 rfl rfl rfl rfl rfl rfl ?_
 refine sg_lenM 3 hi rfl rfl rfl rfl rfl ?_
 refine Xy ?_
 intro g1 w hg1
 intro hs
 refine Kw hs 3 hi rfl rfl rfl rfl rfl rfl rfl rfl rfl ?_
 clear hs; intro io' w hi' hs
 refine zn ?_
 rw [encM_len, show Value.int .i64 ((s.idx.length : Nat) : Int) = vNat s.idx.length from rfl, Ja] at hi'
 replace hs := (show St g1 w ((tb4, Xa [.pointer (some ⟨fb, 0, none⟩)] 167) :: (fb, Xa [vl, .map (some onb), gp, v1, v2, v3, .map (some idb), .map (some lob)] 171) :: (onb, oo) :: (idb, io') :: (lob, lo) :: (pvb, Xa [vp] 172) :: ((Hl ++ Hp) ++ F)) from hs)
 refine zQ ?_
 refine Yf 11 [] Yd (by kernel_rfl) rfl hs ?_
 refine Xv 0 rfl rfl rfl rfl rfl rfl ?_
 refine zC ?_
 refine Xv 1 rfl rfl rfl rfl rfl rfl ?_
 refine zC ?_
 refine Xv 0 rfl rfl rfl rfl rfl rfl ?_
 refine zC ?_
 refine Xv 1 rfl rfl rfl rfl rfl rfl ?_
 refine zC ?_
 refine sg_look 3 hi' rfl rfl rfl rfl rfl rfl rfl rfl rfl rfl ?_
 refine Xy ?_
 intro g2 w hg2
 intro hs
 have elk : (Zt (Jh vNat (sk s.idx x s.idx.length)) (x : Int)).getD (.int .i64 0) = vNat ((lk (sk s.idx x s.idx.length) x).getD 0) := by
  rw [alook_enc];cases lk (sk s.idx x s.idx.length) x <;> rfl
 refine Kw hs 4 hlo rfl rfl (congrArg some elk) rfl rfl rfl rfl rfl rfl ?_
 clear hs; intro lo' w hlo' hs
 rw [Ja] at hlo'
 refine Y9 ?_
 refine zL0 ?_
 refine zP ?_
 replace hs := (show St g2 w (((fb, Xa [vl, .map (some onb), gp, v1, v2, v3, .map (some idb), .map (some lob)] 171) :: (onb, oo) :: Hl) ++ ((tb4, Xa [.pointer (some ⟨fb, 0, none⟩)] 167) :: (idb, io') :: (lob, lo') :: (pvb, Xa [vp] 172) :: (Hp ++ F))) from hs.perm (by classical exact List.perm_iff_count.2 fun x => by simp only [List.append_eq, List.set_cons_succ, List.set_cons_zero, List.eraseIdx_cons_zero, List.eraseIdx_cons_succ, List.count_cons, List.count_append, List.cons_append, List.nil_append, List.append_nil, List.append_assoc] <;> ac_rfl))
 refine Xf rfl rfl rfl hs (push_spec g2 fb onb vl [gp, v1, v2, v3, .map (some idb), .map (some lob)] s.st s.on oo Hl x hl ho h1) ?_
 rintro u g3 L' w hg3 hs ⟨vl', oo', Hl', rfl, hl', ho'⟩
 refine zn ?_
 replace hs := (show St g3 w ((pvb, Xa [vp] 172) :: (Hp ++ ((tb4, Xa [.pointer (some ⟨fb, 0, none⟩)] 167) :: (fb, Xa (vl' :: .map (some onb) :: [gp, v1, v2, v3, .map (some idb), .map (some lob)]) 171) :: (onb, oo') :: (idb, io') :: (lob, lo') :: (Hl' ++ F)))) from hs.perm (by classical exact List.perm_iff_count.2 fun x => by simp only [List.append_eq, List.set_cons_succ, List.set_cons_zero, List.eraseIdx_cons_zero, List.eraseIdx_cons_succ, List.count_cons, List.count_append, List.cons_append, List.nil_append, List.append_nil, List.append_assoc] <;> ac_rfl))
 refine Y2 ?_
 refine zL0 ?_
 refine zP ?_
 refine Yg (ps := [(0, .tmp 31)]) rfl rfl rfl rfl rfl rfl rfl ?_
 replace hs := (show St g3 w (Hp ++ ((pvb, Xa [vp] 172) :: ((tb4, Xa [.pointer (some ⟨fb, 0, none⟩)] 167) :: (fb, Xa (vl' :: .map (some onb) :: [gp, v1, v2, v3, .map (some idb), .map (some lob)]) 171) :: (onb, oo') :: (idb, io') :: (lob, lo') :: (Hl' ++ F)))) from hs.perm (by classical exact List.perm_iff_count.2 fun x => by simp only [List.append_eq, List.set_cons_succ, List.set_cons_zero, List.eraseIdx_cons_zero, List.eraseIdx_cons_succ, List.count_cons, List.count_append, List.cons_append, List.nil_append, List.append_nil, List.append_assoc] <;> ac_rfl))
 refine Jj (ys := Up (x, 0)) hs hp h2 rfl rfl rfl rfl rfl rfl rfl rfl rfl rfl rfl rfl rfl rfl ?_
 intro vp' w Hp' hp' hs
 replace hs := (show St g3 w ((pvb, Xa [vp] 172) :: (Hp' ++ ((tb4, Xa [.pointer (some ⟨fb, 0, none⟩)] 167) :: (fb, Xa (vl' :: .map (some onb) :: [gp, v1, v2, v3, .map (some idb), .map (some lob)]) 171) :: (onb, oo') :: (idb, io') :: (lob, lo') :: (Hl' ++ F)))) from hs.perm (by classical exact List.perm_iff_count.2 fun x => by simp only [List.append_eq, List.set_cons_succ, List.set_cons_zero, List.eraseIdx_cons_zero, List.eraseIdx_cons_succ, List.count_cons, List.count_append, List.cons_append, List.nil_append, List.append_nil, List.append_assoc] <;> ac_rfl))
 refine Yh hs 0 rfl rfl rfl rfl rfl rfl hp'.one rfl ?_
 clear hs; intro w hs
 refine Xn (wk_end (res0 rfl) ⟨g3, (tb4, Xa [.pointer (some ⟨fb, 0, none⟩)] 167) :: (fb, Xa (vl' :: .map (some onb) :: [gp, v1, v2, v3, .map (some idb), .map (some lob)]) 171) :: (onb, oo') :: (idb, io') :: (lob, lo') :: (pvb, Xa [vp'] 172) :: (Hl' ++ Hp'), Ghost.tr hg1 (Ghost.tr hg2 hg3), hs.perm (by classical exact List.perm_iff_count.2 fun x => by simp only [List.append_eq, List.set_cons_succ, List.set_cons_zero, List.eraseIdx_cons_zero, List.eraseIdx_cons_succ, List.count_cons, List.count_append, List.cons_append, List.nil_append, List.append_nil, List.append_assoc] <;> ac_rfl), vl', Hl', vp', Hp', oo', io', lo', rfl, hl', ?_, ho', hi', hlo'⟩)
 simp only [Tj.enter, List.length_append, List.length_cons, List.length_nil, List.flatMap_append, List.flatMap_cons, List.flatMap_nil, List.append_nil]
 exact hp'
end
section
open Go.RowKit
def insN (x : Nat) : List Nat → List Nat
 | [] => [x]
 | y :: r => if x ≤ y then x :: y :: r else y :: insN x r
def Vj (c : List Nat) : List Nat := c.foldr insN []
theorem insN_perm (x : Nat) : ∀ l, (insN x l).Perm (x :: l)
 | [] => List.Perm.refl _
 | y :: r => by
  unfold insN
  split
  ·exact List.Perm.refl _
  ·exact ((insN_perm x r).cons y).trans (List.Perm.swap x y r)
theorem Uy : ∀ c, (Vj c).Perm c
 | [] => List.Perm.refl _
 | x :: c => (insN_perm x (Vj c)).trans ((Uy c).cons x)
theorem insN_sorted (x : Nat) : ∀ l, l.Pairwise (· ≤ ·) → (insN x l).Pairwise (· ≤ ·)
 | [], _ => by simp [insN]
 | y :: r, h => by
  obtain ⟨h1, h2⟩ := List.pairwise_cons.1 h;unfold insN
  split
  ·rename_i hxy;refine List.pairwise_cons.2 ⟨fun z hz => ?_, h⟩
   rcases List.mem_cons.1 hz with rfl | hz
   ·exact hxy
   ·exact Nat.le_trans hxy (h1 z hz)
  ·rename_i hxy;refine List.pairwise_cons.2 ⟨fun z hz => ?_, insN_sorted x r h2⟩
   rcases List.mem_cons.1 ((insN_perm x r).mem_iff.1 hz) with rfl | hz
   ·omega
   ·exact h1 z hz
theorem Kz : ∀ c, (Vj c).Pairwise (· ≤ ·)
 | [] => List.Pairwise.nil
 | x :: c => insN_sorted x _ (Kz c)
theorem sortN_merge (c : List Nat) : c.mergeSort (fun x y => decide (x ≤ y)) = Vj c := by
 refine List.Perm.eq_of_pairwise (le := (· ≤ ·)) (fun a b _ _ h1 h2 => Nat.le_antisymm h1 h2) ?_ (Kz c) ((List.mergeSort_perm c _).trans (Uy c).symm)
 have := List.pairwise_mergeSort (le := fun x y : Nat => decide (x ≤ y)) (fun a b c h1 h2 => by simp at *; omega) (fun a b => by simp; omega) c
 exact this.imp fun h => by simpa using h
theorem sortN_mergeI (c : List Nat) : (c.map Int.ofNat).mergeSort (fun x y => decide (x ≤ y)) = (Vj c).map Int.ofNat := by
 rw [← sortN_merge, List.map_mergeSort (s := fun x y : Int => decide (x ≤ y))]
 intro a _ b _
 simp
theorem Zu (c : List Nat) : (Vj c).length = c.length := (Uy c).length_eq
section
variable (ls : List Arrow) (nodes : List Nat) (on : List Bool)
def Xg (m : List (Nat × Nat)) (x : Nat) : Nat := (lk m x).getD 0
def Tj.arrow (s : Tj) (p : List (Nat × Nat)) (x a k y : Nat) : Tj × Bool :=
 let s1 : Tj := { s with path := p ++ [(x, a + 1)] }
 if Uk ls nodes on k = false then (s1, false)
 else if lk s.idx y = none then (s1.enter y, true)
 else if (lk s.on y).getD false = true then ({ s1 with low := sk s.low x (min (Xg s.low x) (Xg s.idx y)) }, false)
 else (s1, false)
def Yk (k : Nat) : Nat := match ls[k]? with
 | some a => a.to
 | none => 0
def Tj.scan (s : Tj) (p : List (Nat × Nat)) (x a : Nat) : Tj × Bool :=
 let k := (Xt ls ls.length x).getD a 0
 s.arrow ls nodes on p x a k (Yk ls k)
def popU (x : Nat) : List Nat → Option (List Nat × List Nat)
 | [] => none
 | y :: r => if y = x then some (r, [y]) else match popU x r with
  | some (r', c) => some (r', y :: c)
  | none => none
def offAll (m : List (Nat × Bool)) (c : List Nat) : List (Nat × Bool) := c.foldl (fun m y => sk m y false) m
def Tj.comp (s : Tj) (x : Nat) : Option Tj := match popU x s.st.reverse with
 | some (r, c) => some { s with st := r.reverse, on := offAll s.on c, out := s.out ++ [Vj c] }
 | none => none
def Tj.up (s : Tj) (p : List (Nat × Nat)) (x : Nat) : Tj := match p.getLast? with
 | none => { s with path := p }
 | some (z, _) => { s with path := p, low := sk s.low z (min (Xg s.low z) (Xg s.low x)) }
def Tj.done (s : Tj) (p : List (Nat × Nat)) (x : Nat) : Option Tj :=
 if Xg (s.up p x).low x = Xg (s.up p x).idx x then (s.up p x).comp x else some (s.up p x)
def runT : Nat → Tj → Option (Nat × Tj)
 | 0, _ => none
 | f + 1, s => match s.path.getLast? with
  | none => some (f, s)
  | some (x, a) => if a < (Xt ls ls.length x).length then runT f (s.scan ls nodes on s.path.dropLast x a).1
   else match s.done s.path.dropLast x with
    | some s' => runT f s'
    | none => none
def Qw : List Nat → Nat → Tj → Option Tj
 | [], _, s => some s
 | r :: rs, f, s => if (lk s.idx r).isSome = true then Qw rs f s else match f with
  | 0 => none
  | f + 1 => match runT ls nodes on f ({ s with path := [] }.enter r) with
   | some (f', s') => Qw rs f' s'
   | none => none
def compsR : Option (List (List Nat)) := (Qw ls nodes on nodes 1000000 Tj.init).map (·.out)
end
theorem scan_out (ls : List Arrow) (nodes : List Nat) (on : List Bool) (s : Tj) (p : List (Nat × Nat)) (x a : Nat) : (s.scan ls nodes on p x a).1.out = s.out := by
 unfold Tj.scan Tj.arrow
 simp only
 split
 ·rfl
 ·split
  ·rfl
  ·split <;> rfl
theorem up_out (s : Tj) (p : List (Nat × Nat)) (x : Nat) : (s.up p x).out = s.out := by
 unfold Tj.up
 split <;> rfl
theorem comp_out {s s' : Tj} {x : Nat} (h : s.comp x = some s') : ∃ t, s'.out = s.out ++ t := by
 unfold Tj.comp at h
 split at h
 ·cases h; exact ⟨_, rfl⟩
 ·cases h
theorem done_out {s s' : Tj} {p : List (Nat × Nat)} {x : Nat} (h : s.done p x = some s') : ∃ t, s'.out = s.out ++ t := by
 unfold Tj.done at h
 split at h
 ·obtain ⟨t, ht⟩ := comp_out h;exact ⟨t, by rw [ht, up_out]⟩
 ·cases h; exact ⟨[], by rw [up_out]; simp⟩
theorem runT_out {ls : List Arrow} {nodes : List Nat} {on : List Bool} : ∀ {f : Nat} {s : Tj} {f' : Nat} {s' : Tj}, runT ls nodes on f s = some (f', s') → ∃ t, s'.out = s.out ++ t
 | 0, _, _, _, h => by cases h
 | f + 1, s, f', s', h => by
  simp only [runT] at h
  split at h
  ·cases h; exact ⟨[], by simp⟩
  ·split at h
   ·obtain ⟨t, ht⟩ := runT_out h;exact ⟨t, by rw [ht, scan_out]⟩
   ·split at h
    ·rename_i q;obtain ⟨t1, h1⟩ := done_out q;obtain ⟨t2, h2⟩ := runT_out h;exact ⟨t1 ++ t2, by rw [h2, h1, List.append_assoc]⟩
    ·cases h
theorem rootsT_out {ls : List Arrow} {nodes : List Nat} {on : List Bool} : ∀ {rs : List Nat} {f : Nat} {s s' : Tj}, Qw ls nodes on rs f s = some s' → ∃ t, s'.out = s.out ++ t
 | [], f, s, s', h => by cases h; exact ⟨[], by simp⟩
 | r :: rs, f, s, s', h => by
  unfold Qw at h
  split at h
  ·exact rootsT_out h
  ·split at h
   ·cases h
   ·split at h
    ·rename_i q;obtain ⟨t1, h1⟩ := runT_out q;obtain ⟨t2, h2⟩ := rootsT_out h;exact ⟨t1 ++ t2, by rw [h2, h1, List.append_assoc]; rfl⟩
    ·cases h
theorem runT_scan {ls : List Arrow} {nodes : List Nat} {on : List Bool} {f : Nat} {s : Tj} {p : List (Nat × Nat)} {x a : Nat} (hp : s.path = p ++ [(x, a)]) (ha : a < (Xt ls ls.length x).length) :
  runT ls nodes on (f + 1) s = runT ls nodes on f (s.scan ls nodes on p x a).1 := by
 have e1 : s.path.getLast? = some (x, a) := by rw [hp]; simp
 have e2 : s.path.dropLast = p := by rw [hp]; simp
 simp only [runT, e1, e2, ha, if_true]
theorem runT_done {ls : List Arrow} {nodes : List Nat} {on : List Bool} {f : Nat} {s : Tj} {p : List (Nat × Nat)} {x a : Nat} (hp : s.path = p ++ [(x, a)]) (ha : ¬ a < (Xt ls ls.length x).length) {r : Nat × Tj} (h : runT ls nodes on (f + 1) s = some r) :
  ∃ s', s.done p x = some s' ∧ runT ls nodes on f s' = some r := by
 have e1 : s.path.getLast? = some (x, a) := by rw [hp]; simp
 have e2 : s.path.dropLast = p := by rw [hp]; simp
 simp only [runT, e1, e2, ha, if_false] at h
 split at h
 ·rename_i s' q; exact ⟨s', q, h⟩
 ·cases h
theorem runT_end {ls : List Arrow} {nodes : List Nat} {on : List Bool} {f : Nat} {s : Tj} (hp : s.path = []) : runT ls nodes on (f + 1) s = some (f, s) := by
 simp [runT, hp]
end
end Go.Proofs.YtpmlighdpgbecaaGreatDoor.S
namespace Go.Proofs
open Go.Shelf
def YtpmlighdpgbecaaGreatDoor.lays189_ren : Go.Shelf.Ren := ⟨fun | 189 => 68 | 125 => 108 | 257 => 107 | 128 => 134 | 129 => 135 | 294 => 126 | 295 => 127 | 296 => 128 | 297 => 129 | 298 => 130 | 299 => 131 | 216 => 75 | 300 => 132 | 301 => 133 | 328 => 144 | 329 => 145 | 330 => 146 | 331 => 147 | 332 => 148 | 215 => 114 | 343 => 164 | n => n, fun | 28 => 22 | 3 => 3 | 46 => 137 | 0 => 0 | 51 => 72 | 53 => 196 | 4 => 4 | 183 => 189 | 182 => 188 | 131 => 96 | 5 => 5 | 9 => 9 | 218 => 212 | 222 => 216 | 228 => 232 | 229 => 134 | n => n, fun | n => n⟩
theorem YtpmlighdpgbecaaGreatDoor.lays189 : Go.Proofs.Lays.n189 Tryz.prog YtpmlighdpgbecaaGreatDoor.lays189_ren where
 mixed := by kernel_rfl
 f125 := Tryz.func108.trans (congrArg some (by kernel_rfl))
 f128 := Tryz.func134.trans (congrArg some (by kernel_rfl))
 f129 := Tryz.func135.trans (congrArg some (by kernel_rfl))
 f189 := Tryz.func68.trans (congrArg some (by kernel_rfl))
 f215 := Tryz.func114.trans (congrArg some (by kernel_rfl))
 f216 := Tryz.func75.trans (congrArg some (by kernel_rfl))
 f257 := Tryz.func107.trans (congrArg some (by kernel_rfl))
 f294 := Tryz.func126.trans (congrArg some (by kernel_rfl))
 f295 := Tryz.func127.trans (congrArg some (by kernel_rfl))
 f296 := Tryz.func128.trans (congrArg some (by kernel_rfl))
 f297 := Tryz.func129.trans (congrArg some (by kernel_rfl))
 f298 := Tryz.func130.trans (congrArg some (by kernel_rfl))
 f299 := Tryz.func131.trans (congrArg some (by kernel_rfl))
 f300 := Tryz.func132.trans (congrArg some (by kernel_rfl))
 f301 := Tryz.func133.trans (congrArg some (by kernel_rfl))
 f328 := Tryz.func144.trans (congrArg some (by kernel_rfl))
 f329 := Tryz.func145.trans (congrArg some (by kernel_rfl))
 f330 := Tryz.func146.trans (congrArg some (by kernel_rfl))
 f331 := Tryz.func147.trans (congrArg some (by kernel_rfl))
 f332 := Tryz.func148.trans (congrArg some (by kernel_rfl))
 f343 := Tryz.func164.trans (congrArg some (by kernel_rfl))
 t0 := Tryz.underlying0
 a0 := Tryz.isAgg0
 z0 := Tryz.sizeOf0
 v0 := Tryz.zeroValue0
 t3 := Tryz.underlying3
 a3 := Tryz.isAgg3
 z3 := Tryz.sizeOf3
 v3 := Tryz.zeroValue3
 t4 := Tryz.underlying4
 a4 := Tryz.isAgg4
 z4 := Tryz.sizeOf4
 v4 := Tryz.zeroValue4
 t5 := Tryz.underlying5
 a5 := Tryz.isAgg5
 z5 := Tryz.sizeOf5
 v5 := Tryz.zeroValue5
 t9 := Tryz.underlying9
 a9 := Tryz.isAgg9
 z9 := Tryz.sizeOf9
 v9 := Tryz.zeroValue9
 t28 := Tryz.underlying22
 a28 := Tryz.isAgg22
 z28 := Tryz.sizeOf22
 v28 := Tryz.zeroValue22
 t46 := Tryz.underlying137
 a46 := Tryz.isAgg137
 z46 := Tryz.sizeOf137
 v46 := Tryz.zeroValue137
 t51 := Tryz.underlying72
 a51 := Tryz.isAgg72
 z51 := Tryz.sizeOf72
 v51 := Tryz.zeroValue72
 t53 := Tryz.underlying196
 a53 := Tryz.isAgg196
 z53 := Tryz.sizeOf196
 v53 := Tryz.zeroValue196
 t131 := Tryz.underlying96
 a131 := Tryz.isAgg96
 z131 := Tryz.sizeOf96
 v131 := Tryz.zeroValue96
 t182 := Tryz.underlying188
 a182 := Tryz.isAgg188
 z182 := Tryz.sizeOf188
 v182 := Tryz.zeroValue188
 t183 := Tryz.underlying189
 a183 := Tryz.isAgg189
 z183 := Tryz.sizeOf189
 v183 := Tryz.zeroValue189
 t218 := Tryz.underlying212
 a218 := Tryz.isAgg212
 z218 := Tryz.sizeOf212
 v218 := Tryz.zeroValue212
 t222 := Tryz.underlying216
 a222 := Tryz.isAgg216
 z222 := Tryz.sizeOf216
 v222 := Tryz.zeroValue216
 t228 := Tryz.underlying232
 a228 := Tryz.isAgg232
 z228 := Tryz.sizeOf232
 v228 := Tryz.zeroValue232
 t229 := Tryz.underlying134
 a229 := Tryz.isAgg134
 z229 := Tryz.sizeOf134
 v229 := Tryz.zeroValue134
def YtpmlighdpgbecaaGreatDoor.lays112_ren : Go.Shelf.Ren := ⟨fun | 112 => 77 | n => n, fun | 28 => 22 | 3 => 3 | 4 => 4 | 0 => 0 | n => n, fun | n => n⟩
theorem YtpmlighdpgbecaaGreatDoor.lays112 : Go.Proofs.Lays.n112 Tryz.prog YtpmlighdpgbecaaGreatDoor.lays112_ren where
 mixed := by kernel_rfl
 f112 := Tryz.func77.trans (congrArg some (by kernel_rfl))
 t0 := Tryz.underlying0
 a0 := Tryz.isAgg0
 z0 := Tryz.sizeOf0
 v0 := Tryz.zeroValue0
 t3 := Tryz.underlying3
 a3 := Tryz.isAgg3
 z3 := Tryz.sizeOf3
 v3 := Tryz.zeroValue3
 t4 := Tryz.underlying4
 a4 := Tryz.isAgg4
 z4 := Tryz.sizeOf4
 v4 := Tryz.zeroValue4
 t28 := Tryz.underlying22
 a28 := Tryz.isAgg22
 z28 := Tryz.sizeOf22
 v28 := Tryz.zeroValue22
def YtpmlighdpgbecaaGreatDoor.lays25_ren : Go.Shelf.Ren := ⟨fun | 25 => 39 | 31 => 75 | 32 => 76 | 37 => 114 | n => n, fun | 22 => 22 | 3 => 3 | 4 => 4 | 40 => 137 | 0 => 0 | n => n, fun | n => n⟩
theorem YtpmlighdpgbecaaGreatDoor.lays25 : Go.Proofs.Lays2.n25 Tryz.prog YtpmlighdpgbecaaGreatDoor.lays25_ren where
 mixed := by kernel_rfl
 f25 := Tryz.func39.trans (congrArg some (by kernel_rfl))
 f31 := Tryz.func75.trans (congrArg some (by kernel_rfl))
 f32 := Tryz.func76.trans (congrArg some (by kernel_rfl))
 f37 := Tryz.func114.trans (congrArg some (by kernel_rfl))
 t0 := Tryz.underlying0
 a0 := Tryz.isAgg0
 z0 := Tryz.sizeOf0
 v0 := Tryz.zeroValue0
 t3 := Tryz.underlying3
 a3 := Tryz.isAgg3
 z3 := Tryz.sizeOf3
 v3 := Tryz.zeroValue3
 t4 := Tryz.underlying4
 a4 := Tryz.isAgg4
 z4 := Tryz.sizeOf4
 v4 := Tryz.zeroValue4
 t22 := Tryz.underlying22
 a22 := Tryz.isAgg22
 z22 := Tryz.sizeOf22
 v22 := Tryz.zeroValue22
 t40 := Tryz.underlying137
 a40 := Tryz.isAgg137
 z40 := Tryz.sizeOf137
 v40 := Tryz.zeroValue137
theorem YtpmlighdpgbecaaGreatDoor.slices_Sort_int (blk off cap : Nat) (zs : List Int) (w : World) (hH : Go.Sort.Holds (Value.int .i64) w blk off zs.toArray) (hblk : blk < w.heap.size) (hsz : zs.length < 4611686018427387904) :
  Calls Tryz.prog 68 #[.slice (some ⟨blk, off, none⟩) zs.length cap] w fun e w' =>
   e = .returned (.tuple #[]) ∧ ∃ n os, w' = Go.Sort.grow (Go.Sort.putRow (Value.int .i64) (Go.Sort.ahead w n) blk off (zs.mergeSort fun x y => decide (x ≤ y)).toArray) os := Any.slices_Sort_int YtpmlighdpgbecaaGreatDoor.lays189 blk off cap zs w hH hblk hsz
theorem YtpmlighdpgbecaaGreatDoor.slices_Reverse_int (blk off cap : Nat) (zs : List Int) (w : World) (hH : Go.Sort.Holds (Value.int .i64) w blk off zs.toArray) (hsz : zs.length ≤ 9223372036854775807) :
  Calls Tryz.prog 77 #[.slice (some ⟨blk, off, none⟩) zs.length cap] w fun e w' => e = .returned (.tuple #[]) ∧ ∃ n, w' = Go.Sort.putRow (Value.int .i64) (Go.Sort.ahead w n) blk off zs.reverse.toArray := Any.slices_Reverse_int YtpmlighdpgbecaaGreatDoor.lays112 blk off cap zs w hH hsz
theorem YtpmlighdpgbecaaGreatDoor.slices_Sort_int_none (p : Option Addr) (cap : Nat) (w : World) : Calls Tryz.prog 68 #[.slice p 0 cap] w fun e w' => e = .returned (.tuple #[]) ∧ w' = w := Any.slices_Sort_int_none YtpmlighdpgbecaaGreatDoor.lays189 p cap w
theorem YtpmlighdpgbecaaGreatDoor.slices_Reverse_int_none (p : Option Addr) (cap : Nat) (w : World) : Calls Tryz.prog 77 #[.slice p 0 cap] w fun e w' => e = .returned (.tuple #[]) ∧ w' = w := Any.slices_Reverse_int_empty YtpmlighdpgbecaaGreatDoor.lays112 p cap w
theorem YtpmlighdpgbecaaGreatDoor.slices_BinarySearch_int (b off n c : Nat) (zs : List Int) (x : Int) (w : World) (hz : n ≤ zs.length) (hbig : n < 4611686018427387904) (hc : ∀ j, j < zs.length → w.cell? ⟨b, off + j, none⟩ = some (.int .i64 (zs.getD j 0))) (hs : (zs.take n).Pairwise (· ≤ ·)) :
  Calls Tryz.prog 39 #[.slice (some ⟨b, off, none⟩) n c, .int .i64 x] w fun e w' => e = .returned (.tuple #[.int .i64 ((zs.take n).countP (· < x) : Nat), .bool ((zs.take n).contains x)]) ∧ ∃ q, w' = w.drewN q := Any.slices_BinarySearch_int YtpmlighdpgbecaaGreatDoor.lays25 b off n c zs x w hz hbig hc hs
theorem YtpmlighdpgbecaaGreatDoor.slices_BinarySearch_int_none (a : Option Addr) (c : Nat) (x : Int) (w : World) :
  Calls Tryz.prog 39 #[.slice a 0 c, .int .i64 x] w fun e w' => e = .returned (.tuple #[.int .i64 0, .bool false]) ∧ w' = w := Any.slices_BinarySearch_int_empty YtpmlighdpgbecaaGreatDoor.lays25 a c x w
end Go.Proofs
namespace Go.Proofs.YtpmlighdpgbecaaGreatDoor.S
section
open Go.RowKit Go.Sort
theorem putCells_own (zs zs' : List Int) (pad : List Value) (h : zs'.length = zs.length) :
  putCells (Value.int .i64) 0 zs'.toArray ((zs.map (Value.int .i64) ++ pad).toArray) = (zs'.map (Value.int .i64) ++ pad).toArray := by
 apply Array.ext
 ·simp [putCells, h]
 ·intro i h1 h2;simp only [putCells, Array.getElem_mapIdx, List.size_toArray, Nat.zero_add, Nat.zero_le, true_and, Nat.sub_zero, List.getElem_toArray]
  split
  ·rename_i hi;rw [List.getElem_append_left (by simpa using hi), List.getElem_map];simp [hi]
  ·rename_i hi;rw [List.getElem_append_right (by simp; omega), List.getElem_append_right (by simp; omega)];simp [h]
theorem st_putRow {g : Ghost} {w : World} {L : Own} {b E : Nat} {zs zs' : List Int} {pad : List Value} (hs : St g w ((b, Xa (zs.map (Value.int .i64) ++ pad) E) :: L)) (h : zs'.length = zs.length) (n : Nat) (os : Array Obj) :
  St g (grow (putRow (Value.int .i64) (Sort.ahead w n) b 0 zs'.toArray) os) ((b, Xa (zs'.map (Value.int .i64) ++ pad) E) :: L) := by
 have hlt := hs.lt List.mem_cons_self
 refine St.turn (w' := grow (putRow (Value.int .i64) (Sort.ahead w n) b 0 zs'.toArray) os) hs rfl rfl rfl ?_ (fun k hk hne => ?_)
 ·show (((Sort.ahead w n).heap.modify b (onCells (putCells (Value.int .i64) 0 zs'.toArray))) ++ os)[b]? = _
  rw [Array.getElem?_append_left (by rw [Array.size_modify]; exact hlt), Array.getElem?_modify, if_pos rfl]
  show Option.map _ w.heap[b]? = _
  rw [hs.own _ _ List.mem_cons_self];simp only [Option.map_some, Xa, onCells, putCells_own zs zs' pad h]
 ·show (((Sort.ahead w n).heap.modify b (onCells (putCells (Value.int .i64) 0 zs'.toArray))) ++ os)[k]? = _
  rw [Array.getElem?_append_left (by rw [Array.size_modify]; exact hk), Array.getElem?_modify, if_neg (Ne.symm hne)];rfl
theorem nats_ints (c : List Nat) : c.flatMap Zd = (c.map Int.ofNat).map (Value.int .i64) := by
 rw [List.map_map]
 exact Ks c
theorem holds_own {g : Ghost} {w : World} {L : Own} {b E : Nat} {zs : List Int} {pad : List Value} (hs : St g w ((b, Xa (zs.map (Value.int .i64) ++ pad) E) :: L)) : Holds (Value.int .i64) w b 0 zs.toArray := fun j hj => by
 have hj' : j < zs.length := by simpa using hj
 rw [Nat.zero_add]
 refine ⟨hs.cellL List.mem_cons_self ?_, hs.frozenL List.mem_cons_self⟩
 rw [List.getElem?_append_left (by simpa using hj')]
 simp [hj']
theorem sort_spec (g : Ghost) (v : Value) (c : List Nat) (H : Own) (ho : OwnS 3 1 v c.length (c.flatMap Zd) H) (hl : c.length ≤ 4294967296) :
  Cl PP 68 [v] g H fun _ L' _ => OwnS 3 1 v c.length ((Vj c).flatMap Zd) L' := by
 refine ⟨Go.Proofs.enters_of Tryz.func68 rfl rfl, fun w F hs => ?_⟩
 rcases ho with ⟨rfl, h0, _, rfl⟩ | ⟨b, cap, pad, rfl, h1, h2, h3, rfl⟩
 ·have hc : c = [] := List.eq_nil_of_length_eq_zero h0;subst hc;refine (YtpmlighdpgbecaaGreatDoor.slices_Sort_int_none none 0 w).mono ?_;rintro e w' ⟨rfl, rfl⟩;exact ⟨_, g, [], rfl, Ghost.rfl', hs, OwnS.nil _ _⟩
 ·rw [nats_ints] at hs h2
  have hs' := hs;have hr := YtpmlighdpgbecaaGreatDoor.slices_Sort_int b 0 cap (c.map Int.ofNat) w (holds_own hs') (hs'.lt List.mem_cons_self) (by simp; omega);rw [List.length_map] at hr
  refine hr.mono ?_;rintro e w' ⟨rfl, n, os, rfl⟩;rw [sortN_mergeI]
  refine ⟨_, g, [(b, Xa (((Vj c).map Int.ofNat).map (Value.int .i64) ++ pad) 3)], rfl, Ghost.rfl', st_putRow hs' (zs' := (Vj c).map Int.ofNat) (by simp [Zu]) n os, .inr ⟨b, cap, pad, rfl, ?_, ?_, h3, ?_⟩⟩
  ·rw [Ks]; simp [Zu]
  ·rw [nats_ints]; simpa [Zu] using h2
  ·rw [nats_ints]
theorem reverse_spec (g : Ghost) (v : Value) (c : List Nat) (H : Own) (ho : OwnS 3 1 v c.length (c.flatMap Zd) H) (hl : c.length ≤ 4294967296) :
  Cl PP 77 [v] g H fun _ L' _ => OwnS 3 1 v c.length (c.reverse.flatMap Zd) L' := by
 refine ⟨Go.Proofs.enters_of Tryz.func77 rfl rfl, fun w F hs => ?_⟩
 rcases ho with ⟨rfl, h0, _, rfl⟩ | ⟨b, cap, pad, rfl, h1, h2, h3, rfl⟩
 ·have hc : c = [] := List.eq_nil_of_length_eq_zero h0;subst hc;refine (YtpmlighdpgbecaaGreatDoor.slices_Reverse_int_none none 0 w).mono ?_;rintro e w' ⟨rfl, rfl⟩;exact ⟨_, g, [], rfl, Ghost.rfl', hs, OwnS.nil _ _⟩
 ·rw [nats_ints] at hs h2
  have hs' := hs;have hr := YtpmlighdpgbecaaGreatDoor.slices_Reverse_int b 0 cap (c.map Int.ofNat) w (holds_own hs') (by simp; omega);rw [List.length_map] at hr
  refine hr.mono ?_;rintro e w' ⟨rfl, n, rfl⟩;have h9 := st_putRow hs' (zs' := (c.map Int.ofNat).reverse) (by simp) n #[];rw [grow_empty] at h9
  refine ⟨_, g, [(b, Xa ((c.map Int.ofNat).reverse.map (Value.int .i64) ++ pad) 3)], rfl, Ghost.rfl', h9, .inr ⟨b, cap, pad, rfl, ?_, ?_, h3, ?_⟩⟩
  ·rw [Ks]; simp
  ·rw [nats_ints]; simpa using h2
  ·rw [nats_ints, List.map_reverse, List.map_reverse, List.map_reverse]
theorem search_spec (g : Ghost) (v : Value) (c : List Nat) (x : Nat) (hr : RS kNat g v c) (hl : c.length ≤ 4294967296) (hsort : c.Pairwise (· ≤ ·)) :
  Cl PP 39 [v, .int .i64 (x : Int)] g [] (Det (.tuple #[.int .i64 ((c.countP fun y => decide (y < x) : Nat) : Int), .bool (c.contains x)])) := by
 refine ⟨Go.Proofs.enters_of Tryz.func39 rfl rfl, fun w F hs => ?_⟩
 obtain ⟨a, cap, rfl⟩ := hr.form
 rcases Nat.eq_zero_or_pos c.length with h0 | h0
 ·have hc : c = [] := List.eq_nil_of_length_eq_zero h0;subst hc;refine (YtpmlighdpgbecaaGreatDoor.slices_BinarySearch_int_none a cap x w).mono ?_;rintro e w' ⟨rfl, rfl⟩;exact ⟨_, g, [], rfl, Ghost.rfl', hs, rfl, rfl⟩
 ·obtain ⟨b, o, rfl⟩ := hr.base h0
  have hcs := YtpmlighdpgbecaaGreatDoor.slices_BinarySearch_int b o c.length cap (c.map Int.ofNat) x w (by simp) (by omega) (fun j hj => by
   have hj' : j < c.length := by simpa using hj
   have := hs.cellG (hr.nat hj');simpa [Zj, hj'] using this) (by
   rw [List.take_of_length_le (by simp), List.pairwise_map];exact hsort.imp fun h => by simpa using h)
  refine hcs.mono ?_;rintro e w' ⟨rfl, q, rfl⟩;refine ⟨_, g, [], rfl, Ghost.rfl', hs.undraw rfl rfl rfl rfl, rfl, ?_⟩;rw [List.take_of_length_le (by simp), List.countP_map]
  congr 3
  ·congr 2
   ·congr 1
    funext y
    simp
  ·congr 2
   rw [Bool.eq_iff_iff];simp only [List.contains_iff_mem, List.mem_map];exact ⟨fun ⟨a, h1, h2⟩ => (by have : a = x := Int.ofNat.inj h2; exact this ▸ h1), fun h => ⟨x, h, rfl⟩⟩
end
section
open Go.RowKit
theorem lookV (m : List (Nat × Nat)) (x : Nat) : (Zt (Jh vNat m) (x : Int)).getD (.int .i64 0) = .int .i64 (Xg m x : Int) := by
 rw [alook_enc]
 unfold Xg
 cases lk m x <;> rfl
theorem lookB (m : List (Nat × Bool)) (x : Nat) : (Zt (Jh .bool m) (x : Int)).getD (.bool false) = .bool ((lk m x).getD false) := by
 rw [alook_enc]
 cases lk m x <;> rfl
theorem lookS' {α : Type} (f : α → Value) (m : List (Nat × α)) (x : Nat) : (Zt (Jh f m) (x : Int)).isSome = (lk m x).isSome := by
 rw [alook_enc]
 cases lk m x <;> rfl
theorem minV (a b : Nat) : Value.int .i64 (if (b : Int) < a then (b : Int) else a) = vNat (min a b) := by
 unfold vNat
 congr 1
 split <;> omega
theorem Zx (p : List (Nat × Nat)) : (p.flatMap Up).length = p.length * 2 := by
 induction p with
 | nil => rfl
 | cons q p ih => simp only [List.flatMap_cons, List.length_append, ih, List.length_cons, List.length_nil, Nat.add_mul, Up]; omega
theorem steps_at0 (p : List (Nat × Nat)) (x a : Nat) (pad : List Value) : ((p ++ [(x, a)]).flatMap Up ++ pad)[p.length * 2]? = some (.int .i64 (x : Int)) := by
 rw [List.flatMap_append, List.append_assoc, List.getElem?_append_right (by rw [Zx]; omega), Zx, Nat.sub_self]
 rfl
theorem steps_at1 (p : List (Nat × Nat)) (x a : Nat) (pad : List Value) : ((p ++ [(x, a)]).flatMap Up ++ pad)[p.length * 2 + 1]? = some (.int .i64 (a : Int)) := by
 rw [List.flatMap_append, List.append_assoc, List.getElem?_append_right (by rw [Zx]; omega), Zx, Nat.add_sub_cancel_left]
 rfl
theorem steps_set (p : List (Nat × Nat)) (x a a' : Nat) (pad : List Value) : ((p ++ [(x, a)]).flatMap Up ++ pad).set (p.length * 2 + 1) (.int .i64 (a' : Int)) = (p ++ [(x, a')]).flatMap Up ++ pad := by
 rw [List.flatMap_append, List.append_assoc, List.set_append_right _ _ (by rw [Zx]; omega), Zx, Nat.add_sub_cancel_left, List.flatMap_append, List.append_assoc]
 rfl
theorem scan_skip {ls : List Arrow} {nodes : List Nat} {on : List Bool} {s : Tj} {p : List (Nat × Nat)} {x a k y : Nat} (h : Uk ls nodes on k = false) : s.arrow ls nodes on p x a k y = ({ s with path := p ++ [(x, a + 1)] }, false) := by
 unfold Tj.arrow
 rw [if_pos h]
theorem scan_new {ls : List Arrow} {nodes : List Nat} {on : List Bool} {s : Tj} {p : List (Nat × Nat)} {x a k y : Nat} (h : Uk ls nodes on k = true) (h2 : lk s.idx y = none) : s.arrow ls nodes on p x a k y = ({ s with path := p ++ [(x, a + 1)] }.enter y, true) := by
 unfold Tj.arrow
 rw [if_neg (by rw [h]; decide), if_pos h2]
theorem scan_low {ls : List Arrow} {nodes : List Nat} {on : List Bool} {s : Tj} {p : List (Nat × Nat)} {x a k y : Nat} (h : Uk ls nodes on k = true) (h2 : ¬ lk s.idx y = none) (h3 : (lk s.on y).getD false = true) :
  s.arrow ls nodes on p x a k y = ({ s with path := p ++ [(x, a + 1)], low := sk s.low x (min (Xg s.low x) (Xg s.idx y)) }, false) := by
 unfold Tj.arrow
 rw [if_neg (by rw [h]; decide), if_neg h2, if_pos h3]
theorem scan_off {ls : List Arrow} {nodes : List Nat} {on : List Bool} {s : Tj} {p : List (Nat × Nat)} {x a k y : Nat} (h : Uk ls nodes on k = true) (h2 : ¬ lk s.idx y = none) (h3 : (lk s.on y).getD false = false) :
  s.arrow ls nodes on p x a k y = ({ s with path := p ++ [(x, a + 1)] }, false) := by
 unfold Tj.arrow
 rw [if_neg (by rw [h]; decide), if_neg h2, if_neg (by rw [h3]; exact Bool.false_ne_true)]
theorem up_path (s : Tj) (p : List (Nat × Nat)) (x : Nat) : (s.up p x).path = p := by unfold Tj.up; split <;> rfl
theorem up_st (s : Tj) (p : List (Nat × Nat)) (x : Nat) : (s.up p x).st = s.st := by unfold Tj.up; split <;> rfl
theorem up_on (s : Tj) (p : List (Nat × Nat)) (x : Nat) : (s.up p x).on = s.on := by unfold Tj.up; split <;> rfl
theorem up_idx (s : Tj) (p : List (Nat × Nat)) (x : Nat) : (s.up p x).idx = s.idx := by unfold Tj.up; split <;> rfl
theorem up_snoc (s : Tj) (p : List (Nat × Nat)) (z a x : Nat) : (s.up (p ++ [(z, a)]) x).low = sk s.low z (min (Xg s.low z) (Xg s.low x)) := by
 unfold Tj.up
 simp
theorem popU_len {x : Nat} : ∀ {l r c : List Nat}, popU x l = some (r, c) → c.length + r.length = l.length
 | [], _, _, h => by cases h
 | y :: l, r, c, h => by
  unfold popU at h
  split at h
  ·cases h; simp; omega
  ·split at h
   ·rename_i q;cases h;have := popU_len q;simp only [List.length_cons]; omega
   ·cases h
section
variable (tb4 fb onb idb lob pvb : Nat) (gp v1 v2 v3 : Value)
def FinB (s : Tj) (g : Ghost) (w : World) (Lr : Own) : Prop :=
 ∃ vl Hl oo io lo, St g w ((tb4, Xa [.pointer (some ⟨fb, 0, none⟩)] 167) :: (fb, Xa [vl, .map (some onb), gp, v1, v2, v3, .map (some idb), .map (some lob)] 171) :: (onb, oo) :: (idb, io) :: (lob, lo) :: (Hl ++ Lr)) ∧
  OwnS 3 1 vl s.st.length (s.st.flatMap Zd) Hl ∧ Jb (Jh .bool s.on) oo ∧ Jb (Jh vNat s.idx) io ∧ Jb (Jh vNat s.low) lo
def FinS (pb cap : Nat) (pad : List Value) (s : Tj) (g : Ghost) (w : World) (Lr : Own) : Prop :=
  ∃ vl Hl oo io lo, St g w ((tb4, Xa [.pointer (some ⟨fb, 0, none⟩)] 167) :: (fb, Xa [vl, .map (some onb), gp, v1, v2, v3, .map (some idb), .map (some lob)] 171) :: (onb, oo) :: (idb, io) :: (lob, lo) ::
      (pvb, Xa [.slice (some ⟨pb, 0, none⟩) s.path.length cap] 172) :: (pb, Xa (s.path.flatMap Up ++ pad) 174) :: (Hl ++ Lr)) ∧
    OwnS 3 1 vl s.st.length (s.st.flatMap Zd) Hl ∧ Jb (Jh .bool s.on) oo ∧ Jb (Jh vNat s.idx) io ∧ Jb (Jh vNat s.low) lo ∧ (s.path.flatMap Up ++ pad).length = cap * 2 ∧ s.path.length ≤ cap
def FinP (s : Tj) (g : Ghost) (w : World) (Lr : Own) : Prop := ∃ L, FinderL tb4 fb onb idb lob pvb gp v1 v2 v3 s L ∧ St g w (L ++ Lr)
variable {tb4 fb onb idb lob pvb : Nat} {gp v1 v2 v3 : Value}
theorem FinP.toS {s : Tj} {g : Ghost} {w : World} {Lr : Own} (h : FinP tb4 fb onb idb lob pvb gp v1 v2 v3 s g w Lr) (hp : s.path ≠ []) : ∃ pb cap pad, FinS tb4 fb onb idb lob pvb gp v1 v2 v3 pb cap pad s g w Lr := by
 obtain ⟨L, ⟨vl, Hl, vp, Hp, oo, io, lo, rfl, h1, h2, h3, h4, h5⟩, hs⟩ := h
 obtain ⟨b, cap, pad, rfl, q1, q2, q3, rfl⟩ := h2.pos (List.length_pos_iff.2 hp)
 exact ⟨b, cap, pad, vl, Hl, oo, io, lo, hs.perm (by classical exact List.perm_iff_count.2 fun x => by simp only [List.append_eq, List.set_cons_succ, List.set_cons_zero, List.eraseIdx_cons_zero, List.eraseIdx_cons_succ, List.count_cons, List.count_append, List.cons_append, List.nil_append, List.append_nil, List.append_assoc] <;> ac_rfl), h1, h3, h4, h5, q2, q3⟩
theorem FinS.toP {s : Tj} {g : Ghost} {w : World} {Lr : Own} {pb cap : Nat} {pad : List Value} (h : FinS tb4 fb onb idb lob pvb gp v1 v2 v3 pb cap pad s g w Lr) : FinP tb4 fb onb idb lob pvb gp v1 v2 v3 s g w Lr := by
 obtain ⟨vl, Hl, oo, io, lo, hs, h1, h3, h4, h5, q2, q3⟩ := h
 exact ⟨_, ⟨vl, Hl, _, [(pb, Xa (s.path.flatMap Up ++ pad) 174)], oo, io, lo, rfl, h1, .inr ⟨pb, cap, pad, rfl, Zx _, q2, q3, rfl⟩, h3, h4, h5⟩, hs.perm (by classical exact List.perm_iff_count.2 fun x => by simp only [List.append_eq, List.set_cons_succ, List.set_cons_zero, List.eraseIdx_cons_zero, List.eraseIdx_cons_succ, List.count_cons, List.count_append, List.cons_append, List.nil_append, List.append_nil, List.append_assoc] <;> ac_rfl)⟩
theorem FinP.toB {s : Tj} {g : Ghost} {w : World} {Lr : Own} (h : FinP tb4 fb onb idb lob pvb gp v1 v2 v3 s g w Lr) : FinB tb4 fb onb idb lob gp v1 v2 v3 s g w Lr := by
 obtain ⟨L, ⟨vl, Hl, vp, Hp, oo, io, lo, rfl, h1, h2, h3, h4, h5⟩, hs⟩ := h
 have hs2 : St g w (((pvb, Xa [vp] 172) :: Hp) ++ ((tb4, Xa [.pointer (some ⟨fb, 0, none⟩)] 167) :: (fb, Xa [vl, .map (some onb), gp, v1, v2, v3, .map (some idb), .map (some lob)] 171) :: (onb, oo) :: (idb, io) :: (lob, lo) :: (Hl ++ Lr))) := hs.perm (by classical exact List.perm_iff_count.2 fun x => by simp only [List.append_eq, List.set_cons_succ, List.set_cons_zero, List.eraseIdx_cons_zero, List.eraseIdx_cons_succ, List.count_cons, List.count_append, List.cons_append, List.nil_append, List.append_nil, List.append_assoc] <;> ac_rfl)
 exact ⟨vl, Hl, oo, io, lo, hs2.dropL, h1, h3, h4, h5⟩
theorem FinB.rest {s : Tj} {g : Ghost} {w : World} {Lr : Own} (h : FinB tb4 fb onb idb lob gp v1 v2 v3 s g w Lr) : St g w Lr := by
 obtain ⟨vl, Hl, oo, io, lo, hs, _⟩ := h
 exact hs.drop.drop.drop.drop.drop.dropL
end
end
end Go.Proofs.YtpmlighdpgbecaaGreatDoor.S
