/- What the statement FairRounds is proved with, part 1: walks of the code, each against a pure version of it. -/
import Derived.RangeFuncNested
import Derived.OrdersIn
import Derived.TacticsIn
import Derived.Below
import Derived.KernelRfl
import Derived.Shelf.Abstract
import Derived.Laws.Cells
import Derived.Laws.Slices
import Derived.IntWalk
import Derived.StillTail
import Derived.Laws.StructEq
set_option linter.all false
namespace Go.Proofs.YtpmlighdpgbecaaGreatDoor.S
section
open Go.RowKit
abbrev Env := List (Nat × Value)
def Ye : Env → Nat → Option Value
 | [], _ => none
 | (k', v) :: r, k => bif Nat.beq k k' then some v else Ye r k
def ev (ρ : Env) : Operand → Option Value
 | .tmp t => Ye ρ t
 | .const v => some v
 | .global g => some (.pointer (some ⟨g, 0, none⟩))
 | .func f => some (.func (.func f) #[] #[])
def evs (ρ : Env) : List Operand → Option (List Value)
 | [] => some []
 | x :: xs => match ev ρ x, evs ρ xs with
  | some v, some vs => some (v :: vs)
  | _, _ => none
structure Fits (N : Nat) (ds : List Deferred) (a : Act) (ρ : Env) : Prop where
 size : a.tmps.size = N
 defers : a.defers = ds
 at_ : ∀ k v, Ye ρ k = some v → a.tmps[k]? = some v
theorem Fits.put {N : Nat} {ds : List Deferred} {a : Act} {ρ : Env} (h : Fits N ds a ρ) (d : Nat) (v : Value) (hd : Nat.blt d N = true) :
  Fits N ds (a.put (some d) v) ((d, v) :: ρ) := by
 have hd' : d < N := by simpa using hd
 refine ⟨by simp [Act.put, h.size], h.defers, fun k u hk => ?_⟩
 simp only [Ye, Bool.cond_eq_ite] at hk
 split at hk
 ·rename_i he;have : k = d := Nat.eq_of_beq_eq_true he;subst this;simp only [Option.some.injEq] at hk
  subst hk;simp [Act.put, h.size, hd']
 ·rename_i he;have hne : d ≠ k := fun e => he (by subst e; exact Nat.beq_refl _)
  simp only [Act.put];rw [Array.getElem?_setIfInBounds_ne hne];exact h.at_ k u hk
def Sub (ρ' ρ : Env) : Prop := ∀ k v, Ye ρ' k = some v → Ye ρ k = some v
def subB : Env → Env → List (Nat × Value × Option Value)
 | [], _ => []
 | (k, v) :: r, ρ => (k, v, Ye ρ k) :: subB r ρ
def subs : Env → Env → Prop
 | [], _ => True
 | (k, v) :: r, ρ => Ye ρ k = some v ∧ subs r ρ
theorem sub_of {ρ' ρ : Env} (h : subs ρ' ρ) : Sub ρ' ρ := by
 induction ρ' with
 | nil => intro k v hk; simp [Ye] at hk
 | cons p r ih =>
  obtain ⟨k', v'⟩ := p;intro k v hk;simp only [Ye, Bool.cond_eq_ite] at hk
  split at hk
  ·rename_i he;have : k = k' := Nat.eq_of_beq_eq_true he;subst this;simp only [Option.some.injEq] at hk
   subst hk;exact h.1
  ·exact ih h.2 k v hk
theorem Fits.sub {N : Nat} {ds : List Deferred} {a : Act} {ρ ρ' : Env} (h : Fits N ds a ρ) (hs : Sub ρ' ρ) : Fits N ds a ρ' :=
 ⟨h.size, h.defers, fun k v hk => h.at_ k v (hs k v hk)⟩
theorem Xe {N : Nat} {ds : List Deferred} {a : Act} {ρ : Env} (h : Fits N ds a ρ) {x : Operand} {v : Value} (hx : ev ρ x = some v) : a.eval x = v := by
 cases x with
 | tmp t => simp only [ev] at hx; simp only [Act.eval, Array.getD_eq_getD_getElem?, h.at_ t v hx, Option.getD_some]
 | const c => simpa [ev, Act.eval] using hx
 | global g => simpa [ev, Act.eval] using hx
 | func f => simpa [ev, Act.eval] using hx
theorem evs_eval {N : Nat} {ds : List Deferred} {a : Act} {ρ : Env} (h : Fits N ds a ρ) : ∀ {xs : List Operand} {vs : List Value}, evs ρ xs = some vs → xs.map a.eval = vs
 | [], vs, hx => by simp [evs] at hx; simp [← hx]
 | x :: xs, vs, hx => by
  simp only [evs] at hx
  split at hx
  ·rename_i v us h1 h2;simp only [Option.some.injEq] at hx
   subst hx;simp [Xe h h1, evs_eval h h2]
  ·simp at hx
def FF (ro : Option Nat) : Fence := { fn := fun _ => True, depth := none, alive := false, round := ro }
structure Ghost where
 heap : Nat → Option Obj
 os : Os
 tape : Nat → Question → Nat
 output : Array (Nat × ByteArray)
structure Ghost.Le (g g' : Ghost) : Prop where
 heap : ∀ b o, g.heap b = some o → g'.heap b = some o
 os : g'.os = g.os
 tape : g'.tape = g.tape
 output : g'.output = g.output
instance : LE Ghost := ⟨Ghost.Le⟩
theorem Ghost.rfl' {g : Ghost} : g ≤ g := ⟨fun _ _ h => h, rfl, rfl, rfl⟩
theorem Ghost.tr {a b c : Ghost} (h : a ≤ b) (k : b ≤ c) : a ≤ c :=
 ⟨fun x o e => k.heap x o (h.heap x o e), k.os.trans h.os, k.tape.trans h.tape, k.output.trans h.output⟩
def Zq (w : World) : Ghost := ⟨fun b => w.heap[b]?, w.os, w.tape, w.output⟩
abbrev Own := List (Nat × Obj)
structure St (g : Ghost) (w : World) (L : Own) : Prop where
 os : w.os = g.os
 tape : w.tape = g.tape
 output : w.output = g.output
 imm : ∀ b o, g.heap b = some o → w.heap[b]? = some o
 own : ∀ b o, (b, o) ∈ L → w.heap[b]? = some o
 nodup : (L.map Prod.fst).Nodup
 disj : ∀ b o, (b, o) ∈ L → g.heap b = none
theorem st_begin (w : World) : St (Zq w) w [] := ⟨rfl, rfl, rfl, fun _ _ h => h, fun _ _ h => by simp at h, by simp, fun _ _ h => by simp at h⟩
theorem St.below {w w' : World} {g : Ghost} {L : Own} (h : Zq w ≤ g) (hs : St g w' L) : Below w.heap.size w w' := by
 refine ⟨hs.os.trans h.os, hs.tape.trans h.tape, hs.output.trans h.output, ?_, fun k hk => ?_⟩
 ·rcases Nat.lt_or_ge w'.heap.size w.heap.size with hlt | hge
  ·have := hs.imm w'.heap.size (w.heap[w'.heap.size]'hlt) (h.heap _ _ (by simp [Zq, hlt]));simp at this
  ·exact hge
 ·have hk' : (Zq w).heap k = some (w.heap[k]'hk) := by simp [Zq, hk]
  rw [hs.imm k _ (h.heap _ _ hk')];simp [hk]
theorem St.perm {g : Ghost} {w : World} {L L' : Own} (h : St g w L) (hp : L'.Perm L) : St g w L' :=
 ⟨h.os, h.tape, h.output, h.imm, fun b o hm => h.own b o (hp.mem_iff.1 hm), (hp.map Prod.fst).nodup_iff.2 h.nodup, fun b o hm => h.disj b o (hp.mem_iff.1 hm)⟩
theorem St.drop {g : Ghost} {w : World} {p : Nat × Obj} {L : Own} (h : St g w (p :: L)) : St g w L :=
 ⟨h.os, h.tape, h.output, h.imm, fun b o hm => h.own b o (List.mem_cons_of_mem _ hm), (List.nodup_cons.1 h.nodup).2, fun b o hm => h.disj b o (List.mem_cons_of_mem _ hm)⟩
theorem St.dropL {g : Ghost} {w : World} {H L : Own} (h : St g w (H ++ L)) : St g w L := by
 induction H with
 | nil => exact h
 | cons p H ih => exact ih h.drop
theorem St.drew {g : Ghost} {w : World} {L : Own} (h : St g w L) : St g { w with drawn := w.drawn + 1 } L := ⟨h.os, h.tape, h.output, h.imm, h.own, h.nodup, h.disj⟩
theorem St.undraw {g : Ghost} {w w' : World} {L : Own} (h : St g w L) (h1 : w'.heap = w.heap) (h2 : w'.os = w.os) (h3 : w'.tape = w.tape) (h4 : w'.output = w.output) : St g w' L :=
 ⟨h2.trans h.os, h3.trans h.tape, h4.trans h.output, fun b o e => by rw [h1]; exact h.imm b o e, fun b o e => by rw [h1]; exact h.own b o e, h.nodup, h.disj⟩
theorem St.lt {g : Ghost} {w : World} {L : Own} (h : St g w L) {b : Nat} {o : Obj} (hm : (b, o) ∈ L) : b < w.heap.size := (Array.getElem?_eq_some_iff.1 (h.own b o hm)).1
theorem St.glt {g : Ghost} {w : World} {L : Own} (h : St g w L) {b : Nat} {o : Obj} (hm : g.heap b = some o) : b < w.heap.size := (Array.getElem?_eq_some_iff.1 (h.imm b o hm)).1
theorem St.alloc {g : Ghost} {w : World} {L : Own} (h : St g w L) (o : Obj) : St g (w.alloc o) ((w.heap.size, o) :: L) := by
 have old : ∀ b (o' : Obj), w.heap[b]? = some o' → (w.alloc o).heap[b]? = some o' := fun b o' hb => by
  rw [Below.heap_alloc _ _ _ (Array.getElem?_eq_some_iff.1 hb).1]; exact hb
 refine ⟨h.os, h.tape, h.output, fun b o' e => old b o' (h.imm b o' e), fun b o' hm => ?_, ?_, fun b o' hm => ?_⟩
 ·rcases List.mem_cons.1 hm with e | e
  ·cases e; exact World.alloc_heap_new w o
  ·exact old b o' (h.own b o' e)
 ·refine List.nodup_cons.2 ⟨fun hm => ?_, h.nodup⟩;obtain ⟨⟨b, o'⟩, hm', e⟩ := List.mem_map.1 hm;have := h.lt hm';simp at e
  omega
 ·rcases List.mem_cons.1 hm with e | e
  ·cases e;cases hg : g.heap w.heap.size with
   | none => rfl
   | some o2 => have := h.glt hg; omega
  ·exact h.disj b o' e
theorem St.turn {g : Ghost} {w w' : World} {L : Own} {b : Nat} {o o' : Obj} (h : St g w ((b, o) :: L))
  (h2 : w'.os = w.os) (h3 : w'.tape = w.tape) (h4 : w'.output = w.output) (hb : w'.heap[b]? = some o') (hr : ∀ k, k < w.heap.size → k ≠ b → w'.heap[k]? = w.heap[k]?) : St g w' ((b, o') :: L) := by
 have hnd := List.nodup_cons.1 h.nodup
 refine ⟨h2.trans h.os, h3.trans h.tape, h4.trans h.output, fun k x e => ?_, fun k x hm => ?_, ?_, fun k x hm => ?_⟩
 ·rw [hr k (h.glt e) (fun e' => by subst e'; rw [h.disj _ o (List.mem_cons_self)] at e; cases e)];exact h.imm k x e
 ·rcases List.mem_cons.1 hm with e | e
  ·cases e; exact hb
  ·have hne : k ≠ b := fun e' => hnd.1 (List.mem_map.2 ⟨(k, x), e, e'⟩)
   rw [hr k (h.lt (List.mem_cons_of_mem _ e)) hne];exact h.own k x (List.mem_cons_of_mem _ e)
 ·exact List.nodup_cons.2 ⟨hnd.1, hnd.2⟩
 ·rcases List.mem_cons.1 hm with e | e
  ·cases e; exact h.disj _ o (List.mem_cons_self)
  ·exact h.disj k x (List.mem_cons_of_mem _ e)
theorem St.grow {g : Ghost} {w w' : World} {L : Own} (h : St g w L) (hb : Below w.heap.size w w') : St g w' L :=
 ⟨hb.os.trans h.os, hb.tape.trans h.tape, hb.output.trans h.output, fun b o e => by rw [hb.block b (h.glt e)]; exact h.imm b o e,
  fun b o e => by rw [hb.block b (h.lt e)]; exact h.own b o e, h.nodup, h.disj⟩
def Ghost.add (g : Ghost) (b : Nat) (o : Obj) : Ghost := { g with heap := fun k => if k = b then some o else g.heap k }
theorem St.freeze {g : Ghost} {w : World} {b : Nat} {o : Obj} {L : Own} (h : St g w ((b, o) :: L)) : St (g.add b o) w L ∧ g ≤ g.add b o ∧ (g.add b o).heap b = some o := by
 have hnd := List.nodup_cons.1 h.nodup
 have hn := h.disj b o (List.mem_cons_self)
 refine ⟨⟨h.os, h.tape, h.output, fun k x e => ?_, fun k x hm => h.own k x (List.mem_cons_of_mem _ hm), hnd.2, fun k x hm => ?_⟩, ⟨fun k x e => ?_, rfl, rfl, rfl⟩, by simp [Ghost.add]⟩
 ·simp only [Ghost.add] at e
  split at e
  ·rename_i he; subst he; cases e; exact h.own k o (List.mem_cons_self)
  ·exact h.imm k x e
 ·simp only [Ghost.add];rw [if_neg (fun e => hnd.1 (List.mem_map.2 ⟨(k, x), hm, e⟩))];exact h.disj k x (List.mem_cons_of_mem _ hm)
 ·simp only [Ghost.add];rw [if_neg (fun e' => by subst e'; rw [hn] at e; cases e)];exact e
def Ghost.cell (g : Ghost) (a : Addr) : Option Value :=
 match g.heap a.block with
 | some (.cells c _ _) => if a.spot.isSome then none else c[a.off]?
 | _ => none
theorem St.cellG {g : Ghost} {w : World} {L : Own} (h : St g w L) {a : Addr} {v : Value} (hc : g.cell a = some v) : w.cell? a = some v := by
 unfold Ghost.cell at hc
 unfold World.cell?
 cases hg : g.heap a.block with
 | none => simp [hg] at hc
 | some o => rw [hg] at hc; rw [h.imm _ _ hg]; exact hc
theorem Ghost.Le.cell {g g' : Ghost} (h : g ≤ g') {a : Addr} {v : Value} (hc : g.cell a = some v) : g'.cell a = some v := by
 unfold Ghost.cell at *
 cases hg : g.heap a.block with
 | none => simp [hg] at hc
 | some o => rw [hg] at hc; rw [h.heap _ _ hg]; exact hc
def Xa (l : List Value) (E : TypeId) : Obj := .cells l.toArray E (0, 0)
theorem St.cellL {g : Ghost} {w : World} {L : Own} (h : St g w L) {b : Nat} {l : List Value} {E : TypeId} {i : Nat} {v : Value} (hm : (b, Xa l E) ∈ L) (hi : l[i]? = some v) : w.cell? ⟨b, i, none⟩ = some v := by
 unfold World.cell?
 simp only [h.own _ _ hm, Xa]
 simpa using hi
theorem St.frozenL {g : Ghost} {w : World} {L : Own} (h : St g w L) {b : Nat} {l : List Value} {E : TypeId} {i : Nat} (hm : (b, Xa l E) ∈ L) : w.frozen? ⟨b, i, none⟩ = false := by
 unfold World.frozen?
 simp [h.own _ _ hm, Xa]
theorem heap_setCell_same (w : World) (b i : Nat) (v : Value) (l : List Value) (E : TypeId) (h : w.heap[b]? = some (Xa l E)) : (w.setCell ⟨b, i, none⟩ v).heap[b]? = some (Xa (l.set i v) E) := by
 simp only [World.setCell, Array.getElem?_modify, h, Xa]
 simp
theorem St.setCell {g : Ghost} {w : World} {L : Own} {b : Nat} {l : List Value} {E : TypeId} (h : St g w ((b, Xa l E) :: L)) (i : Nat) (v : Value) :
  St g (w.setCell ⟨b, i, none⟩ v) ((b, Xa (l.set i v) E) :: L) :=
 h.turn rfl rfl rfl (heap_setCell_same w b i v l E (h.own _ _ (List.mem_cons_self))) (fun _ _ hk => Below.heap_setCell _ _ _ _ hk)
theorem perm_front {α : Type} : ∀ (L : List α) (k : Nat) (p : α), L[k]? = some p → (p :: L.eraseIdx k).Perm L
 | [], _, _, h => by simp at h
 | x :: L, 0, p, h => by simp at h; subst h; exact List.Perm.refl _
 | x :: L, k + 1, p, h => by
  simp only [List.getElem?_cons_succ] at h
  simp only [List.eraseIdx_cons_succ];exact (List.Perm.swap x p _).trans ((perm_front L k p h).cons x)
theorem perm_set {α : Type} : ∀ (L : List α) (k : Nat) (p q : α), L[k]? = some p → (L.set k q).Perm (q :: L.eraseIdx k)
 | [], _, _, _, h => by simp at h
 | x :: L, 0, p, q, h => by simp
 | x :: L, k + 1, p, q, h => by
  simp only [List.getElem?_cons_succ] at h
  simp only [List.eraseIdx_cons_succ, List.set_cons_succ];exact ((perm_set L k p q h).cons x).trans (List.Perm.swap q x _)
theorem St.front {g : Ghost} {w : World} {L : Own} (h : St g w L) (k : Nat) {p : Nat × Obj} (hk : L[k]? = some p) : St g w (p :: L.eraseIdx k) := h.perm (perm_front L k p hk)
theorem St.setAt {g : Ghost} {w : World} {L : Own} (k : Nat) {b : Nat} {o o' : Obj} (hk : L[k]? = some (b, o)) (h : St g w ((b, o') :: L.eraseIdx k)) : St g w (L.set k (b, o')) :=
 h.perm (perm_set L k _ _ hk)
theorem Za {α : Type} {L : List α} {k : Nat} {p : α} (h : L[k]? = some p) : p ∈ L := List.mem_of_getElem? h
theorem St.setCellAt {g : Ghost} {w : World} {L : Own} (h : St g w L) (k : Nat) {b : Nat} {l : List Value} {E : TypeId} (hk : L[k]? = some (b, Xa l E)) (i : Nat) (v : Value) :
  St g (w.setCell ⟨b, i, none⟩ v) (L.set k (b, Xa (l.set i v) E)) :=
 ((h.front k hk).setCell i v).setAt k hk
inductive Fr where
 | seq (c : Code)
 | blk (id : Nat)
 | scp (c : Code)
 | rnd (I : Act → World → Prop)
section
variable (P : Program) (ro : Option Nat) (Qb : Exit → Act → World → Prop)
def inScope (Q : Exit → Act → World → Prop) : Exit → Act → World → Prop
 | .goto _, _, _ => False
 | e, a, w => Q e a w
def QQ : List Fr → Exit → Act → World → Prop
 | [] => Qb
 | .seq c :: s => Exit.then (fun a w => c.wpIn (FF ro) 0 P (QQ s) a w) (QQ s)
 | .blk id :: s => Exit.inBlock id (QQ s)
 | .scp _ :: s => inScope (QQ s)
 | .rnd I :: s => Exit.then I (QQ s)
def popTo (id : Nat) : List Fr → Option (List Fr)
 | [] => none
 | .blk id' :: s => bif Nat.beq id id' then some s else popTo id s
 | _ :: s => popTo id s
end
section
variable {P : Program} {ro : Option Nat} {Qb : Exit → Act → World → Prop} {N : Nat} {ds : List Deferred}
def WC (P : Program) (ro : Option Nat) (Qb : Exit → Act → World → Prop) (N : Nat) (ds : List Deferred) (c : Code) (s : List Fr) (ρ : Env) (w : World) : Prop :=
 ∀ a, Fits N ds a ρ → c.wpIn (FF ro) 0 P (QQ P ro Qb s) a w
def WK (P : Program) (ro : Option Nat) (Qb : Exit → Act → World → Prop) (N : Nat) (ds : List Deferred) (s : List Fr) (ρ : Env) (w : World) : Prop :=
 ∀ a, Fits N ds a ρ → QQ P ro Qb s .normal a w
variable {s : List Fr} {ρ : Env} {w : World} {c c₁ c₂ : Code}
theorem Zl (h : WC P ro Qb N ds c s ρ w) : WK P ro Qb N ds (.seq c :: s) ρ w := h
theorem Xh {id : Nat} (h : WK P ro Qb N ds s ρ w) : WK P ro Qb N ds (.blk id :: s) ρ w := h
theorem wk_scp (h : WK P ro Qb N ds s ρ w) : WK P ro Qb N ds (.scp c :: s) ρ w := h
theorem wc_seq (h : WC P ro Qb N ds c₁ (.seq c₂ :: s) ρ w) : WC P ro Qb N ds (.seq c₁ c₂) s ρ w := fun a ha => wpIn_seq (h a ha)
theorem Xq (h : WK P ro Qb N ds s ρ w) : WC P ro Qb N ds .skip s ρ w := fun a ha => wpIn_skip (h a ha)
theorem wc_label {l : Nat} (h : WK P ro Qb N ds s ρ w) : WC P ro Qb N ds (.label l) s ρ w := fun a ha => wpIn_label (h a ha)
theorem Yc {id : Nat} (h : WC P ro Qb N ds c (.blk id :: s) ρ w) : WC P ro Qb N ds (.block id c) s ρ w := fun a ha => wpIn_block (h a ha)
theorem QQ_exit {id : Nat} {s' : List Fr} : ∀ {s : List Fr}, popTo id s = some s' → ∀ a w, QQ P ro Qb s' .normal a w → QQ P ro Qb s (.exit id) a w
 | [], h, _, _, _ => by simp [popTo] at h
 | .blk id' :: s, h, a, w, hq => by
  simp only [popTo, Bool.cond_eq_ite] at h
  split at h
  ·rename_i he;have : id = id' := Nat.eq_of_beq_eq_true he;subst this;simp only [Option.some.injEq] at h
   subst h;simpa [QQ, Exit.inBlock] using hq
  ·rename_i he;have hne : id ≠ id' := fun e => he (by subst e; exact Nat.beq_refl _)
   simp only [QQ, Exit.inBlock, hne, if_false];exact QQ_exit h a w hq
 | .seq c :: s, h, a, w, hq => QQ_exit (s := s) h a w hq
 | .scp c :: s, h, a, w, hq => QQ_exit (s := s) h a w hq
 | .rnd I :: s, h, a, w, hq => QQ_exit (s := s) h a w hq
theorem Zm {id : Nat} {s' : List Fr} (hp : popTo id s = some s') (h : WK P ro Qb N ds s' ρ w) : WC P ro Qb N ds (.exit id) s ρ w :=
 fun a ha => wpIn_exit (QQ_exit hp a w (h a ha))
theorem QQ_ret : ∀ {s : List Fr} (a : Act) (w : World), Qb .ret a w → QQ P ro Qb s .ret a w
 | [], _, _, h => h
 | .blk _ :: s, a, w, h => QQ_ret (s := s) a w h
 | .seq _ :: s, a, w, h => QQ_ret (s := s) a w h
 | .scp _ :: s, a, w, h => QQ_ret (s := s) a w h
 | .rnd _ :: s, a, w, h => QQ_ret (s := s) a w h
theorem wc_ret (h : ∀ a, Fits N ds a ρ → Qb .ret a w) : WC P ro Qb N ds .ret s ρ w := fun a ha => wpIn_ret (QQ_ret a w (h a ha))
theorem wk_nil (h : ∀ a, Fits N ds a ρ → Qb .normal a w) : WK P ro Qb N ds [] ρ w := h
theorem QQ_exitOut {id : Nat} : ∀ {s : List Fr}, popTo id s = none → ∀ a w, Qb (.exit id) a w → QQ P ro Qb s (.exit id) a w
 | [], _, _, _, hq => hq
 | .blk id' :: s, h, a, w, hq => by
  simp only [popTo, Bool.cond_eq_ite] at h
  split at h
  ·simp at h
  ·rename_i he;have hne : id ≠ id' := fun e => he (by subst e; exact Nat.beq_refl _)
   simp only [QQ, Exit.inBlock, hne, if_false];exact QQ_exitOut h a w hq
 | .seq c :: s, h, a, w, hq => QQ_exitOut (s := s) h a w hq
 | .scp c :: s, h, a, w, hq => QQ_exitOut (s := s) h a w hq
 | .rnd I :: s, h, a, w, hq => QQ_exitOut (s := s) h a w hq
theorem wc_exitOut {id : Nat} (hp : popTo id s = none) (h : ∀ a, Fits N ds a ρ → Qb (.exit id) a w) : WC P ro Qb N ds (.exit id) s ρ w :=
 fun a ha => wpIn_exit (QQ_exitOut hp a w (h a ha))
theorem Xi {x : Operand} {b : Bool} (hx : ev ρ x = some (.bool b)) (ht : b = true → WC P ro Qb N ds c₁ s ρ w) (hf : b = false → WC P ro Qb N ds c₂ s ρ w) :
  WC P ro Qb N ds (.cond x c₁ c₂) s ρ w := fun a ha => wpIn_cond_split (Xe ha hx) (fun e => ht e a ha) (fun e => hf e a ha)
theorem wc_condT {x : Operand} {b : Bool} (hx : ev ρ x = some (.bool b)) (hb : b = true) (ht : WC P ro Qb N ds c₁ s ρ w) : WC P ro Qb N ds (.cond x c₁ c₂) s ρ w :=
 Xi hx (fun _ => ht) (fun e => by rw [hb] at e; cases e)
theorem Yy {x : Operand} {b : Bool} (hx : ev ρ x = some (.bool b)) (hb : b = false) (hf : WC P ro Qb N ds c₂ s ρ w) : WC P ro Qb N ds (.cond x c₁ c₂) s ρ w :=
 Xi hx (fun e => by rw [hb] at e; cases e) (fun _ => hf)
theorem Ua {ρ' : Env} (hs : subs ρ' ρ) (h : WK P ro Qb N ds s ρ' w) : WK P ro Qb N ds s ρ w := fun a ha => h a (ha.sub (sub_of hs))
def roundI {σ : Type} (N : Nat) (ds : List Deferred) (ρI : σ → Env) (J : σ → World → Prop) (μ : σ → Nat) (x : σ) (a : Act) (w : World) : Prop :=
 ∃ x', Fits N ds a (ρI x') ∧ J x' w ∧ μ x' < μ x
theorem Ke {σ : Type} (ρI : σ → Env) (J : σ → World → Prop) (μ : σ → Nat) (x₀ : σ) (hρ : subs (ρI x₀) ρ) (h₀ : J x₀ w)
    (hr : ∀ x w, J x w → WC P ro Qb N ds c (.rnd (roundI N ds ρI J μ x) :: s) (ρI x) w) : WC P ro Qb N ds (.loop c) s ρ w := by
  intro a ha b k cs hro hb hr0
  have key : ∀ j x a w, μ x = j → Fits N ds a (ρI x) → J x w →
      ∃ e a' w', QQ P ro Qb s e a' w' ∧ ArrivesIn (Machine.fenced P (FF ro)) P (lone (b.atR a (.code c :: .inLoop c :: k)) cs w) b k cs e a' w' := by
    intro j
    induction j using Nat.strongRecOn with
    | _ j ih =>
      intro x a w hn hf hI;obtain ⟨e, a₁, w₁, hq, harr⟩ := hr x w hI a hf b (.inLoop c :: k) cs hro hb hr0;cases e with
      | normal =>
        obtain ⟨x₁, hf₁, hI₁, hlt⟩ := hq;obtain ⟨e₂, a₂, w₂, hq₂, harr₂⟩ := ih (μ x₁) (hn ▸ hlt) x₁ a₁ w₁ rfl hf₁ hI₁;exact ⟨e₂, a₂, w₂, hq₂, .of_steps (StepsIn.trans harr (.one (fenced_calm hb hr0 rfl) stepR_inLoop)) harr₂⟩
      | exit id => exact ⟨_, a₁, w₁, hq, .pass (x := .inLoop c) rfl (fun _ _ => .inl (by simp)) harr⟩
      | goto l => exact ⟨_, a₁, w₁, hq, .pass (x := .inLoop c) rfl (fun _ _ => .inl (by simp)) harr⟩
      | ret => exact ⟨_, a₁, w₁, hq, .pass (x := .inLoop c) rfl (fun _ _ => .inl (by simp)) harr⟩
      | panic ch => exact ⟨_, a₁, w₁, hq, .pass (x := .inLoop c) rfl (fun _ _ => .inl (by simp)) harr⟩
      | outgrown => exact ⟨_, a₁, w₁, hq, .pass (x := .inLoop c) rfl (fun _ _ => .inl (by simp)) harr⟩
  obtain ⟨e, a', w', hq, harr⟩ := key _ x₀ a w rfl (ha.sub (sub_of hρ)) h₀;exact ⟨e, a', w', hq, .of_steps (.one (fenced_calm hb hr0 rfl) stepR_loop) harr⟩
theorem Uh {σ : Type} {ρI : σ → Env} {J : σ → World → Prop} {μ : σ → Nat} {x : σ} (x' : σ) (hρ : subs (ρI x') ρ) (hj : J x' w) (hμ : μ x' < μ x) :
  WK P ro Qb N ds (.rnd (roundI N ds ρI J μ x) :: s) ρ w := fun _ ha => ⟨x', ha.sub (sub_of hρ), hj, hμ⟩
def meetI {σ : Type} (N : Nat) (ds : List Deferred) (ρI : σ → Env) (J : σ → World → Prop) (a : Act) (w : World) : Prop := ∃ x, Fits N ds a (ρI x) ∧ J x w
theorem wc_meet {σ : Type} (ρI : σ → Env) (J : σ → World → Prop) (h1 : WC P ro Qb N ds c₁ (.rnd (meetI N ds ρI J) :: s) ρ w)
  (h2 : ∀ x w, J x w → WC P ro Qb N ds c₂ s (ρI x) w) : WC P ro Qb N ds (.seq c₁ c₂) s ρ w := by
 intro a ha
 refine wpIn_seq (wpIn_mono (h1 a ha) ?_)
 intro e a' w' q
 cases e with
 | normal => obtain ⟨x, f, j⟩ := q; exact h2 x w' j a' f
 | _ => exact q
theorem Vl {σ : Type} {ρI : σ → Env} {J : σ → World → Prop} (x : σ) (hρ : subs (ρI x) ρ) (hj : J x w) : WK P ro Qb N ds (.rnd (meetI N ds ρI J) :: s) ρ w :=
 fun _ ha => ⟨x, ha.sub (sub_of hρ), hj⟩
end
end
section
open Go.RowKit
inductive Z where
 | int (k : IntKind) | bool | str | ptr | slice | map | fn | iface
def Z.val : Z → Value
 | .int k => .int k 0
 | .bool => .bool false
 | .str => .string ⟨#[]⟩
 | .ptr => .pointer none
 | .slice => .slice none 0 0
 | .map => .map none
 | .fn => .nilFunc
 | .iface => .nilIface
def Z.is : Z → Value → Bool
 | .int k, .int k' n => decide (k = k') && decide (n = 0)
 | .bool, .bool b => !b
 | .str, .string s => s.data.toList.isEmpty
 | .ptr, .pointer none => true
 | .slice, .slice none 0 0 => true
 | .map, .map none => true
 | .fn, .nilFunc => true
 | .iface, .nilIface => true
 | _, _ => false
theorem Z.is_val {z : Z} {v : Value} (h : z.is v = true) : v = z.val := by
 unfold Z.is at h
 split at h <;> try (simp at h; done)
 ·simp at h; simp [Z.val, h]
 ·simp at h; simp [Z.val, h]
 ·rename_i s;cases s with
  | mk d => simp [Z.val] at h ⊢; exact h
 all_goals rfl
inductive TD where
 | int (k : IntKind) | bool | string | pointer (e : Nat) | func | iface
 | slice (e : Nat) | map (k e : Nat)
 | struct (fs : List (Nat × Nat))
 | array (n e : Nat)
def TD.isAgg : TD → Bool
 | .struct _ | .array _ _ => true
 | _ => false
structure TE where
 td : TD
 zs : List Z
 bytes : Nat
abbrev Tab := List (Nat × TE)
def Xc : Tab → Nat → Option TE
 | [], _ => none
 | (t', x) :: r, t => bif Nat.beq t t' then some x else Xc r t
def zsAre : List Z → List Value → Bool
 | [], [] => true
 | z :: zs, v :: vs => z.is v && zsAre zs vs
 | _, _ => false
theorem zsAre_eq : ∀ {zs : List Z} {vs : List Value}, zsAre zs vs = true → vs = zs.map Z.val
 | [], [], _ => rfl
 | [], _ :: _, h => by simp [zsAre] at h
 | _ :: _, [], h => by simp [zsAre] at h
 | z :: zs, v :: vs, h => by
  simp only [zsAre, Bool.and_eq_true] at h
  rw [Z.is_val h.1, zsAre_eq h.2]; rfl
def TE.zcells (x : TE) : List Value := x.zs.map Z.val
def TE.zero (x : TE) : Value :=
 match x.td.isAgg with
 | true => .agg x.zcells.toArray
 | false => (x.zs.head?.map Z.val).getD undef
def TE.zeroIs (x : TE) (v : Value) : Bool :=
 match x.td.isAgg, v with
 | true, .agg cs => zsAre x.zs cs.toList
 | true, _ => false
 | false, v => match x.zs with | [z] => z.is v | _ => false
theorem TE.zeroIs_eq {x : TE} {v : Value} (h : x.zeroIs v = true) : v = x.zero ∧ v.cells = x.zcells.toArray ∧ (x.td.isAgg = false → x.zs.length = 1) := by
 unfold TE.zeroIs at h
 unfold TE.zero
 cases hA : x.td.isAgg with
 | true =>
  rw [hA] at h
  cases v <;> (try simp only at h) <;> try (cases h; done)
  rename_i cs;have := zsAre_eq h;have hc : cs = x.zcells.toArray := by rw [← Array.toArray_toList (xs := cs), this]; rfl
  subst hc;exact ⟨rfl, rfl, fun h => by cases h⟩
 | false =>
  rw [hA] at h
  simp only at h
  cases hz : x.zs with
  | nil => rw [hz] at h; simp at h
  | cons z r =>
   cases r with
   | cons _ _ => rw [hz] at h; simp at h
   | nil =>
    rw [hz] at h
    have := Z.is_val h;subst this;refine ⟨by simp, ?_, fun _ => by simp⟩;simp only [TE.zcells, hz, List.map_cons, List.map_nil];cases z <;> rfl
def TD.fits : TD → TypeDesc → Bool
 | .int k, .int k' => decide (k = k')
 | .bool, .bool | .string, .string | .func, .func .. | .iface, .interface _ => true
 | .pointer e, .pointer e' => Nat.beq e e'
 | .slice e, .slice e' => Nat.beq e e'
 | .map k e, .map k' e' => Nat.beq k k' && Nat.beq e e'
 | .struct fs, .struct fs' => decide (fs'.toList.map (fun f => (f.offset, f.type)) = fs)
 | .array n e, .array n' e' => Nat.beq n n' && Nat.beq e e'
 | _, _ => false
def TE.ok (P : Program) (t : Nat) (x : TE) : Bool :=
  (match P.info? t with
   | some i => Nat.beq i.size x.zs.length && Nat.beq i.bytes x.bytes && (match i.zero with | some v => x.zeroIs v | none => false)
   | none => false) &&
  (match P.underlying t with
   | some d => x.td.fits d
   | none => false)
def Tab.ok (P : Program) (T : Tab) : Bool := T.all fun p => p.2.ok P p.1
class Tabbed (P : Program) where
 tab : Tab
 ok : Tab.ok P tab = true
theorem tabAt_mem : ∀ {T : Tab} {t : Nat} {x : TE}, Xc T t = some x → (t, x) ∈ T
 | [], _, _, h => by simp [Xc] at h
 | (t', x') :: r, t, x, h => by
  simp only [Xc, Bool.cond_eq_ite] at h
  split at h
  ·rename_i he;have : t = t' := Nat.eq_of_beq_eq_true he;subst this;simp only [Option.some.injEq] at h
   subst h;exact List.mem_cons_self
  ·exact List.mem_cons_of_mem _ (tabAt_mem h)
section
variable {P : Program} [Tabbed P]
abbrev tb (P : Program) [Tabbed P] : Tab := Tabbed.tab P
theorem tab_ok {t : Nat} {x : TE} (h : Xc (tb P) t = some x) : x.ok P t = true := List.all_eq_true.1 (Tabbed.ok (P := P)) _ (tabAt_mem h)
theorem Um {t : Nat} {x : TE} (h : Xc (tb P) t = some x) : ∃ i, P.info? t = some i ∧ i.size = x.zs.length ∧ i.bytes = x.bytes ∧ i.zero = some x.zero ∧ x.zero.cells = x.zcells.toArray := by
 have := tab_ok h
 unfold TE.ok at this
 simp only [Bool.and_eq_true] at this
 have h1 := this.1
 cases hi : P.info? t with
 | none => rw [hi] at h1; simp at h1
 | some i =>
  rw [hi] at h1
  simp only [Bool.and_eq_true] at h1
  cases hz : i.zero with
  | none => rw [hz] at h1; simp at h1
  | some v =>
   rw [hz] at h1
   have hv := TE.zeroIs_eq h1.2;exact ⟨i, rfl, Nat.eq_of_beq_eq_true h1.1.1, Nat.eq_of_beq_eq_true h1.1.2, by rw [hz, hv.1], by rw [← hv.1]; exact hv.2.1⟩
theorem tab_und {t : Nat} {x : TE} (h : Xc (tb P) t = some x) : ∃ d, P.underlying t = some d ∧ x.td.fits d = true := by
 have := tab_ok h
 unfold TE.ok at this
 simp only [Bool.and_eq_true] at this
 have h1 := this.2
 cases hd : P.underlying t with
 | none => rw [hd] at h1; simp at h1
 | some d => rw [hd] at h1; exact ⟨d, rfl, h1⟩
theorem Zf {t e : Nat} {x : TE} (h : Xc (tb P) t = some x) (hd : x.td = .slice e) : P.underlying t = some (.slice e) := by
 obtain ⟨d, h1, h2⟩ := tab_und h
 rw [hd] at h2
 cases d <;> simp [TD.fits] at h2
 rw [h1, h2]
theorem und_map {t k e : Nat} {x : TE} (h : Xc (tb P) t = some x) (hd : x.td = .map k e) : P.underlying t = some (.map k e) := by
 obtain ⟨d, h1, h2⟩ := tab_und h
 rw [hd] at h2
 cases d <;> simp [TD.fits] at h2
 rw [h1, h2.1, h2.2]
theorem und_array {t n e : Nat} {x : TE} (h : Xc (tb P) t = some x) (hd : x.td = .array n e) : P.underlying t = some (.array n e) := by
 obtain ⟨d, h1, h2⟩ := tab_und h
 rw [hd] at h2
 cases d <;> simp [TD.fits] at h2
 rw [h1, h2.1, h2.2]
theorem und_int {t : Nat} {k : IntKind} {x : TE} (h : Xc (tb P) t = some x) (hd : x.td = .int k) : P.underlying t = some (.int k) := by
 obtain ⟨d, h1, h2⟩ := tab_und h
 rw [hd] at h2
 cases d <;> simp [TD.fits] at h2
 rw [h1, h2]
theorem Qs {t : Nat} {fs : List (Nat × Nat)} {x : TE} (h : Xc (tb P) t = some x) (hd : x.td = .struct fs) :
  ∃ l : Array Field, P.underlying t = some (.struct l) ∧ l.toList.map (fun f => (f.offset, f.type)) = fs := by
 obtain ⟨d, h1, h2⟩ := tab_und h
 rw [hd] at h2
 cases d <;> simp [TD.fits] at h2
 exact ⟨_, h1, by simpa using h2⟩
variable (w : World)
omit [Tabbed P] in
theorem Xu {t : Nat} {d : TypeDesc} (h : P.underlying t = some d) : (underlying t).run P w = .ok d w := by simp [underlying, h]
omit [Tabbed P] in
theorem Kg {t : Nat} {i : TypeInfo} (h : P.info? t = some i) : (typeInfo t).run P w = .ok i w := by simp [typeInfo, h]
theorem Yn {t : Nat} {x : TE} (h : Xc (tb P) t = some x) : (sizeOf t).run P w = .ok x.zs.length w := by
 obtain ⟨i, hi, hs, _⟩ := Um h
 simp [sizeOf, Kg w hi, hs]
theorem Vs {t : Nat} {x : TE} (h : Xc (tb P) t = some x) : (zeroValue t).run P w = .ok x.zero w := by
 obtain ⟨i, hi, _, _, hz, _⟩ := Um h
 simp [zeroValue, Kg w hi, hz]
theorem run_agg {t : Nat} {x : TE} (h : Xc (tb P) t = some x) : (isAgg t).run P w = .ok x.td.isAgg w := by
 obtain ⟨d, hd, hf⟩ := tab_und h
 simp only [isAgg, Sem.run_bind, Xu w hd, Result.andThen_ok]
 cases hx : x.td <;> rw [hx] at hf <;> cases d <;> simp [TD.fits] at hf <;> simp [TD.isAgg]
omit [Tabbed P] in
theorem run_load1 {a : Addr} {v : Value} (h : w.cell? a = some v) : (load a).run P w = .ok v w := by simp [h]
theorem run_loadVar1 {t : Nat} {x : TE} (h : Xc (tb P) t = some x) (hA : x.td.isAgg = false) {a : Addr} {v : Value} (hc : w.cell? a = some v) : (loadVar t a).run P w = .ok v w := by
 simp [loadVar, run_agg w h, hA, hc]
omit [Tabbed P] in
theorem run_loadCellsL (a : Addr) : ∀ (cs : List Value) (i : Nat) (acc : Array Value), (∀ j v, cs[j]? = some v → w.cell? (a.add (i + j)) = some v) →
  (loadCellsFrom a i cs.length acc).run P w = .ok (acc ++ cs.toArray) w
 | [], i, acc, _ => by simp [loadCellsFrom]
 | v :: cs, i, acc, h => by
  have h0 := h 0 v (by simp);simp only [List.length_cons, loadCellsFrom, Sem.run_bind, run_load1 (P := P) w (by simpa using h0), Result.andThen_ok];rw [run_loadCellsL a cs (i + 1) (acc.push v) (fun j u hu => by have := h (j + 1) u (by simpa using hu); rwa [show i + (j + 1) = i + 1 + j by omega] at this)];simp
theorem Qa {t : Nat} {x : TE} (h : Xc (tb P) t = some x) (hA : x.td.isAgg = true) {a : Addr} {cs : List Value} (hl : cs.length = x.zs.length) (hc : ∀ j v, cs[j]? = some v → w.cell? (a.add j) = some v) :
  (loadVar t a).run P w = .ok (.agg cs.toArray) w := by
 simp only [loadVar, Sem.run_bind, run_agg w h, hA, if_true, Yn w h, loadCells, Result.andThen_ok, ← hl]
 rw [run_loadCellsL w a cs 0 #[] (fun j v hv => by simpa using hc j v hv)]
 simp
end
def cmpV : BinOp → Int → Int → Option Value
 | .eql, x, y => some (.bool (x == y))
 | .neq, x, y => some (.bool (x != y))
 | .lss, x, y => some (.bool (x < y))
 | .leq, x, y => some (.bool (x ≤ y))
 | .gtr, x, y => some (.bool (x > y))
 | .geq, x, y => some (.bool (x ≥ y))
 | _, _, _ => none
def binV : BinOp → Value → Value → Option Value
 | op, .int k a, .int k' b => if k = k' then cmpV op a b else none
 | _, _, _ => none
def fieldsOf (T : Tab) (t : Nat) : Option (List (Nat × Nat)) :=
 match Xc T t with
 | some ⟨.struct fs, _, _⟩ => some fs
 | _ => none
def fieldAt (T : Tab) (t j : Nat) : Option (Nat × TE) :=
 match fieldsOf T t with
 | some fs => match fs[j]? with
  | some (off, ft) => match Xc T ft with
   | some x => some (off, x)
   | none => none
  | none => none
 | none => none
def partV (x : TE) (cs : Array Value) (off : Nat) : Option Value :=
 match x.td.isAgg with
 | true => some (.agg (cs.extract off (off + x.zs.length)))
 | false => cs[off]?
def lenV (T : Tab) (t : Nat) : Value → Option Value
 | .slice _ n _ => match Xc T t with
  | some ⟨.slice _, _, _⟩ => some (.int .i64 n)
  | _ => none
 | _ => none
def pureV (T : Tab) (ρ : Env) : Op → Option Value
 | .move x => ev ρ x
 | .assign x => ev ρ x
 | .pick c a b => match ev ρ c with
  | some (.bool true) => ev ρ a
  | some (.bool false) => ev ρ b
  | _ => none
 | .binOp op _ x y _ => match ev ρ x, ev ρ y with
  | some a, some b => binV op a b
  | _, _ => none
 | .unOp .not _ x => match ev ρ x with
  | some (.bool b) => some (.bool !b)
  | _ => none
 | .nilCheck x => match ev ρ x with
  | some (.pointer (some a)) => some (.pointer (some a))
  | some (.func (.func f) u c) => some (.func (.func f) u c)
  | some (.func (.yield l) u c) => some (.func (.yield l) u c)
  | _ => none
 | .fieldAddr s x j => match ev ρ x, fieldAt T s j with
  | some (.pointer (some a)), some (off, y) => if y.zs.length = 0 then none else some (.pointer (some (a.add off)))
  | _, _ => none
 | .field s x j => match ev ρ x, fieldAt T s j with
  | some (.agg cs), some (off, y) => partV y cs off
  | _, _ => none
 | .extract x i => match ev ρ x with
  | some (.tuple vs) => vs[i]?
  | _ => none
 | .makeFunc fn first captured => match evs ρ first.toList, evs ρ captured.toList with
  | some a, some b => some (.func fn a.toArray b.toArray)
  | _, _ => none
 | .call ⟨.builtin .len, args, argTypes⟩ => match args.toList, argTypes.toList with
  | [x], [t] => match ev ρ x with
   | some v => lenV T t v
   | none => none
  | _, _ => none
 | _ => none
section
variable {P : Program} [Tabbed P]
def OpV (P : Program) (o : Oper) (ρ : Env) (w : World) (v : Value) : Prop := ∀ N ds a, Fits N ds a ρ → (execOp a.eval o).run P w = .ok (.value v) w
theorem fieldAt_spec {s j off : Nat} {y : TE} (h : fieldAt (tb P) s j = some (off, y)) :
  ∃ (l : Array Field) (f : Field), P.underlying s = some (.struct l) ∧ l[j]? = some f ∧ f.offset = off ∧ Xc (tb P) f.type = some y := by
 unfold fieldAt fieldsOf at h
 cases hx : Xc (tb P) s with
 | none => simp [hx] at h
 | some x =>
  obtain ⟨td, zs, bytes⟩ := x;rw [hx] at h
  cases td <;> (try simp only at h) <;> try (cases h; done)
  rename_i fs;obtain ⟨l, h1, h2⟩ := Qs (fs := fs) hx rfl;cases hf : fs[j]? with
  | none => rw [hf] at h; cases h
  | some p =>
   obtain ⟨o', ft⟩ := p;rw [hf] at h
   simp only at h
   cases hy : Xc (tb P) ft with
   | none => rw [hy] at h; cases h
   | some y' =>
    rw [hy] at h
    simp only [Option.some.injEq, Prod.mk.injEq] at h
    rw [← h2] at hf
    simp only [List.getElem?_map, Option.map_eq_some_iff] at hf
    obtain ⟨f, hf1, hf2⟩ := hf;simp only [Prod.mk.injEq] at hf2
    exact ⟨l, f, h1, by simpa using hf1, hf2.1.trans h.1, by rw [hf2.2, hy, h.2]⟩
theorem pureV_ok {ρ : Env} {op : Op} {v : Value} (h : pureV (tb P) ρ op = some v) (w : World) (dst : Option Tmp) (ty : TypeId) (pos : String) (after : Array Edge) (guard : Option (Nat × Bool)) :
  OpV P ⟨dst, op, ty, pos, after, guard⟩ ρ w v := by
 intro N ds a ha
 cases op <;> simp only [pureV] at h <;> try (cases h; done)
 case move x => simp [execOp, Xe ha h]
 case assign x => simp [execOp, Xe ha h]
 case pick c x y =>
  cases hc : ev ρ c with
  | none => simp [hc] at h
  | some u =>
   rw [hc] at h
   cases u <;> (try simp only at h) <;> try (cases h; done)
   rename_i b;cases b <;> simp only at h <;> simp [execOp, Xe ha hc, Xe ha h, asBool]
 case binOp op t x y t2 =>
  cases hx : ev ρ x with
  | none => simp [hx] at h
  | some u =>
   cases hy : ev ρ y with
   | none => simp [hx, hy] at h
   | some z =>
    simp only [hx, hy] at h
    cases u <;> simp only [binV] at h <;> try (cases h; done)
    cases z <;> (try simp only at h) <;> try (cases h; done)
    rename_i k n k' n'
    split at h
    ·rename_i hk;subst hk;cases op <;> simp only [cmpV, Option.some.injEq] at h <;> (try (cases h; done)) <;> subst h <;> simp [execOp, Xe ha hx, Xe ha hy, eqGuard, binOp, Op.intCmp]
    ·cases h
 case unOp op t x =>
  cases op <;> (try simp only at h) <;> try (cases h; done)
  cases hx : ev ρ x with
  | none => simp [hx] at h
  | some u =>
   rw [hx] at h
   cases u <;> (try simp only at h) <;> try (cases h; done)
   simp only [Option.some.injEq] at h
   subst h;simp [execOp, Xe ha hx, Op.unary]
 case nilCheck x =>
  cases hx : ev ρ x with
  | none => simp [hx] at h
  | some u =>
   rw [hx] at h
   cases u <;> (try simp only at h) <;> try (cases h; done)
   ·rename_i p;cases p <;> (try simp only at h) <;> try (cases h; done)
    simp only [Option.some.injEq] at h
    subst h;simp [execOp, Xe ha hx]
   ·rename_i fn u c;cases fn <;> (try simp only at h) <;> try (cases h; done)
    all_goals
     simp only [Option.some.injEq] at h
     subst h;simp [execOp, Xe ha hx]
 case fieldAddr s x j =>
  cases hx : ev ρ x with
  | none => simp [hx] at h
  | some u =>
   cases hf : fieldAt (tb P) s j with
   | none => cases u <;> simp [hx, hf] at h
   | some p =>
    obtain ⟨off, y⟩ := p;simp only [hx, hf] at h
    cases u <;> (try simp only at h) <;> try (cases h; done)
    rename_i ad;cases ad <;> (try simp only at h) <;> try (cases h; done)
    split at h
    ·cases h
    ·rename_i hn;simp only [Option.some.injEq] at h
     subst h;obtain ⟨l, f, h1, h2, h3, h4⟩ := fieldAt_spec hf;simp [execOp, Xe ha hx, Instr.fieldAt, Xu w h1, h2, Instr.sureAddr, fieldPlace, Yn w h4, hn, h3]
 case field s x j =>
  cases hx : ev ρ x with
  | none => simp [hx] at h
  | some u =>
   cases hf : fieldAt (tb P) s j with
   | none => cases u <;> simp [hx, hf] at h
   | some p =>
    obtain ⟨off, y⟩ := p;simp only [hx, hf] at h
    cases u <;> (try simp only at h) <;> try (cases h; done)
    rename_i cs;obtain ⟨l, f, h1, h2, h3, h4⟩ := fieldAt_spec hf;unfold partV at h
    cases hA : y.td.isAgg <;> rw [hA] at h <;> simp only at h
    ·simp [execOp, Xe ha hx, Instr.field, Xu w h1, h2, asAgg, part, run_agg w h4, hA, h3, h]
    ·simp only [Option.some.injEq] at h
     subst h;simp [execOp, Xe ha hx, Instr.field, Xu w h1, h2, asAgg, part, run_agg w h4, hA, h3, Yn w h4]
 case extract x i =>
  cases hx : ev ρ x with
  | none => simp [hx] at h
  | some u =>
   rw [hx] at h
   cases u <;> (try simp only at h) <;> try (cases h; done)
   simp [execOp, Xe ha hx, Instr.extract, h]
 case makeFunc fn first captured =>
  cases h1 : evs ρ first.toList with
  | none => simp [h1] at h
  | some xs =>
   cases h2 : evs ρ captured.toList with
   | none => simp [h1, h2] at h
   | some ys =>
    simp only [h1, h2, Option.some.injEq] at h
    subst h;have e1 : first.map a.eval = xs.toArray := by rw [← evs_eval ha h1, ← Array.toList_map, Array.toArray_toList]
    have e2 : captured.map a.eval = ys.toArray := by rw [← evs_eval ha h2, ← Array.toList_map, Array.toArray_toList]
    simp [execOp, Instr.makeFunc, e1, e2]
 case call c =>
  obtain ⟨callee, args, argTypes⟩ := c;cases callee <;> (try simp only at h) <;> try (cases h; done)
  rename_i b;cases b <;> (try simp only at h) <;> try (cases h; done)
  cases args with
  | mk args =>
   cases argTypes with
   | mk argTypes =>
    simp only at h
    split at h
    ·rename_i _ _ x t;cases hx : ev ρ x with
     | none => simp [hx] at h
     | some u =>
      rw [hx] at h
      simp only at h
      cases u <;> (try simp only [lenV] at h) <;> try (cases h; done)
      rename_i ad n cap;cases ht : Xc (tb P) t with
      | none => simp [ht] at h
      | some y =>
       obtain ⟨td, zs, bytes⟩ := y;rw [ht] at h
       cases td <;> (try simp only at h) <;> try (cases h; done)
       rename_i e;simp only [Option.some.injEq] at h
       subst h;have hu := Zf (e := e) ht rfl;simp [execOp, resolve, invoke, builtin, Builtin.len_, Xe ha hx, Xu w hu, goInt]
    ·cases h
end
end
section
open Go.RowKit
section
variable {P : Program} {ro : Option Nat} {Qb : Exit → Act → World → Prop} {N : Nat} {ds : List Deferred} {ops : Array Oper} {l rest : List Oper} {s : List Fr} {ρ : Env} {w : World} {o : Oper}
def WL (P : Program) (ro : Option Nat) (Qb : Exit → Act → World → Prop) (N : Nat) (ds : List Deferred) (ops : Array Oper) (l : List Oper) (s : List Fr) (ρ : Env) (w : World) : Prop :=
 ∀ a, Fits N ds a ρ → wpListIn (FF ro) 0 P ops (QQ P ro Qb s) l a w
theorem Ko {id : Nat} (h : WL P ro Qb N ds l.toArray l s ρ w) : WC P ro Qb N ds (.region id l.toArray false) s ρ w := fun a ha => wpIn_region_lit (h a ha)
theorem Xn (h : WK P ro Qb N ds s ρ w) : WL P ro Qb N ds ops [] s ρ w := h
def Xl (ops : Array Oper) (ρ : Env) : Option (Nat × Bool) → Option Bool
 | none => some true
 | some (j, b) => match (ops[j]?).bind (·.dst) with
  | some d => match Ye ρ d with
   | some (.bool c) => some (c == b)
   | some (.tuple _) => some false
   | _ => none
  | none => none
theorem Uw {a : Act} (ha : Fits N ds a ρ) {b : Bool} (h : Xl ops ρ o.guard = some b) : Region.wanted o (yielded ops a.tmps) = b := by
 unfold Region.wanted
 cases hg : o.guard with
 | none => rw [hg] at h; simpa [Xl] using h
 | some p =>
  obtain ⟨j, b'⟩ := p;rw [hg] at h
  simp only [Xl] at h
  unfold yielded;cases hd : (ops[j]?).bind (·.dst) with
  | none => simp [hd] at h
  | some d =>
   simp only [hd] at h
   cases hl : Ye ρ d with
   | none => simp [hl] at h
   | some v =>
    rw [hl] at h
    cases v <;> simp only at h <;> try (cases h; done)
    ·rename_i c;simp only [Option.some.injEq] at h
     have e : (Option.bind (some d) fun x => a.tmps[x]?) = some (.bool c) := ha.at_ d _ hl;rw [← h]
     show ((match (ops[j]?.bind fun x => x.dst).bind fun x => a.tmps[x]? with | some (.bool b) => some b | _ => none) == some b') = _
     rw [hd, e];cases c <;> cases b' <;> rfl
    ·rename_i c;simp only [Option.some.injEq] at h
     have e : (Option.bind (some d) fun x => a.tmps[x]?) = some (.tuple c) := ha.at_ d _ hl;rw [← h]
     show ((match (ops[j]?.bind fun x => x.dst).bind fun x => a.tmps[x]? with | some (.bool b) => some b | _ => none) == some b') = _
     rw [hd, e];rfl
theorem Vb (a : Act) (w : World) : ∀ f, o.about P w a.eval = some f → (FF ro).fn f := fun _ _ => trivial
theorem Jq {a : Act} (h : ∀ c, o.op ≠ .defer c) : o.semAt (FF ro).round a.eval = execOp a.eval o := Oper.semAt_eq _ _ _ h
theorem notDefer_value {a : Act} {v : Value} {w' : World} (h : (execOp a.eval o).run P w = .ok (.value v) w') : ∀ c, o.op ≠ .defer c := by
 intro c hc
 simp only [execOp, hc, Sem.run_bind] at h
 cases hr : (resolve a.eval c o.type).run P w with
 | ok d w2 => rw [hr] at h; simp at h
 | halt x w2 => rw [hr] at h; simp at h
theorem notDefer_skip {a : Act} {w' : World} (h : (execOp a.eval o).run P w = .ok .skip w') : ∀ c, o.op ≠ .defer c := by
 intro c hc
 simp only [execOp, hc, Sem.run_bind] at h
 cases hr : (resolve a.eval c o.type).run P w with
 | ok d w2 => rw [hr] at h; simp at h
 | halt x w2 => rw [hr] at h; simp at h
theorem Qg {a : Act} {f : FuncId} {args : Array Value} {w' : World} (h : (execOp a.eval o).run P w = .ok (.enter f args) w') : ∀ c, o.op ≠ .defer c := by
 intro c hc
 simp only [execOp, hc, Sem.run_bind] at h
 cases hr : (resolve a.eval c o.type).run P w with
 | ok d w2 => rw [hr] at h; simp at h
 | halt x w2 => rw [hr] at h; simp at h
theorem wl_do {d : Nat} {R : Value → World → Prop} (hd : o.dst = some d) (hn : Nat.blt d N = true) (hw : Xl ops ρ o.guard = some true)
  (hr : ∀ a, Fits N ds a ρ → ∃ v w', (execOp a.eval o).run P w = .ok (.value v) w' ∧ R v w')
  (h : ∀ v w', R v w' → WL P ro Qb N ds ops rest s ((d, v) :: ρ) w') : WL P ro Qb N ds ops (o :: rest) s ρ w := by
 intro a ha
 obtain ⟨v, w', hv, hR⟩ := hr a ha
 simp only [wpListIn, Uw ha hw, if_true, Oper.wpIn]
 refine ⟨Vb a w, ?_⟩
 rw [Jq (notDefer_value hv), hv]
 show wpListIn _ _ _ _ _ rest (a.put o.dst v) w'
 rw [hd]
 exact h v w' hR _ (ha.put d v hn)
theorem wl_doN {R : World → Prop} (hd : o.dst = none) (hw : Xl ops ρ o.guard = some true)
  (hr : ∀ a, Fits N ds a ρ → ∃ w', (execOp a.eval o).run P w = .ok .skip w' ∧ R w')
  (h : ∀ w', R w' → WL P ro Qb N ds ops rest s ρ w') : WL P ro Qb N ds ops (o :: rest) s ρ w := by
 intro a ha
 obtain ⟨w', hv, hR⟩ := hr a ha
 simp only [wpListIn, Uw ha hw, if_true, Oper.wpIn]
 refine ⟨Vb a w, ?_⟩
 rw [Jq (notDefer_skip hv), hv]
 show wpListIn _ _ _ _ _ rest (a.put o.dst undef) w'
 rw [hd]
 exact h w' hR _ ha
theorem Zb {d : Nat} {v : Value} (hv : OpV P o ρ w v) (hd : o.dst = some d) (hn : Nat.blt d N = true) (hw : Xl ops ρ o.guard = some true)
  (h : WL P ro Qb N ds ops rest s ((d, v) :: ρ) w) : WL P ro Qb N ds ops (o :: rest) s ρ w :=
 wl_do (R := fun v' w' => v' = v ∧ w' = w) hd hn hw (fun a ha => ⟨v, w, hv _ _ a ha, rfl, rfl⟩) (fun _ _ e => by rw [e.1, e.2]; exact h)
theorem Ji {d : Nat} (hd : o.dst = some d) (hn : Nat.blt d N = true) (hw : Xl ops ρ o.guard = some false)
  (h : WL P ro Qb N ds ops rest s ((d, undef) :: ρ) w) : WL P ro Qb N ds ops (o :: rest) s ρ w := by
 intro a ha
 simp only [wpListIn, Uw ha hw, Bool.false_eq_true, if_false]
 refine ⟨Vb a w, ?_⟩
 rw [hd]
 exact h _ (ha.put d undef hn)
theorem Xr (d : Nat) {c : Bool} (h : Ye ρ d = some (.bool c)) (ht : c = true → WL P ro Qb N ds ops l s ((d, .bool true) :: ρ) w) (hf : c = false → WL P ro Qb N ds ops l s ((d, .bool false) :: ρ) w) : WL P ro Qb N ds ops l s ρ w := by
 have key : ∀ b, c = b → WL P ro Qb N ds ops l s ((d, .bool b) :: ρ) w → WL P ro Qb N ds ops l s ρ w := fun b e hh a ha => hh a (ha.sub fun k v hk => by
  simp only [Ye, Bool.cond_eq_ite] at hk
  split at hk
  ·rename_i he;have := Nat.eq_of_beq_eq_true he;subst this;subst e;rw [h]; exact hk
  ·exact hk)
 cases c with
 | true => exact key true rfl (ht rfl)
 | false => exact key false rfl (hf rfl)
variable [Tabbed P]
theorem wl_p {d : Nat} {op : Op} {ty : TypeId} {pos : String} {after : Array Edge} {guard : Option (Nat × Bool)} {v : Value}
  (hv : pureV (tb P) ρ op = some v) (hn : Nat.blt d N = true) (hw : Xl ops ρ guard = some true)
  (h : WL P ro Qb N ds ops rest s ((d, v) :: ρ) w) : WL P ro Qb N ds ops (⟨some d, op, ty, pos, after, guard⟩ :: rest) s ρ w :=
 Zb (pureV_ok hv w _ _ _ _ _) rfl hn hw h
end
section
variable {P : Program}
structure Cl (P : Program) (f : FuncId) (vs : List Value) (g : Ghost) (L : Own) (post : Ghost → Own → Value → Prop) : Prop where
 enters : Go.Proofs.Enters P f
 call : ∀ w F, St g w (L ++ F) → Calls P f vs.toArray w fun e w' => ∃ v g' L', e = .returned v ∧ g ≤ g' ∧ St g' w' (L' ++ F) ∧ post g' L' v
theorem Cl.mono {f : FuncId} {vs : List Value} {g : Ghost} {L : Own} {post post' : Ghost → Own → Value → Prop} (h : Cl P f vs g L post)
  (hp : ∀ g' L' v, g ≤ g' → post g' L' v → post' g' L' v) : Cl P f vs g L post' :=
 ⟨h.enters, fun w F hs => (h.call w F hs).mono fun _ _ ⟨v, g', L', e1, e2, e3, e4⟩ => ⟨v, g', L', e1, e2, e3, hp g' L' v e2 e4⟩⟩
theorem calls_in (ro : Option Nat) {f : FuncId} {args : Array Value} {w : World} {R : Ending → World → Prop} (h : Calls P f args w R) : CallsIn (FF ro) 0 P f args w R := by
 have h1 : CallsIn Fence.wide 0 P f args w R := callsIn_wide.2 h
 cases ro with
 | none => exact h1
 | some l => exact CallsIn.inRound l h1
def Zy (ρ : Env) (c : Call) : Option (FuncId × List Value) :=
 match c.callee with
 | .value x => match ev ρ x, evs ρ c.args.toList with
  | some (.func (.func f) first captured), some vs => some (f, first.toList ++ vs ++ captured.toList)
  | _, _ => none
 | _ => none
theorem calleeOf_run {ρ : Env} {c : Call} {f : FuncId} {vs : List Value} (h : Zy ρ c = some (f, vs)) (he : Go.Proofs.Enters P f) {N : Nat} {ds : List Deferred} {a : Act} (ha : Fits N ds a ρ) (w : World)
  (dst : Option Tmp) (ty : TypeId) (pos : String) (after : Array Edge) (guard : Option (Nat × Bool)) :
  (execOp a.eval ⟨dst, .call c, ty, pos, after, guard⟩).run P w = .ok (.enter f vs.toArray) w := by
 unfold Zy at h
 obtain ⟨callee, args, argTypes⟩ := c
 cases callee <;> simp only at h <;> try (cases h; done)
 rename_i x
 cases hx : ev ρ x with
 | none => simp [hx] at h
 | some u =>
  cases hv : evs ρ args.toList with
  | none => cases u <;> simp [hx, hv] at h
  | some us =>
   simp only [hx, hv] at h
   cases u <;> (try simp only at h) <;> try (cases h; done)
   rename_i fn first captured
   cases fn <;> (try simp only at h) <;> try (cases h; done)
   simp only [Option.some.injEq, Prod.mk.injEq] at h
   obtain ⟨rfl, rfl⟩ := h;have e1 : args.map a.eval = us.toArray := by rw [← evs_eval ha hv, ← Array.toList_map, Array.toArray_toList]
   simp only [execOp, resolve, Xe ha hx, e1, Deferred.ofValue, Sem.run_bind, Sem.run_pure, Result.andThen_ok, invoke];rw [he]
   congr 2
   apply Array.ext';simp
variable {ro : Option Nat} {Qb : Exit → Act → World → Prop} {N : Nat} {ds : List Deferred} {ops : Array Oper} {rest : List Oper} {s : List Fr} {ρ : Env} {w : World}
theorem wl_callR {d : Nat} {c : Call} {ty : TypeId} {pos : String} {after : Array Edge} {guard : Option (Nat × Bool)} {f : FuncId} {vs : List Value} {R : Value → World → Prop}
  (hc : Zy ρ c = some (f, vs)) (hn : Nat.blt d N = true) (hw : Xl ops ρ guard = some true) (he : Go.Proofs.Enters P f)
  (hcl : Calls P f vs.toArray w fun e w' => ∃ v, e = .returned v ∧ R v w')
  (h : ∀ v w', R v w' → WL P ro Qb N ds ops rest s ((d, v) :: ρ) w') :
  WL P ro Qb N ds ops (⟨some d, .call c, ty, pos, after, guard⟩ :: rest) s ρ w := by
 intro a ha
 have hrun := calleeOf_run hc he ha w (some d) ty pos after guard
 simp only [wpListIn]
 rw [if_pos (Uw (o := ⟨some d, .call c, ty, pos, after, guard⟩) ha hw)]
 refine ⟨Vb a w, ?_⟩
 rw [Jq (Qg hrun), hrun]
 refine ⟨fun h => by simp [FF] at h, calls_in ro (hcl.mono ?_)⟩
 rintro e w' ⟨v, rfl, hR⟩
 exact h v w' hR _ (ha.put d v hn)
theorem Xf {d : Nat} {c : Call} {ty : TypeId} {pos : String} {after : Array Edge} {guard : Option (Nat × Bool)} {f : FuncId} {vs : List Value} {g : Ghost} {L F : Own} {post : Ghost → Own → Value → Prop}
  (hc : Zy ρ c = some (f, vs)) (hn : Nat.blt d N = true) (hw : Xl ops ρ guard = some true) (hst : St g w (L ++ F)) (hcl : Cl P f vs g L post)
  (h : ∀ v g' L' w', g ≤ g' → St g' w' (L' ++ F) → post g' L' v → WL P ro Qb N ds ops rest s ((d, v) :: ρ) w') :
  WL P ro Qb N ds ops (⟨some d, .call c, ty, pos, after, guard⟩ :: rest) s ρ w :=
 wl_callR (R := fun v w' => ∃ g' L', g ≤ g' ∧ St g' w' (L' ++ F) ∧ post g' L' v) hc hn hw hcl.enters
  ((hcl.call w F hst).mono fun _ _ ⟨v, g', L', e1, e2, e3, e4⟩ => ⟨v, e1, g', L', e2, e3, e4⟩)
  (fun v w' ⟨g', L', e2, e3, e4⟩ => h v g' L' w' e2 e3 e4)
def envOf : Nat → List Value → Env
 | _, [] => []
 | k, v :: vs => (k, v) :: envOf (k + 1) vs
theorem Js : ∀ (vs : List Value) (k j : Nat) (v : Value), Ye (envOf k vs) j = some v → k ≤ j ∧ vs[j - k]? = some v
 | [], k, j, v, h => by simp [envOf, Ye] at h
 | u :: vs, k, j, v, h => by
  simp only [envOf, Ye, Bool.cond_eq_ite] at h
  split at h
  ·rename_i he;have : j = k := Nat.eq_of_beq_eq_true he;subst this;simpa using h
  ·have := Js vs (k + 1) j v h;refine ⟨by omega, ?_⟩;rw [show j - k = (j - (k + 1)) + 1 by omega];simpa using this.2
def RetQ (P : Program) (fn : Func) (R : Value → World → Prop) : Exit → Act → World → Prop := bodyPost P fn fun e w' => ∃ v, e = .returned v ∧ R v w'
theorem Xj {f : FuncId} {fn : Func} {c : Code} {vs : List Value} {g : Ghost} {L : Own} {post : Ghost → Own → Value → Prop} (hf : P.funcs[f]? = some fn) (hb : fn.body = some c)
  (hname : (fn.name == "runtime.NumGoroutine") = false) (hN : fn.ntmps = N) (hv : Nat.ble vs.length N = true)
  (h : ∀ w F, St g w (L ++ F) → WC P none (RetQ P fn fun v w' => ∃ g' L', g ≤ g' ∧ St g' w' (L' ++ F) ∧ post g' L' v) N [] c [] (envOf 0 vs) w) : Cl P f vs g L post := by
 refine ⟨Go.Proofs.enters_of hf hname hb, fun w F hs => ?_⟩
 have h1 : CallsIn Fence.wide 0 P f vs.toArray w fun e w' => ∃ v, e = .returned v ∧ ∃ g' L', g ≤ g' ∧ St g' w' (L' ++ F) ∧ post g' L' v := by
  refine callsIn_of_wp hf hb trivial (h w F hs _ ⟨?_, rfl, fun k v hk => ?_⟩)
  ·have hv' : vs.length ≤ N := by simpa using hv
   simp [hN]; omega
  ·obtain ⟨_, h2⟩ := Js _ _ _ _ hk
   have hlt : k < vs.length := by
    rcases Nat.lt_or_ge k vs.length with h | h
    ·exact h
    ·simp [List.getElem?_eq_none h] at h2
   simp only [Array.getElem?_append];rw [if_pos (by simpa using hlt)];simpa using h2
 exact (callsIn_wide.1 h1).mono fun e w' ⟨v, e1, g', L', e2, e3, e4⟩ => ⟨v, g', L', e1, e2, e3, e4⟩
def ResV (P : Program) (fn : Func) (ρ : Env) (w : World) (v : Value) : Prop := ∀ N ds a, Fits N ds a ρ → (results fn a.tmps).run P w = .ok v w
theorem res0 {fn : Func} (h : fn.results = #[]) : ResV P fn ρ w (.tuple #[]) := fun _ _ _ _ => by simp [results, h]
theorem Jx {a : Act} (ha : Fits N ds a ρ) {t : Nat} {v : Value} (h : Ye ρ t = some v) : a.tmps[t]?.getD undef = v := by rw [ha.at_ t v h]; rfl
theorem Xo {fn : Func} {t : Tmp} {v : Value} (h : fn.results = #[.tmp t]) (ht : Ye ρ t = some v) : ResV P fn ρ w v := fun _ _ _ ha => by
 simp only [results, h]; simp [Jx ha ht]
theorem res2 {fn : Func} {t u : Tmp} {v v' : Value} (h : fn.results = #[.tmp t, .tmp u]) (ht : Ye ρ t = some v) (hu : Ye ρ u = some v') : ResV P fn ρ w (.tuple #[v, v']) := fun _ _ _ ha => by
 simp only [results, h]; simp [Jx ha ht, Jx ha hu]
theorem Xb {fn : Func} {v : Value} {R : Value → World → Prop} (hr : ResV P fn ρ w v) (hR : R v w) : WC P ro (RetQ P fn R) N [] .ret s ρ w :=
 wc_ret fun a ha => ⟨ha.defers, v, hr _ _ a ha, v, rfl, hR⟩
theorem wk_end {fn : Func} {v : Value} {R : Value → World → Prop} (hr : ResV P fn ρ w v) (hR : R v w) : WK P ro (RetQ P fn R) N [] [] ρ w :=
 fun a ha => ⟨ha.defers, v, hr _ _ a ha, v, rfl, hR⟩
end
end
section
open Go.RowKit
theorem wrapI {n : Int} (h : -9223372036854775808 ≤ n ∧ n ≤ 9223372036854775807) : IntKind.i64.wrap n = n := by
 have h1 : (-9223372036854775808 : Int) ≤ n := h.1
 have h2 := h.2
 have hb : IntKind.i64.bits = 64 := rfl
 have hsg : IntKind.i64.signed = true := rfl
 simp only [IntKind.wrap, hb, hsg, Bool.true_and, ge_iff_le, decide_eq_true_eq]
 have e1 : (2 : Int) ^ 64 = 18446744073709551616 := by decide
 have e2 : (2 : Int) ^ (64 - 1) = 9223372036854775808 := by decide
 rw [e1, e2]
 split <;> omega
theorem Yo (b o n : Nat) : (⟨b, o, none⟩ : Addr).add n = ⟨b, o + n, none⟩ := by
 unfold Addr.add
 split
 ·rename_i h; subst h; rfl
 ·rfl
def Zj (a : Option Addr) (sz i : Nat) : Addr :=
 match a with
 | some ad => ⟨ad.block, ad.off + i * sz, none⟩
 | none => ⟨0, 0, none⟩
def setL : List Value → Nat → List Value → List Value
 | l, _, [] => l
 | l, i, v :: vs => setL (l.set i v) (i + 1) vs
theorem setL_length : ∀ (vs l : List Value) (i : Nat), (setL l i vs).length = l.length
 | [], _, _ => rfl
 | v :: vs, l, i => by rw [setL, setL_length vs]; simp
section
variable {P : Program} [Tabbed P] {ro : Option Nat} {Qb : Exit → Act → World → Prop} {N : Nat} {ds : List Deferred} {ops : Array Oper} {rest : List Oper} {s : List Fr} {ρ : Env} {w : World}
variable {g : Ghost} {L : Own}
variable {d : Nat} {ty : TypeId} {pos : String} {after : Array Edge} {guard : Option (Nat × Bool)}
theorem opv_load {t : Nat} {x : Operand} {a : Addr} {v : Value} {te : TE} {dst : Option Tmp} (hx : ev ρ x = some (.pointer (some a))) (ht : Xc (tb P) t = some te) (hA : te.td.isAgg = false) (hc : w.cell? a = some v) :
  OpV P ⟨dst, .load t x, ty, pos, after, guard⟩ ρ w v := fun N ds ac ha => by
 simp [execOp, Xe ha hx, Instr.loadAt, Instr.sureAddr, run_loadVar1 w ht hA hc]
theorem opv_loadN {t : Nat} {x : Operand} {a : Addr} {cs : List Value} {te : TE} {dst : Option Tmp} (hx : ev ρ x = some (.pointer (some a))) (ht : Xc (tb P) t = some te) (hA : te.td.isAgg = true) (hl : cs.length = te.zs.length)
  (hc : ∀ j v, cs[j]? = some v → w.cell? (a.add j) = some v) :
  OpV P ⟨dst, .load t x, ty, pos, after, guard⟩ ρ w (.agg cs.toArray) := fun N ds ac ha => by
 simp [execOp, Xe ha hx, Instr.loadAt, Instr.sureAddr, Qa w ht hA hl hc]
theorem Yu {t : Nat} {x : Operand} {v : Value} {te : TE} {b i E : Nat} {l : List Value} (hs : St g w L) (k : Nat) (hx : ev ρ x = some (.pointer (some ⟨b, i, none⟩))) (hk : L[k]? = some (b, Xa l E)) (hi : l[i]? = some v)
  (ht : Xc (tb P) t = some te) (hA : te.td.isAgg = false) (hn : Nat.blt d N = true) (hw : Xl ops ρ guard = some true)
  (h : WL P ro Qb N ds ops rest s ((d, v) :: ρ) w) : WL P ro Qb N ds ops (⟨some d, .load t x, ty, pos, after, guard⟩ :: rest) s ρ w :=
 Zb (opv_load hx ht hA (hs.cellL (Za hk) hi)) rfl hn hw h
theorem wl_ldON {t : Nat} {x : Operand} {te : TE} {b i E : Nat} {l : List Value} (hs : St g w L) (k : Nat) (hx : ev ρ x = some (.pointer (some ⟨b, i, none⟩))) (hk : L[k]? = some (b, Xa l E))
  (ht : Xc (tb P) t = some te) (hA : te.td.isAgg = true) (hl : ((l.drop i).take te.zs.length).length = te.zs.length) (hn : Nat.blt d N = true) (hw : Xl ops ρ guard = some true)
  (h : WL P ro Qb N ds ops rest s ((d, .agg ((l.drop i).take te.zs.length).toArray) :: ρ) w) : WL P ro Qb N ds ops (⟨some d, .load t x, ty, pos, after, guard⟩ :: rest) s ρ w :=
 Zb (opv_loadN hx ht hA hl (fun j v hv => by
  rw [Yo];refine hs.cellL (Za hk) ?_;rw [List.getElem?_take] at hv
  split at hv
  ·simpa using hv
  ·cases hv)) rfl hn hw h
theorem Xd {t : Nat} {x : Operand} {a : Addr} {v : Value} {te : TE} (hs : St g w L) (hc : g.cell a = some v) (hx : ev ρ x = some (.pointer (some a)))
  (ht : Xc (tb P) t = some te) (hA : te.td.isAgg = false) (hn : Nat.blt d N = true) (hw : Xl ops ρ guard = some true)
  (h : WL P ro Qb N ds ops rest s ((d, v) :: ρ) w) : WL P ro Qb N ds ops (⟨some d, .load t x, ty, pos, after, guard⟩ :: rest) s ρ w :=
 Zb (opv_load hx ht hA (hs.cellG hc)) rfl hn hw h
theorem Yj {t : Nat} {x : Operand} {a : Addr} {te : TE} {cs : List Value} (hs : St g w L) (hc : ∀ j v, cs[j]? = some v → g.cell (a.add j) = some v) (hx : ev ρ x = some (.pointer (some a)))
  (ht : Xc (tb P) t = some te) (hA : te.td.isAgg = true) (hl : cs.length = te.zs.length) (hn : Nat.blt d N = true) (hw : Xl ops ρ guard = some true)
  (h : WL P ro Qb N ds ops rest s ((d, .agg cs.toArray) :: ρ) w) : WL P ro Qb N ds ops (⟨some d, .load t x, ty, pos, after, guard⟩ :: rest) s ρ w :=
 Zb (opv_loadN hx ht hA hl (fun j v hv => hs.cellG (hc j v hv))) rfl hn hw h
theorem opv_ix {t e : Nat} {x ix : Operand} {a : Option Addr} {n cap : Nat} {k : IntKind} {i : Int} {te ee : TE} {dst : Option Tmp} (hx : ev ρ x = some (.slice a n cap)) (hi : ev ρ ix = some (.int k i))
  (ht : Xc (tb P) t = some te) (hd : te.td = .slice e) (he : Xc (tb P) e = some ee) (h0 : 0 ≤ i) (h1 : i < n) (ha : ∃ b o, a = some ⟨b, o, none⟩) :
  OpV P ⟨dst, .indexAddr t x ix, ty, pos, after, guard⟩ ρ w (.pointer (some (Zj a ee.zs.length i.toNat))) := fun N ds ac hac => by
 obtain ⟨b, o, rfl⟩ := ha
 have hu := Zf ht hd
 simp [execOp, Xe hac hx, Xe hac hi, Instr.indexAt, asIntOf, Xu w hu, h0, h1, Yn w he, Zj, Yo]
theorem Yb {t e : Nat} {x ix : Operand} {a : Option Addr} {n cap : Nat} {k : IntKind} {i : Int} {te ee : TE} (hx : ev ρ x = some (.slice a n cap)) (hi : ev ρ ix = some (.int k i))
  (ht : Xc (tb P) t = some te) (hd : te.td = .slice e) (he : Xc (tb P) e = some ee) (h0 : 0 ≤ i ∧ i < n) (ha : ∃ b o, a = some ⟨b, o, none⟩) (hn : Nat.blt d N = true) (hw : Xl ops ρ guard = some true)
  (h : WL P ro Qb N ds ops rest s ((d, .pointer (some (Zj a ee.zs.length i.toNat))) :: ρ) w) : WL P ro Qb N ds ops (⟨some d, .indexAddr t x ix, ty, pos, after, guard⟩ :: rest) s ρ w :=
 Zb (opv_ix hx hi ht hd he h0.1 h0.2 ha) rfl hn hw h
theorem wl_ixO {t e : Nat} {x ix : Operand} {b n cap : Nat} {k : IntKind} {i : Int} {te ee : TE} (hx : ev ρ x = some (.slice (some ⟨b, 0, none⟩) n cap)) (hi : ev ρ ix = some (.int k i))
  (ht : Xc (tb P) t = some te) (hd : te.td = .slice e) (he : Xc (tb P) e = some ee) (h0 : 0 ≤ i ∧ i < n) (hn : Nat.blt d N = true) (hw : Xl ops ρ guard = some true)
  (h : WL P ro Qb N ds ops rest s ((d, .pointer (some ⟨b, i.toNat * ee.zs.length, none⟩)) :: ρ) w) : WL P ro Qb N ds ops (⟨some d, .indexAddr t x ix, ty, pos, after, guard⟩ :: rest) s ρ w :=
 Zb (by have := opv_ix (w := w) (dst := some d) (ty := ty) (pos := pos) (after := after) (guard := guard) hx hi ht hd he h0.1 h0.2 ⟨b, 0, rfl⟩; simpa [Zj] using this) rfl hn hw h
theorem opv_ixA {t e m : Nat} {x ix : Operand} {b o : Nat} {k : IntKind} {i : Int} {te ee : TE} {dst : Option Tmp} (hx : ev ρ x = some (.pointer (some ⟨b, o, none⟩))) (hi : ev ρ ix = some (.int k i))
  (ht : Xc (tb P) t = some te) (hd : te.td = .array m e) (he : Xc (tb P) e = some ee) (h0 : 0 ≤ i) (h1 : i < m) :
  OpV P ⟨dst, .indexAddr t x ix, ty, pos, after, guard⟩ ρ w (.pointer (some ⟨b, o + i.toNat * ee.zs.length, none⟩)) := fun N ds ac hac => by
 have hu := und_array ht hd
 simp [execOp, Xe hac hx, Xe hac hi, Instr.indexAt, Instr.sureAddr, asIntOf, Xu w hu, h0, h1, Yn w he, Yo]
theorem wl_ixA {t e m : Nat} {x ix : Operand} {b o : Nat} {k : IntKind} {i : Int} {te ee : TE} (hx : ev ρ x = some (.pointer (some ⟨b, o, none⟩))) (hi : ev ρ ix = some (.int k i))
  (ht : Xc (tb P) t = some te) (hd : te.td = .array m e) (he : Xc (tb P) e = some ee) (h0 : 0 ≤ i ∧ i < m) (hn : Nat.blt d N = true) (hw : Xl ops ρ guard = some true)
  (h : WL P ro Qb N ds ops rest s ((d, .pointer (some ⟨b, o + i.toNat * ee.zs.length, none⟩)) :: ρ) w) : WL P ro Qb N ds ops (⟨some d, .indexAddr t x ix, ty, pos, after, guard⟩ :: rest) s ρ w :=
 Zb (opv_ixA hx hi ht hd he h0.1 h0.2) rfl hn hw h
def Qn : BinOp → Int → Int → Option Int
 | .add, a, b => some (a + b)
 | .sub, a, b => some (a - b)
 | .mul, a, b => some (a * b)
 | _, _, _ => none
omit [Tabbed P] in
theorem opv_ar {op : BinOp} {t t2 : Nat} {x y : Operand} {k : IntKind} {a b c : Int} {dst : Option Tmp} (hx : ev ρ x = some (.int k a)) (hy : ev ρ y = some (.int k b)) (ho : Qn op a b = some c) (hr : k.wrap c = c) :
  OpV P ⟨dst, .binOp op t x y t2, ty, pos, after, guard⟩ ρ w (.int k c) := fun N ds ac hac => by
 cases op <;> simp only [Qn, Option.some.injEq] at ho <;> (try (cases ho; done)) <;> subst ho <;>
  simp [execOp, Xe hac hx, Xe hac hy, eqGuard, binOp, Op.intArith, hr]
omit [Tabbed P] in
theorem wl_ar {op : BinOp} {t t2 : Nat} {x y : Operand} {a b c : Int} (hx : ev ρ x = some (.int .i64 a)) (hy : ev ρ y = some (.int .i64 b)) (ho : Qn op a b = some c) (hr : -9223372036854775808 ≤ c ∧ c ≤ 9223372036854775807)
  (hn : Nat.blt d N = true) (hw : Xl ops ρ guard = some true)
  (h : WL P ro Qb N ds ops rest s ((d, .int .i64 c) :: ρ) w) : WL P ro Qb N ds ops (⟨some d, .binOp op t x y t2, ty, pos, after, guard⟩ :: rest) s ρ w :=
 Zb (opv_ar hx hy ho (wrapI hr)) rfl hn hw h
theorem Yp {t : Nat} {te : TE} (hs : St g w L) (ht : Xc (tb P) t = some te) (hn : Nat.blt d N = true) (hw : Xl ops ρ guard = some true)
  (h : ∀ b w', St g w' ((b, Xa te.zcells t) :: L) → WL P ro Qb N ds ops rest s ((d, .pointer (some ⟨b, 0, none⟩)) :: ρ) w') :
  WL P ro Qb N ds ops (⟨some d, .alloc t, ty, pos, after, guard⟩ :: rest) s ρ w := by
 obtain ⟨i, hi, h1, h2, h3, h4⟩ := Um ht
 refine wl_do (R := fun v w' => v = .pointer (some ⟨w.heap.size, 0, none⟩) ∧ w' = w.alloc (Xa te.zcells t)) rfl hn hw (fun a ha => ⟨_, _, ?_, rfl, rfl⟩) ?_
 ·simp [execOp, Instr.alloc, Vs w ht, newVar, newRow, h4, Xa]
 ·rintro v w' ⟨rfl, rfl⟩;exact h _ _ (hs.alloc _)
omit [Tabbed P] in
theorem Yi {t : Nat} {x : Operand} {v : Value} {l : List Value} (hs : St g w L) (hx : ev ρ x = some v) (hl : v.cells.toList = l) (hn : Nat.blt d N = true) (hw : Xl ops ρ guard = some true)
  (h : ∀ b w', St g w' ((b, Xa l t) :: L) → WL P ro Qb N ds ops rest s ((d, .pointer (some ⟨b, 0, none⟩)) :: ρ) w') :
  WL P ro Qb N ds ops (⟨some d, .box t x, ty, pos, after, guard⟩ :: rest) s ρ w := by
 refine wl_do (R := fun v w' => v = .pointer (some ⟨w.heap.size, 0, none⟩) ∧ w' = w.alloc (Xa l t)) rfl hn hw (fun a ha => ⟨_, _, ?_, rfl, rfl⟩) ?_
 ·simp [execOp, Instr.box, newVar, newRow, Xa, Xe ha hx, ← hl]
 ·rintro v w' ⟨rfl, rfl⟩;exact h _ _ (hs.alloc _)
omit [Tabbed P] in
theorem run_store1 {b i E : Nat} {l : List Value} {v : Value} {u : Value} (hm : (b, Xa l E) ∈ L) (hs : St g w L) (hi : l[i]? = some u) (hv : v.oneCell' = true) : (store ⟨b, i, none⟩ v).run P w = .ok () (w.setCell ⟨b, i, none⟩ v) := by
 rw [run_store P w _ v _ hv, hs.cellL hm hi]
 simp [hs.frozenL hm]
omit [Tabbed P] in
theorem run_storeL {b E : Nat} : ∀ (vs l : List Value) (i j : Nat) (w : World), St g w ((b, Xa l E) :: L) → (∀ v ∈ vs, v.oneCell' = true) → i + j + vs.length ≤ l.length →
  ∃ w', (storeCells ⟨b, i, none⟩ vs j).run P w = .ok () w' ∧ St g w' ((b, Xa (setL l (i + j) vs) E) :: L)
 | [], l, i, j, w, hs, _, _ => ⟨w, rfl, hs⟩
 | v :: vs, l, i, j, w, hs, hv, hl => by
  simp only [List.length_cons] at hl
  have hlt : i + j < l.length := by omega
  have h1 := run_store1 (P := P) (i := i + j) (v := v) (List.mem_cons_self) hs (List.getElem?_eq_getElem hlt) (hv v (List.mem_cons_self));obtain ⟨w', h2, h3⟩ := run_storeL vs (l.set (i + j) v) i (j + 1) _ (hs.setCell (i + j) v) (fun u hu => hv u (List.mem_cons_of_mem _ hu)) (by simp; omega);refine ⟨w', ?_, h3⟩;simp only [storeCells, Sem.run_bind, Yo, h1, Result.andThen_ok];exact h2
theorem Yh {t : Nat} {x y : Operand} {v u : Value} {te : TE} {b i E : Nat} {l : List Value} (hs : St g w L) (k : Nat) (hx : ev ρ x = some (.pointer (some ⟨b, i, none⟩))) (hy : ev ρ y = some v)
  (hk : L[k]? = some (b, Xa l E)) (hi : l[i]? = some u) (ht : Xc (tb P) t = some te) (hz : te.zs.length = 1) (hv : v.oneCell' = true) (hw : Xl ops ρ guard = some true)
  (h : ∀ w', St g w' (L.set k (b, Xa (l.set i v) E)) → WL P ro Qb N ds ops rest s ρ w') :
  WL P ro Qb N ds ops (⟨none, .store t x y, ty, pos, after, guard⟩ :: rest) s ρ w := by
 refine wl_doN (R := fun w' => w' = w.setCell ⟨b, i, none⟩ v) rfl hw (fun a ha => ⟨_, ?_, rfl⟩) ?_
 ·have hc : v.cells = #[v] := by cases v <;> first | rfl | (simp [Value.oneCell'] at hv; done)
  have h1 := run_store1 (P := P) (v := v) (Za hk) hs hi hv;have h2 : (⟨b, i, none⟩ : Addr).add 0 = ⟨b, i, none⟩ := by simp [Addr.add]
  simp [execOp, Instr.storeAt, Instr.sureAddr, Xe ha hx, Xe ha hy, storeVar, Yn w ht, hz, hc, storeCells, h1, h2]
 ·rintro w' rfl;exact h _ (hs.setCellAt k hk i v)
theorem Yx {t : Nat} {x y : Operand} {cs : List Value} {te : TE} {b i E : Nat} {l : List Value} (hs : St g w L) (k : Nat) (hx : ev ρ x = some (.pointer (some ⟨b, i, none⟩))) (hy : ev ρ y = some (.agg cs.toArray))
  (hk : L[k]? = some (b, Xa l E)) (ht : Xc (tb P) t = some te) (hz : te.zs.length = cs.length) (hi : i + cs.length ≤ l.length) (hv : cs.all Value.oneCell' = true) (hw : Xl ops ρ guard = some true)
  (h : ∀ w', St g w' (L.set k (b, Xa (setL l i cs) E)) → WL P ro Qb N ds ops rest s ρ w') :
  WL P ro Qb N ds ops (⟨none, .store t x y, ty, pos, after, guard⟩ :: rest) s ρ w := by
 obtain ⟨w1, h1, h2⟩ := run_storeL (P := P) cs l i 0 w (hs.front k hk) (fun v hv' => List.all_eq_true.1 hv v hv') (by omega)
 refine wl_doN (R := fun w' => w' = w1) rfl hw (fun a ha => ⟨_, ?_, rfl⟩) ?_
 ·simp [execOp, Instr.storeAt, Instr.sureAddr, Xe ha hx, Xe ha hy, storeVar, Yn w ht, hz, Value.cells, h1]
 ·rintro w' rfl;exact h _ ((by simpa using h2 : St g w' ((b, Xa (setL l i cs) E) :: L.eraseIdx k)).setAt k hk)
end
end
section
open Go.RowKit
def OwnS (E sz : Nat) (v : Value) (n : Nat) (cs : List Value) (H : Own) : Prop :=
 (v = .slice none 0 0 ∧ n = 0 ∧ cs = [] ∧ H = []) ∨
 ∃ b cap pad, v = .slice (some ⟨b, 0, none⟩) n cap ∧ cs.length = n * sz ∧ (cs ++ pad).length = cap * sz ∧ n ≤ cap ∧ H = [(b, Xa (cs ++ pad) E)]
theorem OwnS.nil (E sz : Nat) : OwnS E sz (.slice none 0 0) 0 [] [] := .inl ⟨rfl, rfl, rfl, rfl⟩
theorem OwnS.len {E sz : Nat} {v : Value} {n : Nat} {cs : List Value} {H : Own} (h : OwnS E sz v n cs H) : cs.length = n * sz := by
 rcases h with ⟨_, rfl, rfl, _⟩ | ⟨b, cap, pad, _, h1, _⟩
 ·simp
 ·exact h1
theorem OwnS.form {E sz : Nat} {v : Value} {n : Nat} {cs : List Value} {H : Own} (h : OwnS E sz v n cs H) : ∃ a cap, v = .slice a n cap := by
 rcases h with ⟨rfl, rfl, _, _⟩ | ⟨b, cap, pad, rfl, _⟩
 ·exact ⟨none, 0, rfl⟩
 ·exact ⟨_, cap, rfl⟩
theorem OwnS.one {E sz : Nat} {v : Value} {n : Nat} {cs : List Value} {H : Own} (h : OwnS E sz v n cs H) : v.oneCell' = true := by
 obtain ⟨a, cap, rfl⟩ := h.form; rfl
def Jy (w : World) (a : Option Addr) (cs : List Value) : Prop := cs = [] ∨ ∃ ad, a = some ad ∧ ∀ j v, cs[j]? = some v → w.cell? (ad.add j) = some v
theorem OwnS.cells {E sz : Nat} {a : Option Addr} {n cap : Nat} {cs : List Value} {H L : Own} {g : Ghost} {w : World} (h : OwnS E sz (.slice a n cap) n cs H) (hs : St g w (H ++ L)) : Jy w a cs := by
 rcases h with ⟨h0, _, rfl, _⟩ | ⟨b, cap', pad, h0, h1, h2, _, rfl⟩
 ·exact .inl rfl
 ·simp only [Value.slice.injEq] at h0
  obtain ⟨rfl, _, rfl⟩ := h0;refine .inr ⟨_, rfl, fun j v hv => ?_⟩;rw [Yo, Nat.zero_add];refine hs.cellL (l := cs ++ pad) (E := E) (List.mem_append_left _ (List.mem_singleton.2 rfl)) ?_;rw [List.getElem?_append_left (List.getElem?_eq_some_iff.1 hv).1];exact hv
section
variable {P : Program} [Tabbed P] {w : World}
theorem growBy_le (newLen : Nat) : ∀ (r c : Nat), Builtin.growBy newLen r c ≤ c * 2 ^ r + 768 * 2 ^ r ∨ Builtin.growBy newLen r c ≤ c
 | 0, c => .inr (Nat.le_refl _)
 | r + 1, c => by
  simp only [Builtin.growBy]
  split
  ·exact .inr (Nat.le_refl _)
  ·rcases growBy_le newLen r (c + (c + 768) / 4) with h | h
   ·refine .inl (Nat.le_trans h ?_);have hp : 1 ≤ 2 ^ r := Nat.one_le_two_pow;have e : 2 ^ (r + 1) = 2 ^ r * 2 := Nat.pow_succ _ _;rw [e, ← Nat.add_mul];have : c + (c + 768) / 4 + 768 ≤ (c + 768) * 2 := by omega
    calc (c + (c + 768) / 4 + 768) * 2 ^ r ≤ ((c + 768) * 2) * 2 ^ r := Nat.mul_le_mul_right _ this
     _ = c * (2 ^ r * 2) + 768 * (2 ^ r * 2) := by rw [Nat.mul_comm (2 ^ r) 2, ← Nat.mul_assoc, ← Nat.mul_assoc, ← Nat.add_mul, ← Nat.add_mul]
   ·refine .inl (Nat.le_trans h ?_);have hp : 1 ≤ 2 ^ r := Nat.one_le_two_pow;have e : 2 ^ (r + 1) = 2 * 2 ^ r := by rw [Nat.pow_succ, Nat.mul_comm]
    rw [e];have h1 : c * 2 ≤ c * (2 * 2 ^ r) := Nat.mul_le_mul_left _ (by omega);have h2 : 768 * 2 ≤ 768 * (2 * 2 ^ r) := Nat.mul_le_mul_left _ (by omega);omega
theorem nextslicecap_le {need cap : Nat} (h : cap < need) : Builtin.nextslicecap need cap ≤ 16 * need + 12288 := by
 unfold Builtin.nextslicecap
 split
 ·omega
 ·split
  ·omega
  ·rcases growBy_le need 4 cap with h1 | h1 <;> omega
omit [Tabbed P] in
theorem run_lenOf (a : Option Addr) (n cap : Nat) : (Builtin.lenOf (.slice a n cap)).run P w = .ok n w := rfl
omit [Tabbed P] in
theorem Ui (a : Option Addr) (n cap k sz : Nat) (cs : List Value) (hl : cs.length = k * sz) (hc : Jy w a cs) (hn : a = none → cs = []) :
  (Builtin.firstCells sz k (.slice a n cap)).run P w = .ok cs.toArray w := by
 cases a with
 | none => have := hn rfl; subst this; simp [Builtin.firstCells]
 | some ad =>
  simp only [Builtin.firstCells, loadCells, ← hl]
  rcases hc with rfl | ⟨ad', e, h⟩
  ·simp [loadCellsFrom]
  ·cases e;rw [run_loadCellsL w ad cs 0 #[] (fun j v hv => by simpa using h j v hv)];simp
theorem zeroCells_list (z : Array Value) (n : Nat) : (Builtin.zeroCells z n).size = n * z.size := by simp [Builtin.zeroCells]
theorem Qv {t t2 E E2 : Nat} {te te2 ee : TE} {v : Value} {n : Nat} {cs : List Value} {H L : Own} {g : Ghost} {ax : Option Addr} {m cx : Nat} {ys : List Value} {ty : TypeId}
  (ht : Xc (tb P) t = some te) (hd : te.td = .slice E) (he : Xc (tb P) E = some ee) (ht2 : Xc (tb P) t2 = some te2) (hd2 : te2.td = .slice E2)
  (ho : OwnS E ee.zs.length v n cs H) (hs : St g w (H ++ L)) (hl : ys.length = m * ee.zs.length) (hx : Jy w ax ys) (hy : ys.all Value.oneCell' = true)
  (hb : Nat.ble ee.bytes 1024 = true) (hsz : Nat.blt 0 ee.zs.length = true) (hroom : n + m ≤ 4294967296) :
  ∃ v' w' H', (Builtin.append_ #[t, t2] ty #[v, .slice ax m cx]).run P w = .ok v' w' ∧ OwnS E ee.zs.length v' (n + m) (cs ++ ys) H' ∧ St g w' (H' ++ L) := by
 have hu := Zf ht hd
 have hu2 := Zf ht2 hd2
 have hb' : ee.bytes ≤ 1024 := by simpa using hb
 have hsz' : 0 < ee.zs.length := by simpa using hsz
 have hnone : ax = none → ys = [] := fun e => by
  rcases hx with h | ⟨ad, h, _⟩
  ·exact h
  ·rw [e] at h; cases h
 obtain ⟨i, hi, hi1, hi2, hi3, hi4⟩ := Um he
 obtain ⟨a, cap, rfl⟩ := ho.form
 have hold : Jy w a cs := ho.cells hs
 have hlen := ho.len
 by_cases hcap : n + m ≤ cap
 ·
  rcases ho with ⟨h0, rfl, rfl, rfl⟩ | ⟨b, cap', pad, h0, h1, h2, h3, rfl⟩
  ·simp only [Value.slice.injEq] at h0
   obtain ⟨rfl, _, rfl⟩ := h0;have hm0 : m = 0 := by omega
   subst hm0;have : ys = [] := List.eq_nil_of_length_eq_zero (by simpa using hl);subst this;refine ⟨.slice none 0 0, w, [], ?_, by simpa using OwnS.nil E _, hs⟩;simp [Builtin.append_, Xu w hu, Xu w hu2, Yn w he, run_lenOf, Ui ax 0 cx 0 _ [] (by simp) hx (fun _ => rfl)]
  ·simp only [Value.slice.injEq] at h0
   obtain ⟨rfl, _, rfl⟩ := h0
   have hfit : ys.length ≤ pad.length := by
    rw [List.length_append, h1] at h2
    have := Nat.mul_le_mul_right ee.zs.length hcap;rw [Nat.add_mul] at this
    omega
   obtain ⟨w', hw1, hw2⟩ := run_storeL (P := P) (E := E) ys (cs ++ pad) (n * ee.zs.length) 0 w hs (fun v hv => List.all_eq_true.1 hy v hv) (by simp only [List.length_append]; omega)
   refine ⟨.slice (some ⟨b, 0, none⟩) (n + m) cap, w', [(b, Xa ((cs ++ ys) ++ pad.drop ys.length) E)], ?_, .inr ⟨b, cap, pad.drop ys.length, rfl, ?_, ?_, hcap, rfl⟩, ?_⟩
   ·have hfc := Ui (P := P) (w := w) ax m cx m ee.zs.length ys hl hx hnone;simp [Builtin.append_, Xu w hu, Xu w hu2, Yn w he, run_lenOf, hcap, hfc, Yo, hw1]
   ·rw [List.length_append, hlen, hl, Nat.add_mul]
   ·rw [← h2]; simp only [List.length_append, List.length_drop]; omega
   ·have e : ∀ (zs : List Value) (u p : List Value), zs.length ≤ p.length → setL (u ++ p) u.length zs = (u ++ zs) ++ p.drop zs.length := by
     intro zs
     induction zs with
     | nil => intro u p _; simp [setL]
     | cons z zs ih =>
      intro u p hp;cases p with
      | nil => simp at hp
      | cons q p =>
       have h9 := ih (u ++ [z]) p (by simpa using hp);simp only [setL];have h8 : (u ++ q :: p).set u.length z = (u ++ [z]) ++ p := by simp
       rw [h8];simp only [List.length_append, List.length_cons, List.length_nil] at h9
       rw [h9];simp
    have e2 := e ys cs pad hfit;rw [hlen] at e2
    rw [Nat.add_zero, e2] at hw2
    exact hw2
 ·
  have hbig : ¬ (16 * (n + m) + 12288) * 1024 > 281474976710656 := by omega
  have hnc := nextslicecap_le (Nat.lt_of_not_le hcap)
  have hnb : ¬ Builtin.nextslicecap (n + m) cap * i.bytes > 2 ^ 48 := by
   have := Nat.mul_le_mul hnc hb';rw [hi2];have e : (2 : Nat) ^ 48 = 281474976710656 := by decide
   omega
  have hmax : ¬ (((n + m : Nat) : Int) > IntKind.i64.max ∧ i.bytes = 0) := by
   rintro ⟨h, _⟩;have : IntKind.i64.max = 9223372036854775807 := by decide
   omega
  have hold2 : a = none → cs = [] := fun e => by
   rcases hold with h | ⟨ad, h, _⟩
   ·exact h
   ·rw [e] at h; cases h
  obtain ⟨newCap, hnew, hcap2⟩ : ∃ nc, nc = (Question.appendCap (n + m) cap E).cut (w.tape w.drawn (.appendCap (n + m) cap E)) ∧ n + m ≤ nc := ⟨_, rfl, by simp [Question.cut]⟩
  have hf1 := Ui (P := P) (w := { w with drawn := w.drawn + 1 }) a n cap n ee.zs.length cs hlen (by rcases hold with h | ⟨ad, h, h'⟩; exact .inl h; exact .inr ⟨ad, h, h'⟩) hold2;have hf2 := Ui (P := P) (w := { w with drawn := w.drawn + 1 }) ax m cx m ee.zs.length ys hl (by rcases hx with h | ⟨ad, h, h'⟩; exact .inl h; exact .inr ⟨ad, h, h'⟩) hnone
  have hi5 : i.zero = some ee.zero := hi3
  refine ⟨.slice (some ⟨w.heap.size, 0, none⟩) (n + m) newCap, { w with drawn := w.drawn + 1 }.alloc (Xa ((cs ++ ys) ++ (Builtin.zeroCells ee.zcells.toArray (newCap - (n + m))).toList) E), _, ?_, .inr ⟨w.heap.size, newCap, (Builtin.zeroCells ee.zcells.toArray (newCap - (n + m))).toList, rfl, ?_, ?_, hcap2, rfl⟩, ?_⟩
  ·have hz : ∀ w : World, (zeroValue E).run P w = .ok ee.zero w := fun w => Vs w he
   simp only [Builtin.append_, List.getElem?_toArray, List.getElem?_cons_zero, List.getElem?_cons_succ, Sem.run_bind, Xu w hu, Xu w hu2, Yn w he, Result.andThen_ok, Sem.run_pure, Bool.false_eq_true, if_false, run_lenOf, Sem.run_ite, hcap,
    Kg w hi, hnb, run_choose, Question.forced, ← hnew, run_askRoom, hz, newRow, run_newObj, hi4]
   simp only [false_or, hmax, if_false, hnb, Result.andThen_ok, Kg _ hi, hf1, hf2];have e9 : ∀ (A : Array Value) (X Y : List Value), X.toArray ++ Y.toArray ++ A = (X ++ Y ++ A.toList).toArray := fun A X Y => by apply Array.ext'; simp
   simp only [Bool.not_false, if_true, Result.andThen_ok, e9, Xa, World.alloc]
  ·rw [List.length_append, hlen, hl, Nat.add_mul]
  ·simp only [List.length_append, hlen, hl, Array.length_toList, zeroCells_list, TE.zcells, List.size_toArray, List.length_map];rw [← Nat.add_mul, ← Nat.add_mul]
   congr 1
   omega
  ·exact hs.dropL.drew.alloc _
variable {ro : Option Nat} {Qb : Exit → Act → World → Prop} {N : Nat} {ds : List Deferred} {ops : Array Oper} {rest : List Oper} {s : List Fr} {ρ : Env}
variable {g : Ghost} {L : Own}
variable {d : Nat} {ty : TypeId} {pos : String} {after : Array Edge} {guard : Option (Nat × Bool)}
theorem Ju {t t2 E E2 : Nat} {te te2 ee : TE} {x y : Operand} {v : Value} {n : Nat} {cs : List Value} {H : Own} {ax : Option Addr} {m cx : Nat} {ys : List Value}
  (hs : St g w (H ++ L)) (ho : OwnS E ee.zs.length v n cs H) (hsrc : Jy w ax ys) (hl : ys.length = m * ee.zs.length) (hv : ev ρ x = some v) (hy : ev ρ y = some (.slice ax m cx))
  (ht : Xc (tb P) t = some te) (hd : te.td = .slice E) (he : Xc (tb P) E = some ee) (ht2 : Xc (tb P) t2 = some te2) (hd2 : te2.td = .slice E2)
  (hb : Nat.ble ee.bytes 1024 = true) (hsz : Nat.blt 0 ee.zs.length = true) (h1 : ys.all Value.oneCell' = true) (hroom : n + m ≤ 4294967296) (hn : Nat.blt d N = true) (hw : Xl ops ρ guard = some true)
  (h : ∀ v' w' H', OwnS E ee.zs.length v' (n + m) (cs ++ ys) H' → St g w' (H' ++ L) → WL P ro Qb N ds ops rest s ((d, v') :: ρ) w') :
  WL P ro Qb N ds ops (⟨some d, .call ⟨.builtin .append, #[x, y], #[t, t2]⟩, ty, pos, after, guard⟩ :: rest) s ρ w := by
 obtain ⟨v', w1, H', hr, ho', hs'⟩ := Qv (ty := ty) (cx := cx) ht hd he ht2 hd2 ho hs hl hsrc h1 hb hsz hroom
 refine wl_do (R := fun u w' => u = v' ∧ w' = w1) rfl hn hw (fun a ha => ⟨v', w1, ?_, rfl, rfl⟩) ?_
 ·simp [execOp, resolve, invoke, builtin, Xe ha hv, Xe ha hy, hr]
 ·rintro u w' ⟨rfl, rfl⟩;exact h _ _ _ ho' hs'
theorem setL_toArray : ∀ (vs : List Value) (k : Nat) (l : List Value) (off : Nat),
  (vs.zipIdx k).foldl (fun (cs : Array Value) (p : Value × Nat) => cs.setIfInBounds (off + p.2) p.1) l.toArray = (setL l (off + k) vs).toArray
 | [], k, l, off => rfl
 | v :: vs, k, l, off => by
  simp only [List.zipIdx_cons, List.foldl_cons, setL];rw [List.setIfInBounds_toArray, setL_toArray vs (k + 1)];rfl
theorem fill_one (place : Nat → Option (Nat × Nat)) (l : List Value) (i : Nat) (v : Value) (rest : List (Nat × Value)) (off : Nat) (hp : place i = some (off, v.cells.size)) (hl : off + v.cells.size ≤ l.length) :
  Instr.fill place l.toArray ((i, v) :: rest) = Instr.fill place (setL l off v.cells.toList).toArray rest := by
 have hne : ¬ (decide (v.cells.size ≠ v.cells.size) || decide (off + v.cells.size > l.toArray.size)) = true := by
  simp; omega
 simp only [Instr.fill, hp]
 rw [if_neg hne]
 congr 1
 rw [← Array.foldl_toList, Array.toList_zipIdx]
 exact setL_toArray v.cells.toList 0 l off
theorem setL_all : ∀ (vs u p : List Value), vs.length ≤ p.length → setL (u ++ p) u.length vs = (u ++ vs) ++ p.drop vs.length
 | [], u, p, _ => by simp [setL]
 | z :: zs, u, [], hp => by simp at hp
 | z :: zs, u, q :: p, hp => by
  have h9 := setL_all zs (u ++ [z]) p (by simpa using hp);simp only [setL];have h8 : (u ++ q :: p).set u.length z = (u ++ [z]) ++ p := by simp
  rw [h8];simp only [List.length_append, List.length_cons, List.length_nil] at h9
  rw [h9];simp
def Vr (sz : Nat) : Nat → List (Nat × Value) → Bool
 | _, [] => true
 | k, (i, v) :: r => Nat.beq i k && Nat.beq v.cells.size sz && Vr sz (k + 1) r
theorem fill_seq (sz : Nat) : ∀ (ps : List (Nat × Value)) (k : Nat) (u p : List Value), Vr sz k ps = true → u.length = k * sz → p.length = ps.length * sz →
  Instr.fill (fun i => some (i * sz, sz)) (u ++ p).toArray ps = some (u ++ ps.flatMap (fun q => q.2.cells.toList)).toArray
 | [], k, u, p, _, _, hp => by
  have : p = [] := List.eq_nil_of_length_eq_zero (by simpa using hp);subst this;simp [Instr.fill]
 | (i, v) :: r, k, u, p, hq, hu, hp => by
  simp only [Vr, Bool.and_eq_true] at hq
  have e1 : i = k := Nat.eq_of_beq_eq_true hq.1.1;have e2 : v.cells.size = sz := Nat.eq_of_beq_eq_true hq.1.2;subst e1;have hp' : p.length = r.length * sz + sz := by rw [hp, List.length_cons, Nat.add_mul, Nat.one_mul]
  rw [fill_one _ _ _ _ _ (i * sz) (by rw [e2]) (by rw [e2, List.length_append, hu, hp']; omega)];have hvl : v.cells.toList.length = sz := by rw [Array.length_toList, e2]
  rw [← hu, setL_all _ _ _ (by rw [hvl, hp']; omega)];rw [fill_seq sz r (i + 1) (u ++ v.cells.toList) _ hq.2 (by rw [List.length_append, hvl, hu, Nat.add_mul, Nat.one_mul]) (by rw [List.length_drop, hvl, hp']; omega)];simp
theorem Jr {t E : Nat} {te ee : TE} {m : Nat} {ps : List (Nat × Value)} (ht : Xc (tb P) t = some te) (hd : te.td = .slice E) (he : Xc (tb P) E = some ee) (hq : Vr ee.zs.length 0 ps = true) (hm : ps.length = m)
    (hz : Nat.ble (m * ee.zs.length) 16777216 = true) :
    (Instr.buildSlice t m ps.toArray).run P w = .ok (.slice (some ⟨w.heap.size, 0, none⟩) m m) (w.alloc (Xa (ps.flatMap fun q => q.2.cells.toList) E)) := by
  have hu := Zf ht hd;obtain ⟨i, hi, hi1, hi2, hi3, hi4⟩ := Um he
  have hz' : ¬ m * ee.zs.length > 2 ^ 24 := by have : m * ee.zs.length ≤ 16777216 := by simpa using hz
                                               omega
  have key : ∀ (c : Array Value), c.size = m * ee.zs.length → Instr.fill (fun i => some (i * ee.zs.length, ee.zs.length)) c ps = some (ps.flatMap fun q => q.2.cells.toList).toArray := fun c hc => by
    have := fill_seq ee.zs.length ps 0 [] c.toList hq (by simp) (by simp [hc, hm]);simpa using this
  by_cases h0 : m * ee.zs.length = 0
  · simp only [Instr.buildSlice, Sem.run_bind, Xu w hu, Yn w he, h0, Result.andThen_ok];simp only [Nat.not_lt_zero, gt_iff_lt, if_false, if_true, pure_bind];rw [key _ (by simp [h0])];simp [newRow, Xa]
  · simp [Instr.buildSlice, Xu w hu, Yn w he, h0, hz', Vs w he, newRow, Xa, key]
theorem evs_parts {a : Act} (ha : Fits N ds a ρ) : ∀ {ps : List (Nat × Operand)} {vs : List Value}, evs ρ (ps.map (·.2)) = some vs → ps.map (fun q => (q.1, a.eval q.2)) = (ps.map (·.1)).zip vs
 | [], vs, h => by simp [evs] at h; subst h; rfl
 | (i, x) :: ps, vs, h => by
  simp only [List.map_cons, evs] at h
  split at h
  ·rename_i v us h1 h2;simp only [Option.some.injEq] at h
   subst h;simp [Xe ha h1, evs_parts ha h2]
  ·cases h
theorem Ug {t E : Nat} {te ee : TE} {m : Nat} {ps : List (Nat × Operand)} {vs : List Value} {cs : List Value} (hs : St g w L) (hv : evs ρ (ps.map (·.2)) = some vs) (ht : Xc (tb P) t = some te) (hd : te.td = .slice E) (he : Xc (tb P) E = some ee)
  (hq : Vr ee.zs.length 0 ((ps.map (·.1)).zip vs) = true) (hm : ((ps.map (·.1)).zip vs).length = m) (hz : Nat.ble (m * ee.zs.length) 16777216 = true) (hc : (((ps.map (·.1)).zip vs).flatMap fun q => q.2.cells.toList) = cs)
  (hn : Nat.blt d N = true) (hw : Xl ops ρ guard = some true)
  (h : ∀ b w', St g w' ((b, Xa cs E) :: L) → WL P ro Qb N ds ops rest s ((d, .slice (some ⟨b, 0, none⟩) m m) :: ρ) w') :
  WL P ro Qb N ds ops (⟨some d, .buildSlice t m ps.toArray, ty, pos, after, guard⟩ :: rest) s ρ w := by
 subst hc
 refine wl_do (R := fun v w' => v = .slice (some ⟨w.heap.size, 0, none⟩) m m ∧ w' = w.alloc (Xa (((ps.map (·.1)).zip vs).flatMap fun q => q.2.cells.toList) E)) rfl hn hw (fun a ha => ⟨_, _, ?_, rfl, rfl⟩) ?_
 ·have e := evs_parts ha hv;have hrun := Jr (w := w) ht hd he hq hm hz
  have e3 : (ps.toArray.map fun (i, x) => (i, a.eval x)) = ((ps.map (·.1)).zip vs).toArray := by
   apply Array.ext';rw [← e];simp
  simp only [execOp];rw [e3];simp [hrun]
 ·rintro v w' ⟨rfl, rfl⟩;exact h _ _ (hs.alloc _)
theorem OwnS.lit {E sz m b : Nat} {cs : List Value} (h : cs.length = m * sz) : OwnS E sz (.slice (some ⟨b, 0, none⟩) m m) m cs [(b, Xa cs E)] :=
 .inr ⟨b, m, [], rfl, h, by simpa using h, Nat.le_refl _, by simp⟩
theorem Jj {t E : Nat} {te ee : TE} {y : Operand} {v u : Value} {n d1 kx : Nat} {cs ys : List Value} {H : Own} {ty1 : TypeId} {pos1 : String} {after1 : Array Edge}
  (hs : St g w (H ++ L)) (ho : OwnS E ee.zs.length v n cs H) (hroom : n + 1 ≤ 4294967296) (hy : ev ρ y = some u) (hu : u.cells.toList = ys) (hv : Ye ρ kx = some v) (hd1 : Ye ρ d1 = none)
  (ht : Xc (tb P) t = some te) (hd : te.td = .slice E) (he : Xc (tb P) E = some ee) (hlen : ys.length = ee.zs.length)
  (hb : Nat.ble ee.bytes 1024 = true) (hsz : Nat.blt 0 ee.zs.length = true) (h1 : ys.all Value.oneCell' = true) (hz : Nat.ble (1 * ee.zs.length) 16777216 = true) (hn1 : Nat.blt d1 N = true) (hn : Nat.blt d N = true)
  (h : ∀ v' w' H', OwnS E ee.zs.length v' (n + 1) (cs ++ ys) H' → St g w' (H' ++ L) → WL P ro Qb N ds ops rest s ((d, v') :: ρ) w') :
  WL P ro Qb N ds ops (⟨some d1, .buildSlice t 1 #[(0, y)], ty1, pos1, after1, none⟩ :: ⟨some d, .call ⟨.builtin .append, #[.tmp kx, .tmp d1], #[t, t]⟩, ty, pos, after, none⟩ :: rest) s ρ w := by
 have hsz2 : u.cells.size = ee.zs.length := by rw [← hlen, ← hu, Array.length_toList]
 refine Ug (ps := [(0, y)]) (vs := [u]) (cs := ys) hs (by simp [evs, hy]) ht hd he (by simp [Vr, hsz2]) rfl hz (by simp [hu]) hn1 rfl ?_
 intro b w1 hs1
 have hs2 : St g w1 (H ++ ((b, Xa ys E) :: L)) := hs1.perm List.perm_middle
 have hne : Nat.beq kx d1 = false := by
  cases hb : Nat.beq kx d1 with
  | false => rfl
  | true => have := Nat.eq_of_beq_eq_true hb; subst this; rw [hd1] at hv; cases hv
 have hvx : ev ((d1, .slice (some ⟨b, 0, none⟩) 1 1) :: ρ) (.tmp kx) = some v := by simp only [ev, Ye, hne, cond_false]; exact hv
 have hcells : Jy w1 (some ⟨b, 0, none⟩) ys := .inr ⟨_, rfl, fun j q hq => by rw [Yo, Nat.zero_add]; exact hs1.cellL (List.mem_cons_self) hq⟩
 refine Ju (m := 1) (cx := 1) hs2 ho hcells (by simpa using hlen) hvx (by simp [ev, Ye]) ht hd he ht hd hb hsz h1 hroom hn rfl ?_
 intro v' w' H' ho' hs'
 have hs3 : St g w' (H' ++ L) := (hs'.perm List.perm_middle.symm).drop
 refine fun a ha => h v' w' H' ho' hs3 a (ha.sub fun k q hk => ?_)
 simp only [Ye, Bool.cond_eq_ite] at hk ⊢
 split at hk
 ·rename_i e; rw [if_pos e]; exact hk
 ·rename_i e;rw [if_neg e];have hk2 : ¬ Nat.beq k d1 = true := fun e' => by have := Nat.eq_of_beq_eq_true e'; subst this; rw [hd1] at hk; cases hk
  rw [if_neg hk2];exact hk
theorem Jk {t E : Nat} {te ee : TE} {x : Operand} {n : Int} (hs : St g w L) (hx : ev ρ x = some (.int .i64 n)) (h0 : 0 ≤ n ∧ n ≤ 1099511627776) (ht : Xc (tb P) t = some te) (hd : te.td = .slice E) (he : Xc (tb P) E = some ee)
  (hb : Nat.ble ee.bytes 128 = true) (hsz : Nat.blt 0 ee.zs.length = true) (hn : Nat.blt d N = true) (hw : Xl ops ρ guard = some true)
  (h : ∀ b w', St g w' ((b, Xa (List.replicate n.toNat ee.zcells).flatten E) :: L) → WL P ro Qb N ds ops rest s ((d, .slice (some ⟨b, 0, none⟩) n.toNat n.toNat) :: ρ) w') :
  WL P ro Qb N ds ops (⟨some d, .makeSlice t x x, ty, pos, after, guard⟩ :: rest) s ρ w := by
 obtain ⟨m, rfl⟩ := Int.eq_ofNat_of_zero_le h0.1
 have hu := Zf ht hd
 obtain ⟨i, hi, hi1, hi2, hi3, hi4⟩ := Um he
 have hb' : ee.bytes ≤ 128 := by simpa using hb
 have hsz' : 0 < ee.zs.length := by simpa using hsz
 have hw64 : IntKind.i64.wrap (m : Int) = m := wrapI (by omega)
 have hbytes : (i.bytes : Int) * (m : Int) ≤ 140737488355328 := by
  rw [hi2];have h1 : ee.bytes * m ≤ 128 * 1099511627776 := Nat.mul_le_mul hb' (by omega);have h2 : ((ee.bytes * m : Nat) : Int) ≤ ((128 * 1099511627776 : Nat) : Int) := Int.ofNat_le.2 h1;rw [Int.natCast_mul] at h2
  omega
 have cells_eq : ∀ k, (Array.range (k * ee.zs.length)).map (fun j => ee.zcells.toArray[j % ee.zcells.toArray.size]!) = (List.replicate k ee.zcells).flatten.toArray := by
  intro k;have hzl : ee.zcells.length = ee.zs.length := by simp [TE.zcells]
  apply Array.ext';simp only [Array.toList_map, Array.toList_range, List.size_toArray, hzl]
  induction k with
  | zero => simp
  | succ k ih =>
   rw [List.replicate_succ', List.flatten_append, Nat.add_mul, Nat.one_mul, List.range_add, List.map_append, ih]
   congr 1
   simp only [List.map_map, List.flatten_cons, List.flatten_nil, List.append_nil]
   apply List.ext_getElem
   ·simp [hzl]
   ·intro j h1 h2;simp only [List.getElem_map, List.getElem_range, Function.comp];have hj : j < ee.zs.length := by simpa using h1
    rw [Nat.mul_add_mod', Nat.mod_eq_of_lt hj];simp [hzl, hj]
 refine wl_do (R := fun v w' => v = .slice (some ⟨w.heap.size, 0, none⟩) m m ∧ w' = w.alloc (Xa (List.replicate m ee.zcells).flatten E)) rfl hn hw (fun a ha => ⟨_, _, ?_, rfl, rfl⟩) ?_
 ·have hlt : ¬ ((m : Int) < 0) := by omega
  have hbb : ¬ ((i.bytes : Int) * (m : Int) > 2 ^ 48) := by
   have : (2 : Int) ^ 48 = 281474976710656 := by decide
   omega
  have hcond : (((decide ((m : Int) < 0) || decide ((i.bytes : Int) * (m : Int) > 2 ^ 48)) || decide ((m : Int) < 0)) || decide ((m : Int) > (m : Int))) = false := by
   simp [hlt];omega
  by_cases h00 : m * ee.zs.length = 0
  ·have hm0 : m = 0 := by
    rcases Nat.mul_eq_zero.1 h00 with h | h
    ·exact h
    ·omega
   subst hm0;have hw0 : IntKind.i64.wrap 0 = 0 := by decide
   simp [hw0, execOp, Instr.makeSlice, Xu w hu, Xe ha hx, asInt, asIntOf, Kg w hi, Yn w he, newRow, Xa]
   congr 2
   exact Array.eq_empty_of_size_eq_zero (by simp)
  ·simp only [execOp, Instr.makeSlice, Sem.run_bind, Xu w hu, Xe ha hx, asInt, asIntOf, Sem.run_pure, Result.andThen_ok, Kg w hi, hw64];rw [if_neg (by rw [hcond]; exact Bool.false_ne_true)];simp only [Sem.run_bind, run_askRoom, Result.andThen_ok, Yn w he, Int.toNat_natCast, h00, if_false, Vs w he, Sem.run_pure, hi4, newRow, run_newObj, cells_eq];rfl
 ·rintro v w' ⟨rfl, rfl⟩;exact h _ _ (hs.alloc _)
def buildL (T : Tab) (t : Nat) : List Value → List (Nat × Value) → Option (List Value)
 | cs, [] => some cs
 | cs, (j, v) :: r => match fieldAt T t j with
  | some (off, y) => if v.cells.size = y.zs.length ∧ off + v.cells.size ≤ cs.length then buildL T t (setL cs off v.cells.toList) r else none
  | none => none
theorem buildL_fill {t : Nat} {te : TE} {fs : List (Nat × Nat)} (ht : Xc (tb P) t = some te) (hd : te.td = .struct fs) (places : Array (Nat × Nat))
  (hp : ∀ j off y, fieldAt (tb P) t j = some (off, y) → places[j]? = some (off, y.zs.length)) : ∀ (ps : List (Nat × Value)) (cs r : List Value), buildL (tb P) t cs ps = some r → Instr.fill (places[·]?) cs.toArray ps = some r.toArray
 | [], cs, r, h => by simp [buildL] at h; simp [Instr.fill, h]
 | (j, v) :: ps, cs, r, h => by
  simp only [buildL] at h
  cases hf : fieldAt (tb P) t j with
  | none => rw [hf] at h; cases h
  | some q =>
   obtain ⟨off, y⟩ := q;rw [hf] at h
   simp only at h
   split at h
   ·rename_i hc;rw [fill_one _ _ _ _ _ off (by rw [hc.1]; exact hp j off y hf) hc.2];exact buildL_fill ht hd places hp ps _ r h
   ·cases h
theorem Yg {t : Nat} {te : TE} {fs : List (Nat × Nat)} {ps : List (Nat × Operand)} {vs : List Value} {r : List Value} (hv : evs ρ (ps.map (·.2)) = some vs) (ht : Xc (tb P) t = some te) (hd : te.td = .struct fs)
    (hb : buildL (tb P) t te.zcells ((ps.map (·.1)).zip vs) = some r) (hn : Nat.blt d N = true) (hw : Xl ops ρ guard = some true)
    (hfs : fs.all (fun f => (Xc (tb P) f.2).isSome) = true)
    (h : WL P ro Qb N ds ops rest s ((d, .agg r.toArray) :: ρ) w) :
    WL P ro Qb N ds ops (⟨some d, .build t ps.toArray, ty, pos, after, guard⟩ :: rest) s ρ w := by
  refine Zb (v := .agg r.toArray) (fun N' ds' a ha => ?_) rfl hn hw h;obtain ⟨l, hl1, hl2⟩ := Qs ht hd;obtain ⟨i, hi, hi1, hi2, hi3, hi4⟩ := Um ht
  have e3 : (ps.toArray.map fun (i, x) => (i, a.eval x)) = ((ps.map (·.1)).zip vs).toArray := by
    apply Array.ext';rw [← evs_parts ha hv];simp
  have places : ∀ (fl : List Field), (∀ f ∈ fl, (Xc (tb P) f.type).isSome = true) → ∃ pl : List (Nat × Nat), (fl.mapM fun f => do pure (f.offset, ← sizeOf f.type) : Sem (List (Nat × Nat))).run P w = .ok pl w ∧
      ∀ (j : Nat) (f : Field) (y : TE), fl[j]? = some f → Xc (tb P) f.type = some y → pl[j]? = some (f.offset, y.zs.length) := by
    intro fl
    induction fl with
    | nil => intro _; exact ⟨[], by simp, fun j f y hj => by simp at hj⟩
    | cons f fl ih =>
      intro hall;obtain ⟨pl, h1, h2⟩ := ih (fun f hf => hall f (List.mem_cons_of_mem _ hf));obtain ⟨y, hy⟩ := Option.isSome_iff_exists.1 (hall f List.mem_cons_self)
      refine ⟨(f.offset, y.zs.length) :: pl, ?_, ?_⟩
      · simp only [List.mapM_cons, Sem.run_bind, Yn w hy, Result.andThen_ok, Sem.run_pure, h1]
      · intro j f' y' hj hy';cases j with
        | zero => simp at hj; subst hj; rw [hy] at hy'; cases hy'; simp
        | succ j => simpa using h2 j f' y' (by simpa using hj) hy'
  obtain ⟨pl, hp1, hp2⟩ := places l.toList (fun f hf => by
    have : (f.offset, f.type) ∈ fs := by rw [← hl2]; exact List.mem_map.2 ⟨f, hf, rfl⟩
    exact List.all_eq_true.1 hfs _ this)
  have hfill := buildL_fill ht hd pl.toArray (fun j off y hf => by
    obtain ⟨l', f, g1, g2, g3, g4⟩ := fieldAt_spec hf;rw [hl1] at g1
    cases g1;have := hp2 j f y (by simpa using g2) g4;rw [g3] at this
    simpa using this) _ _ _ hb
  have hmap : (l.mapM fun f => do pure (f.offset, ← sizeOf f.type) : Sem (Array (Nat × Nat))).run P w = .ok pl.toArray w := by
    rw [Array.mapM_eq_mapM_toList];simp only [Sem.run_map, hp1, Result.andThen_ok]
  simp only [execOp, Instr.build];rw [e3];simp only [Sem.run_bind, Vs w ht, Result.andThen_ok, hi4, Xu w hl1, hmap];simp only [hfill, Sem.run_pure, Result.andThen_ok]
end
end
section
open Go.RowKit
theorem Ghost.Le.heap' {g g' : Ghost} (h : g ≤ g') {b : Nat} {o : Obj} (e : g.heap b = some o) : g'.heap b = some o := h.heap b o e
structure Kd (α : Type) where
 sz : Nat
 R : Ghost → List Value → α → Prop
 len : ∀ {g cs x}, R g cs x → cs.length = sz
 mono : ∀ {g g' cs x}, g ≤ g' → R g cs x → R g' cs x
def Lies (g : Ghost) (b o : Nat) (cs : List Value) : Prop := ∀ j u, cs[j]? = some u → g.cell ⟨b, o + j, none⟩ = some u
theorem Lies.mono {g g' : Ghost} (h : g ≤ g') {b o : Nat} {cs : List Value} (hl : Lies g b o cs) : Lies g' b o cs := fun j u e => h.cell (hl j u e)
def RS {α : Type} (K : Kd α) (g : Ghost) (v : Value) (xs : List α) : Prop :=
 ∃ a cap, v = .slice a xs.length cap ∧ (xs = [] ∨ ∃ b o, a = some ⟨b, o, none⟩ ∧ ∀ i (h : i < xs.length), ∃ cs, K.R g cs xs[i] ∧ Lies g b (o + i * K.sz) cs)
section
variable {α : Type} {K : Kd α} {g g' : Ghost} {xs : List α} {a : Option Addr} {n cap : Nat} {v : Value}
theorem RS.mono (h : RS K g v xs) (hg : g ≤ g') : RS K g' v xs := by
 obtain ⟨a, cap, rfl, h⟩ := h
 refine ⟨a, cap, rfl, ?_⟩
 rcases h with h | ⟨b, o, e, h⟩
 ·exact .inl h
 ·exact .inr ⟨b, o, e, fun i hi => let ⟨cs, h1, h2⟩ := h i hi; ⟨cs, K.mono hg h1, h2.mono hg⟩⟩
theorem RS.form (h : RS K g v xs) : ∃ a cap, v = .slice a xs.length cap := let ⟨a, cap, e, _⟩ := h; ⟨a, cap, e⟩
theorem RS.base (h : RS K g (.slice a n cap) xs) {i : Nat} (hi : i < xs.length) : ∃ b o, a = some ⟨b, o, none⟩ := by
 obtain ⟨a', cap', e, h⟩ := h
 cases e
 rcases h with rfl | ⟨b, o, e, _⟩
 ·simp at hi
 ·exact ⟨b, o, e⟩
theorem RS.get (h : RS K g (.slice a n cap) xs) {i : Nat} (hi : i < xs.length) : ∃ cs, K.R g cs xs[i] ∧ Lies g (Zj a K.sz i).block (Zj a K.sz i).off cs := by
 obtain ⟨a', cap', e, h⟩ := h
 cases e
 rcases h with rfl | ⟨b, o, rfl, h⟩
 ·simp at hi
 ·exact h i hi
theorem Kn (a : Option Addr) (sz i : Nat) : Zj a sz i = ⟨(Zj a sz i).block, (Zj a sz i).off, none⟩ := by cases a <;> rfl
theorem RS.nil (K : Kd α) (g : Ghost) (a : Option Addr) (cap : Nat) : RS K g (.slice a 0 cap) ([] : List α) := ⟨a, cap, rfl, .inl rfl⟩
theorem RS.one (h : RS K g v xs) : v.oneCell' = true := by obtain ⟨a, cap, rfl⟩ := h.form; rfl
theorem Lies.cellsAt {w : World} {L : Own} (hs : St g w L) {b o : Nat} {cs : List Value} (h : Lies g b o cs) : Jy w (some ⟨b, o, none⟩) cs :=
 .inr ⟨_, rfl, fun j u e => by rw [Yo]; exact hs.cellG (h j u e)⟩
theorem RS.cells (h : RS K g (.slice a n cap) xs) : ∃ cs : List Value, cs.length = n * K.sz ∧ (cs = [] ∨ ∃ b o, a = some ⟨b, o, none⟩ ∧ Lies g b o cs) ∧ n = xs.length ∧ ∀ i (hi : i < xs.length), K.R g ((cs.drop (i * K.sz)).take K.sz) xs[i] := by
 obtain ⟨a', cap', e, h⟩ := h
 cases e
 rcases h with rfl | ⟨b, o, rfl, h⟩
 ·exact ⟨[], by simp, .inl rfl, rfl, fun i hi => by simp at hi⟩
 ·have key : ∀ m, m ≤ xs.length → ∃ cs : List Value, cs.length = m * K.sz ∧ Lies g b o cs ∧ ∀ i (hi : i < xs.length), i < m → K.R g ((cs.drop (i * K.sz)).take K.sz) xs[i] := by
   intro m
   induction m with
   | zero => intro _; exact ⟨[], by simp, fun j u e => by simp at e, fun i _ h => by omega⟩
   | succ m ih =>
    intro hm;obtain ⟨cs, h1, h2, h3⟩ := ih (by omega);obtain ⟨c, h4, h5⟩ := h m (by omega);have hc := K.len h4
    refine ⟨cs ++ c, by rw [List.length_append, h1, hc, Nat.add_mul, Nat.one_mul], fun j u e => ?_, fun i hi him => ?_⟩
    ·rw [List.getElem?_append] at e
     split at e
     ·exact h2 j u e
     ·rename_i hj;have := h5 _ u e;rw [h1] at this
      rwa [show o + m * K.sz + (j - m * K.sz) = o + j by omega] at this
    ·by_cases him' : i < m
     ·have := h3 i hi him';have hle : i * K.sz + K.sz ≤ m * K.sz := by rw [← Nat.succ_mul]; exact Nat.mul_le_mul_right _ him'
      rw [List.drop_append_of_le_length (by omega), List.take_append_of_le_length (by rw [List.length_drop]; omega)];exact this
     ·have : i = m := by omega
      subst this;rw [← h1, List.drop_left, ← hc, List.take_length];exact h4
  obtain ⟨cs, h1, h2, h3⟩ := key xs.length (Nat.le_refl _);exact ⟨cs, h1, .inr ⟨b, o, rfl, h2⟩, rfl, fun i hi => h3 i hi hi⟩
theorem RS.cellsAt {w : World} {L : Own} (hs : St g w L) {cs : List Value} (h : cs = [] ∨ ∃ b o, a = some ⟨b, o, none⟩ ∧ Lies g b o cs) : Jy w a cs := by
 rcases h with h | ⟨b, o, rfl, h⟩
 ·exact .inl h
 ·exact h.cellsAt hs
theorem RS.mk' {b o : Nat} {cs : List Value} (hn : n = xs.length) (h : Lies g b o cs) (hr : ∀ i (hi : i < xs.length), K.R g ((cs.drop (i * K.sz)).take K.sz) xs[i]) : RS K g (.slice (some ⟨b, o, none⟩) n cap) xs := by
 subst hn
 refine ⟨_, cap, rfl, .inr ⟨b, o, rfl, fun i hi => ⟨_, hr i hi, fun j u e => ?_⟩⟩⟩
 rw [List.getElem?_take] at e
 split at e
 ·rw [List.getElem?_drop] at e
  have := h _ u e
  rwa [← Nat.add_assoc] at this
 ·cases e
end
theorem Us {g : Ghost} {b : Nat} {l : List Value} {E : Nat} (h : g.heap b = some (Xa l E)) {o : Nat} {cs : List Value} (hc : ∀ j u, cs[j]? = some u → l[o + j]? = some u) : Lies g b o cs := fun j u e => by
 have := hc j u e
 simp [Ghost.cell, h, Xa, this]
theorem OwnS.freeze {α : Type} {K : Kd α} {E : Nat} {v : Value} {n : Nat} {cs : List Value} {H L : Own} {g : Ghost} {w : World} {xs : List α} (h : OwnS E K.sz v n cs H) (hs : St g w (H ++ L)) (hn : n = xs.length)
  (hr : ∀ g', g ≤ g' → ∀ i (hi : i < xs.length), K.R g' ((cs.drop (i * K.sz)).take K.sz) xs[i]) : ∃ g', g ≤ g' ∧ St g' w L ∧ RS K g' v xs := by
 subst hn
 rcases h with ⟨rfl, h0, rfl, rfl⟩ | ⟨b, cap, pad, rfl, h1, h2, h3, rfl⟩
 ·have : xs = [] := List.eq_nil_of_length_eq_zero h0;subst this;exact ⟨g, Ghost.rfl', hs, RS.nil K g none 0⟩
 ·obtain ⟨s1, s2, s3⟩ := St.freeze (L := L) hs;refine ⟨_, s2, s1, RS.mk' rfl (Us s3 (o := 0) fun j u e => ?_) (hr _ s2)⟩;rw [Nat.zero_add, List.getElem?_append_left (List.getElem?_eq_some_iff.1 e).1];exact e
def kEnc {α : Type} (e : α → List Value) (m : Nat) (h : ∀ x, (e x).length = m) : Kd α := ⟨m, fun _ cs x => cs = e x, fun {_ _ x} hr => by rw [hr]; exact h x, fun _ hr => hr⟩
def kInt : Kd Int := kEnc (fun x => [.int .i64 x]) 1 (fun _ => rfl)
def kNat : Kd Nat := kEnc (fun x => [.int .i64 (x : Int)]) 1 (fun _ => rfl)
def Yt : Kd Bool := kEnc (fun x => [.bool x]) 1 (fun _ => rfl)
def kSl {α : Type} (K : Kd α) : Kd (List α) := ⟨1, fun g cs xs => ∃ v, cs = [v] ∧ RS K g v xs, fun ⟨_, e, _⟩ => by rw [e]; rfl, fun hg ⟨v, e, h⟩ => ⟨v, e, h.mono hg⟩⟩
section
variable {g : Ghost} {a : Option Addr} {n cap i : Nat}
theorem lies1 {b o : Nat} {u : Value} (h : Lies g b o [u]) : g.cell ⟨b, o, none⟩ = some u := h 0 u rfl
theorem RS.enc {α : Type} {e : α → List Value} {m : Nat} {h0 : ∀ x, (e x).length = m} {xs : List α} (h : RS (kEnc e m h0) g (.slice a n cap) xs) (hi : i < xs.length) : Lies g (Zj a m i).block (Zj a m i).off (e xs[i]) := by
 obtain ⟨cs, hr, hl⟩ := h.get hi
 cases hr
 exact hl
theorem RS.int {xs : List Int} (h : RS kInt g (.slice a n cap) xs) (hi : i < xs.length) : g.cell (Zj a 1 i) = some (.int .i64 xs[i]) := by
 rw [Kn]; exact lies1 (RS.enc h hi)
theorem RS.nat {xs : List Nat} (h : RS kNat g (.slice a n cap) xs) (hi : i < xs.length) : g.cell (Zj a 1 i) = some (.int .i64 (xs[i] : Int)) := by
 rw [Kn]; exact lies1 (RS.enc h hi)
theorem RS.bool {xs : List Bool} (h : RS Yt g (.slice a n cap) xs) (hi : i < xs.length) : g.cell (Zj a 1 i) = some (.bool xs[i]) := by
 rw [Kn]; exact lies1 (RS.enc h hi)
theorem RS.sl {α : Type} {K : Kd α} {xs : List (List α)} (h : RS (kSl K) g (.slice a n cap) xs) (hi : i < xs.length) : ∃ b c, g.cell (Zj a 1 i) = some (.slice b xs[i].length c) ∧ RS K g (.slice b xs[i].length c) xs[i] := by
 obtain ⟨cs, ⟨v, rfl, hr⟩, hl⟩ := h.get hi
 obtain ⟨b, c, rfl⟩ := hr.form
 exact ⟨b, c, by rw [Kn]; exact lies1 hl, hr⟩
theorem OwnS.freezeE {α : Type} {e : α → List Value} {m : Nat} {h0 : ∀ x, (e x).length = m} {E : Nat} {v : Value} {H L : Own} {w : World} {xs : List α} (h : OwnS E m v xs.length (xs.flatMap e) H) (hs : St g w (H ++ L)) :
  ∃ g', g ≤ g' ∧ St g' w L ∧ RS (kEnc e m h0) g' v xs := by
 refine OwnS.freeze (K := kEnc e m h0) h hs rfl fun g' _ i hi => ?_
 show ((xs.flatMap e).drop (i * m)).take m = e xs[i]
 have key : ∀ (xs : List α) (i : Nat) (hi : i < xs.length), ((xs.flatMap e).drop (i * m)).take m = e xs[i] := by
  intro xs
  induction xs with
  | nil => intro i hi; simp at hi
  | cons x xs ih =>
   intro i hi;cases i with
   | zero => simp only [List.flatMap_cons, Nat.zero_mul, List.drop_zero, List.getElem_cons_zero]; rw [← h0 x, List.take_left]
   | succ i =>
    simp only [List.flatMap_cons, List.getElem_cons_succ, Nat.succ_mul];rw [show i * m + m = (e x).length + i * m by rw [h0 x]; omega, List.drop_append];rw [show (e x).drop ((e x).length + i * m) = [] by simp];simpa using ih i (by simpa using hi)
 exact key xs i hi
end
abbrev AMap := List (Int × Value)
def Zt : AMap → Int → Option Value
 | [], _ => none
 | (k', v) :: r, k => if k = k' then some v else Zt r k
def aset : AMap → Int → Value → AMap
 | [], k, v => [(k, v)]
 | (k', u) :: r, k, v => if k = k' then (k', v) :: r else (k', u) :: aset r k v
def entO (m : List (Int × Value × Nat)) : List MapEntry := m.map fun e => ⟨.int .i64 e.1, e.2.1, e.2.2⟩
def mapO (m : List (Int × Value × Nat)) (clock : Nat) : Obj := .map (entO m).toArray clock
def Jb (m : AMap) (o : Obj) : Prop := ∃ es clock, o = mapO es clock ∧ es.map (fun e => (e.1, e.2.1)) = m
section
variable {P : Program} [Tabbed P] {w : World}
theorem findNow_entO (k : Int) : ∀ (es : List (Int × Value × Nat)) (i : Nat), ∃ j, Instr.findNow (.int .i64) (.int .i64 k) (entO es) i = some ((Zt (es.map fun e => (e.1, e.2.1)) k).map fun v => (i + j, v)) ∧
      ((Zt (es.map fun e => (e.1, e.2.1)) k).isSome = true → ∃ h : j < es.length, es[j].1 = k)
  | [], i => ⟨0, by simp [entO, Instr.findNow, Zt], by simp [Zt]⟩
  | (k', v, b) :: es, i => by
    by_cases h : k = k'
    · subst h;exact ⟨0, by simp [entO, Instr.findNow, Instr.sameNow, Zt], fun _ => ⟨by simp, rfl⟩⟩
    · obtain ⟨j, h1, h2⟩ := findNow_entO k es (i + 1)
      refine ⟨j + 1, ?_, fun hs => ?_⟩
      · have hne : (k == k') = false := by simp [h]
        simp only [entO, List.map_cons, Instr.findNow, Instr.sameNow, if_true, hne, Zt, h, if_false];rw [show i + (j + 1) = i + 1 + j by omega];exact h1
      · simp only [List.map_cons, Zt, h, if_false] at hs
        obtain ⟨h3, h4⟩ := h2 hs;exact ⟨by simpa using h3, by simpa using h4⟩
theorem run_lookup {t K E : Nat} {te ke ee : TE} {r : Nat} {m : AMap} {o : Obj} {k : Int} {ok : Bool} (ht : Xc (tb P) t = some te) (hd : te.td = .map K E) (hk : Xc (tb P) K = some ke) (hkd : ke.td = .int .i64) (he : Xc (tb P) E = some ee)
  (hr : w.heap[r]? = some o) (hm : Jb m o) :
  (Instr.lookup t (.map (some r)) (.int .i64 k) ok).run P w = .ok (if ok then .tuple #[(Zt m k).getD ee.zero, .bool (Zt m k).isSome] else (Zt m k).getD ee.zero) w := by
 obtain ⟨es, clock, rfl, rfl⟩ := hm
 have hu := und_map ht hd
 have huk := und_int hk hkd
 obtain ⟨j, h1, _⟩ := findNow_entO k es 0
 have hget : (getObj r).run P w = .ok (mapO es clock) w := by simp [getObj, Sem.run, hr, mapO]
 have hfind : (Instr.findKey K (.int .i64 k) (entO es)).run P w = .ok ((Zt (es.map fun e => (e.1, e.2.1)) k).map fun v => (0 + j, v)) w := by
  simp [Instr.findKey, Xu w huk, h1]
 have hck : ∀ b, (Instr.checkKey b 10000 K (.int .i64 k)).run P w = .ok () w := fun b => by
  unfold Instr.checkKey;simp [Xu w huk]
 simp only [Instr.lookup, Sem.run_bind, Xu w hu, Result.andThen_ok, hget, mapO, Sem.run_pure, hck, hfind]
 cases hl : Zt (es.map fun e => (e.1, e.2.1)) k with
 | none => cases ok <;> simp [Vs w he]
 | some v => cases ok <;> simp
variable {ro : Option Nat} {Qb : Exit → Act → World → Prop} {N : Nat} {ds : List Deferred} {ops : Array Oper} {rest : List Oper} {s : List Fr} {ρ : Env}
variable {g : Ghost} {L : Own}
variable {d : Nat} {ty : TypeId} {pos : String} {after : Array Edge} {guard : Option (Nat × Bool)}
theorem opv_lookup {t K E : Nat} {te ke ee : TE} {r : Nat} {m : AMap} {o : Obj} {k : Int} {ok : Bool} {x y : Operand} {dst : Option Tmp} (hx : ev ρ x = some (.map (some r))) (hy : ev ρ y = some (.int .i64 k))
  (ht : Xc (tb P) t = some te) (hd : te.td = .map K E) (hk : Xc (tb P) K = some ke) (hkd : ke.td = .int .i64) (he : Xc (tb P) E = some ee) (hr : w.heap[r]? = some o) (hm : Jb m o) :
  OpV P ⟨dst, .lookup t x y ok, ty, pos, after, guard⟩ ρ w (if ok then .tuple #[(Zt m k).getD ee.zero, .bool (Zt m k).isSome] else (Zt m k).getD ee.zero) := fun N ds a ha => by
 have := run_lookup (w := w) (k := k) (ok := ok) ht hd hk hkd he hr hm
 simp only [execOp, Xe ha hx, Xe ha hy, Sem.run_bind, this, Result.andThen_ok, Sem.run_pure]
theorem wl_look {t K E : Nat} {te ke ee : TE} {r : Nat} {m : AMap} {o : Obj} {k : Int} {x y : Operand} {u : Value} (hs : St g w L) (j : Nat) (hm : Jb m o) (hx : ev ρ x = some (.map (some r))) (hy : ev ρ y = some (.int .i64 k)) (hj : L[j]? = some (r, o))
  (ht : Xc (tb P) t = some te) (hd : te.td = .map K E) (hk : Xc (tb P) K = some ke) (hkd : ke.td = .int .i64) (he : Xc (tb P) E = some ee) (hu : (Zt m k).getD ee.zero = u) (hn : Nat.blt d N = true) (hw : Xl ops ρ guard = some true)
  (h : WL P ro Qb N ds ops rest s ((d, u) :: ρ) w) :
  WL P ro Qb N ds ops (⟨some d, .lookup t x y false, ty, pos, after, guard⟩ :: rest) s ρ w :=
 Zb (by have := opv_lookup (w := w) (ok := false) (dst := some d) (ty := ty) (pos := pos) (after := after) (guard := guard) hx hy ht hd hk hkd he (hs.own _ _ (Za hj)) hm; simpa [hu] using this) rfl hn hw h
theorem wl_lookOk {t K E : Nat} {te ke ee : TE} {r : Nat} {m : AMap} {o : Obj} {k : Int} {x y : Operand} {u : Value} {b : Bool} (hs : St g w L) (j : Nat) (hm : Jb m o) (hx : ev ρ x = some (.map (some r))) (hy : ev ρ y = some (.int .i64 k)) (hj : L[j]? = some (r, o))
  (ht : Xc (tb P) t = some te) (hd : te.td = .map K E) (hk : Xc (tb P) K = some ke) (hkd : ke.td = .int .i64) (he : Xc (tb P) E = some ee) (hu : (Zt m k).getD ee.zero = u) (hb : (Zt m k).isSome = b) (hn : Nat.blt d N = true) (hw : Xl ops ρ guard = some true)
  (h : WL P ro Qb N ds ops rest s ((d, .tuple #[u, .bool b]) :: ρ) w) :
  WL P ro Qb N ds ops (⟨some d, .lookup t x y true, ty, pos, after, guard⟩ :: rest) s ρ w :=
 Zb (by have := opv_lookup (w := w) (ok := true) (dst := some d) (ty := ty) (pos := pos) (after := after) (guard := guard) hx hy ht hd hk hkd he (hs.own _ _ (Za hj)) hm; simpa [hu, hb] using this) rfl hn hw h
omit [Tabbed P] in
theorem Vx {t : Nat} (hs : St g w L) (hn : Nat.blt d N = true) (hw : Xl ops ρ guard = some true)
  (h : ∀ r o w', Jb [] o → St g w' ((r, o) :: L) → WL P ro Qb N ds ops rest s ((d, .map (some r)) :: ρ) w') :
  WL P ro Qb N ds ops (⟨some d, .makeMap t none, ty, pos, after, guard⟩ :: rest) s ρ w := by
 refine wl_do (R := fun v w' => v = .map (some w.heap.size) ∧ w' = w.alloc (mapO [] 0)) rfl hn hw (fun a _ => ⟨_, _, ?_, rfl, rfl⟩) ?_
 ·simp [execOp, Instr.makeMap, mapO, entO]
 ·rintro v w' ⟨rfl, rfl⟩;exact h _ _ _ ⟨[], 0, rfl, rfl⟩ (hs.alloc _)
omit [Tabbed P] in
theorem run_setObj {r : Nat} {es : List (Int × Value × Nat)} {clock : Nat} (o' : Obj) (h : w.heap[r]? = some (mapO es clock)) : (setObj r o').run P w = .ok () { w with heap := w.heap.setIfInBounds r o' } := by
 simp [setObj, Sem.run, h, mapO]
theorem st_setObj {r : Nat} {o o' : Obj} (hs : St g w ((r, o) :: L)) : St g { w with heap := w.heap.setIfInBounds r o' } ((r, o') :: L) :=
 hs.turn rfl rfl rfl (by have := hs.lt List.mem_cons_self; simp [this]) (fun k _ hk => by simp [Array.getElem?_setIfInBounds_ne (Ne.symm hk)])
theorem aset_map : ∀ (es : List (Int × Value × Nat)) (k : Int) (v : Value) (j : Nat) (hj : j < es.length), (∀ i (h : i < j), (es[i]'(by omega)).1 ≠ k) → es[j].1 = k →
  aset (es.map fun e => (e.1, e.2.1)) k v = (es.set j (k, v, es[j].2.2)).map fun e => (e.1, e.2.1)
 | [], k, v, j, hj, _, _ => by simp at hj
 | e :: es, k, v, 0, _, _, h => by
  simp only [List.getElem_cons_zero] at h
  simp [aset, h]
 | e :: es, k, v, j + 1, hj, h1, h2 => by
  have h0 := h1 0 (by omega);simp only [List.getElem_cons_zero] at h0
  have h00 : ¬ k = e.1 := fun e' => h0 (Eq.symm e')
  simp only [List.map_cons, aset, if_neg h00, List.set_cons_succ, List.getElem_cons_succ];rw [aset_map es k v j (by simpa using hj) (fun i h => by simpa using h1 (i + 1) (by omega)) (by simpa using h2)]
theorem findNow_spec (k : Int) : ∀ (es : List (Int × Value × Nat)) (i : Nat),
  (∃ j, ∃ hj : j < es.length, Instr.findNow (.int .i64) (.int .i64 k) (entO es) i = some (some (i + j, es[j].2.1)) ∧ es[j].1 = k ∧ ∀ i' (h : i' < j), (es[i']'(by omega)).1 ≠ k) ∨
  (Instr.findNow (.int .i64) (.int .i64 k) (entO es) i = some none ∧ Zt (es.map fun e => (e.1, e.2.1)) k = none)
 | [], i => .inr ⟨rfl, rfl⟩
 | (k', v, b) :: es, i => by
  by_cases h : k = k'
  ·subst h;exact .inl ⟨0, by simp, by simp [entO, Instr.findNow, Instr.sameNow], rfl, fun i' h => by omega⟩
  ·have hne : (k == k') = false := by simp [h]
   rcases findNow_spec k es (i + 1) with ⟨j, hj, h1, h2, h3⟩ | ⟨h1, h2⟩
   ·refine .inl ⟨j + 1, by simpa using hj, ?_, by simpa using h2, fun i' hi' => ?_⟩
    ·simp only [entO, List.map_cons, Instr.findNow, Instr.sameNow, if_true, hne, List.getElem_cons_succ];rw [show i + (j + 1) = i + 1 + j by omega];exact h1
    ·cases i' with
     | zero => simpa using fun e => h e.symm
     | succ i' => simpa using h3 i' (by omega)
   ·refine .inr ⟨?_, ?_⟩
    ·simp only [entO, List.map_cons, Instr.findNow, Instr.sameNow, if_true, hne];exact h1
    ·simp only [List.map_cons, Zt, h, if_false];exact h2
theorem aset_new : ∀ (m : AMap) (k : Int) (v : Value), Zt m k = none → aset m k v = m ++ [(k, v)]
 | [], _, _, _ => rfl
 | (k', u) :: r, k, v, h => by
  simp only [Zt] at h
  split at h
  ·cases h
  ·rename_i hne;simp only [aset, if_neg hne, List.cons_append];rw [aset_new r k v h]
theorem Kw {t K E : Nat} {te ke : TE} {r : Nat} {m : AMap} {o : Obj} {k : Int} {v : Value} {x y z : Operand} (hs : St g w L) (j : Nat) (hm : Jb m o) (hx : ev ρ x = some (.map (some r))) (hy : ev ρ y = some (.int .i64 k)) (hz : ev ρ z = some v) (hj : L[j]? = some (r, o))
  (ht : Xc (tb P) t = some te) (hd : te.td = .map K E) (hk : Xc (tb P) K = some ke) (hkd : ke.td = .int .i64) (hw : Xl ops ρ guard = some true)
  (h : ∀ o' w', Jb (aset m k v) o' → St g w' (L.set j (r, o')) → WL P ro Qb N ds ops rest s ρ w') :
  WL P ro Qb N ds ops (⟨none, .mapUpdate t x y z, ty, pos, after, guard⟩ :: rest) s ρ w := by
 obtain ⟨es, clock, rfl, rfl⟩ := hm
 have hu := und_map ht hd
 have huk := und_int hk hkd
 have hr := hs.own _ _ (Za hj)
 have hget : (getObj r).run P w = .ok (mapO es clock) w := by simp [getObj, Sem.run, hr, mapO]
 have hck : ∀ b, (Instr.checkKey b 10000 K (.int .i64 k)).run P w = .ok () w := fun b => by
  unfold Instr.checkKey;simp [Xu w huk]
 have hfr := hs.front j hj
 rcases findNow_spec k es 0 with ⟨i, hi, h1, h2, h3⟩ | ⟨h1, h2⟩
 ·have hfind : (Instr.findKey K (.int .i64 k) (entO es)).run P w = .ok (some (i, es[i].2.1)) w := by
   simp [Instr.findKey, Xu w huk, h1]
  have hnew : mapO (es.set i (k, v, es[i].2.2)) clock = .map ((entO es).toArray.modify i fun e => { e with key := .int .i64 k, val := v }) clock := by
   simp only [mapO, Obj.map.injEq, and_true];apply Array.ext'
   apply List.ext_getElem
   ·simp [entO]
   ·intro q hq1 hq2;simp only [entO, Array.toList_modify, List.getElem_modify, List.getElem_map, List.getElem_set]
    split <;> rename_i hq
    ·subst hq; simp
    ·simp
  have hke : ((((entO es).toArray[i]?).map (·.key)).getD (.int .i64 k)) = .int .i64 k := by
   simp [entO, hi, h2]
  have hstay : (Instr.keyThatStays (.int .i64 k) (.int .i64 k)).run P w = .ok (.int .i64 k) w := by
   simp [Instr.keyThatStays, Instr.sameBits]
  refine wl_doN (R := fun w' => w' = { w with heap := w.heap.setIfInBounds r (mapO (es.set i (k, v, es[i].2.2)) clock) }) rfl hw (fun a ha => ⟨_, ?_, rfl⟩) ?_
  ·simp only [execOp, Xe ha hx, Xe ha hy, Xe ha hz, Instr.mapUpdate, Sem.run_bind, Xu w hu, Result.andThen_ok, hget, mapO, hck, hfind, hke, hstay];rw [← hnew];simp only [run_setObj (P := P) _ hr, Result.andThen_ok, Sem.run_pure];rfl
  ·rintro w' rfl;refine h _ _ ⟨_, clock, rfl, ?_⟩ ((st_setObj hfr).setAt j hj);rw [aset_map es k v i hi h3 h2]
 ·have hfind : (Instr.findKey K (.int .i64 k) (entO es)).run P w = .ok none w := by
   simp [Instr.findKey, Xu w huk, h1]
  have hnew : mapO (es ++ [(k, v, clock)]) (clock + 1) = .map ((entO es).toArray.push { key := .int .i64 k, val := v, born := clock }) (clock + 1) := by
   simp [mapO, entO]
  refine wl_doN (R := fun w' => w' = { w with heap := w.heap.setIfInBounds r (mapO (es ++ [(k, v, clock)]) (clock + 1)) }) rfl hw (fun a ha => ⟨_, ?_, rfl⟩) ?_
  ·simp only [execOp, Xe ha hx, Xe ha hy, Xe ha hz, Instr.mapUpdate, Sem.run_bind, Xu w hu, Result.andThen_ok, hget, mapO, hck, hfind];rw [← hnew];simp only [run_setObj (P := P) _ hr, Result.andThen_ok, Sem.run_pure];rfl
  ·rintro w' rfl;refine h _ _ ⟨_, _, rfl, ?_⟩ ((st_setObj hfr).setAt j hj);rw [aset_new _ _ _ h2];simp
omit [Tabbed P] in
theorem wl_min {x y : Operand} {a b : Int} {argTypes : Array TypeId} (hx : ev ρ x = some (.int .i64 a)) (hy : ev ρ y = some (.int .i64 b)) (hn : Nat.blt d N = true) (hw : Xl ops ρ guard = some true)
  (h : WL P ro Qb N ds ops rest s ((d, .int .i64 (if b < a then b else a)) :: ρ) w) :
  WL P ro Qb N ds ops (⟨some d, .call ⟨.builtin .min, #[x, y], argTypes⟩, ty, pos, after, guard⟩ :: rest) s ρ w :=
 Zb (fun N' ds' ac ha => by simp [execOp, resolve, invoke, builtin, Builtin.min_, Builtin.min2, Xe ha hx, Xe ha hy]) rfl hn hw h
omit [Tabbed P] in
theorem wl_max {x y : Operand} {a b : Int} {argTypes : Array TypeId} (hx : ev ρ x = some (.int .i64 a)) (hy : ev ρ y = some (.int .i64 b)) (hn : Nat.blt d N = true) (hw : Xl ops ρ guard = some true)
  (h : WL P ro Qb N ds ops rest s ((d, .int .i64 (if a < b then b else a)) :: ρ) w) :
  WL P ro Qb N ds ops (⟨some d, .call ⟨.builtin .max, #[x, y], argTypes⟩, ty, pos, after, guard⟩ :: rest) s ρ w :=
 Zb (fun N' ds' ac ha => by simp [execOp, resolve, invoke, builtin, Builtin.max_, Builtin.max2, Xe ha hx, Xe ha hy]) rfl hn hw h
omit [Tabbed P] in
theorem run_eqNil (dep : Nat) {t e : Nat} {a : Option Addr} {n cap : Nat} (hu : P.underlying t = some (.slice e)) : (Op.equalIn (dep + 1) t (.slice a n cap) (.slice none 0 0)).run P w = .ok a.isNone w := by
 cases a <;> simp [Op.equalIn, underlying, hu]
theorem wl_isNil {t e t2 : Nat} {te : TE} {x y : Operand} {a : Option Addr} {n cap : Nat} (hx : ev ρ x = some (.slice a n cap)) (hy : ev ρ y = some (.slice none 0 0)) (ht : Xc (tb P) t = some te) (hd : te.td = .slice e) (hn : Nat.blt d N = true) (hw : Xl ops ρ guard = some true)
  (h : WL P ro Qb N ds ops rest s ((d, .bool a.isNone) :: ρ) w) :
  WL P ro Qb N ds ops (⟨some d, .binOp .eql t x y t2, ty, pos, after, guard⟩ :: rest) s ρ w := by
 have hu := Zf ht hd
 refine Zb (fun N' ds' ac ha => ?_) rfl hn hw h
 have he : (Op.equal t (.slice a n cap) (.slice none 0 0)).run P w = .ok a.isNone w := run_eqNil 9999 hu
 simp only [execOp, Xe ha hx, Xe ha hy, eqGuard, binOp, Sem.run_bind, Sem.run_pure, Result.andThen_ok, Bool.not_true, Bool.false_eq_true, if_false, he]
def optI (ρ : Env) (dflt : Int) : Option Operand → Option Int
 | none => some dflt
 | some x => match ev ρ x with
  | some (.int .i64 i) => some i
  | _ => none
theorem wl_slice {t E : Nat} {te ee : TE} {x : Operand} {lo hi : Option Operand} {a : Option Addr} {n cap : Nat} {l h' : Int} (hx : ev ρ x = some (.slice a n cap)) (hl : optI ρ 0 lo = some l) (hh : optI ρ n hi = some h')
  (h0 : 0 ≤ l ∧ l ≤ h' ∧ h' ≤ cap) (hnc : n ≤ cap) (ht : Xc (tb P) t = some te) (hd : te.td = .slice E) (he : Xc (tb P) E = some ee) (hn : Nat.blt d N = true) (hw : Xl ops ρ guard = some true)
  (h : WL P ro Qb N ds ops rest s ((d, .slice (if cap = l.toNat then a else a.map (·.add (l.toNat * ee.zs.length))) (h'.toNat - l.toNat) (cap - l.toNat)) :: ρ) w) :
  WL P ro Qb N ds ops (⟨some d, .slice t x lo hi none, ty, pos, after, guard⟩ :: rest) s ρ w := by
 have hu := Zf ht hd
 obtain ⟨l, rfl⟩ := Int.eq_ofNat_of_zero_le h0.1
 obtain ⟨h', rfl⟩ := Int.eq_ofNat_of_zero_le (show 0 ≤ h' by omega)
 refine Zb (fun N' ds' ac ha => ?_) rfl hn hw h
 have hlo : lo.map ac.eval = lo.map (fun _ => Value.int .i64 l) := by
  cases lo with
  | none => rfl
  | some y =>
   simp only [optI] at hl
   cases hy : ev ρ y with
   | none => simp [hy] at hl
   | some u =>
    rw [hy] at hl
    cases u <;> (try simp only at hl) <;> try (cases hl; done)
    rename_i k i;cases k <;> (try simp only at hl) <;> try (cases hl; done)
    simp only [Option.some.injEq] at hl
    subst hl;simp [Xe ha hy]
 have hhi : hi.map ac.eval = hi.map (fun _ => Value.int .i64 h') := by
  cases hi with
  | none => rfl
  | some y =>
   simp only [optI] at hh
   cases hy : ev ρ y with
   | none => simp [hy] at hh
   | some u =>
    rw [hy] at hh
    cases u <;> (try simp only at hh) <;> try (cases hh; done)
    rename_i k i;cases k <;> (try simp only at hh) <;> try (cases hh; done)
    simp only [Option.some.injEq] at hh
    subst hh;simp [Xe ha hy]
 have hcap : h' ≤ cap := by omega
 have hlh : l ≤ h' := by omega
 simp only [execOp, hlo, hhi, Xe ha hx, Instr.sliceAt, Sem.run_bind, Xu w hu, Result.andThen_ok, Instr.slice, Instr.sliceBounds, Option.map_none, Sem.run_pure]
 cases lo <;> cases hi <;> simp only [optI, Option.some.injEq] at hl hh
 ·have e1 : l = 0 := by omega
  have e2 : h' = n := by omega
  subst e1 e2; simp [Yn w he]
 ·have e1 : l = 0 := by omega
  subst e1; simp [Instr.sliceBound, asIntOf, hcap, Yn w he]
 ·have e2 : h' = n := by omega
  subst e2; simp [Instr.sliceBound, asIntOf, hlh, Yn w he]
 ·simp [Instr.sliceBound, asIntOf, hcap, hlh, Yn w he]
end
end
section
open Go.RowKit
section
variable {P : Program} [Tabbed P] {ro : Option Nat} {Qb : Exit → Act → World → Prop} {N : Nat} {ds : List Deferred} {s : List Fr} {ρ : Env} {w : World}
def incr (r2 tj ti y1 y2 : Nat) (p1 p2 : String) (e1 e2 : Array Edge) (t1 t2 : Nat) : Code :=
 .region r2 [⟨some tj, .binOp .add t1 (.tmp ti) (.const (.int .i64 1)) t2, y1, p1, e1, none⟩, ⟨some ti, .move (.tmp tj), y2, p2, e2, none⟩].toArray false
def forE {σ : Type} (ti : Nat) (ρI : Nat → σ → Env) (p : Nat × σ) : Env := (ti, .int .i64 (p.1 : Int)) :: ρI p.1 p.2
def forJ {σ : Type} (n : Nat) (J : Nat → σ → World → Prop) (p : Nat × σ) (w : World) : Prop := p.1 ≤ n ∧ J p.1 p.2 w
def forS {σ : Type} (N : Nat) (ds : List Deferred) (inc : Code) (b0 ti n : Nat) (ρI : Nat → σ → Env) (J : Nat → σ → World → Prop) (i : Nat) (x : σ) (s : List Fr) : List Fr :=
 .seq inc :: .rnd (roundI N ds (forE ti ρI) (forJ n J) (fun p => n - p.1) (i, x)) :: .blk b0 :: s
theorem Yw {σ : Type} {b0 b1 r1 r2 tc ti tj t0 t0' t1 t2 y0 y1 y2 : Nat} {bd : Operand} {p0 p1 p2 : String} {e0 e1 e2 : Array Edge} {body : Code}
    (n : Nat) (ρI : Nat → σ → Env) (J : Nat → σ → World → Prop) (x0 : σ) (hn : n ≤ 4611686018427387904)
    (hρ : subs ((ti, .int .i64 (0 : Int)) :: ρI 0 x0) ρ) (h0 : J 0 x0 w) (hb : ∀ i x, ev ((ti, .int .i64 ((i : Nat) : Int)) :: ρI i x) bd = some (.int .i64 n))
    (htc : Nat.blt tc N = true) (hti : Nat.blt ti N = true) (htj : Nat.blt tj N = true)
    (hbody : ∀ i x w, i < n → J i x w → WC P ro Qb N ds body (.blk b1 :: forS N ds (incr r2 tj ti y1 y2 p1 p2 e1 e2 t1 t2) b0 ti n ρI J i x s) ((ti, .int .i64 (i : Int)) :: ρI i x) w)
    (hdone : ∀ x w, J n x w → WK P ro Qb N ds s ((ti, .int .i64 (n : Int)) :: ρI n x) w) (hfree : ∀ i x, Ye (ρI i x) tc = none) (hne : Nat.beq tc ti = false) :
    WC P ro Qb N ds (.block b0 (.loop (.seq (.region r1 [⟨some tc, .binOp .lss t0 (.tmp ti) bd t0', y0, p0, e0, none⟩].toArray false) (.seq (.cond (.tmp tc) .skip (.exit b0)) (.seq (.block b1 body) (incr r2 tj ti y1 y2 p1 p2 e1 e2 t1 t2)))))) s ρ w := by
  refine Yc (Ke (forE ti ρI) (forJ n J) (fun p => n - p.1) (0, x0) hρ ⟨Nat.zero_le _, h0⟩ ?_);rintro ⟨i, x⟩ w ⟨hle, hj⟩;refine wc_seq (Ko ?_)
  refine wl_p (v := .bool (decide ((i : Int) < (n : Int)))) (by
    have h1 : ev (forE ti ρI (i, x)) (.tmp ti) = some (.int .i64 (i : Int)) := by simp [forE, ev, Ye, Nat.beq_refl]
    have h2 : ev (forE ti ρI (i, x)) bd = some (.int .i64 n) := hb i x;simp [pureV, h1, h2, binV, cmpV]) htc rfl ?_
  refine Xn (Zl (wc_seq ?_))
  have hsub : Sub (forE ti ρI (i, x)) ((tc, .bool (decide ((i : Int) < (n : Int)))) :: forE ti ρI (i, x)) := fun k v hk => by
    simp only [Ye, Bool.cond_eq_ite]
    split
    · rename_i he;have := Nat.eq_of_beq_eq_true he;subst this;simp only [forE, Ye, hne, cond_false, hfree] at hk
      cases hk
    · exact hk
  refine Xi (by simp [ev, Ye, Nat.beq_refl]; rfl) (fun ht => ?_) (fun hf => ?_)
  · have hlt : i < n := by simpa using ht
    refine Xq (Zl (wc_seq (Yc ?_)));exact fun a ha => hbody i x w hlt hj a (ha.sub hsub)
  · have hge : i = n := by have : ¬ (i < n) := by simpa using hf
                           omega
    subst hge;refine Zm (s' := s) ?_ (fun a ha => hdone x w hj a (ha.sub hsub))
    show popTo b0 (.seq _ :: .rnd _ :: .blk b0 :: s) = some s
    simp [popTo, Nat.beq_refl]
theorem Xx {σ : Type} {b0 r2 tj ti t1 t2 y1 y2 n i : Nat} {p1 p2 : String} {e1 e2 : Array Edge} {ρI : Nat → σ → Env} {J : Nat → σ → World → Prop} {x : σ} (x' : σ) (hlt : i < n) (hn : n ≤ 4611686018427387904) (hj : J (i + 1) x' w)
  (hi : Ye ρ ti = some (.int .i64 (i : Int))) (hti : Nat.blt ti N = true) (htj : Nat.blt tj N = true)
  (hρ : subs (ρI (i + 1) x') ((ti, .int .i64 ((i + 1 : Nat) : Int)) :: (tj, .int .i64 ((i + 1 : Nat) : Int)) :: ρ)) :
  WK P ro Qb N ds (forS N ds (incr r2 tj ti y1 y2 p1 p2 e1 e2 t1 t2) b0 ti n ρI J i x s) ρ w := by
 refine Zl (Ko ?_)
 refine wl_ar (a := i) (b := 1) (c := ((i + 1 : Nat) : Int)) hi rfl (by simp [Qn]) (by omega) htj rfl ?_
 refine wl_p (v := .int .i64 ((i + 1 : Nat) : Int)) (by simp [pureV, ev, Ye, Nat.beq_refl]) hti rfl ?_
 refine Xn (Uh (ρI := forE ti ρI) (i + 1, x') ⟨by simp [Ye, Nat.beq_refl], hρ⟩ ⟨by show i + 1 ≤ n; omega, hj⟩ (by show n - (i + 1) < n - i; omega))
end
end
section
open Go.RowKit
inductive TY where
 | known (v : Value)
 | pred (Φ : Ghost → Value → Own → Prop)

 | lent (Φ Ψ : Ghost → Value → Own → Prop)
def TY.S : TY → Ghost → Value → Own → Prop
 | .known v, _, x, L => x = v ∧ L = []
 | .pred Φ, g, x, L => Φ g x L
 | .lent Φ _, g, x, L => Φ g x L
def TY.Φ : TY → Ghost → Value → Own → Prop
 | .known v, _, x, L => x = v ∧ L = []
 | .pred Φ, g, x, L => Φ g x L
 | .lent Φ Ψ, g, x, L => Φ g x L ∨ Ψ g x L
def TY.Mono : TY → Prop
 | .known v => ∀ g g' x L, g ≤ g' → (TY.known v).S g x L → (TY.known v).S g' x L
 | .pred Φ => ∀ g g' v L, g ≤ g' → Φ g v L → Φ g' v L
 | .lent Φ Ψ => (∀ g g' v L, g ≤ g' → Φ g v L → Φ g' v L) ∧ ∀ g g' v L, g ≤ g' → Ψ g v L → Ψ g' v L
theorem TY.Mono.strong {g g' : Ghost} {v : Value} {L : Own} : ∀ {e : TY}, e.Mono → g ≤ g' → e.S g v L → e.S g' v L
 | .known _, h, hg, k => h _ _ _ _ hg k
 | .pred _, h, hg, k => h _ _ _ _ hg k
 | .lent _ _, h, hg, k => h.1 _ _ _ _ hg k
theorem TY.weak {g : Ghost} {v : Value} {L : Own} : ∀ {e : TY}, e.S g v L → e.Φ g v L
 | .known _, h => h
 | .pred _, h => h
 | .lent _ _, h => .inl h
theorem TY.Mono.weak {g g' : Ghost} {v : Value} {L : Own} : ∀ {e : TY}, e.Mono → g ≤ g' → e.Φ g v L → e.Φ g' v L
 | .known _, h, hg, k => h _ _ _ _ hg k
 | .pred _, h, hg, k => h _ _ _ _ hg k
 | .lent _ _, h, hg, .inl k => .inl (h.1 _ _ _ _ hg k)
 | .lent _ _, h, hg, .inr k => .inr (h.2 _ _ _ _ hg k)
def soleB (ops : Array Oper) (t : Nat) : Bool := Nat.ble (ops.toList.countP fun o => (o.looksAt ops).contains t) 1
theorem two_count {α : Type} {p : α → Bool} : ∀ {l : List α} {i k : Nat} {a b : α}, i ≠ k → l[i]? = some a → l[k]? = some b → p a = true → p b = true → 2 ≤ l.countP p
 | [], i, k, a, b, _, h, _, _, _ => by simp at h
 | x :: l, 0, 0, a, b, h, _, _, _, _ => absurd rfl h
 | x :: l, 0, k + 1, a, b, _, h1, h2, pa, pb => by
  have e : x = a := by simpa using h1
  have := List.countP_pos_iff.2 ⟨b, List.mem_of_getElem? (show l[k]? = some b by simpa using h2), pb⟩;rw [List.countP_cons, e, if_pos pa]; omega
 | x :: l, i + 1, 0, a, b, _, h1, h2, pa, pb => by
  have e : x = b := by simpa using h2
  have := List.countP_pos_iff.2 ⟨a, List.mem_of_getElem? (show l[i]? = some a by simpa using h1), pa⟩;rw [List.countP_cons, e, if_pos pb]; omega
 | x :: l, i + 1, k + 1, a, b, h, h1, h2, pa, pb => by
  have := two_count (p := p) (l := l) (i := i) (k := k) (fun e => h (by rw [e])) (by simpa using h1) (by simpa using h2) pa pb;rw [List.countP_cons]; omega
theorem TY.mono_known (v : Value) : (TY.known v).Mono := fun _ _ _ _ _ h => h
abbrev TS := List (Option Nat × TY)
def Ue : TS → Env → Nat → Option TY
 | [], ρ, t => (Ye ρ t).map .known
 | (d, e) :: Γ, ρ, t => match d with
  | some d => bif Nat.beq t d then some e else Ue Γ ρ t
  | none => Ue Γ ρ t
theorem fm_congr {α β : Type} {f f' : α → List β} : ∀ {l : List α}, (∀ x ∈ l, f x = f' x) → l.flatMap f = l.flatMap f'
 | [], _ => rfl
 | x :: l, h => by rw [List.flatMap_cons, List.flatMap_cons, h x List.mem_cons_self, fm_congr fun y hy => h y (List.mem_cons_of_mem _ hy)]
section
variable (P : Program) (ro : Option Nat) (N : Nat) (ds : List Deferred) (ops : Array Oper) (g0 : Ghost) (L : Own) (ρ : Env)
def PO0 (Γ : TS) (o : Oper) (R : Own) (e : TY) : Prop :=
 ∀ g w X a, g0 ≤ g → St g w (R ++ (L ++ X)) → a.tmps.size = N → a.defers = ds →
  (∀ t ∈ o.looksAt ops, ∀ e', Ue Γ ρ t = some e' → ∃ v L', a.tmps[t]? = some v ∧ e'.Φ g v L') →
  (Region.wanted o (yielded ops a.tmps) = true ∧ ∀ Q, o.wpIn (FF ro) 0 P a w (fun a' w' => ∃ v g' L', a' = a.put o.dst v ∧ g ≤ g' ∧ St g' w' (L' ++ (L ++ X)) ∧ e.S g' v L') Q) ∨
  (Region.wanted o (yielded ops a.tmps) = false ∧ R = [] ∧ e.S g undef [])
def POm (Γ : TS) (o : Oper) (R : Own) (e : TY) : Prop :=
 ∃ t Φ, Ue Γ ρ t = some (.pred Φ) ∧ t ∈ o.looksAt ops ∧ Ye ρ t = none ∧ ∀ g w X a v L1, g0 ≤ g → a.tmps[t]? = some v → Φ g v L1 → St g w (L1 ++ (R ++ (L ++ X))) → a.tmps.size = N → a.defers = ds →
  (∀ t ∈ o.looksAt ops, ∀ e', Ue Γ ρ t = some e' → ∃ v L', a.tmps[t]? = some v ∧ e'.Φ g v L') →
  Region.wanted o (yielded ops a.tmps) = true ∧ ∀ Q, o.wpIn (FF ro) 0 P a w (fun a' w' => ∃ u g' L2 L', a' = a.put o.dst u ∧ g ≤ g' ∧ St g' w' (L2 ++ (L' ++ (L ++ X))) ∧ Φ g' v L2 ∧ e.S g' u L') Q
def POc (Γ : TS) (o : Oper) (R : Own) (e : TY) : Prop :=
 ∃ t Φ Ψ, Ue Γ ρ t = some (.lent Φ Ψ) ∧ t ∈ o.looksAt ops ∧ Ye ρ t = none ∧ soleB ops t = true ∧ ∀ g w X a v L1, g0 ≤ g → a.tmps[t]? = some v → Φ g v L1 → St g w (L1 ++ (R ++ (L ++ X))) → a.tmps.size = N → a.defers = ds →
  (∀ t ∈ o.looksAt ops, ∀ e', Ue Γ ρ t = some e' → ∃ v L', a.tmps[t]? = some v ∧ e'.Φ g v L') →
  Region.wanted o (yielded ops a.tmps) = true ∧ ∀ Q, o.wpIn (FF ro) 0 P a w (fun a' w' => ∃ u g' L2 L', a' = a.put o.dst u ∧ g ≤ g' ∧ St g' w' (L2 ++ (L' ++ (L ++ X))) ∧ Ψ g' v L2 ∧ e.S g' u L') Q
def PO (Γ : TS) (o : Oper) (R : Own) (e : TY) : Prop := PO0 P ro N ds ops g0 L ρ Γ o R e ∨ POm P ro N ds ops g0 L ρ Γ o R e ∨ POc P ro N ds ops g0 L ρ Γ o R e
def Xm : List Oper → TS → Own → (TS → Prop) → Prop
 | [], Γ, RL, K => RL = [] ∧ K Γ
 | o :: l, Γ, RL, K => ∃ R RL' e, RL = R ++ RL' ∧ e.Mono ∧ PO P ro N ds ops g0 L ρ Γ o R e ∧ Xm l ((o.dst, e) :: Γ) RL' K
def Va (g : Ghost) : TS → (Env → Own → Prop) → Prop
 | [], K => K ρ []
 | (some d, .known v) :: Γ, K => Va g Γ fun ρ' Lr => K ((d, v) :: ρ') Lr
 | (some d, .pred Φ) :: Γ, K => Va g Γ fun ρ' Lr => ∀ v L1, Φ g v L1 → K ((d, v) :: ρ') (L1 ++ Lr)
 | (some d, .lent Φ Ψ) :: Γ, K => Va g Γ fun ρ' Lr => ∀ v L1, (Φ g v L1 ∨ Ψ g v L1) → K ((d, v) :: ρ') (L1 ++ Lr)
 | (none, .known _) :: Γ, K => Va g Γ fun ρ' Lr => K ρ' Lr
 | (none, .pred Φ) :: Γ, K => Va g Γ fun ρ' Lr => ∀ v L1, Φ g v L1 → K ρ' (L1 ++ Lr)
 | (none, .lent Φ Ψ) :: Γ, K => Va g Γ fun ρ' Lr => ∀ v L1, (Φ g v L1 ∨ Ψ g v L1) → K ρ' (L1 ++ Lr)
end
def gam (dst : Nat → Option Nat) (E : Nat → TY) : Nat → TS
 | 0 => []
 | i + 1 => (dst i, E i) :: gam dst E i
def cat (R : Nat → Own) (k m : Nat) : Own := (List.range' k m).flatMap R
section
variable {P : Program} {ro : Option Nat} {Qb : Exit → Act → World → Prop} {N : Nat} {ds : List Deferred} {ops : Array Oper} {g0 : Ghost} {L : Own} {ρ : Env} {w : World} {s : List Fr}
theorem stageP_unroll {K : TS → Prop} : ∀ (l : List Oper) (k : Nat) (RL : Own) (dst : Nat → Option Nat) (E0 : Nat → TY), (∀ j, l[j]?.map (·.dst) = (l[j]?).map (fun _ => dst (k + j))) →
  Xm P ro N ds ops g0 L ρ l (gam dst E0 k) RL K →
  ∃ (R : Nat → Own) (E : Nat → TY), (∀ j, j < k → E j = E0 j) ∧ RL = cat R k l.length ∧ (∀ j o, l[j]? = some o → (E (k + j)).Mono ∧ PO P ro N ds ops g0 L ρ (gam dst E (k + j)) o (R (k + j)) (E (k + j))) ∧ K (gam dst E (k + l.length))
 | [], k, RL, dst, E0, _, h => ⟨fun _ => [], E0, fun _ _ => rfl, by simpa [cat] using h.1, fun j o ho => by simp at ho, h.2⟩
 | o :: l, k, RL, dst, E0, hd, h => by
  obtain ⟨R0, RL', e, hRL, hm, hp, hrest⟩ := h;have hd0 : o.dst = dst k := by simpa using hd 0
  have e1 : (o.dst, e) :: gam dst E0 k = gam dst (fun j => if j = k then e else E0 j) (k + 1) := by
   have aux : ∀ i, i ≤ k → gam dst E0 i = gam dst (fun j => if j = k then e else E0 j) i := by
    intro i
    induction i with
    | zero => intro _; rfl
    | succ i ih => intro hi; simp only [gam]; rw [ih (by omega), if_neg (by omega)]
   simp only [gam, if_true];rw [hd0, ← aux k (Nat.le_refl _)]
  rw [e1] at hrest
  obtain ⟨R, E, h1, h2, h3, h4⟩ := stageP_unroll l (k + 1) RL' dst (fun j => if j = k then e else E0 j) (fun j => by have := hd (j + 1); rw [show k + 1 + j = k + (j + 1) by omega]; simpa using this) hrest;have hEk : E k = e := by have := h1 k (by omega); simpa using this
  have gam_eq : ∀ i, i ≤ k → gam dst E i = gam dst E0 i := by
   intro i
   induction i with
   | zero => intro _; rfl
   | succ i ih => intro hi; simp only [gam]; rw [ih (by omega), h1 i (by omega), if_neg (by omega)]
  refine ⟨fun j => if j = k then R0 else R j, E, fun j hj => by have := h1 j (by omega); rw [if_neg (by omega)] at this; exact this, ?_, ?_, by rw [show k + (o :: l).length = k + 1 + l.length by simp; omega]; exact h4⟩
  ·rw [hRL, h2];simp only [cat, List.length_cons, List.range'_succ, List.flatMap_cons, if_true]
   congr 1
   refine fm_congr fun j hj => ?_
   have := (List.mem_range'.1 hj)
   rw [if_neg (by omega)]
  ·intro j o' ho';cases j with
   | zero =>
    simp only [List.getElem?_cons_zero, Option.some.injEq] at ho'
    subst ho';simp only [Nat.add_zero, if_true];rw [hEk, gam_eq k (Nat.le_refl _)];exact ⟨hm, hp⟩
   | succ j =>
    have := h3 j o' (by simpa using ho');rw [show k + (j + 1) = k + 1 + j by omega];simp only;rw [if_neg (by omega)];exact this
def bndOn (o : Oper) (j : Nat) : Bool := o.after.toList.any fun e => Region.binds .any e && Nat.beq e.on j
def edgesB (l : List Oper) (m : Nat) : Bool := (List.range m).all fun i => match l[i]? with
 | some o => o.after.toList.all fun e => !Region.binds .any e || Nat.blt e.on i
 | none => false
def apartB (l : List Oper) (m : Nat) : Bool := (List.range m).all fun i => match l[i]? with
 | none => false
 | some oi => (List.range m).all fun j => match l[j]? with
  | none => false
  | some oj => match oj.dst with
   | none => true
   | some d => (!(oi.looksAt l.toArray).contains d || (Nat.blt j i && bndOn oi j) || (Nat.blt i j && bndOn oj i)) && (Nat.beq i j || oi.dst != some d)
def drawB (l : List Oper) (m : Nat) : Bool :=
 edgesB l m && apartB l m && (Nat.beq m l.length || (Nat.blt m l.length && Region.sinkB .any l.toArray m && Region.chainB .any l.toArray m && Region.seqB .any l.toArray (l.length - m) m ((List.range l.length).map (fun j => Nat.blt j m)).toArray))
theorem wpAnyIn_of_seq {F : Fence} {n : Nat} {md : Region.Mode} {Q' : Exit → Act → World → Prop} : ∀ (l : List Oper) (k : Nat) (listed : Array Bool) (a : Act) (w : World), (∀ j, l[j]? = ops[k + j]?) →
  Region.seqB md ops l.length k listed = true → wpListIn F n P ops Q' l a w → wpAnyIn F n P md ops Q' l.length listed a w
 | [], k, listed, a, w, _, hB, h => ⟨by simpa [Region.seqB] using hB, h⟩
 | o :: l, k, listed, a, w, hl, hB, h => by
  have h0 : ops[k]? = some o := by simpa using (hl 0).symm
  simp only [List.length_cons, Region.seqB, Bool.and_eq_true, decide_eq_true_eq] at hB
  refine ⟨fun h1 => (by rw [hB.1] at h1; cases h1), fun i hi => ?_⟩;rw [hB.1] at hi
  have hik : i = k := by simpa using hi
  subst hik;have hw : wpOpIn F n P ops Q' i (wpListIn F n P ops Q' l) a w := by unfold wpOpIn; simp only [h0]; exact h
  exact wpOpIn_mono (fun a' w' h' => wpAnyIn_of_seq l (i + 1) _ a' w' (fun j => by have := hl (j + 1); simpa [Nat.add_assoc, Nat.add_comm 1 j] using this) hB.2 h') hw
def flatR (R Ls : Nat → Own) (m : Nat) (listed : Array Bool) : Own := (List.range m).flatMap fun j => if listed.getD j false = true then Ls j else R j
theorem flat_split (f : Nat → Own) {m i : Nat} (hi : i < m) : ((List.range m).flatMap f).Perm (f i ++ ((List.range m).erase i).flatMap f) := by
 have := (List.perm_cons_erase (List.mem_range.2 hi)).flatMap_right f
 simpa using this
theorem flat_erase {f f' : Nat → Own} {m i : Nat} (h : ∀ j, j ≠ i → f j = f' j) : ((List.range m).erase i).flatMap f = ((List.range m).erase i).flatMap f' :=
 fm_congr fun j hj => h j (((List.nodup_range).mem_erase_iff.1 hj).1)
theorem getD_false_of {listed : Array Bool} {i : Nat} (h : listed.getD i true = false) : listed.getD i false = false := getD_both h
structure DInv (l : List Oper) (N : Nat) (ds : List Deferred) (g0 : Ghost) (L : Own) (ρ : Env) (m : Nat) (dst : Nat → Option Nat) (R : Nat → Own) (E : Nat → TY) (listed : Array Bool) (a : Act) (w : World) : Prop where
 head : HeadInv .any l.toArray m listed
 size : a.tmps.size = N
 defers : a.defers = ds
 old : ∀ t v, Ye ρ t = some v → (∀ j, j < m → listed.getD j false = true → dst j ≠ some t) → a.tmps[t]? = some v
 st : ∃ (g : Ghost) (Ls : Nat → Own), g0 ≤ g ∧ St g w (flatR R Ls m listed ++ L) ∧ (∀ j, j < m → listed.getD j false = true → (∀ d, dst j = some d → ∃ v, a.tmps[d]? = some v ∧ (E j).Φ g v (Ls j)) ∧ (dst j = none → ∃ v, (E j).Φ g v (Ls j))) ∧
  ∀ j, j < m → listed.getD j false = true → ∀ d, dst j = some d → (∀ k ok, k < m → listed.getD k false = true → l[k]? = some ok → d ∉ ok.looksAt l.toArray) → ∃ v, a.tmps[d]? = some v ∧ (E j).S g v (Ls j)
theorem lookS_gam (dst : Nat → Option Nat) (E : Nat → TY) (ρ : Env) (t : Nat) : ∀ i, (∃ j, j < i ∧ dst j = some t ∧ Ue (gam dst E i) ρ t = some (E j)) ∨ ((∀ j, j < i → dst j ≠ some t) ∧ Ue (gam dst E i) ρ t = (Ye ρ t).map .known)
 | 0 => .inr ⟨fun _ h => by omega, rfl⟩
 | i + 1 => by
  cases hd : dst i with
  | none =>
   rcases lookS_gam dst E ρ t i with ⟨j, h1, h2, h3⟩ | ⟨h1, h2⟩
   ·exact .inl ⟨j, by omega, h2, by simp only [gam, hd, Ue]; exact h3⟩
   ·refine .inr ⟨fun j hj => ?_, by simp only [gam, hd, Ue]; exact h2⟩
    by_cases e : j = i
    ·subst e; rw [hd]; simp
    ·exact h1 j (by omega)
  | some d =>
   by_cases htd : t = d
   ·subst htd;exact .inl ⟨i, by omega, hd, by simp only [gam, hd, Ue, Nat.beq_refl, cond_true]⟩
   ·have hb : Nat.beq t d = false := by
     cases hb : Nat.beq t d with
     | false => rfl
     | true => exact absurd (Nat.eq_of_beq_eq_true hb) htd
    rcases lookS_gam dst E ρ t i with ⟨j, h1, h2, h3⟩ | ⟨h1, h2⟩
    ·exact .inl ⟨j, by omega, h2, by simp only [gam, hd, Ue, hb, cond_false]; exact h3⟩
    ·refine .inr ⟨fun j hj => ?_, by simp only [gam, hd, Ue, hb, cond_false]; exact h2⟩
     by_cases e : j = i
     ·subst e; rw [hd]; exact fun e' => htd (by cases e'; rfl)
     ·exact h1 j (by omega)
section main
variable {l : List Oper} {m : Nat} {dst : Nat → Option Nat} {R : Nat → Own} {E : Nat → TY}
theorem stage_step (hdst : ∀ j o, l[j]? = some o → o.dst = dst j) (hm : m ≤ l.length) (hA : apartB l m = true) (hMono : ∀ j, j < m → (E j).Mono) (hD : ∀ j o d, j < m → l[j]? = some o → o.dst = some d → d < N)
    (hPO : ∀ j o, j < m → l[j]? = some o → PO P ro N ds l.toArray g0 L ρ (gam dst E j) o (R j) (E j))
    {listed : Array Bool} {a : Act} {w : World} (hI : DInv l N ds g0 L ρ m dst R E listed a w) {i : Nat} (hi : i ∈ Region.ready .any l.toArray listed) (him : i < m) (Q : Exit → Act → World → Prop) :
    wpOpIn (FF ro) 0 P l.toArray Q i (fun a' w' => DInv l N ds g0 L ρ m dst R E (listed.setIfInBounds i true) a' w') a w := by
  obtain ⟨hun, oi, hoi, hall⟩ := mem_ready.1 hi;have hoi' : l[i]? = some oi := by simpa using hoi
  obtain ⟨g, Ls, hg, hst, hent, hstr⟩ := hI.st;have hunF : listed.getD i false = false := getD_false_of hun;have hil : i < listed.size := by rw [hI.head.size]; exact (Array.getElem?_eq_some_iff.1 hoi).1

  have hchk : ∀ j oj d, j < m → l[j]? = some oj → oj.dst = some d → (d ∈ oi.looksAt l.toArray → (j < i ∧ bndOn oi j = true) ∨ (i < j ∧ bndOn oj i = true)) ∧ (i ≠ j → oi.dst ≠ some d) := by
    intro j oj d hj hoj hd;have h1 := List.all_eq_true.1 hA i (List.mem_range.2 him);rw [hoi'] at h1
    have h2 := List.all_eq_true.1 h1 j (List.mem_range.2 hj);rw [hoj] at h2
    simp only [hd, Bool.and_eq_true, Bool.or_eq_true] at h2
    refine ⟨fun hmem => ?_, fun hne hdi => ?_⟩
    · rcases h2.1 with (h3 | h3) | h3
      · simp [hmem] at h3
      · exact .inl ⟨by simpa using h3.1, h3.2⟩
      · exact .inr ⟨by simpa using h3.1, h3.2⟩
    · rcases h2.2 with h3 | h3
      · exact hne (Nat.eq_of_beq_eq_true h3)
      · simp [hdi] at h3
  have hlisted : ∀ j, bndOn oi j = true → listed.getD j false = true := by
    intro j hj;obtain ⟨e, he, hb⟩ := List.any_eq_true.1 hj;simp only [Bool.and_eq_true] at hb
    have := hall e (by simpa using he) hb.1
    rwa [Nat.eq_of_beq_eq_true hb.2] at this
  have hperm0 : (flatR R Ls m listed).Perm (R i ++ ((List.range m).erase i).flatMap fun j => if listed.getD j false = true then Ls j else R j) := by
    have := flat_split (fun j => if listed.getD j false = true then Ls j else R j) him;simpa [flatR, hunF] using this
  obtain ⟨X, hX⟩ : ∃ X, X = ((List.range m).erase i).flatMap fun j => if listed.getD j false = true then Ls j else R j := ⟨_, rfl⟩
  rw [← hX] at hperm0
  have hst1 : St g w (R i ++ (L ++ X)) := hst.perm (by
    refine List.Perm.trans ?_ (hperm0.symm.append_right L);rw [List.append_assoc];exact (List.perm_append_comm).append_left _)
  have hlook : ∀ t ∈ oi.looksAt l.toArray, ∀ e', Ue (gam dst E i) ρ t = some e' → ∃ v L', a.tmps[t]? = some v ∧ e'.Φ g v L' := by
    intro t ht e' he'
    rcases lookS_gam dst E ρ t i with ⟨j, h1, h2, h3⟩ | ⟨h1, h2⟩
    · rw [h3] at he'
      cases he';obtain ⟨oj, hoj⟩ : ∃ oj, l[j]? = some oj := ⟨_, List.getElem?_eq_getElem (by omega)⟩
      have hd : oj.dst = some t := by rw [hdst j oj hoj]; exact h2
      obtain ⟨_, hb⟩ := ((hchk j oj t (by omega) hoj hd).1 ht).resolve_right (fun h => by omega);obtain ⟨v, hv1, hv2⟩ := (hent j (by omega) (hlisted j hb)).1 t h2;exact ⟨v, _, hv1, hv2⟩
    · rw [h2] at he'
      cases hl : Ye ρ t with
      | none => rw [hl] at he'; cases he'
      | some v =>
        rw [hl] at he'
        simp only [Option.map_some, Option.some.injEq] at he'
        subst he';refine ⟨v, [], hI.old t v hl fun j hj hlj hdj => ?_, rfl, rfl⟩;obtain ⟨oj, hoj⟩ : ∃ oj, l[j]? = some oj := ⟨_, List.getElem?_eq_getElem (by omega)⟩
        have hd : oj.dst = some t := by rw [hdst j oj hoj]; exact hdj
        rcases (hchk j oj t hj hoj hd).1 ht with ⟨h4, _⟩ | ⟨_, h5⟩
        · exact h1 j h4 hdj
        · obtain ⟨e, he, hb⟩ := List.any_eq_true.1 h5;simp only [Bool.and_eq_true] at hb
          have := hI.head.closed j oj (by simpa using hoj) hlj e (by simpa using he) hb.1;rw [Nat.eq_of_beq_eq_true hb.2, hunF] at this
          cases this

  have hent' : ∀ j, j < m → j ≠ i → listed.getD j false = true → ∀ {g' : Ghost}, g ≤ g' → (∀ d, dst j = some d → ∃ v, a.tmps[d]? = some v ∧ (E j).Φ g' v (Ls j)) ∧ (dst j = none → ∃ v, (E j).Φ g' v (Ls j)) := by
    intro j hj _ hl g' hle;obtain ⟨h1, h2⟩ := hent j hj hl;exact ⟨fun d hd => let ⟨u, hu1, hu2⟩ := h1 d hd; ⟨u, hu1, (hMono j hj).weak hle hu2⟩, fun hn => let ⟨u, hu⟩ := h2 hn; ⟨u, (hMono j hj).weak hle hu⟩⟩
  have hsub : ∀ k, listed.getD k false = true → (listed.setIfInBounds i true).getD k false = true := fun k hk => by
    by_cases hki : k = i
    · subst hki; simp [hil]
    · rw [getD_set_ne false (Ne.symm hki)]; exact hk
  have hstr' : ∀ j, j < m → listed.getD j false = true → ∀ d, dst j = some d → (∀ k ok, k < m → (listed.setIfInBounds i true).getD k false = true → l[k]? = some ok → d ∉ ok.looksAt l.toArray) → ∀ {g' : Ghost}, g ≤ g' → ∃ v, a.tmps[d]? = some v ∧ (E j).S g' v (Ls j) := by
    intro j hj hl d hd hc g' hle;obtain ⟨u, hu1, hu2⟩ := hstr j hj hl d hd fun k ok hk hkl hok => hc k ok hk (hsub k hkl) hok
    exact ⟨u, hu1, (hMono j hj).strong hle hu2⟩
  have next : ∀ (Ls : Nat → Own) {X : Own}, X = (((List.range m).erase i).flatMap fun j => if listed.getD j false = true then Ls j else R j) → ∀ (v : Value) (g' : Ghost) (L' : Own) (a' : Act) (w' : World), a' = a.put oi.dst v → g ≤ g' → St g' w' (L' ++ (L ++ X)) → (E i).S g' v L' →
      (∀ j, j < m → j ≠ i → listed.getD j false = true → (∀ d, dst j = some d → ∃ v, a.tmps[d]? = some v ∧ (E j).Φ g' v (Ls j)) ∧ (dst j = none → ∃ v, (E j).Φ g' v (Ls j))) →
      (∀ j, j < m → j ≠ i → listed.getD j false = true → ∀ d, dst j = some d → (∀ k ok, k < m → (listed.setIfInBounds i true).getD k false = true → l[k]? = some ok → d ∉ ok.looksAt l.toArray) → ∃ v, a.tmps[d]? = some v ∧ (E j).S g' v (Ls j)) → DInv l N ds g0 L ρ m dst R E (listed.setIfInBounds i true) a' w' := by
    intro Ls X hX v g' L' a' w' ha' hg' hst' hΦ hent hstr
    have hputne : ∀ t, oi.dst ≠ some t → a'.tmps[t]? = a.tmps[t]? := by
      intro t ht;rw [ha'];unfold Act.put;cases hd : oi.dst with
      | none => rfl
      | some d =>
        have hne : d ≠ t := fun e => ht (by rw [hd, e])
        simp [Array.getElem?_setIfInBounds_ne hne]
    have hsz : a'.tmps.size = N := by
      rw [ha']; unfold Act.put;cases oi.dst <;> simp [hI.size]
    refine ⟨hI.head.set hi him, hsz, ?_, fun t u ht hn => ?_, g', fun j => if j = i then L' else Ls j, Ghost.tr hg hg', ?_, fun j hj hl => ?_, fun j hj hl d hd hc => ?_⟩
    · rw [ha']; unfold Act.put; cases oi.dst <;> exact hI.defers
    · rw [hputne t (by rw [hdst i oi hoi']; exact hn i him (by simp [hil]))];refine hI.old t u ht fun j hj hlj => hn j hj ?_
      by_cases hji : j = i
      · subst hji; simp [hil]
      · rw [getD_set_ne false (Ne.symm hji)]; exact hlj
    · have hp := flat_split (fun j => if (listed.setIfInBounds i true).getD j false = true then (if j = i then L' else Ls j) else R j) him;have hself : (listed.setIfInBounds i true).getD i false = true := by simp [hil]
      have herase : ((List.range m).erase i).flatMap (fun j => if (listed.setIfInBounds i true).getD j false = true then (if j = i then L' else Ls j) else R j) = X := by
        rw [hX];refine flat_erase fun j hj => ?_
        rw [getD_set_ne false (Ne.symm hj), if_neg hj]
      rw [herase, hself] at hp
      simp only [if_true] at hp
      refine hst'.perm ((hp.append_right L).trans ?_);rw [List.append_assoc];exact (List.perm_append_comm).append_left _
    · by_cases hji : j = i
      · subst hji;simp only [if_true];refine ⟨fun d hd => ⟨v, ?_, TY.weak hΦ⟩, fun _ => ⟨v, TY.weak hΦ⟩⟩;have hod : oi.dst = some d := by rw [hdst j oi hoi']; exact hd
        have hdN : d < a.tmps.size := by rw [hI.size]; exact hD _ oi d him hoi' hod
        rw [ha', hod]; simp [Act.put, hdN]
      · rw [getD_set_ne false (Ne.symm hji)] at hl
        simp only [if_neg hji];obtain ⟨h1, h2⟩ := hent j hj hji hl;refine ⟨fun d hd => ?_, h2⟩;obtain ⟨u, hu1, hu2⟩ := h1 d hd;refine ⟨u, ?_, hu2⟩;rw [hputne d, hu1];obtain ⟨oj, hoj⟩ : ∃ oj, l[j]? = some oj := ⟨_, List.getElem?_eq_getElem (by omega)⟩
        exact (hchk j oj d hj hoj (by rw [hdst j oj hoj]; exact hd)).2 (Ne.symm hji)
    · by_cases hji : j = i
      · subst hji;simp only [if_true];refine ⟨v, ?_, hΦ⟩;have hod : oi.dst = some d := by rw [hdst j oi hoi']; exact hd
        have hdN : d < a.tmps.size := by rw [hI.size]; exact hD _ oi d him hoi' hod
        rw [ha', hod]; simp [Act.put, hdN]
      · rw [getD_set_ne false (Ne.symm hji)] at hl
        simp only [if_neg hji];obtain ⟨u, hu1, hu2⟩ := hstr j hj hji hl d hd hc;refine ⟨u, ?_, hu2⟩;rw [hputne d, hu1];obtain ⟨oj, hoj⟩ : ∃ oj, l[j]? = some oj := ⟨_, List.getElem?_eq_getElem (by omega)⟩
        exact (hchk j oj d hj hoj (by rw [hdst j oj hoj]; exact hd)).2 (Ne.symm hji)
  unfold wpOpIn;simp only [hoi]
  rcases hPO i oi him hoi' with hP0 | ⟨t, Φ, ht1, ht2, ht3, hPm⟩ | ⟨t, Φ, Ψ, ht1, ht2, ht3, ht4, hPc⟩
  · rcases hP0 g w X a hg hst1 hI.size hI.defers hlook with ⟨hw, hwp⟩ | ⟨hw, hR, hΦ⟩
    · rw [if_pos hw];refine Oper.wpIn_mono (fun a' w' hq => ?_) (hwp Q);obtain ⟨v, g', L', e1, e2, e3, e4⟩ := hq;exact next Ls hX v g' L' a' w' e1 e2 e3 e4 (fun j hj hji hl => hent' j hj hji hl e2) (fun j hj _ hl d hd hc => hstr' j hj hl d hd hc e2)
    · rw [if_neg (by rw [hw]; simp)];refine ⟨Vb a w, next Ls hX undef g [] _ w rfl Ghost.rfl' ?_ hΦ (fun j hj hji hl => hent' j hj hji hl Ghost.rfl') (fun j hj _ hl d hd hc => hstr' j hj hl d hd hc Ghost.rfl')⟩;rw [hR] at hst1
      exact hst1
  ·
    obtain ⟨j, hji, hjd, hjE⟩ : ∃ j, j < i ∧ dst j = some t ∧ E j = .pred Φ := by
      rcases lookS_gam dst E ρ t i with ⟨j, h1, h2, h3⟩ | ⟨_, h2⟩
      · rw [h3] at ht1; exact ⟨j, h1, h2, Option.some.inj ht1⟩
      · rw [h2, ht3] at ht1; cases ht1
    have hjm : j < m := by omega
    have hne : j ≠ i := by omega
    obtain ⟨oj, hoj⟩ : ∃ oj, l[j]? = some oj := ⟨_, List.getElem?_eq_getElem (by omega)⟩
    have hjl : listed.getD j false = true := by
      obtain ⟨_, hb⟩ := ((hchk j oj t hjm hoj (by rw [hdst j oj hoj]; exact hjd)).1 ht2).resolve_right (fun h => by omega);exact hlisted j hb
    obtain ⟨v, hv1, hv2⟩ := (hent j hjm hjl).1 t hjd;rw [hjE] at hv2
    have hmem : j ∈ (List.range m).erase i := (List.mem_erase_of_ne hne).2 (List.mem_range.2 hjm);obtain ⟨Y, hY⟩ : ∃ Y, Y = (((List.range m).erase i).erase j).flatMap fun k => if listed.getD k false = true then Ls k else R k := ⟨_, rfl⟩
    have hXY : X.Perm (Ls j ++ Y) := by
      have := (List.perm_cons_erase hmem).flatMap_right (fun k => if listed.getD k false = true then Ls k else R k);rw [List.flatMap_cons, if_pos hjl, ← hX, ← hY] at this
      exact this
    have hst2 : St g w (Ls j ++ (R i ++ (L ++ Y))) := hst1.perm (by
      refine List.Perm.trans ?_ ((hXY.symm.append_left L).append_left (R i))
      classical
      exact List.perm_iff_count.2 fun x => by simp only [List.count_append]; omega)
    obtain ⟨hw, hwp⟩ := hPm g w Y a v (Ls j) hg hv1 hv2 hst2 hI.size hI.defers hlook;rw [if_pos hw];refine Oper.wpIn_mono (fun a' w' hq => ?_) (hwp Q);obtain ⟨u, g', L2, L', e1, e2, e3, e4, e5⟩ := hq
    let Ls' : Nat → Own := fun k => if k = j then L2 else Ls k
    obtain ⟨X', hX'⟩ : ∃ X', X' = ((List.range m).erase i).flatMap fun k => if listed.getD k false = true then Ls' k else R k := ⟨_, rfl⟩
    have hnodup : ((List.range m).erase i).Nodup := List.nodup_range.erase i
    have hXY' : X'.Perm (L2 ++ Y) := by
      have := (List.perm_cons_erase hmem).flatMap_right (fun k => if listed.getD k false = true then Ls' k else R k);rw [List.flatMap_cons, if_pos hjl, ← hX'] at this
      have e9 : (((List.range m).erase i).erase j).flatMap (fun k => if listed.getD k false = true then Ls' k else R k) = Y := by
        rw [hY];refine fm_congr fun k hk => ?_
        have hkj : k ≠ j := fun e => by rw [e] at hk; exact (List.Nodup.not_mem_erase hnodup) hk
        simp only [Ls', if_neg hkj]
      rw [e9] at this
      simpa only [Ls', if_pos] using this
    refine next Ls' hX' u g' L' a' w' e1 e2 (e3.perm ?_) e5 (fun k hk hki hl => ?_) (fun k hk hki hl d hd hc => ?_)
    · refine (((hXY'.append_left L).append_left L')).trans ?_
      classical
      exact List.perm_iff_count.2 fun x => by simp only [List.count_append]; omega
    · by_cases hkj : k = j
      · subst hkj;simp only [Ls', if_true, hjE];refine ⟨fun d hd => ⟨v, ?_, e4⟩, fun hn => by rw [hjd] at hn; cases hn⟩;rw [hjd] at hd
        cases hd;exact hv1
      · simp only [Ls', if_neg hkj];exact hent' k hk hki hl e2
    · by_cases hkj : k = j
      · subst hkj;rw [hjd] at hd
        cases hd;simp only [Ls', if_true, hjE];exact ⟨v, hv1, e4⟩
      · simp only [Ls', if_neg hkj];exact hstr' k hk hl d hd hc e2
  ·
    obtain ⟨j, hji, hjd, hjE⟩ : ∃ j, j < i ∧ dst j = some t ∧ E j = .lent Φ Ψ := by
      rcases lookS_gam dst E ρ t i with ⟨j, h1, h2, h3⟩ | ⟨_, h2⟩
      · rw [h3] at ht1; exact ⟨j, h1, h2, Option.some.inj ht1⟩
      · rw [h2, ht3] at ht1; cases ht1
    have hjm : j < m := by omega
    have hne : j ≠ i := by omega
    obtain ⟨oj, hoj⟩ : ∃ oj, l[j]? = some oj := ⟨_, List.getElem?_eq_getElem (by omega)⟩
    have hjl : listed.getD j false = true := by
      obtain ⟨_, hb⟩ := ((hchk j oj t hjm hoj (by rw [hdst j oj hoj]; exact hjd)).1 ht2).resolve_right (fun h => by omega);exact hlisted j hb
    obtain ⟨v, hv1, hv2⟩ := hstr j hjm hjl t hjd fun k ok hk hkl hok hmem => by
      have hki : k ≠ i := fun e => by rw [e, hunF] at hkl; cases hkl
      have h2 := two_count (p := fun o => (o.looksAt l.toArray).contains t) hki hok hoi' (by simpa using hmem) (by simpa using ht2);have h1 : l.countP (fun o => (o.looksAt l.toArray).contains t) ≤ 1 := Nat.le_of_ble_eq_true ht4;omega
    rw [hjE] at hv2
    have hmem : j ∈ (List.range m).erase i := (List.mem_erase_of_ne hne).2 (List.mem_range.2 hjm);obtain ⟨Y, hY⟩ : ∃ Y, Y = (((List.range m).erase i).erase j).flatMap fun k => if listed.getD k false = true then Ls k else R k := ⟨_, rfl⟩
    have hXY : X.Perm (Ls j ++ Y) := by
      have := (List.perm_cons_erase hmem).flatMap_right (fun k => if listed.getD k false = true then Ls k else R k);rw [List.flatMap_cons, if_pos hjl, ← hX, ← hY] at this
      exact this
    have hst2 : St g w (Ls j ++ (R i ++ (L ++ Y))) := hst1.perm (by
      refine List.Perm.trans ?_ ((hXY.symm.append_left L).append_left (R i))
      classical
      exact List.perm_iff_count.2 fun x => by simp only [List.count_append]; omega)
    obtain ⟨hw, hwp⟩ := hPc g w Y a v (Ls j) hg hv1 hv2 hst2 hI.size hI.defers hlook;rw [if_pos hw];refine Oper.wpIn_mono (fun a' w' hq => ?_) (hwp Q);obtain ⟨u, g', L2, L', e1, e2, e3, e4, e5⟩ := hq
    let Ls' : Nat → Own := fun k => if k = j then L2 else Ls k
    obtain ⟨X', hX'⟩ : ∃ X', X' = ((List.range m).erase i).flatMap fun k => if listed.getD k false = true then Ls' k else R k := ⟨_, rfl⟩
    have hnodup : ((List.range m).erase i).Nodup := List.nodup_range.erase i
    have hXY' : X'.Perm (L2 ++ Y) := by
      have := (List.perm_cons_erase hmem).flatMap_right (fun k => if listed.getD k false = true then Ls' k else R k);rw [List.flatMap_cons, if_pos hjl, ← hX'] at this
      have e9 : (((List.range m).erase i).erase j).flatMap (fun k => if listed.getD k false = true then Ls' k else R k) = Y := by
        rw [hY];refine fm_congr fun k hk => ?_
        have hkj : k ≠ j := fun e => by rw [e] at hk; exact (List.Nodup.not_mem_erase hnodup) hk
        simp only [Ls', if_neg hkj]
      rw [e9] at this
      simpa only [Ls', if_pos] using this
    refine next Ls' hX' u g' L' a' w' e1 e2 (e3.perm ?_) e5 (fun k hk hki hl => ?_) (fun k hk hki hl d hd hc => ?_)
    · refine (((hXY'.append_left L).append_left L')).trans ?_
      classical
      exact List.perm_iff_count.2 fun x => by simp only [List.count_append]; omega
    · by_cases hkj : k = j
      · subst hkj;simp only [Ls', if_true, hjE];refine ⟨fun d hd => ⟨v, ?_, .inr e4⟩, fun hn => by rw [hjd] at hn; cases hn⟩;rw [hjd] at hd
        cases hd;exact hv1
      · simp only [Ls', if_neg hkj];exact hent' k hk hki hl e2
    · by_cases hkj : k = j
      · subst hkj;rw [hjd] at hd
        cases hd;exact absurd ht2 (hc i oi him (by simp [hil]) hoi')
      · simp only [Ls', if_neg hkj];exact hstr' k hk hl d hd hc e2
def Kx (m : Nat) (listed : Array Bool) : Nat := ((List.range m).filter fun j => !listed.getD j false).length
theorem unlisted_set {m i : Nat} {listed : Array Bool} (him : i < m) (hun : listed.getD i true = false) : Kx m (listed.setIfInBounds i true) + 1 = Kx m listed := by
 have hil : i < listed.size := by
  rcases Nat.lt_or_ge i listed.size with h | h
  ·exact h
  ·simp [Array.getElem?_eq_none h] at hun
 have hunF := getD_false_of hun
 unfold Kx
 have key : ∀ (xs : List Nat), xs.Nodup → i ∈ xs → (xs.filter fun j => !(listed.setIfInBounds i true).getD j false).length + 1 = (xs.filter fun j => !listed.getD j false).length := by
  intro xs
  induction xs with
  | nil => intro _ h; simp at h
  | cons x xs ih =>
   intro hnd hmem;obtain ⟨hx, hnd'⟩ := List.nodup_cons.1 hnd
   by_cases hxi : x = i
   ·subst hxi;have e1 : (listed.setIfInBounds x true).getD x false = true := by simp [hil]
    have e2 : xs.filter (fun j => !(listed.setIfInBounds x true).getD j false) = xs.filter (fun j => !listed.getD j false) :=
     List.filter_congr fun j hj => by rw [getD_set_ne false (fun e => hx (by rw [e]; exact hj))]
    rw [List.filter_cons, List.filter_cons, e1, hunF, e2];simp
   ·have e1 : (listed.setIfInBounds i true).getD x false = listed.getD x false := getD_set_ne false (Ne.symm hxi);have := ih hnd' ((List.mem_cons.1 hmem).resolve_left (Ne.symm hxi));rw [List.filter_cons, List.filter_cons, e1]
    split
    ·simp only [List.length_cons]; omega
    ·exact this
 exact key _ List.nodup_range (List.mem_range.2 him)
theorem stage_run (hdst : ∀ j o, l[j]? = some o → o.dst = dst j) (hm : m ≤ l.length) (hE : edgesB l m = true) (hA : apartB l m = true) (hMono : ∀ j, j < m → (E j).Mono) (hD : ∀ j o d, j < m → l[j]? = some o → o.dst = some d → d < N)
    (hPO : ∀ j o, j < m → l[j]? = some o → PO P ro N ds l.toArray g0 L ρ (gam dst E j) o (R j) (E j))
    (htail : m = l.length ∨ (m < l.length ∧ Region.sinkB .any l.toArray m = true ∧ Region.chainB .any l.toArray m = true)) (Q : Exit → Act → World → Prop)
    (hK : ∀ listed a w, DInv l N ds g0 L ρ m dst R E listed a w → (∀ j, j < m → listed.getD j false = true) → wpAnyIn (FF ro) 0 P .any l.toArray Q (l.length - m) listed a w) :
    ∀ (c : Nat) (listed : Array Bool) (a : Act) (w : World), DInv l N ds g0 L ρ m dst R E listed a w → Kx m listed = c → wpAnyIn (FF ro) 0 P .any l.toArray Q (c + (l.length - m)) listed a w
  | 0, listed, a, w, hI, hc => by
    rw [Nat.zero_add];refine hK listed a w hI fun j hj => ?_
    unfold Kx at hc
    have := List.length_eq_zero_iff.1 hc;have h1 := List.filter_eq_nil_iff.1 this j (List.mem_range.2 hj);simpa using h1
  | c + 1, listed, a, w, hI, hc => by
    have hlow : ∀ i ∈ Region.ready .any l.toArray listed, i < m := by
      intro i hi;obtain ⟨_, oi, hoi, _⟩ := mem_ready.1 hi;have hil : i < l.length := by have := (Array.getElem?_eq_some_iff.1 hoi).1; simpa using this
      rcases htail with h | ⟨h1, h2, h3⟩
      · omega
      · rcases Nat.lt_or_ge i m with h | h
        · exact h
        · exfalso
          have hex : ∃ j, j < m ∧ listed.getD j false = false := by
            unfold Kx at hc
            have hne : ((List.range m).filter fun j => !listed.getD j false) ≠ [] := fun e => by rw [e] at hc; simp at hc
            obtain ⟨j, hj⟩ := List.exists_mem_of_ne_nil _ hne;have := List.mem_filter.1 hj;exact ⟨j, List.mem_range.1 this.1, by simpa using this.2⟩
          obtain ⟨j, hj, hjl⟩ := hex;have hjs : j < listed.size := by rw [hI.head.size]; simp; omega
          exact tail_waits h2 h3 (by simpa using h1) hI.head _ j rfl hj (getD_in hjs hjl) i h hi
    rw [show c + 1 + (l.length - m) = (c + (l.length - m)) + 1 by omega]
    refine ⟨fun h0 => ?_, fun i hi => ?_⟩
    · exfalso

      have hex : ∃ j, j < m ∧ listed.getD j false = false := by
        unfold Kx at hc
        have hne : ((List.range m).filter fun j => !listed.getD j false) ≠ [] := fun e => by rw [e] at hc; simp at hc
        obtain ⟨j, hj⟩ := List.exists_mem_of_ne_nil _ hne;have := List.mem_filter.1 hj;exact ⟨j, List.mem_range.1 this.1, by simpa using this.2⟩
      obtain ⟨j, hj, hjl⟩ := hex
      have least : ∀ k j, j ≤ k → j < m → listed.getD j false = false → ∃ i, i < m ∧ listed.getD i false = false ∧ ∀ i', i' < i → listed.getD i' false = true := by
        intro k
        induction k with
        | zero => intro j hjk hj hjl; exact ⟨j, hj, hjl, fun i' hi' => by omega⟩
        | succ k ih =>
          intro j hjk hj hjl
          by_cases hall : ∀ i', i' < j → listed.getD i' false = true
          · exact ⟨j, hj, hjl, hall⟩
          · obtain ⟨i', hi'⟩ := Classical.not_forall.1 hall;obtain ⟨hlt, hf⟩ := Classical.not_imp.1 hi';exact ih i' (by omega) (by omega) (by simpa using hf)
      obtain ⟨i, him, hif, hia⟩ := least j j (Nat.le_refl _) hj hjl;obtain ⟨oi, hoi⟩ : ∃ oi, l[i]? = some oi := ⟨_, List.getElem?_eq_getElem (by omega)⟩
      have his : i < listed.size := by rw [hI.head.size]; simp; omega
      have hr : i ∈ Region.ready .any l.toArray listed := by
        refine mem_ready.2 ⟨getD_in his hif, oi, by simpa using hoi, fun e he hb => hia e.on ?_⟩;have h1 := List.all_eq_true.1 hE i (List.mem_range.2 him);rw [hoi] at h1
        have h2 := List.all_eq_true.1 h1 e (by simpa using he);simpa [hb] using h2
      rw [h0] at hr
      cases hr
    · have hun := (mem_ready.1 hi).1;exact wpOpIn_mono (fun a' w' hI' => stage_run hdst hm hE hA hMono hD hPO htail Q hK c _ a' w' hI' (by have := unlisted_set (hlow i hi) hun; omega)) (stage_step hdst hm hA hMono hD hPO hI hi (hlow i hi) Q)
end main
theorem Jt {g : Ghost} (dst : Nat → Option Nat) (E : Nat → TY) (Ls : Nat → Own) (a : Act) : ∀ (m : Nat) (K : Env → Own → Prop),
    (∀ j, j < m → (∀ d, dst j = some d → ∃ v, a.tmps[d]? = some v ∧ (E j).Φ g v (Ls j)) ∧ (dst j = none → ∃ v, (E j).Φ g v (Ls j))) →
    Va ρ g (gam dst E m) K → ∃ ρ' Lr, K ρ' Lr ∧ (Lr.Perm ((List.range m).flatMap Ls)) ∧ ∀ t v, Ye ρ' t = some v → (∃ j, j < m ∧ dst j = some t ∧ a.tmps[t]? = some v) ∨ ((∀ j, j < m → dst j ≠ some t) ∧ Ye ρ t = some v)
  | 0, K, _, h => ⟨ρ, [], h, by simp, fun t v e => .inr ⟨fun j hj => by omega, e⟩⟩
  | m + 1, K, hent, h => by
    have hent' := fun j (hj : j < m) => hent j (by omega)
    obtain ⟨hm1, hm2⟩ := hent m (by omega);have hR : (List.range (m + 1)).flatMap Ls = (List.range m).flatMap Ls ++ Ls m := by simp [List.range_succ]
    cases hd : dst m with
    | none =>
      obtain ⟨v, hv⟩ := hm2 hd
      have hlk : ∀ (ρ' : Env), (∀ t v, Ye ρ' t = some v → (∃ j, j < m ∧ dst j = some t ∧ a.tmps[t]? = some v) ∨ ((∀ j, j < m → dst j ≠ some t) ∧ Ye ρ t = some v)) →
          ∀ t v, Ye ρ' t = some v → (∃ j, j < m + 1 ∧ dst j = some t ∧ a.tmps[t]? = some v) ∨ ((∀ j, j < m + 1 → dst j ≠ some t) ∧ Ye ρ t = some v) := fun ρ' hh t u hu => by
        rcases hh t u hu with ⟨j, h1, h2⟩ | ⟨h1, h2⟩
        · exact .inl ⟨j, by omega, h2⟩
        · refine .inr ⟨fun j hj => ?_, h2⟩
          by_cases e : j = m
          · subst e; rw [hd]; simp
          · exact h1 j (by omega)
      cases he : E m with
      | known v0 =>
        simp only [gam, hd, he, Va] at h
        obtain ⟨ρ', Lr, h1, h2, h3⟩ := Jt dst E Ls a m _ hent' h;rw [he] at hv
        refine ⟨ρ', Lr, h1, ?_, hlk ρ' h3⟩;rw [hR, hv.2, List.append_nil]; exact h2
      | pred Φ =>
        simp only [gam, hd, he, Va] at h
        obtain ⟨ρ', Lr, h1, h2, h3⟩ := Jt dst E Ls a m _ hent' h;rw [he] at hv
        refine ⟨ρ', Ls m ++ Lr, h1 v _ hv, ?_, hlk ρ' h3⟩;rw [hR]; exact (h2.append_left _).trans List.perm_append_comm
      | lent Φ Ψ =>
        simp only [gam, hd, he, Va] at h
        obtain ⟨ρ', Lr, h1, h2, h3⟩ := Jt dst E Ls a m _ hent' h;rw [he] at hv
        refine ⟨ρ', Ls m ++ Lr, h1 v _ hv, ?_, hlk ρ' h3⟩;rw [hR]; exact (h2.append_left _).trans List.perm_append_comm
    | some d =>
      obtain ⟨v, hv1, hv⟩ := hm1 d hd
      have hlk : ∀ (ρ' : Env), (∀ t v, Ye ρ' t = some v → (∃ j, j < m ∧ dst j = some t ∧ a.tmps[t]? = some v) ∨ ((∀ j, j < m → dst j ≠ some t) ∧ Ye ρ t = some v)) →
          ∀ t u, Ye ((d, v) :: ρ') t = some u → (∃ j, j < m + 1 ∧ dst j = some t ∧ a.tmps[t]? = some u) ∨ ((∀ j, j < m + 1 → dst j ≠ some t) ∧ Ye ρ t = some u) := fun ρ' hh t u hu => by
        simp only [Ye, Bool.cond_eq_ite] at hu
        split at hu
        · rename_i e;have := Nat.eq_of_beq_eq_true e;subst this;cases hu;exact .inl ⟨m, by omega, hd, hv1⟩
        · rename_i e
          rcases hh t u hu with ⟨j, h1, h2⟩ | ⟨h1, h2⟩
          · exact .inl ⟨j, by omega, h2⟩
          · refine .inr ⟨fun j hj => ?_, h2⟩
            by_cases e' : j = m
            · subst e'; rw [hd]; intro e2; cases e2; exact e (Nat.beq_refl _)
            · exact h1 j (by omega)
      cases he : E m with
      | known v0 =>
        simp only [gam, hd, he, Va] at h
        obtain ⟨ρ', Lr, h1, h2, h3⟩ := Jt dst E Ls a m _ hent' h;rw [he] at hv
        obtain ⟨rfl, hL⟩ := hv;refine ⟨(d, v) :: ρ', Lr, h1, ?_, hlk ρ' h3⟩;rw [hR, hL, List.append_nil]; exact h2
      | pred Φ =>
        simp only [gam, hd, he, Va] at h
        obtain ⟨ρ', Lr, h1, h2, h3⟩ := Jt dst E Ls a m _ hent' h;rw [he] at hv
        refine ⟨(d, v) :: ρ', Ls m ++ Lr, h1 v _ hv, ?_, hlk ρ' h3⟩;rw [hR]; exact (h2.append_left _).trans List.perm_append_comm
      | lent Φ Ψ =>
        simp only [gam, hd, he, Va] at h
        obtain ⟨ρ', Lr, h1, h2, h3⟩ := Jt dst E Ls a m _ hent' h;rw [he] at hv
        refine ⟨(d, v) :: ρ', Ls m ++ Lr, h1 v _ hv, ?_, hlk ρ' h3⟩;rw [hR]; exact (h2.append_left _).trans List.perm_append_comm
def dstB (N : Nat) (l : List Oper) : Bool := l.all fun o => match o.dst with | some d => Nat.blt d N | none => true
theorem Yf {id : Nat} {l : List Oper} (m : Nat) (RL : Own) (hmix : P.follows .mixedOrders = true) (hchk : drawB l m = true) (hdB : dstB N l = true) (hst : St g0 w (RL ++ L))
    (hstage : Xm P ro N ds l.toArray g0 L ρ (l.take m) [] RL fun Γ => ∀ g w', g0 ≤ g → Va ρ g Γ fun ρ' Lr => St g w' (Lr ++ L) → WL P ro Qb N ds l.toArray (l.drop m) s ρ' w') :
    WC P ro Qb N ds (.region id l.toArray true) s ρ w := by
  intro a ha;simp only [drawB, Bool.and_eq_true, Bool.or_eq_true] at hchk
  obtain ⟨⟨hE, hA⟩, hT⟩ := hchk
  have hm : m ≤ l.length := by
    rcases hT with h | ⟨⟨⟨h, _⟩, _⟩, _⟩
    · have := Nat.eq_of_beq_eq_true h; omega
    · have : m < l.length := by simpa using h
      omega
  have htl : (l.take m).length = m := by simp; omega
  let dst : Nat → Option Nat := fun j => (l[j]?).bind (·.dst)
  have hdst : ∀ j o, l[j]? = some o → o.dst = dst j := fun j o ho => by simp [dst, ho]
  obtain ⟨R, E, _, hRL, hops, hK⟩ := stageP_unroll (l.take m) 0 RL dst (fun _ => .known undef) (fun j => by
    rw [List.getElem?_take]
    split
    · cases hj : l[j]? with
      | none => rfl
      | some o => simp only [Option.map_some, Nat.zero_add]; rw [hdst j o hj]
    · rfl) hstage
  rw [htl] at hRL hK
  simp only [Nat.zero_add] at hK hops
  have hop : ∀ j o, j < m → l[j]? = some o → (E j).Mono ∧ PO P ro N ds l.toArray g0 L ρ (gam dst E j) o (R j) (E j) := fun j o hj ho => hops j o (by rw [List.getElem?_take, if_pos hj]; exact ho)
  have hMono : ∀ j, j < m → (E j).Mono := fun j hj => (hop j _ hj (List.getElem?_eq_getElem (by omega))).1
  have hD : ∀ j o d, j < m → l[j]? = some o → o.dst = some d → d < N := fun j o d _ ho hd => by
    have := List.all_eq_true.1 hdB o (List.mem_of_getElem? ho);rw [hd] at this
    simpa using this
  refine wpIn_region_any hmix ?_
  have hI0 : DInv l N ds g0 L ρ m dst R E (Array.replicate l.toArray.size false) a { w with drawn := w.drawn + 1 } := by
    refine ⟨⟨by simp, fun j oj _ hl => (by rw [getD_replicate_false] at hl; cases hl), fun t _ ht => getD_in (by simpa using ht) (getD_replicate_false _ _)⟩, ha.size, ha.defers, fun t v ht _ => ha.at_ t v ht, g0, fun _ => [], Ghost.rfl', ?_, (fun j _ hl => by rw [getD_replicate_false] at hl; cases hl), fun j _ hl => by rw [getD_replicate_false] at hl; cases hl⟩
    have e : flatR R (fun _ => []) m (Array.replicate l.toArray.size false) = RL := by
      rw [hRL, cat, ← List.range_eq_range'];refine fm_congr fun j _ => ?_
      rw [getD_replicate_false]; rfl
    rw [e];exact hst.drew
  have hun : Kx m (Array.replicate l.toArray.size false) = m := by
    unfold Kx;rw [List.filter_eq_self.2 (fun j _ => by rw [getD_replicate_false]; rfl)];simp
  have hrun := stage_run (P := P) (ro := ro) hdst hm hE hA hMono hD (fun j o hj ho => (hop j o hj ho).2)
    (by rcases hT with h | ⟨⟨⟨h1, h2⟩, h3⟩, _⟩
        · exact .inl (Nat.eq_of_beq_eq_true h)
        · exact .inr ⟨by simpa using h1, h2, h3⟩) (QQ P ro Qb s) (fun listed a' w' hI hall => ?_) m _ a _ hI0 hun
  · rw [show m + (l.length - m) = l.toArray.size by simp; omega] at hrun
    exact hrun
  · obtain ⟨g, Ls, hg, hst', hent, _⟩ := hI.st;have hflat : flatR R Ls m listed = (List.range m).flatMap Ls := fm_congr fun j hj => by rw [hall j (List.mem_range.1 hj)]; rfl
    rw [hflat] at hst'
    obtain ⟨ρ', Lr, h1, h2, h3⟩ := Jt dst E Ls a' m _ (fun j hj => hent j hj (hall j hj)) (hK g w' hg);have hwl := h1 (hst'.perm (h2.append_right L))
    have hfit : Fits N ds a' ρ' := ⟨hI.size, hI.defers, fun t v ht => by
      rcases h3 t v ht with ⟨j, _, _, h⟩ | ⟨h, hl⟩
      · exact h
      · exact hI.old t v hl (fun j hj _ => h j hj)⟩
    have hlist := hwl a' hfit
    rcases hT with h | ⟨⟨⟨hlt, _⟩, _⟩, hseq⟩
    · have hml : m = l.length := Nat.eq_of_beq_eq_true h;have e0 : l.length - m = 0 := by omega
      have ed : l.drop m = [] := List.drop_eq_nil_of_le (by omega);rw [ed] at hlist
      rw [e0];refine ⟨?_, hlist⟩;rw [List.eq_nil_iff_forall_not_mem];intro i hi;obtain ⟨hu, oi, hoi, _⟩ := mem_ready.1 hi;have hil : i < m := by have := (Array.getElem?_eq_some_iff.1 hoi).1; simp at this; omega
      have := hall i hil;rw [getD_false_of hu] at this
      cases this
    · have hlt' : m < l.length := by simpa using hlt
      have hlis : listed = ((List.range l.length).map (fun j => Nat.blt j m)).toArray := by
        apply Array.ext
        · rw [hI.head.size]; simp
        · intro j hj1 hj2;simp only [List.getElem_toArray, List.getElem_map, List.getElem_range];have hjl : j < l.length := by simpa using hj2
          by_cases hjm : j < m
          · have := hall j hjm;have hb : Nat.blt j m = true := by simpa using hjm
            rw [hb];simpa [hj1] using this
          · have := hI.head.tail j (by omega) (by simpa using hjl)
            have hb : Nat.blt j m = false := by
              cases hb : Nat.blt j m with
              | false => rfl
              | true => exact absurd (by simpa using hb) hjm
            rw [hb];simpa [hj1] using this
      have hdl : (l.drop m).length = l.length - m := by simp
      have := wpAnyIn_of_seq (ops := l.toArray) (l.drop m) m listed a' w' (fun j => by simp) (by rw [hdl, hlis]; exact hseq) hlist
      rwa [hdl] at this
end
end
section
open Go.RowKit
section
variable {P : Program}
def CbY (P : Program) (l : Nat) (vs : List Value) (w : World) (R : Value → World → Prop) : Prop :=
 YieldAt (FF none) 0 P l vs.toArray w fun e w' => ∃ v, e = .returned v ∧ R v w'
abbrev Ys (l : Nat) : Value := .func (.yield l) #[] #[]
def yieldOf (ρ : Env) (c : Call) : Option (Nat × List Value) :=
 match c.callee with
 | .value x => match ev ρ x, evs ρ c.args.toList with
  | some (.func (.yield l) first _), some vs => some (l, first.toList ++ vs)
  | _, _ => none
 | _ => none
variable {ro : Option Nat} {Qb : Exit → Act → World → Prop} {N : Nat} {ds : List Deferred} {ops : Array Oper} {rest : List Oper} {s : List Fr} {ρ : Env} {w : World}
theorem wl_yield {d : Nat} {c : Call} {ty : TypeId} {pos : String} {after : Array Edge} {guard : Option (Nat × Bool)} {l : Nat} {vs : List Value} {R : Value → World → Prop}
  (hc : yieldOf ρ c = some (l, vs)) (hn : Nat.blt d N = true) (hw : Xl ops ρ guard = some true) (hcb : CbY P l vs w R)
  (h : ∀ v w', R v w' → WL P ro Qb N ds ops rest s ((d, v) :: ρ) w') :
  WL P ro Qb N ds ops (⟨some d, .call c, ty, pos, after, guard⟩ :: rest) s ρ w := by
 intro a ha
 obtain ⟨fn, tmps, assign, body, hy, hr⟩ := hcb
 have hrun : (execOp a.eval ⟨some d, .call c, ty, pos, after, guard⟩).run P w = .ok (.round l fn tmps assign body) w := by
  unfold yieldOf at hc
  obtain ⟨callee, args, argTypes⟩ := c;cases callee <;> simp only at hc <;> try (cases hc; done)
  rename_i x;cases hx : ev ρ x with
  | none => simp [hx] at hc
  | some u =>
   cases hv : evs ρ args.toList with
   | none => cases u <;> simp [hx, hv] at hc
   | some us =>
    simp only [hx, hv] at hc
    cases u <;> (try simp only at hc) <;> try (cases hc; done)
    rename_i fn' first captured
    cases fn' <;> (try simp only at hc) <;> try (cases hc; done)
    simp only [Option.some.injEq, Prod.mk.injEq] at hc
    obtain ⟨rfl, rfl⟩ := hc;have e1 : args.map a.eval = us.toArray := by rw [← evs_eval ha hv, ← Array.toList_map, Array.toArray_toList]
    have e2 : first ++ us.toArray = (first.toList ++ us).toArray := by apply Array.ext'; simp
    simp only [execOp, resolve, Xe ha hx, e1, Deferred.ofValue, Sem.run_bind, Sem.run_pure, Result.andThen_ok, invoke, e2];exact hy
 have hnd : ∀ c', (Op.call c) ≠ .defer c' := fun c' e => by cases e
 simp only [wpListIn]
 rw [if_pos (Uw (o := ⟨some d, .call c, ty, pos, after, guard⟩) ha hw)]
 refine ⟨Vb a w, ?_⟩
 rw [Jq (o := ⟨some d, .call c, ty, pos, after, guard⟩) hnd, hrun]
 refine ⟨fun h => by simp [FF] at h, ?_⟩
 have hr' : RoundIn (FF ro) (0 - 1) P l fn tmps assign body w fun e w' => ∃ v, e = .returned v ∧ R v w' := by
  cases ro with
  | none => exact hr
  | some l0 => exact hr
 refine hr'.mono ?_
 rintro e w' ⟨v, rfl, hR⟩
 exact h v w' hR _ (ha.put d v hn)
theorem CbY.mono {l : Nat} {vs : List Value} {R R' : Value → World → Prop} (h : CbY P l vs w R) (hr : ∀ v w', R v w' → R' v w') : CbY P l vs w R' := by
 obtain ⟨fn, tmps, assign, body, hy, hrd⟩ := h
 exact ⟨fn, tmps, assign, body, hy, hrd.mono fun e w' ⟨v, e1, e2⟩ => ⟨v, e1, hr v w' e2⟩⟩
variable {β : Type}
structure CB (P : Program) (l : Nat) (args : Ghost → β → List Value → Prop) (xs : List β) (I : List β → Ghost → Own → Prop) (Ix : Ghost → Own → Prop) : Prop where
 grows : ∀ pre g g' L, g ≤ g' → I pre g L → I pre g' L
 growx : ∀ g g' L, g ≤ g' → Ix g L → Ix g' L
 call : ∀ pre x post g w L F vs, xs = pre ++ x :: post → I pre g L → args g x vs → St g w (L ++ F) →
  CbY P l vs w fun v w' => ∃ g' L', g ≤ g' ∧ St g' w' (L' ++ F) ∧ ((v = .bool true ∧ I (pre ++ [x]) g' L') ∨ (v = .bool false ∧ Ix g' L'))
structure It (P : Program) (f : FuncId) (caps : List Value) (g : Ghost) (args : Ghost → β → List Value → Prop) (xs : List β) : Prop where
 enters : Go.Proofs.Enters P f
 call : ∀ l I Ix, CB P l args xs I Ix → ∀ g1 w L F, g ≤ g1 → I [] g1 L → St g1 w (L ++ F) →
  Calls P f (Ys l :: caps).toArray w fun e w' => ∃ v g' L', e = .returned v ∧ g1 ≤ g' ∧ St g' w' (L' ++ F) ∧ (I xs g' L' ∨ Ix g' L')
def RndQ (l : Nat) (rc : Loop) (I : Ghost → Own → Prop) (Ix : Code → Ghost → Own → Prop) (g0 : Ghost) (F : Own) : Exit → Act → World → Prop
 | .normal, _, w => ∃ g' L', g0 ≤ g' ∧ St g' w ((l, .loop { rc with state := .busy }) :: (L' ++ F)) ∧ I g' L'
 | .ret, _, w => ∃ g' L', g0 ≤ g' ∧ St g' w ((l, .loop { rc with state := .busy }) :: (L' ++ F)) ∧ Ix .ret g' L'
 | .exit id, _, w => ∃ g' L', g0 ≤ g' ∧ St g' w ((l, .loop { rc with state := .busy }) :: (L' ++ F)) ∧ Ix (.exit id) g' L'
 | _, _, _ => False
def AsgQ (P : Program) (l : Nat) (body : Code) (Q : Exit → Act → World → Prop) : Exit → Act → World → Prop :=
 Exit.then (fun a w => ∃ w₂, (Instr.beginRound l).run P w = .ok () w₂ ∧ body.wpIn (FF (some l)) 0 P Q a w₂) (fun _ _ _ => False)
theorem St.putAt {g : Ghost} {L : Own} {b : Nat} {o o' : Obj} (hs : St g w ((b, o) :: L)) : St g (w.putObj b o') ((b, o') :: L) :=
 St.turn (w' := w.putObj b o') hs rfl rfl rfl (World.putObj_heap_same (hs.lt List.mem_cons_self)) (fun j _ hj => World.putObj_heap_other hj)
theorem wk_begin {l : Nat} {body : Code} {Q : Exit → Act → World → Prop} {g : Ghost} {L : Own} {rc : Loop} (k : Nat) (hs : St g w L) (hk : L[k]? = some (l, .loop rc)) (hr : rc.state = .ready)
  (h : ∀ w', St g w' (L.set k (l, .loop { rc with state := .busy })) → WC P (some l) Q N ds body [] ρ w') : WK P (some l) (AsgQ P l body Q) N ds [] ρ w := by
 intro a ha
 have hm := Za hk
 have hl : w.heap[l]? = some (.loop rc) := hs.own _ _ hm
 refine ⟨_, run_beginRound hl hr, ?_⟩
 have hs' : St g (w.putObj l (.loop { rc with state := .busy })) (L.set k (l, .loop { rc with state := .busy })) := (hs.front k hk).putAt.setAt k hk
 exact h _ hs' a ha
theorem tr_of_zip {N : Nat} {ds : List Deferred} {a : Act} {ρ : Env} (ha : Fits N ds a ρ) : ∀ (ps : List Nat) (vs : List Value) (t : Array Value) (ρ' : Env), (∀ k v, Ye ρ' k = some v → t[k]? = some v) → t.size = N →
  (∀ p ∈ ps, p < N) → (∀ k v, Ye (((ps.zip vs).reverse) ++ ρ') k = some v → ((ps.zip vs).foldl (fun t (p, v) => t.setIfInBounds p v) t)[k]? = some v) ∧ ((ps.zip vs).foldl (fun t (p, v) => t.setIfInBounds p v) t).size = N
 | [], vs, t, ρ', h, hs, _ => ⟨by simpa using h, by simpa using hs⟩
 | p :: ps, [], t, ρ', h, hs, _ => ⟨by simpa using h, by simpa using hs⟩
 | p :: ps, v :: vs, t, ρ', h, hs, hp => by
  have hp0 := hp p List.mem_cons_self
  have := tr_of_zip ha ps vs (t.setIfInBounds p v) ((p, v) :: ρ') (fun k u hk => by
   simp only [Ye, Bool.cond_eq_ite] at hk
   split at hk
   ·rename_i he;have := Nat.eq_of_beq_eq_true he;subst this;cases hk;simp [hs, hp0]
   ·rename_i he;have hne : p ≠ k := fun e => he (by subst e; exact Nat.beq_refl _)
    rw [Array.getElem?_setIfInBounds_ne hne];exact h k u hk) (by simp [hs]) (fun q hq => hp q (List.mem_cons_of_mem _ hq))
  simpa using this
theorem cbY_round {l : Nat} {rc : Loop} {vs : List Value} {g : Ghost} {L F : Own} {I : Ghost → Own → Prop} {Ix : Code → Ghost → Own → Prop} {a0 : Act}
  (hs : St g w ((l, .loop rc) :: (L ++ F))) (hready : rc.state = .ready) (ht : rc.tmps = a0.tmps) (ha : Fits N ds a0 ρ) (hN : ∀ p ∈ rc.params.toList, p < N) (hlen : rc.params.size = vs.length)
  (hbody : WC P (some l) (AsgQ P l rc.body (RndQ l rc I Ix g F)) N [] rc.assign [] ((rc.params.toList.zip vs).reverse ++ ρ) w) :
  CbY P l vs w fun v w' => ∃ g' L', g ≤ g' ∧ ((v = .bool true ∧ St g' w' ((l, .loop { rc with state := .ready, pending := none }) :: (L' ++ F)) ∧ I g' L') ∨
   (v = .bool false ∧ ∃ c, St g' w' ((l, .loop { rc with state := .done, pending := some c }) :: (L' ++ F)) ∧ Ix c g' L')) := by
 have hl : w.heap[l]? = some (.loop rc) := hs.own _ _ List.mem_cons_self
 have hy := run_yield (P := P) (args := vs.toArray) hl (by simp [hlen])
 refine ⟨rc.fn, _, rc.assign, rc.body, hy, roundIn_of_wpIn trivial ?_⟩
 have hz : (Array.foldl (fun tmps (x : Tmp × Value) => match x with | (t, a) => tmps.setIfInBounds t a) rc.tmps (rc.params.zip vs.toArray)) = (rc.params.toList.zip vs).foldl (fun t (p, v) => t.setIfInBounds p v) rc.tmps := by
  rw [← Array.foldl_toList, Array.toList_zip]
 rw [hz]
 have hfit := tr_of_zip ha rc.params.toList vs rc.tmps ρ (fun k v hk => by rw [ht]; exact ha.at_ k v hk) (by rw [ht]; exact ha.size) hN
 have hw := hbody ⟨_, []⟩ ⟨hfit.2, rfl, hfit.1⟩
 refine wpIn_mono hw ?_
 intro e a1 w1 q
 cases e with
 | normal =>
  obtain ⟨w2, hb, hbd⟩ := q;refine ⟨w2, hb, wpIn_mono hbd ?_⟩;intro e a2 w2 q;cases e with
  | normal =>
   obtain ⟨g', L', h1, h2, h3⟩ := q;exact ⟨_, _, run_endRound none (h2.own _ _ List.mem_cons_self), _, rfl, g', L', h1, .inl ⟨rfl, h2.putAt, h3⟩⟩
  | ret =>
   obtain ⟨g', L', h1, h2, h3⟩ := q;exact ⟨_, _, run_endRound (some .ret) (h2.own _ _ List.mem_cons_self), _, rfl, g', L', h1, .inr ⟨rfl, .ret, h2.putAt, h3⟩⟩
  | exit id =>
   obtain ⟨g', L', h1, h2, h3⟩ := q;exact ⟨_, _, run_endRound (some (.exit id)) (h2.own _ _ List.mem_cons_self), _, rfl, g', L', h1, .inr ⟨rfl, .exit id, h2.putAt, h3⟩⟩
  | goto t => exact q.elim
  | panic ch => exact q.elim
  | outgrown => exact q.elim
 | exit id => exact q.elim
 | goto t => exact q.elim
 | ret => exact q.elim
 | panic ch => exact q.elim
 | outgrown => exact q.elim
def markD (D : Nat) : Deferred := { target := .collected D, args := #[] }
theorem wc_range {g : Ghost} {L F : Own} {f : FuncId} {caps : List Value} {args : Ghost → β → List Value → Prop} {xs : List β} {fop : Operand} {ps : Array Tmp} {assign body : Code}
  (I : List β → Ghost → Own → Prop) (Ix : Code → Ghost → Own → Prop) (hg : ev ρ fop = some (.func (.func f) #[] caps.toArray)) (hit : It P f caps g args xs) (hs : St g w (L ++ F))
  (hN : ps.toList.all (fun p => Nat.blt p N) = true) (hps : ∀ g x vs, args g x vs → ps.size = vs.length)
  (hI : ∀ pre g g' L, g ≤ g' → I pre g L → I pre g' L) (hIx : ∀ c g g' L, g ≤ g' → Ix c g L → Ix c g' L) (h0 : I [] g L)
  (hbody : ∀ l rc pre x post g1 w1 L1 F1 vs, rc.state = .ready → xs = pre ++ x :: post → I pre g1 L1 → args g1 x vs → g ≤ g1 → St g1 w1 ((l, .loop rc) :: (L1 ++ F1)) →
   WC P (some l) (AsgQ P l body (RndQ l rc (I (pre ++ [x])) Ix g1 F1)) N [] assign [] ((ps.toList.zip vs).reverse ++ ρ) w1)
  (hdone : ∀ D g' w' L', g ≤ g' → I xs g' L' → St g' w' ((D, .deferred (some [])) :: (L' ++ F)) → WK P none Qb N (markD D :: ds) s ρ w')
  (hstop : ∀ D c g' w' L', g ≤ g' → Ix c g' L' → St g' w' ((D, .deferred (some [])) :: (L' ++ F)) → WC P none Qb N (markD D :: ds) c s ρ w') :
  WC P none Qb N ds (.rangeFunc fop ps assign body) s ρ w := by
 intro a ha
 refine wpIn_rangeFunc ?_
 intro fn hfn
 obtain ⟨rc, hrc⟩ : ∃ rc : Loop, rc = { state := .ready, pending := none, fn, tmps := a.tmps, params := ps, assign, body, defers := w.heap.size } := ⟨_, rfl⟩
 obtain ⟨D, hD⟩ : ∃ D, D = w.heap.size := ⟨_, rfl⟩
 obtain ⟨W1, hW1⟩ : ∃ W1, (w.alloc (.deferred (some []))).alloc (.loop rc) = W1 := ⟨_, rfl⟩
 have hs1 : St g W1 ((D + 1, .loop rc) :: (D, .deferred (some [])) :: (L ++ F)) := by
  rw [← hW1, hD]; have := (hs.alloc (.deferred (some []))).alloc (.loop rc); rwa [World.size_alloc] at this
 have hcall := hit.call (D + 1) (fun pre g' L' => g ≤ g' ∧ ∃ L0, L' = (D + 1, .loop rc) :: (D, .deferred (some [])) :: L0 ∧ I pre g' L0)
  (fun g' L' => ∃ c L0, L' = (D + 1, .loop { rc with state := .done, pending := some c }) :: (D, .deferred (some [])) :: L0 ∧ Ix c g' L0)
  ⟨fun pre g1 g2 L' hle ⟨h0, L0, e, h⟩ => ⟨Ghost.tr h0 hle, L0, e, hI _ _ _ _ hle h⟩, fun g1 g2 L' hle ⟨c, L0, e, h⟩ => ⟨c, L0, e, hIx _ _ _ _ hle h⟩, by
   rintro pre x post g1 w1 L' F1 vs hx ⟨hgg, L0, rfl, hi⟩ harg hst;have hst' : St g1 w1 ((D + 1, .loop rc) :: (L0 ++ ((D, .deferred (some [])) :: F1))) := hst.perm (List.Perm.cons _ List.perm_middle);have hb := hbody (D + 1) rc pre x post g1 w1 L0 ((D, .deferred (some [])) :: F1) vs (by rw [hrc]) hx hi harg hgg hst'
   refine (cbY_round (N := N) (ds := ds) (ρ := ρ) (a0 := a) (I := I (pre ++ [x])) (Ix := Ix) hst' (by rw [hrc]) (by rw [hrc]) ha (fun p hp => ?_) (by rw [hrc]; exact hps _ _ _ harg) (by rw [hrc] at hb ⊢; exact hb)).mono ?_
   ·rw [hrc] at hp; simpa using List.all_eq_true.1 hN p hp
   ·rintro v w2 ⟨g2, L2, h1, (⟨rfl, h2, h3⟩ | ⟨rfl, c, h2, h3⟩)⟩
    ·refine ⟨g2, _, h1, ?_, .inl ⟨rfl, Ghost.tr hgg h1, L2, rfl, h3⟩⟩;have e : { rc with state := .ready, pending := none } = rc := by rw [hrc]
     rw [e] at h2
     exact h2.perm (List.Perm.cons _ List.perm_middle.symm)
    ·exact ⟨g2, _, h1, h2.perm (List.Perm.cons _ List.perm_middle.symm), .inr ⟨rfl, c, L2, rfl, h3⟩⟩⟩
  g W1 ((D + 1, .loop rc) :: (D, .deferred (some [])) :: L) F Ghost.rfl' ⟨Ghost.rfl', L, rfl, h0⟩ hs1
 refine ⟨D + 1, [markD D], W1, { target := .fn (.func f) caps.toArray, args := #[Ys (D + 1)] }, W1, f, (Ys (D + 1) :: caps).toArray, W1, ?_, ?_, fun _ _ => trivial, ?_, fun h => by simp [FF] at h, ?_⟩
 ·rw [← hW1, hrc, hD]; exact run_enterLoop_outer _ _ _ _ _
 ·simp only [resolve, rangeCall, Xe ha hg];simp [Act.eval, Deferred.ofValue]
 ·simp only [invoke];rw [hit.enters];simp
 ·refine calls_in none (hcall.mono ?_)
  rintro e w2 ⟨v, g2, L2, rfl, hg2, h2, (⟨_, L0, rfl, h3⟩ | ⟨c, L0, rfl, h3⟩)⟩
  ·refine ⟨none, _, run_endLoop (r := rc) (h2.own _ _ List.mem_cons_self) (by rw [hrc]; simp) |>.trans (by rw [hrc]), ?_⟩;exact hdone D g2 _ L0 hg2 h3 (h2.putAt.drop) _ ⟨ha.size, by simp [ha.defers], fun k v hk => ha.at_ k v hk⟩
  ·refine ⟨some c, _, run_endLoop (r := { rc with state := .done, pending := some c }) (h2.own _ _ List.mem_cons_self) (by simp), ?_⟩;exact hstop D c g2 _ L0 hg2 h3 (h2.putAt.drop) _ ⟨ha.size, by simp [ha.defers], fun k v hk => ha.at_ k v hk⟩
theorem wc_rangeN {g : Ghost} {L F : Own} {f : FuncId} {caps : List Value} {args : Ghost → β → List Value → Prop} {xs : List β} {fop : Operand} {ps : Array Tmp} {assign body : Code} {l0 : Nat} {r0 : Loop}
  (I : List β → Ghost → Own → Prop) (Ix : Code → Ghost → Own → Prop) (hg : ev ρ fop = some (.func (.func f) #[] caps.toArray)) (hit : It P f caps g args xs) (hs : St g w (L ++ F)) (hl0 : (l0, .loop r0) ∈ L ++ F)
  (hN : ps.toList.all (fun p => Nat.blt p N) = true) (hps : ∀ g x vs, args g x vs → ps.size = vs.length)
  (hI : ∀ pre g g' L, g ≤ g' → I pre g L → I pre g' L) (hIx : ∀ c g g' L, g ≤ g' → Ix c g L → Ix c g' L) (h0 : I [] g L)
  (hbody : ∀ l rc pre x post g1 w1 L1 F1 vs, rc.state = .ready → xs = pre ++ x :: post → I pre g1 L1 → args g1 x vs → g ≤ g1 → St g1 w1 ((l, .loop rc) :: (L1 ++ F1)) →
   WC P (some l) (AsgQ P l body (RndQ l rc (I (pre ++ [x])) Ix g1 F1)) N [] assign [] ((ps.toList.zip vs).reverse ++ ρ) w1)
  (hdone : ∀ g' w' L', g ≤ g' → I xs g' L' → St g' w' (L' ++ F) → WK P (some l0) Qb N ds s ρ w')
  (hstop : ∀ c g' w' L', g ≤ g' → Ix c g' L' → St g' w' (L' ++ F) → WC P (some l0) Qb N ds c s ρ w') :
  WC P (some l0) Qb N ds (.rangeFunc fop ps assign body) s ρ w := by
 intro a ha
 refine wpIn_rangeFunc ?_
 intro fn hfn
 obtain ⟨rc, hrc⟩ : ∃ rc : Loop, rc = { state := .ready, pending := none, fn, tmps := a.tmps, params := ps, assign, body, defers := r0.defers } := ⟨_, rfl⟩
 obtain ⟨D, hD⟩ : ∃ D, D = w.heap.size := ⟨_, rfl⟩
 obtain ⟨W1, hW1⟩ : ∃ W1, w.alloc (.loop rc) = W1 := ⟨_, rfl⟩
 have hs1 : St g W1 ((D, .loop rc) :: (L ++ F)) := by rw [← hW1, hD]; exact hs.alloc (.loop rc)
 have hcall := hit.call D (fun pre g' L' => g ≤ g' ∧ ∃ L0, L' = (D, .loop rc) :: L0 ∧ I pre g' L0)
  (fun g' L' => ∃ c L0, L' = (D, .loop { rc with state := .done, pending := some c }) :: L0 ∧ Ix c g' L0)
  ⟨fun pre g1 g2 L' hle ⟨h0, L0, e, h⟩ => ⟨Ghost.tr h0 hle, L0, e, hI _ _ _ _ hle h⟩, fun g1 g2 L' hle ⟨c, L0, e, h⟩ => ⟨c, L0, e, hIx _ _ _ _ hle h⟩, by
   rintro pre x post g1 w1 L' F1 vs hx ⟨hgg, L0, rfl, hi⟩ harg hst;have hst' : St g1 w1 ((D, .loop rc) :: (L0 ++ F1)) := hst;have hb := hbody D rc pre x post g1 w1 L0 F1 vs (by rw [hrc]) hx hi harg hgg hst'
   refine (cbY_round (N := N) (ds := ds) (ρ := ρ) (a0 := a) (I := I (pre ++ [x])) (Ix := Ix) hst' (by rw [hrc]) (by rw [hrc]) ha (fun p hp => ?_) (by rw [hrc]; exact hps _ _ _ harg) (by rw [hrc] at hb ⊢; exact hb)).mono ?_
   ·rw [hrc] at hp; simpa using List.all_eq_true.1 hN p hp
   ·rintro v w2 ⟨g2, L2, h1, (⟨rfl, h2, h3⟩ | ⟨rfl, c, h2, h3⟩)⟩
    ·refine ⟨g2, _, h1, ?_, .inl ⟨rfl, Ghost.tr hgg h1, L2, rfl, h3⟩⟩;have e : { rc with state := .ready, pending := none } = rc := by rw [hrc]
     rw [e] at h2
     exact h2
    ·exact ⟨g2, _, h1, h2, .inr ⟨rfl, c, L2, rfl, h3⟩⟩⟩
  g W1 ((D, .loop rc) :: L) F Ghost.rfl' ⟨Ghost.rfl', L, rfl, h0⟩ hs1
 refine ⟨D, [], W1, { target := .fn (.func f) caps.toArray, args := #[Ys D] }, W1, f, (Ys D :: caps).toArray, W1, ?_, ?_, fun _ _ => trivial, ?_, fun h => by simp [FF] at h, ?_⟩
 ·rw [← hW1, hrc, hD]; exact run_enterLoop_inner (hs.own _ _ hl0) _ _ _ _ _
 ·simp only [resolve, rangeCall, Xe ha hg];simp [Act.eval, Deferred.ofValue]
 ·simp only [invoke];rw [hit.enters];simp
 ·refine calls_in (some l0) (hcall.mono ?_)
  rintro e w2 ⟨v, g2, L2, rfl, hg2, h2, (⟨_, L0, rfl, h3⟩ | ⟨c, L0, rfl, h3⟩)⟩
  ·refine ⟨none, _, run_endLoop (r := rc) (h2.own _ _ List.mem_cons_self) (by rw [hrc]; simp) |>.trans (by rw [hrc]), ?_⟩;exact hdone g2 _ L0 hg2 h3 (h2.putAt.drop) _ ⟨ha.size, by simp [ha.defers], fun k v hk => ha.at_ k v hk⟩
  ·refine ⟨some c, _, run_endLoop (r := { rc with state := .done, pending := some c }) (h2.own _ _ List.mem_cons_self) (by simp), ?_⟩;exact hstop c g2 _ L0 hg2 h3 (h2.putAt.drop) _ ⟨ha.size, by simp [ha.defers], fun k v hk => ha.at_ k v hk⟩
def RetQM (P : Program) (fn : Func) (R : Value → World → Prop) : Exit → Act → World → Prop := bodyPostM (FF none) 0 P fn fun e w' => ∃ v, e = .returned v ∧ R v w'
theorem cl_introM {f : FuncId} {fn : Func} {c : Code} {vs : List Value} {g : Ghost} {L : Own} {post : Ghost → Own → Value → Prop} (hf : P.funcs[f]? = some fn) (hb : fn.body = some c)
  (hname : (fn.name == "runtime.NumGoroutine") = false) (hN : fn.ntmps = N) (hv : Nat.ble vs.length N = true)
  (h : ∀ w F, St g w (L ++ F) → WC P none (RetQM P fn fun v w' => ∃ g' L', g ≤ g' ∧ St g' w' (L' ++ F) ∧ post g' L' v) N [] c [] (envOf 0 vs) w) : Cl P f vs g L post := by
 refine ⟨Go.Proofs.enters_of hf hname hb, fun w F hs => ?_⟩
 have h1 : CallsIn (FF none) 0 P f vs.toArray w fun e w' => ∃ v, e = .returned v ∧ ∃ g' L', g ≤ g' ∧ St g' w' (L' ++ F) ∧ post g' L' v := by
  refine callsIn_of_wp_marks hf hb trivial (h w F hs _ ⟨?_, rfl, fun k v hk => ?_⟩)
  ·have hv' : vs.length ≤ N := by simpa using hv
   simp [hN]; omega
  ·obtain ⟨_, h2⟩ := Js _ _ _ _ hk
   have hlt : k < vs.length := by
    rcases Nat.lt_or_ge k vs.length with h | h
    ·exact h
    ·simp [List.getElem?_eq_none h] at h2
   simp only [Array.getElem?_append];rw [if_pos (by simpa using hlt)];simpa using h2
 exact (callsIn_wide.1 h1).mono fun e w' ⟨v, e1, g', L', e2, e3, e4⟩ => ⟨v, g', L', e1, e2, e3, e4⟩
theorem it_intro {f : FuncId} {fn : Func} {c : Code} {caps : List Value} {g : Ghost} {args : Ghost → β → List Value → Prop} {xs : List β} (hf : P.funcs[f]? = some fn) (hb : fn.body = some c)
  (hname : (fn.name == "runtime.NumGoroutine") = false) (hN : fn.ntmps = N) (hv : Nat.ble (caps.length + 1) N = true)
  (h : ∀ l I Ix, CB P l args xs I Ix → ∀ g1 w L F, g ≤ g1 → I [] g1 L → St g1 w (L ++ F) →
   WC P none (RetQM P fn fun _ w' => ∃ g' L', g1 ≤ g' ∧ St g' w' (L' ++ F) ∧ (I xs g' L' ∨ Ix g' L')) N [] c [] (envOf 0 (Ys l :: caps)) w) : It P f caps g args xs := by
 refine ⟨Go.Proofs.enters_of hf hname hb, fun l I Ix hcb g1 w L F hg1 hi hs => ?_⟩
 have h1 : CallsIn (FF none) 0 P f (Ys l :: caps).toArray w fun e w' => ∃ v, e = .returned v ∧ ∃ g' L', g1 ≤ g' ∧ St g' w' (L' ++ F) ∧ (I xs g' L' ∨ Ix g' L') := by
  refine callsIn_of_wp_marks hf hb trivial (h l I Ix hcb g1 w L F hg1 hi hs _ ⟨?_, rfl, fun k v hk => ?_⟩)
  ·have hv' : caps.length + 1 ≤ N := by simpa using hv
   simp [hN]; omega
  ·obtain ⟨_, h2⟩ := Js _ _ _ _ hk
   have hlt : k < (Ys l :: caps).length := by
    rcases Nat.lt_or_ge k (Ys l :: caps).length with h | h
    ·exact h
    ·simp [List.getElem?_eq_none h] at h2
   simp only [Array.getElem?_append];rw [if_pos (by simpa using hlt)];simpa using h2
 exact (callsIn_wide.1 h1).mono fun e w' ⟨v, e1, g', L', e2, e3, e4⟩ => ⟨v, g', L', e1, e2, e3, e4⟩
theorem leavesM_nil {fn : Func} {R : Value → World → Prop} {v : Value} {a : Act} (ha : Fits N ds a ρ) (hr : ResV P fn ρ w v) (hR : R v w) :
  LeavesInM (FF none) 0 P fn a.tmps (fun e w' => ∃ v, e = .returned v ∧ R v w') [] .returning w := ⟨v, hr _ _ a ha, v, rfl, hR⟩
theorem leavesM_mark {fn : Func} {R : Value → World → Prop} {D k : Nat} {g : Ghost} {L : Own} {a : Act} (ha : Fits N ds a ρ) (hs : St g w L) (hk : L[k]? = some (D, .deferred (some [])))
  (h : ∀ w', St g w' (L.eraseIdx k) → ∃ v, ResV P fn ρ w' v ∧ R v w') :
  LeavesInM (FF none) 0 P fn a.tmps (fun e w' => ∃ v, e = .returned v ∧ R v w') [markD D] .returning w := by
 have hm := Za hk
 refine ⟨by simp, .inl ⟨D, _, rfl, run_takeDeferred (hs.own _ _ hm), ?_⟩⟩
 obtain ⟨v, h1, h2⟩ := h (w.putObj D (.deferred none)) (hs.front k hk).putAt.drop
 exact leavesM_nil ha h1 h2
theorem wc_retV0 {fn : Func} {v : Value} {R : Value → World → Prop} (hr : ResV P fn ρ w v) (hR : R v w) : WC P ro (RetQM P fn R) N [] .ret s ρ w :=
 wc_ret fun a ha => by rw [show RetQM P fn R .ret a w = LeavesInM (FF none) 0 P fn a.tmps _ a.defers .returning w from rfl, ha.defers]; exact leavesM_nil ha hr hR
theorem wk_end0 {fn : Func} {v : Value} {R : Value → World → Prop} (hr : ResV P fn ρ w v) (hR : R v w) : WK P ro (RetQM P fn R) N [] [] ρ w := fun a ha => by
 show RetQM P fn R .normal a w
 rw [show RetQM P fn R .normal a w = LeavesInM (FF none) 0 P fn a.tmps _ a.defers .returning w from rfl, ha.defers]; exact leavesM_nil ha hr hR
theorem wc_retM {fn : Func} {R : Value → World → Prop} {D : Nat} {g : Ghost} {L : Own} (k : Nat) (hs : St g w L) (hk : L[k]? = some (D, .deferred (some [])))
  (h : ∀ w', St g w' (L.eraseIdx k) → ∃ v, ResV P fn ρ w' v ∧ R v w') : WC P ro (RetQM P fn R) N [markD D] .ret s ρ w :=
 wc_ret fun a ha => by rw [show RetQM P fn R .ret a w = LeavesInM (FF none) 0 P fn a.tmps _ a.defers .returning w from rfl, ha.defers]; exact leavesM_mark ha hs hk h
theorem wk_endM {fn : Func} {R : Value → World → Prop} {D : Nat} {g : Ghost} {L : Own} (k : Nat) (hs : St g w L) (hk : L[k]? = some (D, .deferred (some [])))
  (h : ∀ w', St g w' (L.eraseIdx k) → ∃ v, ResV P fn ρ w' v ∧ R v w') : WK P ro (RetQM P fn R) N [markD D] [] ρ w := fun a ha => by
 show RetQM P fn R .normal a w
 rw [show RetQM P fn R .normal a w = LeavesInM (FF none) 0 P fn a.tmps _ a.defers .returning w from rfl, ha.defers]; exact leavesM_mark ha hs hk h
variable [Tabbed P]
theorem resC1 {fn : Func} {t : Tmp} {ty E b k : Nat} {g : Ghost} {L : Own} {v : Value} {te : TE} (hs : St g w L) (h : fn.results = #[.cell t ty]) (ht : Ye ρ t = some (.pointer (some ⟨b, 0, none⟩))) (hk : L[k]? = some (b, Xa [v] E))
  (hty : Xc (tb P) ty = some te) (hA : te.td.isAgg = false) : ResV P fn ρ w v := fun _ _ a ha => by
 have hc := run_loadVar1 (P := P) w hty hA (hs.cellL (i := 0) (v := v) (Za hk) rfl)
 simp only [results, h]; simp [Jx ha ht, asAddr, hc]
theorem resCN {fn : Func} {t : Tmp} {ty E b k : Nat} {g : Ghost} {L : Own} {l : List Value} {te : TE} (hs : St g w L) (h : fn.results = #[.cell t ty]) (ht : Ye ρ t = some (.pointer (some ⟨b, 0, none⟩))) (hk : L[k]? = some (b, Xa l E))
  (hty : Xc (tb P) ty = some te) (hA : te.td.isAgg = true) (hl : l.length = te.zs.length) : ResV P fn ρ w (.agg l.toArray) := fun _ _ a ha => by
 have hc := Qa (P := P) w hty hA (a := ⟨b, 0, none⟩) hl (fun j v hv => by rw [Yo]; exact hs.cellL (Za hk) (by simpa using hv))
 simp only [results, h]; simp [Jx ha ht, asAddr, hc]
end
end
section
open Go.RowKit
def memB (t : Nat) : List Nat → Bool
 | [] => false
 | u :: l => bif Nat.beq t u then true else memB t l
def keepB (l : List Nat) : Env → Env
 | [] => []
 | (t, v) :: ρ => bif memB t l then (t, v) :: keepB l ρ else keepB l ρ
def dropK (d : Nat) : Env → Env
 | [] => []
 | (t, v) :: ρ => bif Nat.beq t d then dropK d ρ else (t, v) :: dropK d ρ
def knE : TS → Env → Env
 | [], ρ => ρ
 | (some d, .known v) :: Γ, ρ => (d, v) :: knE Γ ρ
 | (some d, .pred _) :: Γ, ρ => dropK d (knE Γ ρ)
 | (some d, .lent _ _) :: Γ, ρ => dropK d (knE Γ ρ)
 | (none, _) :: Γ, ρ => knE Γ ρ
def kn (ops : Array Oper) (o : Oper) (Γ : TS) (ρ : Env) : Env := keepB (o.looksAt ops) (knE Γ ρ)
theorem memB_mem {t : Nat} : ∀ {l : List Nat}, memB t l = true → t ∈ l
 | [], h => by cases h
 | u :: l, h => by
  simp only [memB, Bool.cond_eq_ite] at h
  split at h
  ·rename_i e; rw [Nat.eq_of_beq_eq_true e]; exact List.mem_cons_self
  ·exact List.mem_cons_of_mem _ (memB_mem h)
theorem look_keepB (l : List Nat) : ∀ (ρ : Env) (t : Nat) (v : Value), Ye (keepB l ρ) t = some v → t ∈ l ∧ Ye ρ t = some v
 | [], t, v, h => by cases h
 | (u, x) :: ρ, t, v, h => by
  simp only [keepB, Bool.cond_eq_ite] at h
  split at h
  ·rename_i hm;simp only [Ye, Bool.cond_eq_ite] at h ⊢
   split at h
   ·rename_i e;have := Nat.eq_of_beq_eq_true e;subst this;rw [if_pos e];exact ⟨memB_mem hm, h⟩
   ·rename_i e;rw [if_neg e];exact look_keepB l ρ t v h
  ·rename_i hm;obtain ⟨h1, h2⟩ := look_keepB l ρ t v h;refine ⟨h1, ?_⟩;simp only [Ye, Bool.cond_eq_ite]
   split
   ·rename_i e;exfalso;have := Nat.eq_of_beq_eq_true e;subst this;apply hm
    have : ∀ l : List Nat, t ∈ l → memB t l = true := by
     intro l
     induction l with
     | nil => intro h; cases h
     | cons y l ih =>
      intro h;simp only [memB, Bool.cond_eq_ite]
      split
      ·rfl
      ·rename_i hne
       rcases List.mem_cons.1 h with rfl | h
       ·exact absurd (Nat.beq_refl _) hne
       ·exact ih h
    exact this l h1
   ·exact h2
theorem look_dropK (d : Nat) : ∀ (ρ : Env) (t : Nat) (v : Value), Ye (dropK d ρ) t = some v → t ≠ d ∧ Ye ρ t = some v
 | [], t, v, h => by cases h
 | (u, x) :: ρ, t, v, h => by
  simp only [dropK, Bool.cond_eq_ite] at h
  split at h
  ·rename_i hm;obtain ⟨h1, h2⟩ := look_dropK d ρ t v h;refine ⟨h1, ?_⟩;simp only [Ye, Bool.cond_eq_ite]
   split
   ·rename_i e;exact absurd ((Nat.eq_of_beq_eq_true e).trans (Nat.eq_of_beq_eq_true hm)) h1
   ·exact h2
  ·rename_i hm;simp only [Ye, Bool.cond_eq_ite] at h ⊢
   split at h
   ·rename_i e;rw [if_pos e];refine ⟨fun e' => hm ?_, h⟩;rw [← e', ← Nat.eq_of_beq_eq_true e]; exact Nat.beq_refl _
   ·rename_i e;rw [if_neg e];exact look_dropK d ρ t v h
theorem look_knE : ∀ (Γ : TS) (ρ : Env) (t : Nat) (v : Value), Ye (knE Γ ρ) t = some v → Ue Γ ρ t = some (.known v)
 | [], ρ, t, v, h => by simpa [knE, Ue] using h
 | (some d, .known u) :: Γ, ρ, t, v, h => by
  simp only [knE, Ye, Bool.cond_eq_ite] at h
  simp only [Ue, Bool.cond_eq_ite]
  split at h
  ·rename_i e; rw [if_pos e]; cases h; rfl
  ·rename_i e; rw [if_neg e]; exact look_knE Γ ρ t v h
 | (some d, .pred Φ) :: Γ, ρ, t, v, h => by
  simp only [knE] at h
  obtain ⟨h1, h2⟩ := look_dropK _ _ _ _ h;simp only [Ue, Bool.cond_eq_ite];rw [if_neg (fun e => h1 (Nat.eq_of_beq_eq_true e))];exact look_knE Γ ρ t v h2
 | (some d, .lent Φ Ψ) :: Γ, ρ, t, v, h => by
  simp only [knE] at h
  obtain ⟨h1, h2⟩ := look_dropK _ _ _ _ h;simp only [Ue, Bool.cond_eq_ite];rw [if_neg (fun e => h1 (Nat.eq_of_beq_eq_true e))];exact look_knE Γ ρ t v h2
 | (none, .known u) :: Γ, ρ, t, v, h => look_knE Γ ρ t v h
 | (none, .pred Φ) :: Γ, ρ, t, v, h => look_knE Γ ρ t v h
 | (none, .lent Φ Ψ) :: Γ, ρ, t, v, h => look_knE Γ ρ t v h
section
variable (P : Program) (ro : Option Nat) (N : Nat) (ds : List Deferred) (ops : Array Oper) (L : Own)
def POx (g1 : Ghost) (ρx : Env) (o : Oper) (R : Own) (e : TY) : Prop :=
 ∀ g w X a, g1 ≤ g → St g w (R ++ (L ++ X)) → Fits N ds a ρx →
  (Region.wanted o (yielded ops a.tmps) = true ∧ ∀ Q, o.wpIn (FF ro) 0 P a w (fun a' w' => ∃ v g' L', a' = a.put o.dst v ∧ g ≤ g' ∧ St g' w' (L' ++ (L ++ X)) ∧ e.S g' v L') Q) ∨
  (Region.wanted o (yielded ops a.tmps) = false ∧ R = [] ∧ e.S g undef [])
end
section
variable {P : Program} {ro : Option Nat} {Qb : Exit → Act → World → Prop} {N : Nat} {ds : List Deferred} {ops : Array Oper} {g0 : Ghost} {L : Own} {ρ : Env} {w : World}
variable {o : Oper} {Γ : TS} {R RL : Own} {e : TY} {l : List Oper} {K : TS → Prop}
theorem fits_kn {g : Ghost} {a : Act} (hsz : a.tmps.size = N) (hd : a.defers = ds) (hk : ∀ t ∈ o.looksAt ops, ∀ e', Ue Γ ρ t = some e' → ∃ v L', a.tmps[t]? = some v ∧ e'.Φ g v L') : Fits N ds a (kn ops o Γ ρ) := by
 refine ⟨hsz, hd, fun t v ht => ?_⟩
 obtain ⟨h1, h2⟩ := look_keepB _ _ _ _ ht
 obtain ⟨u, L', h3, h4⟩ := hk t h1 _ (look_knE _ _ _ _ h2)
 rw [h3, h4.1]
theorem po_of (h : POx P ro N ds ops L g0 (kn ops o Γ ρ) o R e) : PO P ro N ds ops g0 L ρ Γ o R e := .inl fun g w X a hg hs hsz hd hk => h g w X a hg hs (fits_kn hsz hd hk)
theorem po_with {Φ : Ghost → Value → Own → Prop} (t : Nat) (ht : Ue Γ ρ t = some (.pred Φ)) (hm : memB t (o.looksAt ops) = true) (h : ∀ g1 v L', g0 ≤ g1 → Φ g1 v L' → POx P ro N ds ops L g1 ((t, v) :: kn ops o Γ ρ) o R e) : PO P ro N ds ops g0 L ρ Γ o R e := by
 refine .inl ?_
 intro g w X a hg hs hsz hd hk
 obtain ⟨v, L', h1, h2⟩ := hk t (memB_mem hm) _ ht
 refine h g v L' hg h2 g w X a Ghost.rfl' hs ?_
 have hf := fits_kn (ρ := ρ) hsz hd hk
 refine ⟨hsz, hd, fun k u hu => ?_⟩
 simp only [Ye, Bool.cond_eq_ite] at hu
 split at hu
 ·rename_i e; rw [Nat.eq_of_beq_eq_true e, h1]; exact hu
 ·exact hf.at_ k u hu
theorem po_with2 {Φ Φ2 : Ghost → Value → Own → Prop} (t t2 : Nat) (ht : Ue Γ ρ t = some (.pred Φ)) (hm : memB t (o.looksAt ops) = true) (ht2 : Ue Γ ρ t2 = some (.pred Φ2)) (hm2 : memB t2 (o.looksAt ops) = true)
  (h : ∀ g1 v L' v2 L2, g0 ≤ g1 → Φ g1 v L' → Φ2 g1 v2 L2 → POx P ro N ds ops L g1 ((t, v) :: (t2, v2) :: kn ops o Γ ρ) o R e) : PO P ro N ds ops g0 L ρ Γ o R e := by
 refine .inl ?_
 intro g w X a hg hs hsz hd hk
 obtain ⟨v, L', h1, h2⟩ := hk t (memB_mem hm) _ ht
 obtain ⟨v2, L2, h12, h22⟩ := hk t2 (memB_mem hm2) _ ht2
 refine h g v L' v2 L2 hg h2 h22 g w X a Ghost.rfl' hs ?_
 have hf := fits_kn (ρ := ρ) hsz hd hk
 refine ⟨hsz, hd, fun k u hu => ?_⟩
 simp only [Ye, Bool.cond_eq_ite] at hu
 split at hu
 ·rename_i e; rw [Nat.eq_of_beq_eq_true e, h1]; exact hu
 ·split at hu
  ·rename_i e; rw [Nat.eq_of_beq_eq_true e, h12]; exact hu
  ·exact hf.at_ k u hu
theorem px_do {d : Nat} {ρx : Env} {g1 : Ghost} (hd : o.dst = some d) (hw : Xl ops ρx o.guard = some true)
  (hr : ∀ g w X, g1 ≤ g → St g w (R ++ (L ++ X)) → ∃ v w' g' L', (∀ N ds a, Fits N ds a ρx → (execOp a.eval o).run P w = .ok (.value v) w') ∧ g ≤ g' ∧ St g' w' (L' ++ (L ++ X)) ∧ e.S g' v L') : POx P ro N ds ops L g1 ρx o R e := by
 intro g w X a hg hs ha
 obtain ⟨v, w', g', L', h1, h2, h3, h4⟩ := hr g w X hg hs
 have hv := h1 _ _ _ ha
 refine .inl ⟨Uw ha hw, fun Q => ⟨Vb a w, ?_⟩⟩
 rw [Jq (notDefer_value hv), hv]
 exact ⟨v, g', L', rfl, h2, h3, h4⟩
theorem px_val {d : Nat} {ρx : Env} {g1 : Ghost} {v : Value} (hd : o.dst = some d) (hw : Xl ops ρx o.guard = some true)
  (hr : ∀ g w X, g1 ≤ g → St g w (L ++ X) → OpV P o ρx w v) : POx P ro N ds ops L g1 ρx o [] (.known v) :=
 px_do hd hw fun g w X hg hs => ⟨v, w, g, [], hr g w X hg hs, Ghost.rfl', hs, rfl, rfl⟩
def up (ψ : Ghost → Own → Value → Prop) : TY := .pred fun g v L => ∃ g1, g1 ≤ g ∧ ψ g1 L v
theorem Kf (ψ : Ghost → Own → Value → Prop) : (up ψ).Mono := fun _ _ _ _ hg ⟨g1, h1, h2⟩ => ⟨g1, Ghost.tr h1 hg, h2⟩
theorem px_call {d : Nat} {c : Call} {ty : TypeId} {pos : String} {after : Array Edge} {guard : Option (Nat × Bool)} {f : FuncId} {vs : List Value} {post : Ghost → Own → Value → Prop} {ρx : Env} {g1 : Ghost}
  (hc : Zy ρx c = some (f, vs)) (hw : Xl ops ρx guard = some true) (hcl : ∀ g, g1 ≤ g → Cl P f vs g R post) :
  POx P ro N ds ops L g1 ρx ⟨some d, .call c, ty, pos, after, guard⟩ R (up post) := by
 intro g w X a hg hs ha
 have hrun := calleeOf_run hc (hcl g hg).enters ha w (some d) ty pos after guard
 refine .inl ⟨Uw (o := ⟨some d, .call c, ty, pos, after, guard⟩) ha hw, fun Q => ⟨Vb a w, ?_⟩⟩
 rw [Jq (Qg hrun), hrun]
 refine ⟨fun h => by simp [FF] at h, calls_in ro (((hcl g hg).call w (L ++ X) hs).mono ?_)⟩
 rintro e w' ⟨v, g', L', rfl, h1, h2, h3⟩
 exact ⟨v, g', L', rfl, h1, h2, g', Ghost.rfl', h3⟩
theorem px_callK {d : Nat} {c : Call} {ty : TypeId} {pos : String} {after : Array Edge} {guard : Option (Nat × Bool)} {f : FuncId} {vs : List Value} {post : Ghost → Own → Value → Prop} {v : Value} {ρx : Env} {g1 : Ghost}
  (hc : Zy ρx c = some (f, vs)) (hw : Xl ops ρx guard = some true) (hcl : ∀ g, g1 ≤ g → Cl P f vs g R post) (hp : ∀ g' L' v', post g' L' v' → L' = [] ∧ v' = v) :
  POx P ro N ds ops L g1 ρx ⟨some d, .call c, ty, pos, after, guard⟩ R (.known v) := by
 intro g w X a hg hs ha
 have hrun := calleeOf_run hc (hcl g hg).enters ha w (some d) ty pos after guard
 refine .inl ⟨Uw (o := ⟨some d, .call c, ty, pos, after, guard⟩) ha hw, fun Q => ⟨Vb a w, ?_⟩⟩
 rw [Jq (Qg hrun), hrun]
 refine ⟨fun h => by simp [FF] at h, calls_in ro (((hcl g hg).call w (L ++ X) hs).mono ?_)⟩
 rintro e w' ⟨u, g', L', rfl, h1, h2, h3⟩
 obtain ⟨rfl, rfl⟩ := hp _ _ _ h3
 exact ⟨u, g', [], rfl, h1, h2, rfl, rfl⟩
variable {d : Nat} {ty : TypeId} {pos : String} {after : Array Edge} {guard : Option (Nat × Bool)}
theorem sg_v {v : Value} (hd : o.dst = some d) (hw : Xl ops (kn ops o Γ ρ) o.guard = some true) (hr : ∀ g w X, g0 ≤ g → St g w (L ++ X) → OpV P o (kn ops o Γ ρ) w v)
  (h : Xm P ro N ds ops g0 L ρ l ((some d, .known v) :: Γ) RL K) : Xm P ro N ds ops g0 L ρ (o :: l) Γ RL K :=
 ⟨[], RL, .known v, rfl, TY.mono_known v, po_of (px_val hd hw hr), by rw [hd]; exact h⟩
theorem sg_skip (hd : o.dst = some d) (hw : Xl ops (kn ops o Γ ρ) o.guard = some false) (h : Xm P ro N ds ops g0 L ρ l ((some d, .known undef) :: Γ) RL K) : Xm P ro N ds ops g0 L ρ (o :: l) Γ RL K :=
 ⟨[], RL, .known undef, rfl, TY.mono_known _, po_of (fun _ _ _ a _ _ ha => .inr ⟨Uw ha hw, rfl, rfl, rfl⟩), by rw [hd]; exact h⟩
theorem Xy (h : K Γ) : Xm P ro N ds ops g0 L ρ [] Γ [] K := ⟨rfl, h⟩
theorem Vq (R RL' : Own) {c : Call} {f : FuncId} {vs : List Value} {post : Ghost → Own → Value → Prop} {v : Value} (hRL : RL = R ++ RL')
  (hc : Zy (kn ops ⟨some d, .call c, ty, pos, after, guard⟩ Γ ρ) c = some (f, vs)) (hw : Xl ops (kn ops ⟨some d, .call c, ty, pos, after, guard⟩ Γ ρ) guard = some true)
  (hcl : ∀ g, g0 ≤ g → Cl P f vs g R post) (hp : ∀ g' L' v', post g' L' v' → L' = [] ∧ v' = v)
  (h : Xm P ro N ds ops g0 L ρ l ((some d, .known v) :: Γ) RL' K) : Xm P ro N ds ops g0 L ρ (⟨some d, .call c, ty, pos, after, guard⟩ :: l) Γ RL K :=
 ⟨R, RL', .known v, hRL, TY.mono_known v, po_of (px_callK hc hw hcl hp), h⟩
theorem Uf (R RL' : Own) {c : Call} {f : FuncId} {vs : List Value} {post : Ghost → Own → Value → Prop} (hRL : RL = R ++ RL')
  (hc : Zy (kn ops ⟨some d, .call c, ty, pos, after, guard⟩ Γ ρ) c = some (f, vs)) (hw : Xl ops (kn ops ⟨some d, .call c, ty, pos, after, guard⟩ Γ ρ) guard = some true)
  (hcl : ∀ g, g0 ≤ g → Cl P f vs g R post)
  (h : Xm P ro N ds ops g0 L ρ l ((some d, up post) :: Γ) RL' K) : Xm P ro N ds ops g0 L ρ (⟨some d, .call c, ty, pos, after, guard⟩ :: l) Γ RL K :=
 ⟨R, RL', up post, hRL, Kf _, po_of (px_call hc hw hcl), h⟩
theorem sg_callW (t : Nat) (R RL' : Own) {Φ : Ghost → Value → Own → Prop} {c : Call} {f : FuncId} {vs : Value → List Value} {post : Ghost → Own → Value → Prop} (hRL : RL = R ++ RL')
  (ht : Ue Γ ρ t = some (.pred Φ)) (hm : memB t ((⟨some d, .call c, ty, pos, after, guard⟩ : Oper).looksAt ops) = true)
  (hc : ∀ v, Zy ((t, v) :: kn ops ⟨some d, .call c, ty, pos, after, guard⟩ Γ ρ) c = some (f, vs v)) (hw : ∀ v, Xl ops ((t, v) :: kn ops ⟨some d, .call c, ty, pos, after, guard⟩ Γ ρ) guard = some true)
  (hcl : ∀ g g1 v L', g0 ≤ g1 → Φ g1 v L' → g1 ≤ g → Cl P f (vs v) g R post)
  (h : Xm P ro N ds ops g0 L ρ l ((some d, up post) :: Γ) RL' K) : Xm P ro N ds ops g0 L ρ (⟨some d, .call c, ty, pos, after, guard⟩ :: l) Γ RL K :=
 ⟨R, RL', up post, hRL, Kf _, po_with t ht hm (fun g1 v L' hg hΦ => px_call (hc v) (hw v) fun g hg2 => hcl g g1 v L' hg hΦ hg2), h⟩
theorem sg_callWK (t : Nat) (R RL' : Own) {Φ : Ghost → Value → Own → Prop} {c : Call} {f : FuncId} {vs : Value → List Value} {post : Ghost → Own → Value → Prop} {u : Value} (hRL : RL = R ++ RL')
  (ht : Ue Γ ρ t = some (.pred Φ)) (hm : memB t ((⟨some d, .call c, ty, pos, after, guard⟩ : Oper).looksAt ops) = true)
  (hc : ∀ v, Zy ((t, v) :: kn ops ⟨some d, .call c, ty, pos, after, guard⟩ Γ ρ) c = some (f, vs v)) (hw : ∀ v, Xl ops ((t, v) :: kn ops ⟨some d, .call c, ty, pos, after, guard⟩ Γ ρ) guard = some true)
  (hcl : ∀ g g1 v L', g0 ≤ g1 → Φ g1 v L' → g1 ≤ g → Cl P f (vs v) g R post) (hp : ∀ g' L' v', post g' L' v' → L' = [] ∧ v' = u)
  (h : Xm P ro N ds ops g0 L ρ l ((some d, .known u) :: Γ) RL' K) : Xm P ro N ds ops g0 L ρ (⟨some d, .call c, ty, pos, after, guard⟩ :: l) Γ RL K :=
 ⟨R, RL', .known u, hRL, TY.mono_known _, po_with t ht hm (fun g1 v L' hg hΦ => px_callK (hc v) (hw v) (fun g hg2 => hcl g g1 v L' hg hΦ hg2) hp), h⟩
variable [Tabbed P]
theorem sg_p {op : Op} {v : Value} (hv : pureV (tb P) (kn ops ⟨some d, op, ty, pos, after, guard⟩ Γ ρ) op = some v) (hw : Xl ops (kn ops ⟨some d, op, ty, pos, after, guard⟩ Γ ρ) guard = some true)
  (h : Xm P ro N ds ops g0 L ρ l ((some d, .known v) :: Γ) RL K) : Xm P ro N ds ops g0 L ρ (⟨some d, op, ty, pos, after, guard⟩ :: l) Γ RL K :=
 sg_v rfl hw (fun _ w _ _ _ => pureV_ok hv w _ _ _ _ _) h
theorem own_mem {g : Ghost} {X : Own} {k b : Nat} {ob : Obj} (hk : L[k]? = some (b, ob)) (hs : St g w (L ++ X)) : w.heap[b]? = some ob := hs.own _ _ (List.mem_append_left _ (Za hk))
theorem Xv {t : Nat} {x : Operand} {v : Value} {te : TE} {b i E : Nat} {cl : List Value} (k : Nat) (hx : ev (kn ops ⟨some d, .load t x, ty, pos, after, guard⟩ Γ ρ) x = some (.pointer (some ⟨b, i, none⟩))) (hk : L[k]? = some (b, Xa cl E)) (hi : cl[i]? = some v)
  (ht : Xc (tb P) t = some te) (hA : te.td.isAgg = false) (hw : Xl ops (kn ops ⟨some d, .load t x, ty, pos, after, guard⟩ Γ ρ) guard = some true)
  (h : Xm P ro N ds ops g0 L ρ l ((some d, .known v) :: Γ) RL K) : Xm P ro N ds ops g0 L ρ (⟨some d, .load t x, ty, pos, after, guard⟩ :: l) Γ RL K :=
 sg_v rfl hw (fun _ _ _ _ hs => opv_load hx ht hA (hs.cellL (List.mem_append_left _ (Za hk)) hi)) h
theorem sg_ldON {t : Nat} {x : Operand} {te : TE} {b i E : Nat} {cl : List Value} (k : Nat) (hx : ev (kn ops ⟨some d, .load t x, ty, pos, after, guard⟩ Γ ρ) x = some (.pointer (some ⟨b, i, none⟩))) (hk : L[k]? = some (b, Xa cl E))
  (ht : Xc (tb P) t = some te) (hA : te.td.isAgg = true) (hl : ((cl.drop i).take te.zs.length).length = te.zs.length) (hw : Xl ops (kn ops ⟨some d, .load t x, ty, pos, after, guard⟩ Γ ρ) guard = some true)
  (h : Xm P ro N ds ops g0 L ρ l ((some d, .known (.agg ((cl.drop i).take te.zs.length).toArray)) :: Γ) RL K) : Xm P ro N ds ops g0 L ρ (⟨some d, .load t x, ty, pos, after, guard⟩ :: l) Γ RL K :=
 sg_v rfl hw (fun _ _ _ _ hs => opv_loadN hx ht hA hl (fun j v hv => by
  rw [Yo];refine hs.cellL (List.mem_append_left _ (Za hk)) ?_;rw [List.getElem?_take] at hv
  split at hv
  ·simpa using hv
  ·cases hv)) h
theorem Xp {t : Nat} {x : Operand} {a : Addr} {v : Value} {te : TE} (hc : g0.cell a = some v) (hx : ev (kn ops ⟨some d, .load t x, ty, pos, after, guard⟩ Γ ρ) x = some (.pointer (some a)))
  (ht : Xc (tb P) t = some te) (hA : te.td.isAgg = false) (hw : Xl ops (kn ops ⟨some d, .load t x, ty, pos, after, guard⟩ Γ ρ) guard = some true)
  (h : Xm P ro N ds ops g0 L ρ l ((some d, .known v) :: Γ) RL K) : Xm P ro N ds ops g0 L ρ (⟨some d, .load t x, ty, pos, after, guard⟩ :: l) Γ RL K :=
 sg_v rfl hw (fun _ _ _ hg hs => opv_load hx ht hA (hs.cellG (hg.cell hc))) h
theorem Vm {t : Nat} {x : Operand} {a : Addr} {te : TE} {cs : List Value} (hc : ∀ j v, cs[j]? = some v → g0.cell (a.add j) = some v) (hx : ev (kn ops ⟨some d, .load t x, ty, pos, after, guard⟩ Γ ρ) x = some (.pointer (some a)))
  (ht : Xc (tb P) t = some te) (hA : te.td.isAgg = true) (hl : cs.length = te.zs.length) (hw : Xl ops (kn ops ⟨some d, .load t x, ty, pos, after, guard⟩ Γ ρ) guard = some true)
  (h : Xm P ro N ds ops g0 L ρ l ((some d, .known (.agg cs.toArray)) :: Γ) RL K) : Xm P ro N ds ops g0 L ρ (⟨some d, .load t x, ty, pos, after, guard⟩ :: l) Γ RL K :=
 sg_v rfl hw (fun _ _ _ hg hs => opv_loadN hx ht hA hl (fun j v hv => hs.cellG (hg.cell (hc j v hv)))) h
theorem Uc {t e' : Nat} {x ix : Operand} {a : Option Addr} {n cap : Nat} {k : IntKind} {i : Int} {te ee : TE} (hx : ev (kn ops ⟨some d, .indexAddr t x ix, ty, pos, after, guard⟩ Γ ρ) x = some (.slice a n cap)) (hi : ev (kn ops ⟨some d, .indexAddr t x ix, ty, pos, after, guard⟩ Γ ρ) ix = some (.int k i))
  (ht : Xc (tb P) t = some te) (hd : te.td = .slice e') (he : Xc (tb P) e' = some ee) (h0 : 0 ≤ i ∧ i < n) (ha : ∃ b o, a = some ⟨b, o, none⟩) (hw : Xl ops (kn ops ⟨some d, .indexAddr t x ix, ty, pos, after, guard⟩ Γ ρ) guard = some true)
  (h : Xm P ro N ds ops g0 L ρ l ((some d, .known (.pointer (some (Zj a ee.zs.length i.toNat)))) :: Γ) RL K) : Xm P ro N ds ops g0 L ρ (⟨some d, .indexAddr t x ix, ty, pos, after, guard⟩ :: l) Γ RL K :=
 sg_v rfl hw (fun _ _ _ _ _ => opv_ix hx hi ht hd he h0.1 h0.2 ha) h
theorem sg_ixA {t e' m : Nat} {x ix : Operand} {b off : Nat} {k : IntKind} {i : Int} {te ee : TE} (hx : ev (kn ops ⟨some d, .indexAddr t x ix, ty, pos, after, guard⟩ Γ ρ) x = some (.pointer (some ⟨b, off, none⟩))) (hi : ev (kn ops ⟨some d, .indexAddr t x ix, ty, pos, after, guard⟩ Γ ρ) ix = some (.int k i))
  (ht : Xc (tb P) t = some te) (hd : te.td = .array m e') (he : Xc (tb P) e' = some ee) (h0 : 0 ≤ i ∧ i < m) (hw : Xl ops (kn ops ⟨some d, .indexAddr t x ix, ty, pos, after, guard⟩ Γ ρ) guard = some true)
  (h : Xm P ro N ds ops g0 L ρ l ((some d, .known (.pointer (some ⟨b, off + i.toNat * ee.zs.length, none⟩))) :: Γ) RL K) : Xm P ro N ds ops g0 L ρ (⟨some d, .indexAddr t x ix, ty, pos, after, guard⟩ :: l) Γ RL K :=
 sg_v rfl hw (fun _ _ _ _ _ => opv_ixA hx hi ht hd he h0.1 h0.2) h
omit [Tabbed P] in
theorem sg_ar {op : BinOp} {t t2 : Nat} {x y : Operand} {a b c : Int} (hx : ev (kn ops ⟨some d, .binOp op t x y t2, ty, pos, after, guard⟩ Γ ρ) x = some (.int .i64 a)) (hy : ev (kn ops ⟨some d, .binOp op t x y t2, ty, pos, after, guard⟩ Γ ρ) y = some (.int .i64 b))
  (ho : Qn op a b = some c) (hr : -9223372036854775808 ≤ c ∧ c ≤ 9223372036854775807) (hw : Xl ops (kn ops ⟨some d, .binOp op t x y t2, ty, pos, after, guard⟩ Γ ρ) guard = some true)
  (h : Xm P ro N ds ops g0 L ρ l ((some d, .known (.int .i64 c)) :: Γ) RL K) : Xm P ro N ds ops g0 L ρ (⟨some d, .binOp op t x y t2, ty, pos, after, guard⟩ :: l) Γ RL K :=
 sg_v rfl hw (fun _ _ _ _ _ => opv_ar hx hy ho (wrapI hr)) h
theorem sg_look {t K' E : Nat} {te ke ee : TE} {r : Nat} {m : AMap} {ob : Obj} {k : Int} {x y : Operand} {u : Value} (j : Nat) (hm : Jb m ob) (hx : ev (kn ops ⟨some d, .lookup t x y false, ty, pos, after, guard⟩ Γ ρ) x = some (.map (some r)))
  (hy : ev (kn ops ⟨some d, .lookup t x y false, ty, pos, after, guard⟩ Γ ρ) y = some (.int .i64 k)) (hj : L[j]? = some (r, ob))
  (ht : Xc (tb P) t = some te) (hd : te.td = .map K' E) (hk : Xc (tb P) K' = some ke) (hkd : ke.td = .int .i64) (he : Xc (tb P) E = some ee) (hu : (Zt m k).getD ee.zero = u) (hw : Xl ops (kn ops ⟨some d, .lookup t x y false, ty, pos, after, guard⟩ Γ ρ) guard = some true)
  (h : Xm P ro N ds ops g0 L ρ l ((some d, .known u) :: Γ) RL K) : Xm P ro N ds ops g0 L ρ (⟨some d, .lookup t x y false, ty, pos, after, guard⟩ :: l) Γ RL K :=
 sg_v rfl hw (fun _ _ _ _ hs => by have := fun w hr => opv_lookup (w := w) (ok := false) (dst := some d) (ty := ty) (pos := pos) (after := after) (guard := guard) hx hy ht hd hk hkd he hr hm; simpa [hu] using this _ (own_mem hj hs)) h
theorem sg_lenM {t K' E : Nat} {te : TE} {r : Nat} {m : AMap} {ob : Obj} {x : Operand} (j : Nat) (hm : Jb m ob) (hx : ev (kn ops ⟨some d, .call ⟨.builtin .len, #[x], #[t]⟩, ty, pos, after, guard⟩ Γ ρ) x = some (.map (some r))) (hj : L[j]? = some (r, ob))
  (ht : Xc (tb P) t = some te) (hd : te.td = .map K' E) (hw : Xl ops (kn ops ⟨some d, .call ⟨.builtin .len, #[x], #[t]⟩, ty, pos, after, guard⟩ Γ ρ) guard = some true)
  (h : Xm P ro N ds ops g0 L ρ l ((some d, .known (.int .i64 m.length)) :: Γ) RL K) : Xm P ro N ds ops g0 L ρ (⟨some d, .call ⟨.builtin .len, #[x], #[t]⟩, ty, pos, after, guard⟩ :: l) Γ RL K :=
 sg_v rfl hw (fun _ w _ _ hs N' ds' a ha => by
  obtain ⟨es, clock, rfl, rfl⟩ := hm;have hu := und_map ht hd;have hr := own_mem hj hs;simp [execOp, resolve, invoke, builtin, Builtin.len_, Xe ha hx, Xu w hu, getObj, Sem.run, hr, mapO, entO, goInt]) h
omit [Tabbed P] in
theorem sg_min {x y : Operand} {a b : Int} {argTypes : Array TypeId} (hx : ev (kn ops ⟨some d, .call ⟨.builtin .min, #[x, y], argTypes⟩, ty, pos, after, guard⟩ Γ ρ) x = some (.int .i64 a)) (hy : ev (kn ops ⟨some d, .call ⟨.builtin .min, #[x, y], argTypes⟩, ty, pos, after, guard⟩ Γ ρ) y = some (.int .i64 b))
  (hw : Xl ops (kn ops ⟨some d, .call ⟨.builtin .min, #[x, y], argTypes⟩, ty, pos, after, guard⟩ Γ ρ) guard = some true)
  (h : Xm P ro N ds ops g0 L ρ l ((some d, .known (.int .i64 (if b < a then b else a))) :: Γ) RL K) : Xm P ro N ds ops g0 L ρ (⟨some d, .call ⟨.builtin .min, #[x, y], argTypes⟩, ty, pos, after, guard⟩ :: l) Γ RL K :=
 sg_v rfl hw (fun _ _ _ _ _ N' ds' ac ha => by simp [execOp, resolve, invoke, builtin, Builtin.min_, Builtin.min2, Xe ha hx, Xe ha hy]) h
def psiBox (ys : List Value) : Ghost → Own → Value → Prop := fun g L v => ∃ b, v = .slice (some ⟨b, 0, none⟩) 1 1 ∧ L = [] ∧ Lies g b 0 ys
theorem sg_one {t E : Nat} {te ee : TE} {y : Operand} {u : Value} {ys : List Value} (hy : ev (kn ops ⟨some d, .buildSlice t 1 #[(0, y)], ty, pos, after, guard⟩ Γ ρ) y = some u) (hu : u.cells.toList = ys) (ht : Xc (tb P) t = some te) (hd : te.td = .slice E) (he : Xc (tb P) E = some ee)
  (hlen : ys.length = ee.zs.length) (hz : Nat.ble (1 * ee.zs.length) 16777216 = true) (hw : Xl ops (kn ops ⟨some d, .buildSlice t 1 #[(0, y)], ty, pos, after, guard⟩ Γ ρ) guard = some true)
  (h : Xm P ro N ds ops g0 L ρ l ((some d, up (psiBox ys)) :: Γ) RL K) : Xm P ro N ds ops g0 L ρ (⟨some d, .buildSlice t 1 #[(0, y)], ty, pos, after, guard⟩ :: l) Γ RL K := by
 have hsz2 : u.cells.size = ee.zs.length := by rw [← hlen, ← hu, Array.length_toList]
 refine ⟨[], RL, up (psiBox ys), rfl, Kf _, po_of (px_do rfl hw fun g w X hg hs => ?_), h⟩
 have hrun := Jr (w := w) (ps := [(0, u)]) (m := 1) ht hd he (by simp [Vr, hsz2]) rfl hz
 have hs1 : St g (w.alloc (Xa ys E)) ((w.heap.size, Xa ys E) :: (L ++ X)) := hs.alloc _
 obtain ⟨s1, s2, s3⟩ := hs1.freeze
 refine ⟨.slice (some ⟨w.heap.size, 0, none⟩) 1 1, w.alloc (Xa ys E), _, [], fun N ds a ha => ?_, s2, s1, _, Ghost.rfl', _, rfl, rfl, Us s3 (fun j u' e' => by simpa using e')⟩
 simp only [List.flatMap_cons, List.flatMap_nil, List.append_nil, hu] at hrun
 simp only [execOp, Xe ha hy]
 simp [Xe ha hy, hrun]
def psiS (E sz n : Nat) (cs : List Value) : Ghost → Own → Value → Prop := fun _ L v => OwnS E sz v n cs L
theorem sg_push {t E : Nat} {te ee : TE} {x : Operand} {v : Value} {n kx tb1 : Nat} {cs ys : List Value} (R RL' : Own) (hRL : RL = R ++ RL') (ho : OwnS E ee.zs.length v n cs R) (hroom : n + 1 ≤ 4294967296)
  (hx : x = .tmp kx) (hne : Nat.beq kx tb1 = false) (hv : Ye (kn ops ⟨some d, .call ⟨.builtin .append, #[x, .tmp tb1], #[t, t]⟩, ty, pos, after, guard⟩ Γ ρ) kx = some v)
  (hb1 : Ue Γ ρ tb1 = some (up (psiBox ys))) (hm : memB tb1 ((⟨some d, .call ⟨.builtin .append, #[x, .tmp tb1], #[t, t]⟩, ty, pos, after, guard⟩ : Oper).looksAt ops) = true)
  (ht : Xc (tb P) t = some te) (hd : te.td = .slice E) (he : Xc (tb P) E = some ee) (hlen : ys.length = ee.zs.length)
  (hb : Nat.ble ee.bytes 1024 = true) (hsz : Nat.blt 0 ee.zs.length = true) (h1 : ys.all Value.oneCell' = true)
  (hw : ∀ v, Xl ops ((tb1, v) :: kn ops ⟨some d, .call ⟨.builtin .append, #[x, .tmp tb1], #[t, t]⟩, ty, pos, after, guard⟩ Γ ρ) guard = some true)
  (h : Xm P ro N ds ops g0 L ρ l ((some d, up (psiS E ee.zs.length (n + 1) (cs ++ ys))) :: Γ) RL' K) :
  Xm P ro N ds ops g0 L ρ (⟨some d, .call ⟨.builtin .append, #[x, .tmp tb1], #[t, t]⟩, ty, pos, after, guard⟩ :: l) Γ RL K := by
 subst hx
 refine ⟨R, RL', _, hRL, Kf _, po_with tb1 hb1 hm (fun g1 u L' hg ⟨g2, hg2, b, hu1, hu2, hu3⟩ => px_do rfl (hw u) fun g w X hg3 hs => ?_), h⟩
 subst hu1
 obtain ⟨v', w1, H', hr, ho', hs'⟩ := Qv (ty := ty) (m := 1) (cx := 1) ht hd he ht hd ho hs (by simpa using hlen) ((hu3.mono (Ghost.tr hg2 hg3)).cellsAt hs) h1 hb hsz hroom
 refine ⟨v', w1, g, H', fun N ds a ha => ?_, Ghost.rfl', hs', g, Ghost.rfl', ho'⟩
 have hvx : ev ((tb1, Value.slice (some ⟨b, 0, none⟩) 1 1) :: kn ops ⟨some d, .call ⟨.builtin .append, #[.tmp kx, .tmp tb1], #[t, t]⟩, ty, pos, after, guard⟩ Γ ρ) (.tmp kx) = some v := by simp only [ev, Ye, hne, cond_false]; exact hv
 have hvy : ev ((tb1, Value.slice (some ⟨b, 0, none⟩) 1 1) :: kn ops ⟨some d, .call ⟨.builtin .append, #[.tmp kx, .tmp tb1], #[t, t]⟩, ty, pos, after, guard⟩ Γ ρ) (.tmp tb1) = some (.slice (some ⟨b, 0, none⟩) 1 1) := by simp [ev, Ye]
 simp [execOp, resolve, invoke, builtin, Xe ha hvx, Xe ha hvy, hr]
end
end
section
open Go.RowKit
section
variable {P : Program} [Tabbed P] {ro : Option Nat} {Qb : Exit → Act → World → Prop} {N : Nat} {ds : List Deferred} {ops : Array Oper} {rest : List Oper} {s : List Fr} {ρ : Env} {w : World}
variable {g g0 : Ghost} {L RL : Own} {Γ : TS} {K : TS → Prop} {l : List Oper}
variable {d : Nat} {ty : TypeId} {pos : String} {after : Array Edge} {guard : Option (Nat × Bool)}
theorem opv_ixJ {t e : Nat} {x ix : Operand} {b n cap : Nat} {k : IntKind} {te ee : TE} {dst : Option Tmp} (j : Nat) (hx : ev ρ x = some (.slice (some ⟨b, 0, none⟩) n cap)) (hi : ev ρ ix = some (.int k (j : Int)))
  (ht : Xc (tb P) t = some te) (hd : te.td = .slice e) (he : Xc (tb P) e = some ee) (h1 : j < n) (hz : Nat.beq ee.zs.length 1 = true) :
  OpV P ⟨dst, .indexAddr t x ix, ty, pos, after, guard⟩ ρ w (.pointer (some ⟨b, j, none⟩)) := by
 have := opv_ix (w := w) (dst := dst) (ty := ty) (pos := pos) (after := after) (guard := guard) hx hi ht hd he (by omega) (by omega) ⟨b, 0, rfl⟩
 have hz' := Nat.eq_of_beq_eq_true hz
 simpa [Zj, hz'] using this
theorem Yv {t e : Nat} {x ix : Operand} {b n cap : Nat} {k : IntKind} {te ee : TE} (j : Nat) (hx : ev ρ x = some (.slice (some ⟨b, 0, none⟩) n cap)) (hi : ev ρ ix = some (.int k (j : Int)))
  (ht : Xc (tb P) t = some te) (hd : te.td = .slice e) (he : Xc (tb P) e = some ee) (h1 : j < n) (hz : Nat.beq ee.zs.length 1 = true) (hn : Nat.blt d N = true) (hw : Xl ops ρ guard = some true)
  (h : WL P ro Qb N ds ops rest s ((d, .pointer (some ⟨b, j, none⟩)) :: ρ) w) : WL P ro Qb N ds ops (⟨some d, .indexAddr t x ix, ty, pos, after, guard⟩ :: rest) s ρ w :=
 Zb (opv_ixJ j hx hi ht hd he h1 hz) rfl hn hw h
theorem sg_ixJ {t e' : Nat} {x ix : Operand} {b n cap : Nat} {k : IntKind} {te ee : TE} (j : Nat) (hx : ev (kn ops ⟨some d, .indexAddr t x ix, ty, pos, after, guard⟩ Γ ρ) x = some (.slice (some ⟨b, 0, none⟩) n cap)) (hi : ev (kn ops ⟨some d, .indexAddr t x ix, ty, pos, after, guard⟩ Γ ρ) ix = some (.int k (j : Int)))
  (ht : Xc (tb P) t = some te) (hd : te.td = .slice e') (he : Xc (tb P) e' = some ee) (h1 : j < n) (hz : Nat.beq ee.zs.length 1 = true) (hw : Xl ops (kn ops ⟨some d, .indexAddr t x ix, ty, pos, after, guard⟩ Γ ρ) guard = some true)
  (h : Xm P ro N ds ops g0 L ρ l ((some d, .known (.pointer (some ⟨b, j, none⟩))) :: Γ) RL K) : Xm P ro N ds ops g0 L ρ (⟨some d, .indexAddr t x ix, ty, pos, after, guard⟩ :: l) Γ RL K :=
 sg_v rfl hw (fun _ _ _ _ _ => opv_ixJ j hx hi ht hd he h1 hz) h
theorem wl_ixAJ {t e m : Nat} {x ix : Operand} {b : Nat} {k : IntKind} {te ee : TE} (j : Nat) (hx : ev ρ x = some (.pointer (some ⟨b, 0, none⟩))) (hi : ev ρ ix = some (.int k (j : Int)))
  (ht : Xc (tb P) t = some te) (hd : te.td = .array m e) (he : Xc (tb P) e = some ee) (h1 : j < m) (hz : Nat.beq ee.zs.length 1 = true) (hn : Nat.blt d N = true) (hw : Xl ops ρ guard = some true)
  (h : WL P ro Qb N ds ops rest s ((d, .pointer (some ⟨b, j, none⟩)) :: ρ) w) : WL P ro Qb N ds ops (⟨some d, .indexAddr t x ix, ty, pos, after, guard⟩ :: rest) s ρ w := by
 have hz' := Nat.eq_of_beq_eq_true hz
 refine wl_ixA (i := (j : Int)) hx hi ht hd he (by omega) hn hw ?_
 simpa [hz'] using h
theorem drop0 (l : List Value) {n : Nat} (h : l.length = n) : (l.drop 0).take n = l := by rw [List.drop_zero, List.take_of_length_le (by omega)]
theorem Vy {t : Nat} {x : Operand} {te : TE} {b E : Nat} {l : List Value} (hs : St g w L) (k : Nat) (hx : ev ρ x = some (.pointer (some ⟨b, 0, none⟩))) (hk : L[k]? = some (b, Xa l E))
  (ht : Xc (tb P) t = some te) (hA : te.td.isAgg = true) (hl : l.length = te.zs.length) (hn : Nat.blt d N = true) (hw : Xl ops ρ guard = some true)
  (h : WL P ro Qb N ds ops rest s ((d, .agg l.toArray) :: ρ) w) : WL P ro Qb N ds ops (⟨some d, .load t x, ty, pos, after, guard⟩ :: rest) s ρ w :=
 wl_ldON hs k hx hk ht hA (by rw [drop0 l hl]; exact hl) hn hw (by rw [drop0 l hl]; exact h)
theorem sg_ldW {t : Nat} {x : Operand} {te : TE} {b E : Nat} {cl : List Value} (k : Nat) (hx : ev (kn ops ⟨some d, .load t x, ty, pos, after, guard⟩ Γ ρ) x = some (.pointer (some ⟨b, 0, none⟩))) (hk : L[k]? = some (b, Xa cl E))
  (ht : Xc (tb P) t = some te) (hA : te.td.isAgg = true) (hl : cl.length = te.zs.length) (hw : Xl ops (kn ops ⟨some d, .load t x, ty, pos, after, guard⟩ Γ ρ) guard = some true)
  (h : Xm P ro N ds ops g0 L ρ l ((some d, .known (.agg cl.toArray)) :: Γ) RL K) : Xm P ro N ds ops g0 L ρ (⟨some d, .load t x, ty, pos, after, guard⟩ :: l) Γ RL K :=
 sg_ldON k hx hk ht hA (by rw [drop0 cl hl]; exact hl) hw (by rw [drop0 cl hl]; exact h)
omit [Tabbed P] in
theorem sg_case {c : Bool} {t : Nat} (ht : c = true → Xm P ro N ds ops g0 L ρ l ((some t, .known (.bool true)) :: Γ) RL K) (hf : c = false → Xm P ro N ds ops g0 L ρ l ((some t, .known (.bool false)) :: Γ) RL K) :
  Xm P ro N ds ops g0 L ρ l ((some t, .known (.bool c)) :: Γ) RL K := by
 cases c with
 | true => exact ht rfl
 | false => exact hf rfl
end
theorem setL_full {l vs : List Value} (h : vs.length = l.length) : setL l 0 vs = vs := by
 have := setL_all vs [] l (by omega)
 simpa [h] using this
theorem flat_front (Hs : List Own) (k : Nat) (h : k < Hs.length) : Hs.flatten.Perm (Hs[k] ++ (Hs.eraseIdx k).flatten) := by
 have := (perm_front Hs k Hs[k] (List.getElem?_eq_getElem h)).symm.flatMap_right id
 simpa [List.flatMap_id] using this
theorem flat_set (Hs : List Own) (k : Nat) (h : k < Hs.length) (H : Own) : (Hs.set k H).flatten.Perm (H ++ (Hs.eraseIdx k).flatten) := by
 have := (perm_set Hs k Hs[k] H (List.getElem?_eq_getElem h)).flatMap_right id
 simpa [List.flatMap_id] using this
theorem freezeAll {α : Type} {e : α → List Value} {m : Nat} {h0 : ∀ x, (e x).length = m} {E : Nat} : ∀ (vs : List Value) (Hs : List Own) (xss : List (List α)) (g : Ghost) (w : World) (L : Own), vs.length = xss.length → Hs.length = xss.length →
  (∀ (k : Nat) (v : Value) (H : Own) (xs : List α), vs[k]? = some v → Hs[k]? = some H → xss[k]? = some xs → OwnS E m v xs.length (xs.flatMap e) H) → St g w (Hs.flatten ++ L) →
  ∃ g', g ≤ g' ∧ St g' w L ∧ ∀ (k : Nat) (v : Value) (xs : List α), vs[k]? = some v → xss[k]? = some xs → RS (kEnc e m h0) g' v xs
 | [], [], [], g, w, L, _, _, _, hs => ⟨g, Ghost.rfl', hs, fun k v xs h => by simp at h⟩
 | v :: vs, H :: Hs, xs :: xss, g, w, L, h1, h2, h3, hs => by
  have hs' : St g w (H ++ (Hs.flatten ++ L)) := by simpa using hs
  obtain ⟨g1, hg1, hs1, hr1⟩ := OwnS.freezeE (h0 := h0) (h3 0 v H xs rfl rfl rfl) hs';obtain ⟨g2, hg2, hs2, hr2⟩ := freezeAll (h0 := h0) vs Hs xss g1 w L (by simpa using h1) (by simpa using h2) (fun k v H xs e1 e2 e3 => h3 (k + 1) v H xs (by simpa using e1) (by simpa using e2) (by simpa using e3)) hs1;refine ⟨g2, Ghost.tr hg1 hg2, hs2, fun k u ys e1 e2 => ?_⟩;cases k with
  | zero => simp at e1 e2; subst e1; subst e2; exact hr1.mono hg2
  | succ k => exact hr2 k u ys (by simpa using e1) (by simpa using e2)
 | [], _ :: _, _, _, _, _, h, h', _, _ => by simp at h h'; omega
 | [], [], _ :: _, _, _, _, h, _, _, _ => by simp at h
 | _ :: _, [], _, _, _, _, h, h', _, _ => by simp at h h'; omega
 | _ :: _, _ :: _, [], _, _, _, h, _, _, _ => by simp at h
theorem freezeB {g : Ghost} {w : World} {L : Own} {b E : Nat} {cs : List Value} (hs : St g w ((b, Xa cs E) :: L)) : ∃ g', g ≤ g' ∧ St g' w L ∧ Lies g' b 0 cs := by
 obtain ⟨s1, s2, s3⟩ := hs.freeze
 exact ⟨_, s2, s1, Us s3 (fun j u e => by simpa using e)⟩
theorem RS.ofSl {α : Type} {K : Kd α} {g : Ghost} {b cap n : Nat} {vs : List Value} {xss : List (List α)} (hl : Lies g b 0 vs) (h1 : vs.length = xss.length) (hn : n = xss.length) (h : ∀ (k : Nat) (v : Value) (xs : List α), vs[k]? = some v → xss[k]? = some xs → RS K g v xs) :
  RS (kSl K) g (.slice (some ⟨b, 0, none⟩) n cap) xss := by
 refine RS.mk' hn hl fun i hi => ?_
 have hi' : i < vs.length := by omega
 refine ⟨vs[i], ?_, h i _ _ (List.getElem?_eq_getElem hi') (List.getElem?_eq_getElem hi)⟩
 show ((vs.drop (i * 1)).take 1) = _
 rw [Nat.mul_one, List.drop_eq_getElem_cons hi', List.take_succ_cons, List.take_zero]
end
section
open Go.RowKit
theorem Kq {P : Program} {b : Frame} {a : Act} {k : List Item} {cs : List Frame} {w : World} {c : Code} : step P (lone (b.atR a (.code (.scope c) :: k)) cs w) = .next (lone (b.atR a (.code c :: .inScope c :: k)) cs w) :=
 step_lone_go (by simp [stepG, stepG.exec, Frame.atR])
theorem stepR_inScope {P : Program} {b : Frame} {a : Act} {k : List Item} {cs : List Frame} {w : World} {c : Code} : step P (lone (b.atR a (.inScope c :: k)) cs w) = .next (lone (b.atR a k) cs w) :=
 step_lone_go (by simp [stepG, stepG.exec, Frame.atR])
section
variable {P : Program} {ro : Option Nat} {Qb : Exit → Act → World → Prop} {N : Nat} {ds : List Deferred} {s : List Fr} {ρ : Env} {w : World}
theorem wc_scope {c : Code} (h : WC P ro Qb N ds c (.scp c :: s) ρ w) : WC P ro Qb N ds (.scope c) s ρ w := by
 intro a ha b k cs hro hb hr
 obtain ⟨e, a₁, w₁, hq, harr⟩ := h a ha b (.inScope c :: k) cs hro hb hr
 have h0 := fenced_calm (P := P) (w := w) (fr := b.atR a (.code (.scope c) :: k)) hb hr rfl
 have hx : ∀ id k, exitTo id (.inScope c :: k) = exitTo id k := fun id k => by simp [exitTo]
 cases e with
 | normal => exact ⟨.normal, a₁, w₁, hq, .head h0 Kq (StepsIn.trans harr (.one (fenced_calm hb hr rfl) stepR_inScope))⟩
 | exit id => exact ⟨.exit id, a₁, w₁, hq, fun k' hk => .head h0 Kq (harr.1 k' (by rw [hx]; exact hk)), fun hr' hk => let ⟨k₁, h1, h2⟩ := harr.2 hr' (by rw [hx]; exact hk); ⟨k₁, h1, .head h0 Kq h2⟩⟩
 | goto l => exact hq.elim
 | ret => exact ⟨_, a₁, w₁, hq, .of_steps (.one h0 Kq) harr⟩
 | panic ch => exact ⟨_, a₁, w₁, hq, .of_steps (.one h0 Kq) harr⟩
 | outgrown => exact ⟨_, a₁, w₁, hq, .of_steps (.one h0 Kq) harr⟩
theorem wc_meetK {σ : Type} {c₁ c₂ : Code} (ρI : σ → Env) (J : σ → World → Prop) (h1 : WC P ro Qb N ds c₁ (.rnd (meetI N ds ρI J) :: s) ρ w)
  (h2 : ∀ x w, J x w → WC P ro Qb N ds c₂ s (ρI x) w) : WC P ro Qb N ds c₁ (.seq c₂ :: s) ρ w := by
 intro a ha
 refine wpIn_mono (h1 a ha) ?_
 intro e a' w' q
 cases e with
 | normal => obtain ⟨x, f, j⟩ := q; exact h2 x w' j a' f
 | _ => exact q
variable [Tabbed P] {ops : Array Oper} {rest : List Oper} {g g0 : Ghost} {L RL : Own} {Γ : TS} {K : TS → Prop} {l : List Oper}
variable {d : Nat} {ty : TypeId} {pos : String} {after : Array Edge} {guard : Option (Nat × Bool)}
theorem opv_sliceTo {t E : Nat} {te ee : TE} {x y : Operand} {b n cap : Nat} {dst : Option Tmp} (k : Nat) (hx : ev ρ x = some (.slice (some ⟨b, 0, none⟩) n cap)) (hy : ev ρ y = some (.int .i64 (k : Int))) (hk : k ≤ cap)
  (ht : Xc (tb P) t = some te) (hd : te.td = .slice E) (he : Xc (tb P) E = some ee) :
  OpV P ⟨dst, .slice t x none (some y) none, ty, pos, after, guard⟩ ρ w (.slice (some ⟨b, 0, none⟩) k cap) := fun N ds a ha => by
 have hu := Zf ht hd
 simp only [execOp, Option.map_none, Option.map_some, Xe ha hx, Xe ha hy, Instr.sliceAt, Sem.run_bind, Xu w hu, Result.andThen_ok, Instr.slice, Instr.sliceBounds, Sem.run_pure]
 simp [Instr.sliceBound, asIntOf, hk, Yn w he, Addr.add]
theorem wl_sliceTo {t E : Nat} {te ee : TE} {x y : Operand} {b n cap : Nat} (k : Nat) (hx : ev ρ x = some (.slice (some ⟨b, 0, none⟩) n cap)) (hy : ev ρ y = some (.int .i64 (k : Int))) (hk : k ≤ cap)
  (ht : Xc (tb P) t = some te) (hd : te.td = .slice E) (he : Xc (tb P) E = some ee) (hn : Nat.blt d N = true) (hw : Xl ops ρ guard = some true)
  (h : WL P ro Qb N ds ops rest s ((d, .slice (some ⟨b, 0, none⟩) k cap) :: ρ) w) : WL P ro Qb N ds ops (⟨some d, .slice t x none (some y) none, ty, pos, after, guard⟩ :: rest) s ρ w :=
 Zb (opv_sliceTo k hx hy hk ht hd he) rfl hn hw h
theorem sg_sliceTo {t E : Nat} {te ee : TE} {x y : Operand} {b n cap : Nat} (k : Nat) (hx : ev (kn ops ⟨some d, .slice t x none (some y) none, ty, pos, after, guard⟩ Γ ρ) x = some (.slice (some ⟨b, 0, none⟩) n cap))
  (hy : ev (kn ops ⟨some d, .slice t x none (some y) none, ty, pos, after, guard⟩ Γ ρ) y = some (.int .i64 (k : Int))) (hk : k ≤ cap)
  (ht : Xc (tb P) t = some te) (hd : te.td = .slice E) (he : Xc (tb P) E = some ee) (hw : Xl ops (kn ops ⟨some d, .slice t x none (some y) none, ty, pos, after, guard⟩ Γ ρ) guard = some true)
  (h : Xm P ro N ds ops g0 L ρ l ((some d, .known (.slice (some ⟨b, 0, none⟩) k cap)) :: Γ) RL K) : Xm P ro N ds ops g0 L ρ (⟨some d, .slice t x none (some y) none, ty, pos, after, guard⟩ :: l) Γ RL K :=
 sg_v rfl hw (fun _ _ _ _ _ => opv_sliceTo k hx hy hk ht hd he) h
theorem opv_ixS {t e : Nat} {x ix : Operand} {b n cap : Nat} {k : IntKind} {te ee : TE} {dst : Option Tmp} (j sz : Nat) (hx : ev ρ x = some (.slice (some ⟨b, 0, none⟩) n cap)) (hi : ev ρ ix = some (.int k (j : Int)))
  (ht : Xc (tb P) t = some te) (hd : te.td = .slice e) (he : Xc (tb P) e = some ee) (h1 : j < n) (hz : Nat.beq ee.zs.length sz = true) :
  OpV P ⟨dst, .indexAddr t x ix, ty, pos, after, guard⟩ ρ w (.pointer (some ⟨b, j * sz, none⟩)) := by
 have := opv_ix (w := w) (dst := dst) (ty := ty) (pos := pos) (after := after) (guard := guard) hx hi ht hd he (by omega) (by omega) ⟨b, 0, rfl⟩
 have hz' := Nat.eq_of_beq_eq_true hz
 simpa [Zj, hz'] using this
theorem wl_ixS {t e : Nat} {x ix : Operand} {b n cap : Nat} {k : IntKind} {te ee : TE} (j sz : Nat) (hx : ev ρ x = some (.slice (some ⟨b, 0, none⟩) n cap)) (hi : ev ρ ix = some (.int k (j : Int)))
  (ht : Xc (tb P) t = some te) (hd : te.td = .slice e) (he : Xc (tb P) e = some ee) (h1 : j < n) (hz : Nat.beq ee.zs.length sz = true) (hn : Nat.blt d N = true) (hw : Xl ops ρ guard = some true)
  (h : WL P ro Qb N ds ops rest s ((d, .pointer (some ⟨b, j * sz, none⟩)) :: ρ) w) : WL P ro Qb N ds ops (⟨some d, .indexAddr t x ix, ty, pos, after, guard⟩ :: rest) s ρ w :=
 Zb (opv_ixS j sz hx hi ht hd he h1 hz) rfl hn hw h
omit [Tabbed P] in
theorem wl_arK {op : BinOp} {t t2 : Nat} {x y : Operand} {a b : Int} (c : Int) (hx : ev ρ x = some (.int .i64 a)) (hy : ev ρ y = some (.int .i64 b)) (ho : Qn op a b = some c) (hr : -9223372036854775808 ≤ c ∧ c ≤ 9223372036854775807)
  (hn : Nat.blt d N = true) (hw : Xl ops ρ guard = some true)
  (h : WL P ro Qb N ds ops rest s ((d, .int .i64 c) :: ρ) w) : WL P ro Qb N ds ops (⟨some d, .binOp op t x y t2, ty, pos, after, guard⟩ :: rest) s ρ w := wl_ar hx hy ho hr hn hw h
omit [Tabbed P] in
theorem sg_arK {op : BinOp} {t t2 : Nat} {x y : Operand} {a b : Int} (c : Int) (hx : ev (kn ops ⟨some d, .binOp op t x y t2, ty, pos, after, guard⟩ Γ ρ) x = some (.int .i64 a)) (hy : ev (kn ops ⟨some d, .binOp op t x y t2, ty, pos, after, guard⟩ Γ ρ) y = some (.int .i64 b))
  (ho : Qn op a b = some c) (hr : -9223372036854775808 ≤ c ∧ c ≤ 9223372036854775807) (hw : Xl ops (kn ops ⟨some d, .binOp op t x y t2, ty, pos, after, guard⟩ Γ ρ) guard = some true)
  (h : Xm P ro N ds ops g0 L ρ l ((some d, .known (.int .i64 c)) :: Γ) RL K) : Xm P ro N ds ops g0 L ρ (⟨some d, .binOp op t x y t2, ty, pos, after, guard⟩ :: l) Γ RL K := sg_ar hx hy ho hr hw h
end
theorem pred_ar {n : Nat} (h : 0 < n) : Qn .sub (n : Int) 1 = some ((n - 1 : Nat) : Int) := by
 simp only [Qn]
 congr 1
 omega
theorem OwnS.cut {E sz b n cap : Nat} {cs cs' pad c : List Value} (h1 : cs = cs' ++ c) (hc : c.length = sz) (hn : 0 < n) (h2 : cs.length = n * sz) (h3 : (cs ++ pad).length = cap * sz) (h4 : n ≤ cap) :
  OwnS E sz (.slice (some ⟨b, 0, none⟩) (n - 1) cap) (n - 1) cs' [(b, Xa (cs ++ pad) E)] := by
 subst h1
 refine .inr ⟨b, cap, c ++ pad, rfl, ?_, ?_, by omega, by simp⟩
 ·rw [List.length_append, hc] at h2
  have : n * sz = (n - 1) * sz + sz := by rw [← Nat.succ_mul]; congr 1; omega
  omega
 ·simpa using h3
end
section
open Go.RowKit
def OwnO (E sz : Nat) (v : Value) (n : Nat) (cs : List Value) (H : Own) : Prop :=
 (v = .slice none 0 0 ∧ n = 0 ∧ cs = [] ∧ H = []) ∨
 ∃ b off cap L, v = .slice (some ⟨b, off, none⟩) n cap ∧ H = [(b, Xa L E)] ∧ off + cap * sz ≤ L.length ∧ n ≤ cap ∧ cs.length = n * sz ∧ ∀ j u, cs[j]? = some u → L[off + j]? = some u
theorem OwnS.toO {E sz : Nat} {v : Value} {n : Nat} {cs : List Value} {H : Own} (h : OwnS E sz v n cs H) : OwnO E sz v n cs H := by
 rcases h with h | ⟨b, cap, pad, rfl, h1, h2, h3, rfl⟩
 ·exact .inl h
 ·refine .inr ⟨b, 0, cap, cs ++ pad, rfl, rfl, by omega, h3, h1, fun j u e => ?_⟩;rw [Nat.zero_add, List.getElem?_append_left (List.getElem?_eq_some_iff.1 e).1];exact e
theorem OwnO.form {E sz : Nat} {v : Value} {n : Nat} {cs : List Value} {H : Own} (h : OwnO E sz v n cs H) : ∃ a cap, v = .slice a n cap := by
 rcases h with ⟨rfl, rfl, _, _⟩ | ⟨b, off, cap, L, rfl, _⟩
 ·exact ⟨none, 0, rfl⟩
 ·exact ⟨_, cap, rfl⟩
theorem OwnO.one {E sz : Nat} {v : Value} {n : Nat} {cs : List Value} {H : Own} (h : OwnO E sz v n cs H) : v.oneCell' = true := by
 obtain ⟨a, cap, rfl⟩ := h.form; rfl
theorem OwnO.pos {E sz : Nat} {v : Value} {n : Nat} {cs : List Value} {H : Own} (h : OwnO E sz v n cs H) (hn : 0 < n) : ∃ b off cap L, v = .slice (some ⟨b, off, none⟩) n cap ∧ H = [(b, Xa L E)] ∧ off + cap * sz ≤ L.length ∧ n ≤ cap ∧ cs.length = n * sz ∧ ∀ j u, cs[j]? = some u → L[off + j]? = some u := by
 rcases h with ⟨_, h, _⟩ | h
 ·omega
 ·exact h
theorem setL_out : ∀ (vs l : List Value) (i j : Nat), j < i → (setL l i vs)[j]? = l[j]?
 | [], _, _, _, _ => rfl
 | v :: vs, l, i, j, h => by rw [setL, setL_out vs _ _ _ (by omega), List.getElem?_set_ne (by omega)]
theorem setL_in : ∀ (vs l : List Value) (i j : Nat) (u : Value), i + vs.length ≤ l.length → vs[j]? = some u → (setL l i vs)[i + j]? = some u
 | [], _, _, _, _, _, h => by simp at h
 | v :: vs, l, i, 0, u, hl, h => by
  simp only [List.length_cons] at hl
  simp at h
  subst h
  show (setL (l.set i v) (i + 1) vs)[i]? = some v
  rw [setL_out vs _ _ _ (Nat.lt_succ_self i), List.getElem?_set_self (by omega)]
 | v :: vs, l, i, j + 1, u, hl, h => by
  simp only [List.length_cons] at hl
  rw [setL, show i + (j + 1) = i + 1 + j by omega];exact setL_in vs _ _ _ _ (by simp; omega) (by simpa using h)
section
variable {P : Program} [Tabbed P] {w : World}
theorem run_appendO {t t2 E E2 : Nat} {te te2 ee : TE} {v : Value} {n : Nat} {cs : List Value} {H L : Own} {g : Ghost} {ax : Option Addr} {m cx : Nat} {ys : List Value} {ty : TypeId}
  (ht : Xc (tb P) t = some te) (hd : te.td = .slice E) (he : Xc (tb P) E = some ee) (ht2 : Xc (tb P) t2 = some te2) (hd2 : te2.td = .slice E2)
  (ho : OwnO E ee.zs.length v n cs H) (hs : St g w (H ++ L)) (hl : ys.length = m * ee.zs.length) (hx : Jy w ax ys) (hy : ys.all Value.oneCell' = true)
  (hb : Nat.ble ee.bytes 1024 = true) (hsz : Nat.blt 0 ee.zs.length = true) (hroom : n + m ≤ 4294967296) :
  ∃ v' w' H', (Builtin.append_ #[t, t2] ty #[v, .slice ax m cx]).run P w = .ok v' w' ∧ OwnO E ee.zs.length v' (n + m) (cs ++ ys) H' ∧ St g w' (H' ++ L) := by
 rcases ho with ⟨rfl, rfl, rfl, rfl⟩ | ⟨b, off, cap, l, rfl, rfl, q1, q2, q3, q4⟩
 ·obtain ⟨v', w', H', h1, h2, h3⟩ := Qv (ty := ty) (cx := cx) ht hd he ht2 hd2 (OwnS.nil E ee.zs.length) hs hl hx hy hb hsz hroom;exact ⟨v', w', H', h1, h2.toO, h3⟩
 ·have hu := Zf ht hd;have hu2 := Zf ht2 hd2;have hb' : ee.bytes ≤ 1024 := by simpa using hb
  have hsz' : 0 < ee.zs.length := by simpa using hsz
  have hnone : ax = none → ys = [] := fun e => by
   rcases hx with h | ⟨ad, h, _⟩
   ·exact h
   ·rw [e] at h; cases h
  obtain ⟨i, hi, hi1, hi2, hi3, hi4⟩ := Um he;have hold : Jy w (some ⟨b, off, none⟩) cs := .inr ⟨_, rfl, fun j u e => by rw [Yo]; exact hs.cellL List.mem_cons_self (q4 j u e)⟩
  by_cases hcap : n + m ≤ cap
  ·have hfit : off + n * ee.zs.length + ys.length ≤ l.length := by
    have := Nat.mul_le_mul_right ee.zs.length hcap;rw [Nat.add_mul] at this
    omega
   obtain ⟨w', hw1, hw2⟩ := run_storeL (P := P) (E := E) ys l (off + n * ee.zs.length) 0 w hs (fun v hv => List.all_eq_true.1 hy v hv) (by omega);rw [Nat.add_zero] at hw2
   refine ⟨.slice (some ⟨b, off, none⟩) (n + m) cap, w', [(b, Xa (setL l (off + n * ee.zs.length) ys) E)], ?_, .inr ⟨b, off, cap, _, rfl, rfl, by rw [setL_length]; exact q1, hcap, by rw [List.length_append, q3, hl, Nat.add_mul], fun j u e => ?_⟩, hw2⟩
   ·have hfc := Ui (P := P) (w := w) ax m cx m ee.zs.length ys hl hx hnone;simp [Builtin.append_, Xu w hu, Xu w hu2, Yn w he, run_lenOf, hcap, hfc, Yo, hw1]
   ·rw [List.getElem?_append] at e
    split at e
    ·rename_i hj;rw [setL_out _ _ _ _ (by omega)];exact q4 j u e
    ·rename_i hj;have := setL_in ys l (off + n * ee.zs.length) (j - cs.length) u hfit e
     rwa [show off + n * ee.zs.length + (j - cs.length) = off + j by omega] at this
  ·have hnc := nextslicecap_le (Nat.lt_of_not_le hcap)
   have hnb : ¬ Builtin.nextslicecap (n + m) cap * i.bytes > 2 ^ 48 := by
    have := Nat.mul_le_mul hnc hb';rw [hi2];have e : (2 : Nat) ^ 48 = 281474976710656 := by decide
    omega
   have hmax : ¬ (((n + m : Nat) : Int) > IntKind.i64.max ∧ i.bytes = 0) := by
    rintro ⟨h, _⟩;have : IntKind.i64.max = 9223372036854775807 := by decide
    omega
   obtain ⟨newCap, hnew, hcap2⟩ : ∃ nc, nc = (Question.appendCap (n + m) cap E).cut (w.tape w.drawn (.appendCap (n + m) cap E)) ∧ n + m ≤ nc := ⟨_, rfl, by simp [Question.cut]⟩
   have hf1 := Ui (P := P) (w := { w with drawn := w.drawn + 1 }) (some ⟨b, off, none⟩) n cap n ee.zs.length cs q3 (by rcases hold with h | ⟨ad, h, h'⟩; exact .inl h; exact .inr ⟨ad, h, h'⟩) (fun e => by cases e)
   have hf2 := Ui (P := P) (w := { w with drawn := w.drawn + 1 }) ax m cx m ee.zs.length ys hl (by rcases hx with h | ⟨ad, h, h'⟩; exact .inl h; exact .inr ⟨ad, h, h'⟩) hnone
   refine ⟨.slice (some ⟨w.heap.size, 0, none⟩) (n + m) newCap, { w with drawn := w.drawn + 1 }.alloc (Xa ((cs ++ ys) ++ (Builtin.zeroCells ee.zcells.toArray (newCap - (n + m))).toList) E), [(w.heap.size, Xa ((cs ++ ys) ++ (Builtin.zeroCells ee.zcells.toArray (newCap - (n + m))).toList) E)], ?_, OwnS.toO (.inr ⟨w.heap.size, newCap, (Builtin.zeroCells ee.zcells.toArray (newCap - (n + m))).toList, rfl, ?_, ?_, hcap2, rfl⟩), ?_⟩
   ·have hz : ∀ w : World, (zeroValue E).run P w = .ok ee.zero w := fun w => Vs w he
    simp only [Builtin.append_, List.getElem?_toArray, List.getElem?_cons_zero, List.getElem?_cons_succ, Sem.run_bind, Xu w hu, Xu w hu2, Yn w he, Result.andThen_ok, Sem.run_pure, Bool.false_eq_true, if_false, run_lenOf, Sem.run_ite, hcap,
     Kg w hi, hnb, run_choose, Question.forced, ← hnew, run_askRoom, hz, newRow, run_newObj, hi4]
    simp only [false_or, hmax, if_false, hnb, Result.andThen_ok, Kg _ hi, hf1, hf2];have e9 : ∀ (A : Array Value) (X Y : List Value), X.toArray ++ Y.toArray ++ A = (X ++ Y ++ A.toList).toArray := fun A X Y => by apply Array.ext'; simp
    simp only [Bool.not_false, if_true, Result.andThen_ok, e9, Xa, World.alloc]
   ·rw [List.length_append, q3, hl, Nat.add_mul]
   ·simp only [List.length_append, q3, hl, Array.length_toList, zeroCells_list, TE.zcells, List.size_toArray, List.length_map];rw [← Nat.add_mul, ← Nat.add_mul]
    congr 1
    omega
   ·exact hs.dropL.drew.alloc _
variable {ro : Option Nat} {Qb : Exit → Act → World → Prop} {N : Nat} {ds : List Deferred} {ops : Array Oper} {rest : List Oper} {s : List Fr} {ρ : Env}
variable {g : Ghost} {L : Own}
variable {d : Nat} {ty : TypeId} {pos : String} {after : Array Edge} {guard : Option (Nat × Bool)}
theorem wl_pushO {t E : Nat} {te ee : TE} {y : Operand} {v u : Value} {n d1 kx : Nat} {cs ys : List Value} {H : Own} {ty1 : TypeId} {pos1 : String} {after1 : Array Edge}
  (hs : St g w (H ++ L)) (ho : OwnO E ee.zs.length v n cs H) (hroom : n + 1 ≤ 4294967296) (hy : ev ρ y = some u) (hu : u.cells.toList = ys) (hv : Ye ρ kx = some v) (hd1 : Ye ρ d1 = none)
  (ht : Xc (tb P) t = some te) (hd : te.td = .slice E) (he : Xc (tb P) E = some ee) (hlen : ys.length = ee.zs.length)
  (hb : Nat.ble ee.bytes 1024 = true) (hsz : Nat.blt 0 ee.zs.length = true) (h1 : ys.all Value.oneCell' = true) (hz : Nat.ble (1 * ee.zs.length) 16777216 = true) (hn1 : Nat.blt d1 N = true) (hn : Nat.blt d N = true)
  (h : ∀ v' w' H', OwnO E ee.zs.length v' (n + 1) (cs ++ ys) H' → St g w' (H' ++ L) → WL P ro Qb N ds ops rest s ((d, v') :: ρ) w') :
  WL P ro Qb N ds ops (⟨some d1, .buildSlice t 1 #[(0, y)], ty1, pos1, after1, none⟩ :: ⟨some d, .call ⟨.builtin .append, #[.tmp kx, .tmp d1], #[t, t]⟩, ty, pos, after, none⟩ :: rest) s ρ w := by
 have hsz2 : u.cells.size = ee.zs.length := by rw [← hlen, ← hu, Array.length_toList]
 refine Ug (ps := [(0, y)]) (vs := [u]) (cs := ys) hs (by simp [evs, hy]) ht hd he (by simp [Vr, hsz2]) rfl hz (by simp [hu]) hn1 rfl ?_
 intro b w1 hs1
 have hs2 : St g w1 (H ++ ((b, Xa ys E) :: L)) := hs1.perm List.perm_middle
 have hne : Nat.beq kx d1 = false := by
  cases hb : Nat.beq kx d1 with
  | false => rfl
  | true => have := Nat.eq_of_beq_eq_true hb; subst this; rw [hd1] at hv; cases hv
 have hvx : ev ((d1, .slice (some ⟨b, 0, none⟩) 1 1) :: ρ) (.tmp kx) = some v := by simp only [ev, Ye, hne, cond_false]; exact hv
 have hcells : Jy w1 (some ⟨b, 0, none⟩) ys := .inr ⟨_, rfl, fun j q hq => by rw [Yo, Nat.zero_add]; exact hs1.cellL (List.mem_cons_self) hq⟩
 obtain ⟨v', w2, H', hr, ho', hs'⟩ := run_appendO (ty := ty) (m := 1) (cx := 1) ht hd he ht hd ho hs2 (by simpa using hlen) hcells h1 hb hsz hroom
 have hs3 : St g w2 (H' ++ L) := (hs'.perm List.perm_middle.symm).drop
 refine wl_do (R := fun u w' => u = v' ∧ w' = w2) rfl hn rfl (fun a ha => ⟨v', w2, ?_, rfl, rfl⟩) ?_
 ·have hvy : ev ((d1, Value.slice (some ⟨b, 0, none⟩) 1 1) :: ρ) (.tmp d1) = some (.slice (some ⟨b, 0, none⟩) 1 1) := by simp [ev, Ye]
  simp [execOp, resolve, invoke, builtin, Xe ha hvx, Xe ha hvy, hr]
 ·rintro u' w' ⟨rfl, rfl⟩;refine fun a ha => h u' w' H' ho' hs3 a (ha.sub fun k q hk => ?_)
  simp only [Ye, Bool.cond_eq_ite] at hk ⊢
  split at hk
  ·rename_i e; rw [if_pos e]; exact hk
  ·rename_i e;rw [if_neg e];have hk2 : ¬ Nat.beq k d1 = true := fun e' => by have := Nat.eq_of_beq_eq_true e'; subst this; rw [hd1] at hk; cases hk
   rw [if_neg hk2];exact hk
theorem wl_tail {t E : Nat} {te ee : TE} {x : Operand} {b off n cap : Nat} {c : Value} {cs l : List Value} (hx : ev ρ x = some (.slice (some ⟨b, off, none⟩) n cap)) (hn0 : 1 ≤ n)
  (q1 : off + cap * 1 ≤ l.length) (q2 : n ≤ cap) (q3 : (c :: cs).length = n * 1) (q4 : ∀ j u, (c :: cs)[j]? = some u → l[off + j]? = some u)
  (ht : Xc (tb P) t = some te) (hd : te.td = .slice E) (he : Xc (tb P) E = some ee) (hz : Nat.beq ee.zs.length 1 = true) (hn : Nat.blt d N = true) (hw : Xl ops ρ guard = some true)
  (h : ∀ v', OwnO E 1 v' (n - 1) cs [(b, Xa l E)] → WL P ro Qb N ds ops rest s ((d, v') :: ρ) w) :
  WL P ro Qb N ds ops (⟨some d, .slice t x (some (.const (.int .i64 1))) none none, ty, pos, after, guard⟩ :: rest) s ρ w := by
 have hz' := Nat.eq_of_beq_eq_true hz
 refine wl_slice (l := 1) (h' := n) hx rfl rfl (by omega) q2 ht hd he hn hw (h _ ?_)
 simp only [List.length_cons] at q3
 by_cases hc : cap = 1
 ·subst hc;have hcs : cs = [] := List.eq_nil_of_length_eq_zero (by omega);subst hcs;refine .inr ⟨b, off, 0, l, ?_, rfl, by omega, by omega, by simp; omega, fun j u e => by simp at e⟩;have : n = 1 := by omega
  subst this;rfl
 ·refine .inr ⟨b, off + 1, cap - 1, l, ?_, rfl, by omega, by omega, by omega, fun j u e => ?_⟩
  ·rw [if_neg (by simpa using hc)];simp [hz', Yo]
  ·have := q4 (j + 1) u (by simpa using e)
   rwa [show off + (j + 1) = off + 1 + j by omega] at this
end
end
section
open Go.RowKit
theorem all_range_eqB : ∀ (xs ys : List Bool), xs.length = ys.length → ((List.range xs.length).all fun i => xs.getD i false == ys.getD i false) = (xs == ys)
 | [], [], _ => rfl
 | x :: xs, y :: ys, h => by
  have ih := all_range_eqB xs ys (by simpa using h);rw [List.length_cons, List.range_succ_eq_map, List.all_cons, List.all_map];simp only [List.getD_cons_zero, Function.comp_def, List.getD_cons_succ, ih];simp [List.cons_beq_cons]
 | [], _ :: _, h => by simp at h
 | _ :: _, [], h => by simp at h
section
variable {P : Program} [Tabbed P] {w : World}
theorem und_bool {t : Nat} {x : TE} (h : Xc (tb P) t = some x) (hd : x.td = .bool) : P.underlying t = some .bool := by
 obtain ⟨d, h1, h2⟩ := tab_und h
 rw [hd] at h2
 cases d <;> simp [TD.fits] at h2
 rw [h1]
theorem run_equalBools {t e n : Nat} {te ee : TE} (ht : Xc (tb P) t = some te) (hd : te.td = .array n e) (he : Xc (tb P) e = some ee) (hed : ee.td = .bool) (hez : Nat.beq ee.zs.length 1 = true) (xs ys : List Bool) (hx : xs.length = n) (hy : ys.length = n) (d : Nat) :
  (Op.equalIn (d + 2) t (.agg (xs.map .bool).toArray) (.agg (ys.map .bool).toArray)).run P w = .ok (xs == ys) w := by
 have hu := und_array ht hd
 have hue := und_bool he hed
 have hz' := Nat.eq_of_beq_eq_true hez
 rw [← all_range_eqB xs ys (hx.trans hy.symm), hx, List.range_eq_range', Op.equalIn]
 simp only [Sem.run_bind, Xu w hu, Result.andThen_ok, Yn w he, hz', Std.Legacy.Range.forIn_eq_forIn_range', Std.Legacy.Range.size, Nat.sub_zero, Nat.add_sub_cancel, Nat.div_one]
 have hl : ∀ i ∈ List.range' 0 n 1, i < n := fun i hi => by simpa using (List.mem_range'_1.1 hi).2
 generalize List.range' 0 n 1 = l at hl ⊢
 induction l with
 | nil => simp
 | cons i l ih =>
  have hi : i < n := hl i (by simp)
  have px : (part e (xs.map Value.bool).toArray (i * 1)).run P w = .ok (.bool (xs.getD i false)) w := by
   simp [part, run_agg w he, hed, TD.isAgg, List.getD, List.getElem?_eq_getElem (show i < xs.length by omega)]
  have py : (part e (ys.map Value.bool).toArray (i * 1)).run P w = .ok (.bool (ys.getD i false)) w := by
   simp [part, run_agg w he, hed, TD.isAgg, List.getD, List.getElem?_eq_getElem (show i < ys.length by omega)]
  have pe : (Op.equalIn (d + 1) e (.bool (xs.getD i false)) (.bool (ys.getD i false))).run P w = .ok (xs.getD i false == ys.getD i false) w := by
   simp [Op.equalIn, Xu w hue]
  simp only [List.forIn_cons, Sem.run_bind, px, py, pe, Result.andThen_ok, List.all_cons]
  cases hb : (xs.getD i false == ys.getD i false)
  ·simp
  ·simp only [Bool.not_true, Bool.false_eq_true, if_false, Sem.run_pure, Result.andThen_ok, Bool.true_and];exact ih fun j hj => hl j (by simp [hj])
variable {ro : Option Nat} {Qb : Exit → Act → World → Prop} {N : Nat} {ds : List Deferred} {ops : Array Oper} {rest : List Oper} {s : List Fr} {ρ : Env}
variable {g : Ghost} {L : Own}
variable {d : Nat} {ty : TypeId} {pos : String} {after : Array Edge} {guard : Option (Nat × Bool)}
theorem wl_neqBools {t e n t2 : Nat} {te ee : TE} {x y : Operand} {xs ys : List Bool} (hx : ev ρ x = some (.agg (xs.map .bool).toArray)) (hy : ev ρ y = some (.agg (ys.map .bool).toArray)) (hlx : xs.length = n) (hly : ys.length = n)
  (ht : Xc (tb P) t = some te) (hd : te.td = .array n e) (he : Xc (tb P) e = some ee) (hed : ee.td = .bool) (hez : Nat.beq ee.zs.length 1 = true) (hgd : P.eqGuardType P.depth t = false) (hn : Nat.blt d N = true) (hw : Xl ops ρ guard = some true)
  (h : WL P ro Qb N ds ops rest s ((d, .bool (!(xs == ys))) :: ρ) w) :
  WL P ro Qb N ds ops (⟨some d, .binOp .neq t x y t2, ty, pos, after, guard⟩ :: rest) s ρ w := by
 refine Zb (fun N' ds' ac ha => ?_) rfl hn hw h
 have he' : (Op.equal t (.agg (xs.map .bool).toArray) (.agg (ys.map .bool).toArray)).run P w = .ok (xs == ys) w := run_equalBools ht hd he hed hez xs ys hlx hly 9998
 simp only [execOp, Xe ha hx, Xe ha hy, eqGuard, binOp, Sem.run_bind, Sem.run_pure, Result.andThen_ok, run_program, hgd, Bool.not_false, if_true, Bool.not_true, Bool.false_eq_true, if_false, he']
theorem wl_lookG {t K E : Nat} {te ke ee : TE} {r : Nat} {m : AMap} {o : Obj} {k : Int} {x y : Operand} {u : Value} (hs : St g w L) (hgm : g.heap r = some o) (hm : Jb m o) (hx : ev ρ x = some (.map (some r))) (hy : ev ρ y = some (.int .i64 k))
  (ht : Xc (tb P) t = some te) (hd : te.td = .map K E) (hk : Xc (tb P) K = some ke) (hkd : ke.td = .int .i64) (he : Xc (tb P) E = some ee) (hu : (Zt m k).getD ee.zero = u) (hn : Nat.blt d N = true) (hw : Xl ops ρ guard = some true)
  (h : WL P ro Qb N ds ops rest s ((d, u) :: ρ) w) :
  WL P ro Qb N ds ops (⟨some d, .lookup t x y false, ty, pos, after, guard⟩ :: rest) s ρ w :=
 Zb (by have := opv_lookup (w := w) (ok := false) (dst := some d) (ty := ty) (pos := pos) (after := after) (guard := guard) hx hy ht hd hk hkd he (hs.imm _ _ hgm) hm; simpa [hu] using this) rfl hn hw h
theorem wl_ins {t K E : Nat} {te ke : TE} {r : Nat} {m : AMap} {o : Obj} {k : Int} {v : Value} {x y z : Operand} (hs : St g w L) (j : Nat) (hm : Jb m o) (hx : ev ρ x = some (.map (some r))) (hy : ev ρ y = some (.int .i64 k)) (hz : ev ρ z = some v) (hj : L[j]? = some (r, o))
  (ht : Xc (tb P) t = some te) (hd : te.td = .map K E) (hk : Xc (tb P) K = some ke) (hkd : ke.td = .int .i64) (hw : Xl ops ρ guard = some true)
  (h : ∀ o' w', Jb (aset m k v) o' → St g w' (L.set j (r, o')) → WL P ro Qb N ds ops rest s ρ w') :
  WL P ro Qb N ds ops (⟨none, .insert t x y z, ty, pos, after, guard⟩ :: rest) s ρ w := by
 intro a ha
 have h1 := Kw (pos := pos) (ty := ty) (after := after) (guard := guard) (ops := ops) hs j hm hx hy hz hj ht hd hk hkd hw h a ha
 simp only [wpListIn] at h1 ⊢
 rw [if_pos (Uw (o := ⟨none, .mapUpdate t x y z, ty, pos, after, guard⟩) ha hw)] at h1
 rw [if_pos (Uw (o := ⟨none, .insert t x y z, ty, pos, after, guard⟩) ha hw)]
 have h2 := h1.2
 rw [Jq (o := ⟨none, .mapUpdate t x y z, ty, pos, after, guard⟩) (fun c e => by cases e)] at h2
 refine ⟨Vb a w, ?_⟩
 rw [Jq (o := ⟨none, .insert t x y z, ty, pos, after, guard⟩) (fun c e => by cases e)]
 exact h2
end
end
section
open Go.RowKit
section
variable {P : Program} [Tabbed P] {ro : Option Nat} {N : Nat} {ds : List Deferred} {ops : Array Oper} {g0 : Ghost} {L RL : Own} {ρ : Env} {Γ : TS} {K : TS → Prop} {l : List Oper}
variable {d : Nat} {ty : TypeId} {pos : String} {after : Array Edge} {guard : Option (Nat × Bool)}
theorem sg_append {t t2 E E2 : Nat} {te te2 ee : TE} {x y : Operand} {v : Value} {n m cx : Nat} {ax : Option Addr} {cs ys : List Value} (R RL' : Own) (hRL : RL = R ++ RL') (ho : OwnS E ee.zs.length v n cs R) (hsrc : ys = [] ∨ ∃ b o, ax = some ⟨b, o, none⟩ ∧ Lies g0 b o ys) (hl : ys.length = m * ee.zs.length) (hroom : n + m ≤ 4294967296)
  (hx : ev (kn ops ⟨some d, .call ⟨.builtin .append, #[x, y], #[t, t2]⟩, ty, pos, after, guard⟩ Γ ρ) x = some v) (hy : ev (kn ops ⟨some d, .call ⟨.builtin .append, #[x, y], #[t, t2]⟩, ty, pos, after, guard⟩ Γ ρ) y = some (.slice ax m cx))
  (ht : Xc (tb P) t = some te) (hd : te.td = .slice E) (he : Xc (tb P) E = some ee) (ht2 : Xc (tb P) t2 = some te2) (hd2 : te2.td = .slice E2) (hb : Nat.ble ee.bytes 1024 = true) (hsz : Nat.blt 0 ee.zs.length = true) (h1 : ys.all Value.oneCell' = true)
  (hw : Xl ops (kn ops ⟨some d, .call ⟨.builtin .append, #[x, y], #[t, t2]⟩, ty, pos, after, guard⟩ Γ ρ) guard = some true)
  (h : Xm P ro N ds ops g0 L ρ l ((some d, up (psiS E ee.zs.length (n + m) (cs ++ ys))) :: Γ) RL' K) :
  Xm P ro N ds ops g0 L ρ (⟨some d, .call ⟨.builtin .append, #[x, y], #[t, t2]⟩, ty, pos, after, guard⟩ :: l) Γ RL K := by
 refine ⟨R, RL', _, hRL, Kf _, po_of (px_do rfl hw fun g w X hg hs => ?_), h⟩
 have hc : Jy w ax ys := by
  rcases hsrc with h | ⟨b, o, rfl, h⟩
  ·exact .inl h
  ·exact (h.mono hg).cellsAt hs
 obtain ⟨v', w1, H', hr, ho', hs'⟩ := Qv (ty := ty) (m := m) (cx := cx) ht hd he ht2 hd2 ho hs hl hc h1 hb hsz hroom
 refine ⟨v', w1, g, H', fun N ds a ha => ?_, Ghost.rfl', hs', g, Ghost.rfl', ho'⟩
 simp [execOp, resolve, invoke, builtin, Xe ha hx, Xe ha hy, hr]
end
section
variable {P : Program} [Tabbed P] {ro : Option Nat} {Qb : Exit → Act → World → Prop} {N : Nat} {ds : List Deferred} {ops : Array Oper} {rest : List Oper} {s : List Fr} {ρ : Env} {w : World}
variable {d : Nat} {ty : TypeId} {pos : String} {after : Array Edge} {guard : Option (Nat × Bool)}
theorem wl_buildA0 {t m e : Nat} {te ee : TE} (ht : Xc (tb P) t = some te) (hd : te.td = .array m e) (he : Xc (tb P) e = some ee) (hn : Nat.blt d N = true) (hw : Xl ops ρ guard = some true)
  (h : WL P ro Qb N ds ops rest s ((d, .agg te.zcells.toArray) :: ρ) w) : WL P ro Qb N ds ops (⟨some d, .build t #[], ty, pos, after, guard⟩ :: rest) s ρ w := by
 refine Zb (fun N' ds' a ha => ?_) rfl hn hw h
 obtain ⟨i, hi, hi1, hi2, hi3, hi4⟩ := Um ht
 simp [execOp, Instr.build, Vs w ht, hi4, Xu w (und_array ht hd), Yn w he, Instr.fill]
theorem wl_buildA {t m e : Nat} {te ee : TE} {ps : List (Nat × Operand)} {vs : List Value} {cs : List Value} (hv : evs ρ (ps.map (·.2)) = some vs) (ht : Xc (tb P) t = some te) (hd : te.td = .array m e) (he : Xc (tb P) e = some ee)
  (hq : Vr ee.zs.length 0 ((ps.map (·.1)).zip vs) = true) (hm : te.zcells.length = ((ps.map (·.1)).zip vs).length * ee.zs.length) (hc : (((ps.map (·.1)).zip vs).flatMap fun q => q.2.cells.toList) = cs) (hn : Nat.blt d N = true) (hw : Xl ops ρ guard = some true)
  (h : WL P ro Qb N ds ops rest s ((d, .agg cs.toArray) :: ρ) w) : WL P ro Qb N ds ops (⟨some d, .build t ps.toArray, ty, pos, after, guard⟩ :: rest) s ρ w := by
 subst hc
 refine Zb (fun N' ds' a ha => ?_) rfl hn hw h
 obtain ⟨i, hi, hi1, hi2, hi3, hi4⟩ := Um ht
 have e3 : (ps.toArray.map fun (i, x) => (i, a.eval x)) = ((ps.map (·.1)).zip vs).toArray := by
  apply Array.ext';rw [← evs_parts ha hv];simp
 have hf := fill_seq ee.zs.length ((ps.map (·.1)).zip vs) 0 [] te.zcells hq (by simp) hm
 simp only [List.nil_append] at hf
 simp only [execOp]
 rw [e3]
 simp [Instr.build, Vs w ht, hi4, Xu w (und_array ht hd), Yn w he, hf]
end
end
section
open Go.RowKit
section
variable {P : Program} [Tabbed P] {ro : Option Nat} {Qb : Exit → Act → World → Prop} {N : Nat} {ds : List Deferred} {s : List Fr} {ρ : Env} {w : World}
def incr3 (r2 tj tk ti y0 y1 y2 : Nat) (p0 p1 p2 : String) (e0 e1 e2 : Array Edge) (t1 t2 : Nat) : Code :=
 .region r2 [⟨some tj, .move (.tmp ti), y0, p0, e0, none⟩, ⟨some tk, .binOp .add t1 (.tmp tj) (.const (.int .i64 1)) t2, y1, p1, e1, none⟩, ⟨some ti, .assign (.tmp tk), y2, p2, e2, none⟩].toArray false
theorem Ub {σ : Type} {b0 b1 r1 r2 tc ti tj tk t1 t2 y0 y1 y2 : Nat} {hd : List Oper} {p0 p1 p2 : String} {e0 e1 e2 : Array Edge} {body : Code}
    (n : Nat) (ρI : Nat → σ → Env) (J : Nat → σ → World → Prop) (x0 : σ)
    (hρ : subs ((ti, .int .i64 (0 : Int)) :: ρI 0 x0) ρ) (h0 : J 0 x0 w)
    (hhead : ∀ i x w s', i ≤ n → J i x w → WK P ro Qb N ds s' ((tc, .bool (decide ((i : Int) < (n : Int)))) :: (ti, .int .i64 (i : Int)) :: ρI i x) w → WL P ro Qb N ds hd.toArray hd s' ((ti, .int .i64 (i : Int)) :: ρI i x) w)
    (hbody : ∀ i x w, i < n → J i x w → WC P ro Qb N ds body (.blk b1 :: forS N ds (incr3 r2 tj tk ti y0 y1 y2 p0 p1 p2 e0 e1 e2 t1 t2) b0 ti n ρI J i x s) ((tc, .bool true) :: (ti, .int .i64 (i : Int)) :: ρI i x) w)
    (hdone : ∀ x w, J n x w → WK P ro Qb N ds s ((tc, .bool false) :: (ti, .int .i64 (n : Int)) :: ρI n x) w) :
    WC P ro Qb N ds (.block b0 (.loop (.seq (.seq (.region r1 hd.toArray false) (.cond (.tmp tc) .skip (.exit b0))) (.seq (.block b1 body) (incr3 r2 tj tk ti y0 y1 y2 p0 p1 p2 e0 e1 e2 t1 t2))))) s ρ w := by
  refine Yc (Ke (forE ti ρI) (forJ n J) (fun p => n - p.1) (0, x0) hρ ⟨Nat.zero_le _, h0⟩ ?_);rintro ⟨i, x⟩ w ⟨hle, hj⟩;refine wc_seq (wc_seq (Ko (hhead i x w _ hle hj ?_)));refine Zl ?_
  refine Xi (b := decide ((i : Int) < (n : Int))) (by simp [ev, Ye, Nat.beq_refl]) (fun ht => ?_) (fun hf => ?_)
  · have hlt : i < n := by simpa using ht
    rw [ht];exact Xq (Zl (wc_seq (Yc (hbody i x w hlt hj))))
  · have hge : i = n := by have : ¬ (i < n) := by simpa using hf
                           omega
    subst hge;rw [hf];refine Zm (s' := s) ?_ (hdone x w hj)
    show popTo b0 (.seq _ :: .rnd _ :: .blk b0 :: s) = some s
    simp [popTo, Nat.beq_refl]
theorem Xs {σ : Type} {b0 r2 tj tk ti t1 t2 y0 y1 y2 n i : Nat} {p0 p1 p2 : String} {e0 e1 e2 : Array Edge} {ρI : Nat → σ → Env} {J : Nat → σ → World → Prop} {x : σ} (x' : σ) (hlt : i < n) (hn : n ≤ 4611686018427387904) (hj : J (i + 1) x' w)
  (hi : Ye ρ ti = some (.int .i64 (i : Int))) (hti : Nat.blt ti N = true) (htj : Nat.blt tj N = true) (htk : Nat.blt tk N = true)
  (hρ : subs (ρI (i + 1) x') ((ti, .int .i64 ((i + 1 : Nat) : Int)) :: (tk, .int .i64 ((i + 1 : Nat) : Int)) :: (tj, .int .i64 (i : Int)) :: ρ)) :
  WK P ro Qb N ds (forS N ds (incr3 r2 tj tk ti y0 y1 y2 p0 p1 p2 e0 e1 e2 t1 t2) b0 ti n ρI J i x s) ρ w := by
 refine Zl (Ko ?_)
 refine wl_p (v := .int .i64 (i : Int)) (by simpa [pureV, ev] using hi) htj rfl ?_
 refine wl_ar (a := i) (b := 1) (c := ((i + 1 : Nat) : Int)) (by simp [ev, Ye, Nat.beq_refl]) rfl (by simp [Qn]) (by omega) htk rfl ?_
 refine wl_p (v := .int .i64 ((i + 1 : Nat) : Int)) (by simp [pureV, ev, Ye, Nat.beq_refl]) hti rfl ?_
 exact Xn (Uh (ρI := forE ti ρI) (i + 1, x') ⟨by simp [Ye, Nat.beq_refl], hρ⟩ ⟨by show i + 1 ≤ n; omega, hj⟩ (by show n - (i + 1) < n - i; omega))
variable {ops : Array Oper} {rest : List Oper} {g g0 : Ghost} {L RL : Own} {Γ : TS} {K : TS → Prop} {l : List Oper}
variable {d : Nat} {ty : TypeId} {pos : String} {after : Array Edge} {guard : Option (Nat × Bool)}
theorem opv_build {t : Nat} {te : TE} {fs : List (Nat × Nat)} {ps : List (Nat × Operand)} {vs : List Value} {r : List Value} {dst : Option Tmp} (hv : evs ρ (ps.map (·.2)) = some vs) (ht : Xc (tb P) t = some te) (hd : te.td = .struct fs)
    (hb : buildL (tb P) t te.zcells ((ps.map (·.1)).zip vs) = some r) (hfs : fs.all (fun f => (Xc (tb P) f.2).isSome) = true) :
    OpV P ⟨dst, .build t ps.toArray, ty, pos, after, guard⟩ ρ w (.agg r.toArray) := by
  intro N' ds' a ha;obtain ⟨l, hl1, hl2⟩ := Qs ht hd;obtain ⟨i, hi, hi1, hi2, hi3, hi4⟩ := Um ht
  have e3 : (ps.toArray.map fun (i, x) => (i, a.eval x)) = ((ps.map (·.1)).zip vs).toArray := by
    apply Array.ext';rw [← evs_parts ha hv];simp
  have places : ∀ (fl : List Field), (∀ f ∈ fl, (Xc (tb P) f.type).isSome = true) → ∃ pl : List (Nat × Nat), (fl.mapM fun f => do pure (f.offset, ← sizeOf f.type) : Sem (List (Nat × Nat))).run P w = .ok pl w ∧
      ∀ (j : Nat) (f : Field) (y : TE), fl[j]? = some f → Xc (tb P) f.type = some y → pl[j]? = some (f.offset, y.zs.length) := by
    intro fl
    induction fl with
    | nil => intro _; exact ⟨[], by simp, fun j f y hj => by simp at hj⟩
    | cons f fl ih =>
      intro hall;obtain ⟨pl, h1, h2⟩ := ih (fun f hf => hall f (List.mem_cons_of_mem _ hf));obtain ⟨y, hy⟩ := Option.isSome_iff_exists.1 (hall f List.mem_cons_self)
      refine ⟨(f.offset, y.zs.length) :: pl, ?_, ?_⟩
      · simp only [List.mapM_cons, Sem.run_bind, Yn w hy, Result.andThen_ok, Sem.run_pure, h1]
      · intro j f' y' hj hy';cases j with
        | zero => simp at hj; subst hj; rw [hy] at hy'; cases hy'; simp
        | succ j => simpa using h2 j f' y' (by simpa using hj) hy'
  obtain ⟨pl, hp1, hp2⟩ := places l.toList (fun f hf => by
    have : (f.offset, f.type) ∈ fs := by rw [← hl2]; exact List.mem_map.2 ⟨f, hf, rfl⟩
    exact List.all_eq_true.1 hfs _ this)
  have hfill := buildL_fill ht hd pl.toArray (fun j off y hf => by
    obtain ⟨l', f, g1, g2, g3, g4⟩ := fieldAt_spec hf;rw [hl1] at g1
    cases g1;have := hp2 j f y (by simpa using g2) g4;rw [g3] at this
    simpa using this) _ _ _ hb
  have hmap : (l.mapM fun f => do pure (f.offset, ← sizeOf f.type) : Sem (Array (Nat × Nat))).run P w = .ok pl.toArray w := by
    rw [Array.mapM_eq_mapM_toList];simp only [Sem.run_map, hp1, Result.andThen_ok]
  simp only [execOp, Instr.build];rw [e3];simp only [Sem.run_bind, Vs w ht, Result.andThen_ok, hi4, Xu w hl1, hmap];simp only [hfill, Sem.run_pure, Result.andThen_ok]
theorem sg_build {t : Nat} {te : TE} {fs : List (Nat × Nat)} {ps : List (Nat × Operand)} {vs : List Value} {r : List Value} (hv : evs (kn ops ⟨some d, .build t ps.toArray, ty, pos, after, guard⟩ Γ ρ) (ps.map (·.2)) = some vs) (ht : Xc (tb P) t = some te) (hd : te.td = .struct fs)
  (hb : buildL (tb P) t te.zcells ((ps.map (·.1)).zip vs) = some r) (hfs : fs.all (fun f => (Xc (tb P) f.2).isSome) = true) (hw : Xl ops (kn ops ⟨some d, .build t ps.toArray, ty, pos, after, guard⟩ Γ ρ) guard = some true)
  (h : Xm P ro N ds ops g0 L ρ l ((some d, .known (.agg r.toArray)) :: Γ) RL K) : Xm P ro N ds ops g0 L ρ (⟨some d, .build t ps.toArray, ty, pos, after, guard⟩ :: l) Γ RL K :=
 sg_v rfl hw (fun _ _ _ _ _ => opv_build hv ht hd hb hfs) h
end
end
section
open Go.RowKit
section
variable {P : Program} [Tabbed P] {ro : Option Nat} {N : Nat} {ds : List Deferred} {ops : Array Oper} {g0 : Ghost} {L RL : Own} {ρ : Env} {Γ : TS} {K : TS → Prop} {l : List Oper}
variable {d : Nat} {ty : TypeId} {pos : String} {after : Array Edge} {guard : Option (Nat × Bool)}
def psiBoxP (sz : Nat) (ψ : Ghost → List Value → Prop) : Ghost → Own → Value → Prop := fun g L v => ∃ b ys, v = .slice (some ⟨b, 0, none⟩) 1 1 ∧ L = [] ∧ Lies g b 0 ys ∧ ψ g ys ∧ ys.length = sz ∧ ys.all Value.oneCell' = true
theorem sg_oneW {t E ky : Nat} {te ee : TE} {Φ : Ghost → Value → Own → Prop} {ψ : Ghost → List Value → Prop} (hψ : ∀ g g' ys, g ≤ g' → ψ g ys → ψ g' ys)
  (hy : Ue Γ ρ ky = some (.pred Φ)) (hm : memB ky ((⟨some d, .buildSlice t 1 #[(0, .tmp ky)], ty, pos, after, guard⟩ : Oper).looksAt ops) = true)
  (hΦ : ∀ g v L', Φ g v L' → ∃ ys, v = .agg ys.toArray ∧ L' = [] ∧ ψ g ys ∧ ys.length = ee.zs.length ∧ ys.all Value.oneCell' = true)
  (ht : Xc (tb P) t = some te) (hd : te.td = .slice E) (he : Xc (tb P) E = some ee)
  (hz : Nat.ble (1 * ee.zs.length) 16777216 = true) (hw : ∀ v, Xl ops ((ky, v) :: kn ops ⟨some d, .buildSlice t 1 #[(0, .tmp ky)], ty, pos, after, guard⟩ Γ ρ) guard = some true)
  (h : Xm P ro N ds ops g0 L ρ l ((some d, up (psiBoxP ee.zs.length ψ)) :: Γ) RL K) : Xm P ro N ds ops g0 L ρ (⟨some d, .buildSlice t 1 #[(0, .tmp ky)], ty, pos, after, guard⟩ :: l) Γ RL K := by
 refine ⟨[], RL, up (psiBoxP ee.zs.length ψ), rfl, Kf _, po_with ky hy hm (fun g1 u L' hg hu => px_do rfl (hw u) fun g w X hg3 hs => ?_), h⟩
 obtain ⟨ys, rfl, rfl, hψ1, hlen, hone⟩ := hΦ _ _ _ hu
 have hrun := Jr (w := w) (ps := [(0, .agg ys.toArray)]) (m := 1) ht hd he (by simp [Vr, Value.cells, hlen]) rfl hz
 have hs1 : St g (w.alloc (Xa ys E)) ((w.heap.size, Xa ys E) :: (L ++ X)) := hs.alloc _
 obtain ⟨s1, s2, s3⟩ := hs1.freeze
 refine ⟨.slice (some ⟨w.heap.size, 0, none⟩) 1 1, w.alloc (Xa ys E), _, [], fun N ds a ha => ?_, s2, s1, _, Ghost.rfl', _, ys, rfl, rfl, Us s3 (fun j u' e' => by simpa using e'), hψ _ _ _ (Ghost.tr hg3 s2) hψ1, hlen, hone⟩
 simp only [List.flatMap_cons, List.flatMap_nil, List.append_nil] at hrun
 have hvx : ev ((ky, Value.agg ys.toArray) :: kn ops ⟨some d, .buildSlice t 1 #[(0, .tmp ky)], ty, pos, after, guard⟩ Γ ρ) (.tmp ky) = some (.agg ys.toArray) := by simp [ev, Ye]
 simp only [execOp, Xe ha hvx]
 have e : (Value.agg ys.toArray).cells.toList = ys := rfl
 rw [e] at hrun
 simpa [Xe ha hvx] using congrArg (fun r => r) (by simp [Xe ha hvx, hrun])
def psiSP (E sz n : Nat) (cs : List Value) (ψ : Ghost → List Value → Prop) : Ghost → Own → Value → Prop := fun g L v => ∃ ys, OwnS E sz v n (cs ++ ys) L ∧ ψ g ys ∧ ys.length = sz
theorem sg_pushW {t E : Nat} {te ee : TE} {x : Operand} {v : Value} {n kx tb1 : Nat} {cs : List Value} {ψ : Ghost → List Value → Prop} (hψ : ∀ g g' ys, g ≤ g' → ψ g ys → ψ g' ys) (R RL' : Own) (hRL : RL = R ++ RL') (ho : OwnS E ee.zs.length v n cs R) (hroom : n + 1 ≤ 4294967296)
  (hx : x = .tmp kx) (hne : Nat.beq kx tb1 = false) (hv : Ye (kn ops ⟨some d, .call ⟨.builtin .append, #[x, .tmp tb1], #[t, t]⟩, ty, pos, after, guard⟩ Γ ρ) kx = some v)
  (hb1 : Ue Γ ρ tb1 = some (up (psiBoxP ee.zs.length ψ))) (hm : memB tb1 ((⟨some d, .call ⟨.builtin .append, #[x, .tmp tb1], #[t, t]⟩, ty, pos, after, guard⟩ : Oper).looksAt ops) = true)
  (ht : Xc (tb P) t = some te) (hd : te.td = .slice E) (he : Xc (tb P) E = some ee)
  (hb : Nat.ble ee.bytes 1024 = true) (hsz : Nat.blt 0 ee.zs.length = true)
  (hw : ∀ v, Xl ops ((tb1, v) :: kn ops ⟨some d, .call ⟨.builtin .append, #[x, .tmp tb1], #[t, t]⟩, ty, pos, after, guard⟩ Γ ρ) guard = some true)
  (h : Xm P ro N ds ops g0 L ρ l ((some d, up (psiSP E ee.zs.length (n + 1) cs ψ)) :: Γ) RL' K) :
  Xm P ro N ds ops g0 L ρ (⟨some d, .call ⟨.builtin .append, #[x, .tmp tb1], #[t, t]⟩, ty, pos, after, guard⟩ :: l) Γ RL K := by
 subst hx
 refine ⟨R, RL', _, hRL, Kf _, po_with tb1 hb1 hm (fun g1 u L' hg ⟨g2, hg2, b, ys, hu1, hu2, hu3, hu4, hlen, h1⟩ => px_do rfl (hw u) fun g w X hg3 hs => ?_), h⟩
 subst hu1
 obtain ⟨v', w1, H', hr, ho', hs'⟩ := Qv (ty := ty) (m := 1) (cx := 1) ht hd he ht hd ho hs (by simpa using hlen) ((hu3.mono (Ghost.tr hg2 hg3)).cellsAt hs) h1 hb hsz hroom
 refine ⟨v', w1, g, H', fun N ds a ha => ?_, Ghost.rfl', hs', g, Ghost.rfl', ys, ho', hψ _ _ _ (Ghost.tr hg2 hg3) hu4, hlen⟩
 have hvx : ev ((tb1, Value.slice (some ⟨b, 0, none⟩) 1 1) :: kn ops ⟨some d, .call ⟨.builtin .append, #[.tmp kx, .tmp tb1], #[t, t]⟩, ty, pos, after, guard⟩ Γ ρ) (.tmp kx) = some v := by simp only [ev, Ye, hne, cond_false]; exact hv
 have hvy : ev ((tb1, Value.slice (some ⟨b, 0, none⟩) 1 1) :: kn ops ⟨some d, .call ⟨.builtin .append, #[.tmp kx, .tmp tb1], #[t, t]⟩, ty, pos, after, guard⟩ Γ ρ) (.tmp tb1) = some (.slice (some ⟨b, 0, none⟩) 1 1) := by simp [ev, Ye]
 simp [execOp, resolve, invoke, builtin, Xe ha hvx, Xe ha hvy, hr]
end
end
section
open Go.RowKit
section
variable {P : Program} [Tabbed P] {ro : Option Nat} {Qb : Exit → Act → World → Prop} {N : Nat} {ds : List Deferred} {ops : Array Oper} {rest : List Oper} {s : List Fr} {ρ : Env} {w : World}
variable {d : Nat} {ty : TypeId} {pos : String} {after : Array Edge} {guard : Option (Nat × Bool)}
theorem run_eqBool {t : Nat} {te : TE} (ht : Xc (tb P) t = some te) (hd : te.td = .bool) (a b : Bool) (w : World) : (Op.equal t (.bool a) (.bool b)).run P w = .ok (a == b) w := by
 have hu := und_bool ht hd
 have h : ∀ k : Nat, (Op.equalIn (k + 1) t (.bool a) (.bool b)).run P w = .ok (a == b) w := fun k => by simp [Op.equalIn, Xu w hu]
 exact h 9999
theorem wl_eqB {t t2 : Nat} {te : TE} {x y : Operand} {a b : Bool} (c : Bool) (hc : (a == b) = c) (hx : ev ρ x = some (.bool a)) (hy : ev ρ y = some (.bool b)) (ht : Xc (tb P) t = some te) (hd : te.td = .bool) (hn : Nat.blt d N = true) (hw : Xl ops ρ guard = some true)
  (h : WL P ro Qb N ds ops rest s ((d, .bool c) :: ρ) w) : WL P ro Qb N ds ops (⟨some d, .binOp .eql t x y t2, ty, pos, after, guard⟩ :: rest) s ρ w := by
 subst hc
 refine Zb (fun N' ds' ac ha => ?_) rfl hn hw h
 simp only [execOp, Xe ha hx, Xe ha hy, eqGuard, binOp, Sem.run_bind, Sem.run_pure, Result.andThen_ok, Bool.not_true, Bool.false_eq_true, if_false, run_eqBool ht hd]
theorem wl_neqB {t t2 : Nat} {te : TE} {x y : Operand} {a b : Bool} (c : Bool) (hc : (!(a == b)) = c) (hx : ev ρ x = some (.bool a)) (hy : ev ρ y = some (.bool b)) (ht : Xc (tb P) t = some te) (hd : te.td = .bool) (hn : Nat.blt d N = true) (hw : Xl ops ρ guard = some true)
  (h : WL P ro Qb N ds ops rest s ((d, .bool c) :: ρ) w) : WL P ro Qb N ds ops (⟨some d, .binOp .neq t x y t2, ty, pos, after, guard⟩ :: rest) s ρ w := by
 subst hc
 refine Zb (fun N' ds' ac ha => ?_) rfl hn hw h
 simp only [execOp, Xe ha hx, Xe ha hy, eqGuard, binOp, Sem.run_bind, Sem.run_pure, Result.andThen_ok, Bool.not_true, Bool.false_eq_true, if_false, run_eqBool ht hd]
end
theorem St.thaw {ga gb gc : Ghost} {w w' : World} {b : Nat} {o : Obj} {L0 L : Own} (h : St ga w ((b, o) :: L0)) (hab : ga ≤ gb) (hb : gb.heap b = some o) (hbc : gb ≤ gc) (h' : St gc w' L) : St ga w' ((b, o) :: L) := by
 have hac := Ghost.tr hab hbc
 have hcb : gc.heap b = some o := hbc.heap _ _ hb
 have hnb : ∀ p ∈ L, p.1 ≠ b := fun p hp e => by
  have := h'.disj p.1 p.2 hp;rw [e, hcb] at this
  cases this
 refine ⟨by rw [h'.os, hac.os], by rw [h'.tape, hac.tape], by rw [h'.output, hac.output], fun k o' hk => h'.imm k o' (hac.heap _ _ hk), ?_, ?_, ?_⟩
 ·intro k o' hk
  rcases List.mem_cons.1 hk with e | hk
  ·cases e; exact h'.imm b o hcb
  ·exact h'.own k o' hk
 ·rw [List.map_cons];refine List.nodup_cons.2 ⟨fun hm => ?_, h'.nodup⟩;obtain ⟨p, hp, e⟩ := List.mem_map.1 hm;exact hnb p hp e
 ·intro k o' hk
  rcases List.mem_cons.1 hk with e | hk
  ·cases e; exact h.disj b o List.mem_cons_self
  ·have := h'.disj k o' hk;cases hg : ga.heap k with
   | none => rfl
   | some u => rw [hac.heap _ _ hg] at this; cases this
theorem freezeH {g : Ghost} {w : World} {L : Own} {b E : Nat} {cs : List Value} (hs : St g w ((b, Xa cs E) :: L)) : ∃ g', g ≤ g' ∧ St g' w L ∧ Lies g' b 0 cs ∧ g'.heap b = some (Xa cs E) := by
 obtain ⟨s1, s2, s3⟩ := hs.freeze
 exact ⟨_, s2, s1, Us s3 (fun j u e => by simpa using e), s3⟩
theorem chunk_flat {α : Type} {e : α → List Value} {m : Nat} (h0 : ∀ x, (e x).length = m) : ∀ (xs : List α) (i : Nat) (h : i < xs.length), ((xs.flatMap e).drop (i * m)).take m = e xs[i]
 | x :: xs, 0, h => by
  rw [Nat.zero_mul, List.drop_zero, List.flatMap_cons, List.take_append_of_le_length (by rw [h0]; exact Nat.le_refl _), ← h0 x, List.take_length];rfl
 | x :: xs, i + 1, h => by
  have h1 : (e x).length = m := h0 x;rw [List.flatMap_cons, show (i + 1) * m = (e x).length + i * m by rw [h1, Nat.add_mul, Nat.one_mul, Nat.add_comm], ← List.drop_drop, List.drop_left];exact chunk_flat h0 xs i (by simpa using h)
theorem RS.ofFlat {α : Type} {e : α → List Value} {m : Nat} {h0 : ∀ x, (e x).length = m} {g : Ghost} {b n cap : Nat} (xs : List α) (hn : n = xs.length) (h : Lies g b 0 (xs.flatMap e)) : RS (kEnc e m h0) g (.slice (some ⟨b, 0, none⟩) n cap) xs :=
 RS.mk' hn h fun i hi => chunk_flat h0 xs i hi
theorem Lies.at3 {g : Ghost} {b : Nat} {v1 v2 v3 v4 v5 : Value} (h : Lies g b 0 [v1, v2, v3, v4, v5]) : ∀ j v, [v4, v5][j]? = some v → g.cell ((⟨b, 3, none⟩ : Addr).add j) = some v := fun j v hv => by
 have := h (3 + j) v (by rcases j with _ | _ | j <;> simp at hv ⊢ <;> exact hv)
 rw [Yo]
 simpa [Nat.add_assoc] using this
theorem Lies.at0 {g : Ghost} {b : Nat} {v1 v2 v3 : Value} (h : Lies g b 0 [v1, v2, v3]) : ∀ j v, [v1, v2][j]? = some v → g.cell ((⟨b, 0, none⟩ : Addr).add j) = some v := fun j v hv => by
 have := h j v (by rcases j with _ | _ | j <;> simp at hv ⊢ <;> exact hv)
 rw [Yo]
 simpa [Nat.add_assoc] using this
end
end Go.Proofs.YtpmlighdpgbecaaGreatDoor.S
