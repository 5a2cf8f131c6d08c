/- Words on memory: what a slice of bytes reads as, a block known whole, what a call has turned. No condition. -/
import Derived.Test.YtmchliaclnkbeaaProg
import Derived.WalkKit
import Derived.Lib.Hide
import Derived.Below
import Derived.WalkSmall
open Go Go.RowKit Go.Lib
namespace Go.Proofs.Ytmchliaclnkbeaa.J
set_option linter.unusedVariables false
set_option linter.unusedSimpArgs false
def RdB (w : World) (A : Option Addr) (l : List Int) : Prop := ∀ i (h : i < l.length), ∃ b o, A = some ⟨b, o, none⟩ ∧ w.cell? ⟨b, o + i, none⟩ = some (.int .u8 l[i])
def WfB (l : List Int) : Prop := ∀ x ∈ l, 0 ≤ x ∧ x < 256
theorem RdB.below {w w' : World} {A : Option Addr} {l : List Int} {B : Nat} (h : RdB w A l) (hb : Below B w w') (hB : w.heap.size ≤ B) : RdB w' A l := by
  intro i hi
  obtain ⟨b, o, e, hc⟩ := h i hi
  exact ⟨b, o, e, (hb.cell (p := ⟨_, _, _⟩) (Nat.lt_of_lt_of_le (block_lt_of_cell hc) hB)).trans hc⟩
theorem RdB.drewN {w : World} {A : Option Addr} {l : List Int} {n : Nat} (h : RdB w A l) : RdB (w.drewN n) A l := h.below (below_drewN (Below.refl w.heap.size w) n) (Nat.le_refl _)
theorem bcell {B : Nat} {w w' : World} (h : Below B w w') : (∀ b o, b < B → w'.cell? ⟨b, o, none⟩ = w.cell? ⟨b, o, none⟩) ∧ (∀ b o, b < B → w'.frozen? ⟨b, o, none⟩ = w.frozen? ⟨b, o, none⟩) :=
  ⟨fun b o hh => h.cell (p := ⟨b, o, none⟩) hh, fun b o hh => h.frozen (p := ⟨b, o, none⟩) hh⟩
theorem ret_agg2 {k1 k2 : IntKind} {a b a' b' : Int} (h : a = a') (h2 : b = b') : Ending.returned (.agg #[.int k1 a, .int k2 b]) = .returned (.agg #[.int k1 a', .int k2 b']) := by rw [h, h2]
theorem ret_int {k : IntKind} {a b : Int} (h : a = b) : Ending.returned (.int k a) = .returned (.int k b) := by rw [h]
theorem int_eq {k : IntKind} {a b : Int} (h : a = b) : Value.int k a = .int k b := by rw [h]
/-- A block of cells, known whole. -/
def Blk (w : World) (N : Nat) (cs : Array Value) (t : TypeId) : Prop := w.heap[N]? = some (.cells cs t (0, 0))
theorem Blk.cell {w : World} {N : Nat} {cs : Array Value} {t : TypeId} (h : Blk w N cs t) (i : Nat) : w.cell? ⟨N, i, none⟩ = cs[i]? := by
  unfold Blk at h; simp [World.cell?, h]
theorem Blk.frozen {w : World} {N : Nat} {cs : Array Value} {t : TypeId} (h : Blk w N cs t) (i : Nat) : w.frozen? ⟨N, i, none⟩ = false := by
  unfold Blk at h; simp [World.frozen?, h]
theorem Blk.lt {w : World} {N : Nat} {cs : Array Value} {t : TypeId} (h : Blk w N cs t) : N < w.heap.size := by
  unfold Blk at h; exact (Array.getElem?_eq_some_iff.1 h).1
theorem Blk.set {w : World} {N : Nat} {cs : Array Value} {t : TypeId} (h : Blk w N cs t) (i : Nat) (v : Value) : Blk (w.setCell ⟨N, i, none⟩ v) N (cs.setIfInBounds i v) t := by
  unfold Blk at *; simp [World.setCell, Array.getElem?_modify, h]
theorem Blk.below {w w' : World} {N B : Nat} {cs : Array Value} {t : TypeId} (h : Blk w N cs t) (hb : Below B w w') (hN : N < B) : Blk w' N cs t := by
  unfold Blk at *; rw [hb.block N hN]; exact h
theorem Blk.new (w : World) (cs : Array Value) (t : TypeId) : Blk (w.alloc (.cells cs t)) w.heap.size cs t := by
  show (w.heap.push _)[w.heap.size]? = _
  simp
theorem Blk.drewN {w : World} {N : Nat} {cs : Array Value} {t : TypeId} (h : Blk w N cs t) (n : Nat) : Blk (w.drewN n) N cs t := by
  exact h.below (below_drewN (Below.refl (N+1) w) n) (Nat.lt_succ_self _)
/-- Of what was there nothing has turned but blocks in S. -/
structure Chg (S : Nat → Prop) (w w' : World) : Prop where
  os : w'.os = w.os
  tape : w'.tape = w.tape
  output : w'.output = w.output
  size : w.heap.size ≤ w'.heap.size
  block : ∀ k, k < w.heap.size → ¬ S k → w'.heap[k]? = w.heap[k]?
theorem Chg.refl (S : Nat → Prop) (w : World) : Chg S w w := ⟨rfl, rfl, rfl, Nat.le_refl _, fun _ _ _ => rfl⟩
theorem Chg.trans {S : Nat → Prop} {a b c : World} (h : Chg S a b) (k : Chg S b c) : Chg S a c :=
  ⟨k.os.trans h.os, k.tape.trans h.tape, k.output.trans h.output, Nat.le_trans h.size k.size, fun i hi hs => (k.block i (Nat.lt_of_lt_of_le hi h.size) hs).trans (h.block i hi hs)⟩
theorem Chg.mono {S T : Nat → Prop} {w w' : World} (h : Chg S w w') (hs : ∀ k, k < w.heap.size → S k → T k) : Chg T w w' :=
  ⟨h.os, h.tape, h.output, h.size, fun k hk ht => h.block k hk (fun x => ht (hs k hk x))⟩
theorem Chg.of_below {S : Nat → Prop} {w w' : World} (h : Below w.heap.size w w') : Chg S w w' := ⟨h.os, h.tape, h.output, h.size, fun k hk _ => h.block k hk⟩
theorem Chg.below {w w' : World} (h : Chg (fun _ => False) w w') : Below w.heap.size w w' := ⟨h.os, h.tape, h.output, h.size, fun k hk => h.block k hk (fun x => x)⟩
/-- What came behind touches only what was not there, or is in S. -/
theorem Chg.then {S T : Nat → Prop} {a b c : World} (h : Chg S a b) (k : Chg T b c) (ht : ∀ i, i < a.heap.size → T i → S i) : Chg S a c :=
  ⟨k.os.trans h.os, k.tape.trans h.tape, k.output.trans h.output, Nat.le_trans h.size k.size, fun i hi hs => (k.block i (Nat.lt_of_lt_of_le hi h.size) (fun x => hs (ht i hi x))).trans (h.block i hi hs)⟩
theorem Chg.setCell {S : Nat → Prop} {a w : World} (h : Chg S a w) {p : Addr} (hp : p.block < a.heap.size → S p.block) (u : Value) : Chg S a (w.setCell p u) :=
  h.then (T := fun i => i = p.block) ⟨rfl, rfl, rfl, by simp [World.setCell], fun k _ hk => Below.heap_setCell _ _ _ _ hk⟩ (fun i hi e => by subst e; exact hp hi)
theorem Chg.alloc {S : Nat → Prop} {a w : World} (h : Chg S a w) (o : Obj) : Chg S a (w.alloc o) :=
  h.then (T := fun _ => False) ⟨rfl, rfl, rfl, by simp, fun k hk _ => Below.heap_alloc _ _ _ hk⟩ (fun _ _ x => x.elim)
theorem Chg.drewN {S : Nat → Prop} {a w : World} (h : Chg S a w) (n : Nat) : Chg S a (w.drewN n) :=
  h.then (Chg.of_below (S := fun _ => False) (below_drewN (Below.refl _ _) n)) (fun _ _ x => x.elim)
theorem Chg.cell {S : Nat → Prop} {w w' : World} (h : Chg S w w') {p : Addr} (hp : p.block < w.heap.size) (hs : ¬ S p.block) : w'.cell? p = w.cell? p := World.cell?_of_block (w := w) (h.block p.block hp hs)
theorem Chg.frozen {S : Nat → Prop} {w w' : World} (h : Chg S w w') {p : Addr} (hp : p.block < w.heap.size) (hs : ¬ S p.block) : w'.frozen? p = w.frozen? p := World.frozen?_of_block (w := w) (h.block p.block hp hs)
theorem Chg.cells {S : Nat → Prop} {w w' : World} (h : Chg S w w') : (∀ b o, b < w.heap.size → ¬ S b → w'.cell? ⟨b, o, none⟩ = w.cell? ⟨b, o, none⟩) ∧ (∀ b o, b < w.heap.size → ¬ S b → w'.frozen? ⟨b, o, none⟩ = w.frozen? ⟨b, o, none⟩) :=
  ⟨fun b o hb hs => h.cell (p := ⟨b, o, none⟩) hb hs, fun b o hb hs => h.frozen (p := ⟨b, o, none⟩) hb hs⟩
theorem Blk.chg {w w' : World} {S : Nat → Prop} {N : Nat} {cs : Array Value} {t : TypeId} (h : Blk w N cs t) (hb : Chg S w w') (hN : ¬ S N) : Blk w' N cs t := by
  have hl := h.lt
  unfold Blk at *; rw [hb.block N hl hN]; exact h
theorem RdB.chg {w w' : World} {S : Nat → Prop} {b o : Nat} {l : List Int} (h : RdB w (some ⟨b, o, none⟩) l) (hb : Chg S w w') (hS : ¬ S b) : RdB w' (some ⟨b, o, none⟩) l := by
  intro i hi
  obtain ⟨b', o', e, hc⟩ := h i hi
  cases e
  exact ⟨b, o, rfl, (hb.cell (p := ⟨_, _, _⟩) (block_lt_of_cell hc) hS).trans hc⟩
theorem RdB.nil (w : World) (A : Option Addr) : RdB w A [] := fun i hi => absurd hi (by simp)
/-- A block read as bytes. -/
theorem Blk.rdB {w : World} {N : Nat} {l : List Int} {t : TypeId} {o : Nat} {cs : Array Value} (h : Blk w N cs t) (hc : ∀ i (hi : i < l.length), cs[o + i]? = some (.int .u8 l[i])) : RdB w (some ⟨N, o, none⟩) l :=
  fun i hi => ⟨N, o, rfl, (h.cell (o + i)).trans (hc i hi)⟩
theorem RdB.alloc {w : World} {A : Option Addr} {l : List Int} (h : RdB w A l) (o : Obj) : RdB (w.alloc o) A l := h.below ((Below.refl w.heap.size w).alloc (Nat.le_refl _) o) (Nat.le_refl _)
theorem RdB.drew {w : World} {A : Option Addr} {l : List Int} (h : RdB w A l) : RdB w.drew A l := h
theorem Blk.alloc {w : World} {N : Nat} {cs : Array Value} {t : TypeId} (h : Blk w N cs t) (o : Obj) : Blk (w.alloc o) N cs t := h.below ((Below.refl w.heap.size w).alloc (Nat.le_refl _) o) h.lt
theorem Blk.drew {w : World} {N : Nat} {cs : Array Value} {t : TypeId} (h : Blk w N cs t) : Blk w.drew N cs t := h
theorem Chg.drew {S : Nat → Prop} {a w : World} (h : Chg S a w) : Chg S a w.drew := ⟨h.os, h.tape, h.output, h.size, h.block⟩
theorem Chg.fresh {S : Nat → Prop} {w w' : World} (h : Chg S w w') (hS : ∀ k, k < w.heap.size → ¬ S k) : Below w.heap.size w w' := ⟨h.os, h.tape, h.output, h.size, fun k hk => h.block k hk (hS k hk)⟩
theorem own_below {w w' : World} {B base : Nat} {e : TypeId} {s : Nat} {v : Value} {n : Nat} {xs : List Value} (h : w.ownsRow base e s v n xs) (hb : Below B w w') (hB : w.heap.size ≤ B) : w'.ownsRow base e s v n xs :=
  h.kept (row := none) ⟨hb.os, hb.tape, hb.output, hb.size, fun k hk _ => hb.block k (by omega)⟩ (by cases v.ownBlock <;> simp)
theorem _root_.Go.RowKit.Below.drewN {B : Nat} {a w : World} (h : Below B a w) (n : Nat) : Below B a (w.drewN n) := below_drewN h n
end Go.Proofs.Ytmchliaclnkbeaa.J
