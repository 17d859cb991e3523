/-
  Proved here: small plain facts on worlds (what is kept when blocks are laid, written, or replaced); no condition.
-/
import Derived.Test.YtliaeknidmbelaaRows
import Derived.WalkKit
import Derived.WalkSpells
import Derived.WalkLawsBesides
namespace Go.Proofs.Ytliaeknidmbelaa
open Go.RowKit

/-- 'w'' is 'w' but for the blocks of 'S' and for new blocks. -/
structure Eff (S : Nat → Prop) (w w' : World) : Prop where
  os : w'.os = w.os
  tape : w'.tape = w.tape
  output : w'.output = w.output
  size : w.heap.size ≤ w'.heap.size
  block : ∀ k, k < w.heap.size → ¬ S k → w'.heap[k]? = w.heap[k]?

theorem Eff.refl (S : Nat → Prop) (w : World) : Eff S w w := ⟨rfl, rfl, rfl, Nat.le_refl _, fun _ _ _ => rfl⟩
theorem Eff.trans {S : Nat → Prop} {a b c : World} (h : Eff S a b) (k : Eff S b c) : Eff S a c :=
  ⟨k.os.trans h.os, k.tape.trans h.tape, k.output.trans h.output, Nat.le_trans h.size k.size,
    fun i hi hS => (k.block i (Nat.lt_of_lt_of_le hi h.size) hS).trans (h.block i hi hS)⟩
theorem Eff.mono {S T : Nat → Prop} {w w' : World} (h : Eff S w w') (hs : ∀ k, k < w.heap.size → S k → T k) : Eff T w w' :=
  ⟨h.os, h.tape, h.output, h.size, fun k hk hT => h.block k hk (fun hS => hT (hs k hk hS))⟩
/-- What is written are blocks that the call itself made. -/
theorem Eff.trans_new {S T : Nat → Prop} {a b c : World} (h : Eff S a b) (k : Eff T b c) (hT : ∀ i, i < a.heap.size → T i → S i) : Eff S a c :=
  ⟨k.os.trans h.os, k.tape.trans h.tape, k.output.trans h.output, Nat.le_trans h.size k.size,
    fun i hi hS => (k.block i (Nat.lt_of_lt_of_le hi h.size) (fun hTi => hS (hT i hi hTi))).trans (h.block i hi hS)⟩
theorem Eff.drew {S : Nat → Prop} {a w : World} (h : Eff S a w) : Eff S a w.drew := ⟨h.os, h.tape, h.output, h.size, h.block⟩
theorem Eff.drewN {S : Nat → Prop} {a w : World} (h : Eff S a w) (n : Nat) : Eff S a (w.drewN n) := ⟨h.os, h.tape, h.output, h.size, h.block⟩
theorem Eff.alloc {S : Nat → Prop} {a w : World} (h : Eff S a w) (o : Obj) : Eff S a (w.alloc o) :=
  h.trans ⟨rfl, rfl, rfl, by simp, fun k hk _ => Below.heap_alloc _ _ _ hk⟩
theorem Eff.setCell {S : Nat → Prop} {a w : World} (h : Eff S a w) {p : Addr} (hp : p.block < a.heap.size → S p.block) (u : Value) : Eff S a (w.setCell p u) :=
  h.trans_new (T := fun k => k = p.block) ⟨rfl, rfl, rfl, by simp [World.setCell], fun k _ hne => Below.heap_setCell _ _ _ _ hne⟩ (fun i hi e => by subst e; exact hp hi)
theorem Eff.below {w w' : World} {S : Nat → Prop} (h : Eff S w w') (hS : ∀ k, ¬ S k) : Below w.heap.size w w' := ⟨h.os, h.tape, h.output, h.size, fun k hk => h.block k hk (hS k)⟩
theorem Eff.of_below {w w' : World} (S : Nat → Prop) (h : Below w.heap.size w w') : Eff S w w' := ⟨h.os, h.tape, h.output, h.size, fun k hk _ => h.block k hk⟩
theorem Eff.lt {S : Nat → Prop} {w w' : World} (h : Eff S w w') {k : Nat} (hk : k < w.heap.size) : k < w'.heap.size := Nat.lt_of_lt_of_le hk h.size
theorem Eff.keep {S : Nat → Prop} {w w' : World} (h : Eff S w w') {k : Nat} {o : Obj} (hb : w.heap[k]? = some o) (hS : ¬ S k) : w'.heap[k]? = some o := by
  rw [h.block k (Array.getElem?_eq_some_iff.1 hb).1 hS]; exact hb

theorem lt_of_heap {w : World} {k : Nat} {o : Obj} (hb : w.heap[k]? = some o) : k < w.heap.size := (Array.getElem?_eq_some_iff.1 hb).1

/-- The cells of a block that is known whole. -/
theorem cell_of {w : World} {b : Nat} {c : Array Value} {t : TypeId} {f : Nat × Nat} (hb : w.heap[b]? = some (.cells c t f)) (i : Nat) : w.cell? ⟨b, i, none⟩ = c[i]? := by
  simp [World.cell?, hb]
theorem free_of {w : World} {b : Nat} {c : Array Value} {t : TypeId} (hb : w.heap[b]? = some (.cells c t)) (i : Nat) : w.frozen? ⟨b, i, none⟩ = false := by
  simp [World.frozen?, hb]
theorem below_heap {w w' : World} (h : Below w.heap.size w w') {b : Nat} {o : Obj} (hb : w.heap[b]? = some o) : w'.heap[b]? = some o := by
  rw [h.block b (Array.getElem?_eq_some_iff.1 hb).1]; exact hb

/-- Another object at a place. -/
def wset (w : World) (r : Nat) (o : Obj) : World := { w with heap := w.heap.setIfInBounds r o }
theorem wset_size (w : World) (r : Nat) (o : Obj) : (wset w r o).heap.size = w.heap.size := by simp [wset]
theorem wset_same {w : World} {r : Nat} {o : Obj} (h : r < w.heap.size) : (wset w r o).heap[r]? = some o := by simp [wset, h]
theorem wset_other {w : World} {r k : Nat} {o : Obj} (h : k ≠ r) : (wset w r o).heap[k]? = w.heap[k]? := by simp [wset, Ne.symm h]
theorem wset_cell {w : World} {r : Nat} {o : Obj} {a : Addr} (h : a.block ≠ r) : (wset w r o).cell? a = w.cell? a := World.cell?_of_block (w := w) (wset_other h)
theorem wset_frozen {w : World} {r : Nat} {o : Obj} {a : Addr} (h : a.block ≠ r) : (wset w r o).frozen? a = w.frozen? a := World.frozen?_of_block (w := w) (wset_other h)
theorem wset_drew (w : World) (r : Nat) (o : Obj) : wset w.drew r o = (wset w r o).drew := rfl
theorem Eff.wset {S : Nat → Prop} {a w : World} (h : Eff S a w) {r : Nat} (hr : r < a.heap.size → S r) (o : Obj) : Eff S a (wset w r o) :=
  h.trans_new (T := fun k => k = r) ⟨rfl, rfl, rfl, by rw [wset_size]; exact Nat.le_refl _, fun k _ hne => wset_other hne⟩ (fun i hi e => by subst e; exact hr hi)

/-- What a block holds behind a store. -/
theorem heap_setCell_same {w : World} {b : Nat} {c : Array Value} {t : TypeId} {f : Nat × Nat} (hb : w.heap[b]? = some (.cells c t f)) (i : Nat) (v : Value) :
    (w.setCell ⟨b, i, none⟩ v).heap[b]? = some (.cells (c.setIfInBounds i v) t f) := by
  simp [World.setCell, Array.getElem?_modify, hb]
theorem heap_alloc_new (w : World) (o : Obj) : (w.alloc o).heap[w.heap.size]? = some o := by show (w.heap.push o)[w.heap.size]? = some o; simp
theorem heap_alloc_new' {w : World} {o : Obj} {n : Nat} (h : n = w.heap.size) : (w.alloc o).heap[n]? = some o := by subst h; exact heap_alloc_new w o
theorem below_alloc {a u : World} (h : Below a.heap.size a u) (o : Obj) : Below a.heap.size a (u.alloc o) := h.alloc h.size o
theorem below_alloc' {a u : World} (h : Below a.heap.size a u) (o : Obj) : Below a.heap.size a (u.alloc o) := h.alloc h.size o
theorem heap_alloc_old {w : World} {o o' : Obj} {b : Nat} (hb : w.heap[b]? = some o') : (w.alloc o).heap[b]? = some o' := by
  rw [Below.heap_alloc _ _ _ (Array.getElem?_eq_some_iff.1 hb).1]; exact hb
theorem heap_setCell_old {w : World} {o' : Obj} {b : Nat} {a : Addr} {u : Value} (hb : w.heap[b]? = some o') (h : b ≠ a.block) : (w.setCell a u).heap[b]? = some o' := by
  rw [Below.heap_setCell _ _ _ _ h]; exact hb

/-- Two structs, field by field: only the fields' types and places count. -/
def eqPairs (d : Nat) (xs ys : Array Value) : List (TypeId × Nat) → Sem Bool
  | [] => pure true
  | f :: fs => do
    let a ← part f.1 xs f.2
    let b ← part f.1 ys f.2
    let r ← Op.equalIn d f.1 a b
    if (!r) = true then pure false else eqPairs d xs ys fs
theorem eqFields_pairs (d : Nat) (xs ys : Array Value) : ∀ (fs : List Field), (fs.all fun f => decide (f.name ≠ "_")) = true → Op.eqFields d xs ys fs = eqPairs d xs ys (fs.map fun f => (f.type, f.offset)) := by
  intro fs
  induction fs with
  | nil => intro _; rfl
  | cons f fs ih =>
    intro h
    simp only [List.all_cons, Bool.and_eq_true, decide_eq_true_eq] at h
    simp only [Op.eqFields, List.map_cons, eqPairs]
    rw [if_pos h.1, ih h.2]
theorem run_equal_pairs {P : Program} (d : Nat) (t : TypeId) (xs ys : Array Value) (l : List (TypeId × Nat)) (ht : P.underlying t = some (.struct (P.fieldsOf t))) (hp : P.stoodInHeld t = false)
    (hn : ((P.fieldsOf t).toList.all fun f => decide (f.name ≠ "_")) = true) (hl : (P.fieldsOf t).toList.map (fun f => (f.type, f.offset)) = l) (w : World) :
    (Op.equalIn (d + 1) t (.agg xs) (.agg ys)).run P w = (eqPairs d xs ys l).run P w := by
  rw [run_equalIn_struct w d t xs ys ht hp, eqFields_pairs d xs ys _ hn, hl]

/-- An owned row stays where only blocks ahead of its base are written. -/
theorem ownsRow_eff {S : Nat → Prop} {w w' : World} {base : Nat} {e : TypeId} {size : Nat} {v : Value} {n : Nat} {xs : List Value} (h : w.ownsRow base e size v n xs) (he : Eff S w w') (hS : ∀ k, S k → k < base) : w'.ownsRow base e size v n xs := by
  obtain ⟨h1, h2⟩ := h
  refine ⟨h1, ?_⟩
  rcases h2 with h2 | ⟨g, cap, cur, hv, hg, hh, r⟩
  · exact .inl h2
  · exact .inr ⟨g, cap, cur, hv, hg, he.keep hh (fun hs => by have := hS g hs; omega), r⟩
theorem Eff.grown {S : Nat → Prop} {a w w' : World} {row : Option Nat} (h : Eff S a w) (hg : w.grownBy w' row) (hr : ∀ k, row = some k → k < a.heap.size → S k) : Eff S a w' :=
  h.trans_new (T := fun k => row = some k) ⟨hg.os, hg.tape, hg.output, hg.size, fun k hk hne => hg.block k hk (fun e => hne e.symm)⟩ (fun i hi e => hr i e hi)
theorem grown_heap {w w' : World} {row : Option Nat} (hg : w.grownBy w' row) {b : Nat} {o : Obj} (hb : w.heap[b]? = some o) (hne : some b ≠ row) : w'.heap[b]? = some o := by
  rw [hg.block b (lt_of_heap hb) hne]; exact hb

end Go.Proofs.Ytliaeknidmbelaa
