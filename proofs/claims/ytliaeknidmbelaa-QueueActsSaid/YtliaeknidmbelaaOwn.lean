/-
  Proved here: slices of one-cell elements that may stand anywhere in a block: what stays, how they are cut, what append makes of them; the bounds on lengths are named.
-/
import Derived.Test.YtliaeknidmbelaaEff
import Derived.Deep.AppendSrc
import Derived.Deep.Upon
import Derived.Deep.RegionHeld3
import Derived.Deep.RegionLaw
import Derived.Lib.Hide
namespace Go.Proofs.Ytliaeknidmbelaa
open Go.RowKit

/-- A slice: nil, or a window of a block whose cells, up to the capacity, are there and may be written; its elements are 'vs'. -/
def Own (w : World) (v : Value) (vs : List Value) : Prop :=
  (v = .slice none 0 0 ∧ vs = []) ∨ ∃ g o cap, v = .slice (some ⟨g, o, none⟩) vs.length cap ∧ g < w.heap.size ∧ vs.length ≤ cap ∧ cap ≤ maxLen ∧
    (∀ j, j < cap → (w.cell? ⟨g, o + j, none⟩).isSome = true ∧ w.frozen? ⟨g, o + j, none⟩ = false) ∧ ∀ j u, vs[j]? = some u → w.cell? ⟨g, o + j, none⟩ = some u

theorem Own.nil (w : World) : Own w (.slice none 0 0) [] := .inl ⟨rfl, rfl⟩
theorem Own.lt {w : World} {v : Value} {vs : List Value} (h : Own w v vs) : ∀ k, v.ownBlock = some k → k < w.heap.size := by
  intro k hk
  rcases h with ⟨rfl, -⟩ | ⟨g, o, cap, rfl, hg, -⟩
  · simp [Value.ownBlock] at hk
  · simp [Value.ownBlock] at hk; omega
theorem Own.shape {w : World} {v : Value} {vs : List Value} (h : Own w v vs) : ∃ a c, v = .slice a vs.length c ∧ vs.length ≤ c ∧ c ≤ maxLen := by
  rcases h with ⟨rfl, rfl⟩ | ⟨g, o, cap, rfl, -, h1, h2, -⟩
  · exact ⟨_, _, rfl, Nat.le_refl _, by simp [maxLen]⟩
  · exact ⟨_, _, rfl, h1, h2⟩
theorem Own.keep {w w' : World} {v : Value} {vs : List Value} (h : Own w v vs) (hs : w.heap.size ≤ w'.heap.size) (hk : ∀ k, v.ownBlock = some k → w'.heap[k]? = w.heap[k]?) : Own w' v vs := by
  rcases h with h | ⟨g, o, cap, rfl, hg, h1, h2, h3, h4⟩
  · exact .inl h
  · have hb := hk g rfl
    have e1 : ∀ j, w'.cell? ⟨g, j, none⟩ = w.cell? ⟨g, j, none⟩ := fun j => World.cell?_of_block (w := w) hb
    have e2 : ∀ j, w'.frozen? ⟨g, j, none⟩ = w.frozen? ⟨g, j, none⟩ := fun j => World.frozen?_of_block (w := w) hb
    exact .inr ⟨g, o, cap, rfl, by omega, h1, h2, fun j hj => by rw [e1, e2]; exact h3 j hj, fun j u hu => by rw [e1]; exact h4 j u hu⟩
theorem Own.eff {S : Nat → Prop} {w w' : World} {v : Value} {vs : List Value} (h : Own w v vs) (he : Eff S w w') (hS : ∀ k, v.ownBlock = some k → ¬ S k) : Own w' v vs :=
  h.keep he.size fun k hk => he.block k (h.lt k hk) (hS k hk)
theorem Own.below {w w' : World} {v : Value} {vs : List Value} (h : Own w v vs) (hb : Below w.heap.size w w') : Own w' v vs :=
  h.keep hb.size fun k hk => hb.block k (h.lt k hk)
theorem Own.drew {w : World} {v : Value} {vs : List Value} (h : Own w v vs) : Own w.drew v vs := h
theorem Own.alloc {w : World} {v : Value} {vs : List Value} (h : Own w v vs) (o : Obj) : Own (w.alloc o) v vs := h.below (below_alloc (Below.refl _ _) _)

/-- What is read of it. -/
theorem Own.cells {w : World} {v : Value} {vs : List Value} (h : Own w v vs) (h0 : 0 < vs.length) : ∃ g o cap, v = .slice (some ⟨g, o, none⟩) vs.length cap ∧ g < w.heap.size ∧ vs.length ≤ cap ∧ cap ≤ maxLen ∧ (∀ j, j < cap → w.frozen? ⟨g, o + j, none⟩ = false) ∧ ∀ j u, vs[j]? = some u → w.cell? ⟨g, o + j, none⟩ = some u := by
  rcases h with ⟨rfl, rfl⟩ | ⟨g, o, cap, rfl, hg, h1, h2, h3, h4⟩
  · simp at h0
  · exact ⟨g, o, cap, rfl, hg, h1, h2, fun j hj => (h3 j hj).2, h4⟩

theorem eff_setCells (S : Nat → Prop) (b : Nat) (hS : S b) : ∀ (vs : List Value) (o : Nat) (w : World), Eff S w (w.setCells b o vs)
  | [], o, w => Eff.refl S w
  | u :: r, o, w => by
    have h1 : Eff S w (w.setCell ⟨b, o, none⟩ u) := (Eff.refl S w).setCell (p := ⟨b, o, none⟩) (fun _ => hS) u
    exact h1.trans (eff_setCells S b hS r (o + 1) _)

theorem addr_add (b o k : Nat) : (⟨b, o, none⟩ : Addr).add k = ⟨b, o + k, none⟩ := by unfold Addr.add; split <;> simp_all

/-- A slice read as a source. -/
theorem Own.src {P : Program} {w : World} {v : Value} {vs : List Value} (h : Own w v vs) {t e : TypeId} (ht : P.underlying t = some (.slice e)) (h1 : ∀ u ∈ vs, u.oneCell' = true) : Src P 1 t v vs.length vs w := by
  rcases h with ⟨rfl, rfl⟩ | ⟨g, o, cap, rfl, -, -, -, -, h4⟩
  · exact Src.ofNil w ht 0
  · exact Src.ofSlice w ht _ _ _ _ (by simp) (fun j u hu => by rw [addr_add]; exact h4 j u hu) h1

theorem run_own_append {P : Program} (w : World) (t ty e : TypeId) (i : TypeInfo) (z : Value) (bytes : Nat) (ht : P.underlying t = some (.slice e)) (hi : P.info? e = some i) (hz : i.zero = some z)
    (hsize : i.size = 1) (hby : i.bytes = bytes) (hzs : z.cells.size = 1) (v : Value) (vs : List Value) (h : Own w v vs) (x : Value) (n : Nat) (news : List Value) (hs : Src P 1 t x n news w)
    (h63 : vs.length + n ≤ maxLen) (hbytes : (vs.length + n) * bytes ≤ 140737488355328) :
    ∃ v' w', (Builtin.append_ #[t, t] ty #[v, x]).run P w = .ok v' w' ∧ Own w' v' (vs ++ news) ∧ Eff (fun k => v.ownBlock = some k) w w' ∧ (v'.ownBlock = v.ownBlock ∨ v'.ownBlock = some w.heap.size) := by
  subst hby
  have hnl : news.length = n := by rw [hs.newsLen, Nat.mul_one]
  have hs' : Src P i.size t x n news w := by rw [hsize]; exact hs
  have hsmall : vs.length + n ≤ 9223372036854775807 := by simp only [maxLen] at h63; omega
  have grow : ∀ (bs : Option Addr) (sc : Nat), v = .slice bs vs.length sc → sc < vs.length + n → (Builtin.firstCells i.size vs.length (.slice bs vs.length sc)).run P w.drew = .ok vs.toArray w.drew →
      ∃ v' w', (Builtin.append_ #[t, t] ty #[v, x]).run P w = .ok v' w' ∧ Own w' v' (vs ++ news) ∧ Eff (fun k => v.ownBlock = some k) w w' ∧ (v'.ownBlock = v.ownBlock ∨ v'.ownBlock = some w.heap.size) := by
    rintro bs sc rfl hg hold
    have hrun := run_append_grow_src (P := P) w t t ty e i z ht hi hz bs vs.length sc vs hold x n news hs' hg (by omega) (growslice_fits hg hbytes)
    have hge := grownCap_ge w (vs.length + n) sc e
    have hcm := grownCap_le_maxLen w (vs.length + n) sc e h63
    have hsz : ((vs ++ news).toArray ++ Builtin.zeroCells z.cells (grownCap w (vs.length + n) sc e - (vs.length + n))).size = grownCap w (vs.length + n) sc e := by
      rw [Array.size_append, List.size_toArray, List.length_append, hnl, size_zeroCells, hzs, Nat.mul_one]; omega
    refine ⟨_, _, hrun, .inr ⟨w.heap.size, 0, _, by rw [List.length_append, hnl], ?_, by rw [List.length_append, hnl]; exact hge, hcm, fun j hj => ⟨?_, ?_⟩, fun j u hu => ?_⟩, ((Eff.refl _ w).drew).alloc _, .inr rfl⟩
    · show w.heap.size < (w.heap.push _).size; simp
    · have e1 : (w.drew.alloc (.cells ((vs ++ news).toArray ++ Builtin.zeroCells z.cells (grownCap w (vs.length + n) sc e - (vs.length + n))) e)).cell? ⟨w.heap.size, 0 + j, none⟩ = _ := World.cell?_alloc_new w.drew _ _ (0 + j)
      rw [e1, Array.getElem?_eq_getElem (by rw [hsz]; omega)]
      rfl
    · exact World.frozen?_alloc_new w.drew _ _ (0 + j)
    · have e1 : (w.drew.alloc (.cells ((vs ++ news).toArray ++ Builtin.zeroCells z.cells (grownCap w (vs.length + n) sc e - (vs.length + n))) e)).cell? ⟨w.heap.size, 0 + j, none⟩ = _ := World.cell?_alloc_new w.drew _ _ (0 + j)
      have hj := (List.getElem?_eq_some_iff.1 hu).1
      rw [e1, Nat.zero_add, Array.getElem?_append_left (by simpa using hj), List.getElem?_toArray, hu]
  rcases h with ⟨rfl, rfl⟩ | ⟨g, o, cap, rfl, hg, h1, h2, h3, h4⟩
  · by_cases h0 : n = 0
    · subst h0
      obtain rfl : news = [] := List.eq_nil_of_length_eq_zero hnl
      exact ⟨_, _, run_append_nothing (P := P) w t t ty e i ht hi none 0 0 (Nat.le_refl _) x hs', .inl ⟨rfl, rfl⟩, Eff.refl _ _, .inl rfl⟩
    · exact grow none 0 rfl (by simp; omega) (run_firstCells_none w.drew i.size 0 0 0)
  · by_cases hfit : vs.length + n ≤ cap
    · have hin : ∀ j, j < news.length → (w.cell? ⟨g, o + vs.length * i.size + j, none⟩).isSome = true ∧ w.frozen? ⟨g, o + vs.length * i.size + j, none⟩ = false := fun j hj => by
        rw [hsize, Nat.mul_one, Nat.add_assoc]; exact h3 _ (by omega)
      have hrun := run_append_room_src (P := P) w t t ty e i ht hi g o vs.length cap x n news hs' hfit (fun j hj => (hin j hj).1) (fun j hj => (hin j hj).2)
      have e0 : o + vs.length * i.size = o + vs.length := by rw [hsize, Nat.mul_one]
      refine ⟨_, _, hrun, .inr ⟨g, o, cap, by rw [List.length_append, hnl], ?_, by rw [List.length_append, hnl]; exact hfit, h2, fun j hj => ⟨?_, ?_⟩, fun j u hu => ?_⟩, eff_setCells (fun k => (Value.slice (some ⟨g, o, none⟩) vs.length cap).ownBlock = some k) g rfl news _ w, .inl rfl⟩
      · exact Nat.lt_of_lt_of_le hg (eff_setCells (fun _ => True) g trivial news _ w).size
      · by_cases hn : vs.length ≤ j ∧ j < vs.length + news.length
        · have := World.cell?_setCells_in g news (o + vs.length * i.size) w (fun j hj => (hin j hj).1) (j - vs.length) (by omega)
          rw [e0, show o + vs.length + (j - vs.length) = o + j by omega] at this
          rw [e0, this]; rfl
        · rw [World.cell?_setCells_out g _ _ _ _ (fun _ _ => by show o + j < _ ∨ _ ≤ o + j; rw [e0]; omega)]
          exact (h3 j hj).1
      · rw [World.frozen?_setCells]; exact (h3 j hj).2
      · by_cases hn : j < vs.length
        · rw [List.getElem?_append_left hn] at hu
          rw [World.cell?_setCells_out g _ _ _ _ (fun _ _ => by show o + j < _ ∨ _ ≤ o + j; rw [e0]; omega)]
          exact h4 j u hu
        · rw [List.getElem?_append_right (by omega)] at hu
          have hj' := (List.getElem?_eq_some_iff.1 hu).1
          have := World.cell?_setCells_in g news (o + vs.length * i.size) w (fun j hj => (hin j hj).1) (j - vs.length) hj'
          rw [e0, show o + vs.length + (j - vs.length) = o + j by omega] at this
          rw [e0, this]
          rw [List.getElem?_eq_getElem hj'] at hu
          exact hu
    · exact grow _ cap rfl (by omega) (run_firstCells_some w.drew i.size vs.length ⟨g, o, none⟩ vs.length cap vs (by rw [hsize, Nat.mul_one]) (fun j u hu => by rw [addr_add]; exact h4 j u hu))

theorem wp_own_append {P : Program} (w : World) {o : Oper} {a : Act} {K : Act → World → Prop} {Q : Exit → Act → World → Prop} (s x : Operand) (t : TypeId)
    (ho : o.op = .call { callee := .builtin .append, args := #[s, x], argTypes := #[t, t] })
    (e : TypeId) (i : TypeInfo) (z : Value) (bytes : Nat) (ht : P.underlying t = some (.slice e)) (hi : P.info? e = some i) (hz : i.zero = some z)
    (hsize : i.size = 1) (hby : i.bytes = bytes) (hzs : z.cells.size = 1) (v : Value) (vs : List Value) (hv : a.eval s = v) (h : Own w v vs) (xv : Value) (n : Nat) (news : List Value) (hx : a.eval x = xv) (hs : Src P 1 t xv n news w)
    (h63 : vs.length + n ≤ maxLen) (hbytes : (vs.length + n) * bytes ≤ 140737488355328)
    (hK : ∀ v' w', Own w' v' (vs ++ news) → Eff (fun k => v.ownBlock = some k) w w' → (v'.ownBlock = v.ownBlock ∨ v'.ownBlock = some w.heap.size) → K (a.put o.dst v') w') : o.wp P a w K Q := by
  obtain ⟨v', w', hr, h2, h3, h4⟩ := run_own_append (P := P) w t o.type e i z bytes ht hi hz hsize hby hzs v vs h xv n news hs h63 hbytes
  unfold Oper.wp execOp
  simp only [ho, resolve, invoke, builtin, Sem.run_bind, Sem.run_pure, Result.andThen_ok, List.map_toArray, List.map_cons, List.map_nil, hv, hx, hr]
  exact hK v' w' h2 h3 h4

theorem wpList_own_append {P : Program} (w : World) {ops : Array Oper} {rest : List Oper} {o : Oper} {a : Act} {Q : Exit → Act → World → Prop} (hgd : o.guard = none) (s x : Operand) (t : TypeId)
    (ho : o.op = .call { callee := .builtin .append, args := #[s, x], argTypes := #[t, t] })
    (e : TypeId) (i : TypeInfo) (z : Value) (bytes : Nat) (ht : P.underlying t = some (.slice e)) (hi : P.info? e = some i) (hz : i.zero = some z)
    (hsize : i.size = 1) (hby : i.bytes = bytes) (hzs : z.cells.size = 1) (v : Value) (vs : List Value) (hv : a.eval s = v) (h : Own w v vs) (xv : Value) (n : Nat) (news : List Value) (hx : a.eval x = xv) (hs : Src P 1 t xv n news w)
    (h63 : vs.length + n ≤ maxLen) (hbytes : (vs.length + n) * bytes ≤ 140737488355328)
    (hK : ∀ v' w', Own w' v' (vs ++ news) → Eff (fun k => v.ownBlock = some k) w w' → (v'.ownBlock = v.ownBlock ∨ v'.ownBlock = some w.heap.size) → wpList P ops Q rest (a.put o.dst v') w') : wpList P ops Q (o :: rest) a w :=
  wpList_plain hgd fun _ hK' => wp_own_append w s x t ho e i z bytes ht hi hz hsize hby hzs v vs hv h xv n news hx hs h63 hbytes fun v' w' h2 h3 h4 => hK' _ _ (hK v' w' h2 h3 h4)

theorem step_own_append {P : Program} (w : World) {ops : Array Oper} {o : Oper} {a : Act} {K : Act → World → Prop} {Q : Exit → Act → World → Prop} {E : Prop} (hgd : o.guard = none) (s x : Operand) (t : TypeId)
    (ho : o.op = .call { callee := .builtin .append, args := #[s, x], argTypes := #[t, t] })
    (e : TypeId) (i : TypeInfo) (z : Value) (bytes : Nat) (ht : P.underlying t = some (.slice e)) (hi : P.info? e = some i) (hz : i.zero = some z)
    (hsize : i.size = 1) (hby : i.bytes = bytes) (hzs : z.cells.size = 1) (v : Value) (vs : List Value) (hv : a.eval s = v) (h : Own w v vs) (xv : Value) (n : Nat) (news : List Value) (hx : a.eval x = xv) (hs : Src P 1 t xv n news w)
    (h63 : vs.length + n ≤ maxLen) (hbytes : (vs.length + n) * bytes ≤ 140737488355328)
    (hK : ∀ v' w', Own w' v' (vs ++ news) → Eff (fun k => v.ownBlock = some k) w w' → (v'.ownBlock = v.ownBlock ∨ v'.ownBlock = some w.heap.size) → K (a.put o.dst v') w') :
    if Region.wanted o (yielded ops a.tmps) = true then Oper.wp P o a w K Q else E := by
  have hw : Region.wanted o (yielded ops a.tmps) = true := by simp [Region.wanted, hgd]
  rw [if_pos hw]
  exact wp_own_append w s x t ho e i z bytes ht hi hz hsize hby hzs v vs hv h xv n news hx hs h63 hbytes hK

/-- A slice of nothing. -/
theorem Own.zero {w : World} {g : Nat} (o : Nat) (hg : g < w.heap.size) : Own w (.slice (some ⟨g, o, none⟩) 0 0) [] :=
  .inr ⟨g, o, 0, rfl, hg, Nat.le_refl _, by simp [maxLen], fun j hj => absurd hj (Nat.not_lt_zero j), fun j u hu => by simp at hu⟩

end Go.Proofs.Ytliaeknidmbelaa
