/-
  Proved here: what stays of QueueOrder's four rows (queue, out, all, ends) when one of them is written; no condition.
-/
import Derived.Test.YtliaeknidmbelaaQ8
import Derived.Test.YtliaeknidmbelaaQOrd
namespace Go.Proofs.Ytliaeknidmbelaa
open Go.RowKit

def i64s (E : List Nat) : List Value := E.map fun (e : Nat) => Value.int .i64 (Int.ofNat e)
theorem i64s_length (E : List Nat) : (i64s E).length = E.length := by simp [i64s]
theorem i64s_append (A B : List Nat) : i64s (A ++ B) = i64s A ++ i64s B := by simp [i64s]

/-- A row of the law's own: behind 'lo', and not the queue's. -/
def Apart (lo : Nat) (O R : Nat → Prop) (v : Value) : Prop := ∀ b, v.ownBlock = some b → lo ≤ b ∧ ¬ O b ∧ ¬ R b
def Disj (v u : Value) : Prop := ∀ b, v.ownBlock = some b → u.ownBlock ≠ some b
theorem Disj.symm {v u : Value} (h : Disj v u) : Disj u v := fun b hb hv => h b hv hb

structure Ord (W wr : World) (q : Nat) (ov av ev : Value) (xo xa : List Int) (E : List Nat) (O R : Nat → Prop) (v : Value) (vs : List Value) (L : List (List Int)) (begun : Bool) (credit sent : Int) : Prop where
  st : QSt wr O R q 65536 v vs L begun credit sent
  o : Own wr ov (u8s xo)
  a : Own wr av (u8s xa)
  e : Own wr ev (i64s E)
  ro : Apart W.heap.size O R ov
  ra : Apart W.heap.size O R av
  re : Apart W.heap.size O R ev
  oa : Disj ov av
  oe : Disj ov ev
  ae : Disj av ev
  lo : ∀ k, O k → W.heap.size ≤ k
  bel : Below W.heap.size W wr

section
variable {W wr w' : World} {q : Nat} {ov av ev : Value} {xo xa : List Int} {E : List Nat} {O R : Nat → Prop} {v : Value} {vs : List Value} {L : List (List Int)} {begun : Bool} {credit sent : Int}

theorem Ord.below (h : Ord W wr q ov av ev xo xa E O R v vs L begun credit sent) (hb : Below wr.heap.size wr w') : Ord W w' q ov av ev xo xa E O R v vs L begun credit sent :=
  ⟨h.st.below hb, h.o.below hb, h.a.below hb, h.e.below hb, h.ro, h.ra, h.re, h.oa, h.oe, h.ae, h.lo, h.bel.trans (hb.mono h.bel.size)⟩

theorem Ord.queue (h : Ord W wr q ov av ev xo xa E O R v vs L begun credit sent) {O' R' : Nat → Prop} {v' : Value} {vs' : List Value} {L' : List (List Int)} {begun' : Bool} {credit' sent' : Int}
    (hst : QSt w' O' R' q 65536 v' vs' L' begun' credit' sent') (he : Eff O wr w') (hO : ∀ k, O' k → O k ∨ wr.heap.size ≤ k) (hR : ∀ k, R' k → R k ∨ wr.heap.size ≤ k) : Ord W w' q ov av ev xo xa E O' R' v' vs' L' begun' credit' sent' := by
  have ap : ∀ {u : Value} {us : List Value}, Own wr u us → Apart W.heap.size O R u → Own w' u us ∧ Apart W.heap.size O' R' u := fun hu ha =>
    ⟨hu.eff he (fun k hk => (ha k hk).2.1), fun b hb => by
      obtain ⟨a1, a2, a3⟩ := ha b hb
      have := hu.lt b hb
      refine ⟨a1, fun h6 => ?_, fun h6 => ?_⟩
      · rcases hO b h6 with h7 | h7
        · exact a2 h7
        · omega
      · rcases hR b h6 with h7 | h7
        · exact a3 h7
        · omega⟩
  have o := ap h.o h.ro
  have a := ap h.a h.ra
  have e := ap h.e h.re
  have hs := h.bel.size
  exact ⟨hst, o.1, a.1, e.1, o.2, a.2, e.2, h.oa, h.oe, h.ae, fun k hk => by rcases hO k hk with h6 | h6; exact h.lo k h6; omega, neweff_trans h.bel he h.lo⟩

/-- What an append to one of the law's own rows leaves. -/
theorem grow_apart {u u' : Value} (hl : ∀ k, O k ∨ R k → k < wr.heap.size) (hW : W.heap.size ≤ wr.heap.size) (ha : Apart W.heap.size O R u) (hb : u'.ownBlock = u.ownBlock ∨ u'.ownBlock = some wr.heap.size) : Apart W.heap.size O R u' := by
  intro b hub
  rcases hb with h | h
  · exact ha b (h ▸ hub)
  · rw [h] at hub
    simp at hub
    subst hub
    exact ⟨hW, fun h6 => by have := hl _ (.inl h6); omega, fun h6 => by have := hl _ (.inr h6); omega⟩
theorem grow_disj {u u' x : Value} {xs : List Value} (hx : Own wr x xs) (hd : Disj u x) (hb : u'.ownBlock = u.ownBlock ∨ u'.ownBlock = some wr.heap.size) : Disj u' x := by
  intro b hub hxb
  rcases hb with h | h
  · exact hd b (h ▸ hub) hxb
  · rw [h] at hub
    simp at hub
    subst hub
    have := hx.lt _ hxb
    omega

theorem Ord.appO (h : Ord W wr q ov av ev xo xa E O R v vs L begun credit sent) {ov' : Value} {xo' : List Int} (hown : Own w' ov' (u8s xo')) (he : Eff (fun k => ov.ownBlock = some k) wr w') (hb : ov'.ownBlock = ov.ownBlock ∨ ov'.ownBlock = some wr.heap.size) :
    Ord W w' q ov' av ev xo' xa E O R v vs L begun credit sent :=
  ⟨h.st.eff he (fun k hk e => by obtain ⟨-, a2, a3⟩ := h.ro k e; rcases hk with h6 | h6; exact a2 h6; exact a3 h6), hown, h.a.eff he (fun k hk e => h.oa k e hk), h.e.eff he (fun k hk e => h.oe k e hk),
    grow_apart h.st.lt h.bel.size h.ro hb, h.ra, h.re, grow_disj h.a h.oa hb, grow_disj h.e h.oe hb, h.ae, h.lo, neweff_trans h.bel he (fun k hk => (h.ro k hk).1)⟩
theorem Ord.appA (h : Ord W wr q ov av ev xo xa E O R v vs L begun credit sent) {av' : Value} {xa' : List Int} (hown : Own w' av' (u8s xa')) (he : Eff (fun k => av.ownBlock = some k) wr w') (hb : av'.ownBlock = av.ownBlock ∨ av'.ownBlock = some wr.heap.size) :
    Ord W w' q ov av' ev xo xa' E O R v vs L begun credit sent :=
  ⟨h.st.eff he (fun k hk e => by obtain ⟨-, a2, a3⟩ := h.ra k e; rcases hk with h6 | h6; exact a2 h6; exact a3 h6), h.o.eff he (fun k hk e => h.oa k hk e), hown, h.e.eff he (fun k hk e => h.ae k e hk),
    h.ro, grow_apart h.st.lt h.bel.size h.ra hb, h.re, (grow_disj h.o h.oa.symm hb).symm, h.oe, grow_disj h.e h.ae hb, h.lo, neweff_trans h.bel he (fun k hk => (h.ra k hk).1)⟩
theorem Ord.appE (h : Ord W wr q ov av ev xo xa E O R v vs L begun credit sent) {ev' : Value} {E' : List Nat} (hown : Own w' ev' (i64s E')) (he : Eff (fun k => ev.ownBlock = some k) wr w') (hb : ev'.ownBlock = ev.ownBlock ∨ ev'.ownBlock = some wr.heap.size) :
    Ord W w' q ov av ev' xo xa E' O R v vs L begun credit sent :=
  ⟨h.st.eff he (fun k hk e => by obtain ⟨-, a2, a3⟩ := h.re k e; rcases hk with h6 | h6; exact a2 h6; exact a3 h6), h.o.eff he (fun k hk e => h.oe k hk e), h.a.eff he (fun k hk e => h.ae k hk e), hown,
    h.ro, h.ra, grow_apart h.st.lt h.bel.size h.re hb, h.oa, (grow_disj h.o h.oe.symm hb).symm, (grow_disj h.a h.ae.symm hb).symm, h.lo, neweff_trans h.bel he (fun k hk => (h.re k hk).1)⟩

theorem Ord.start (hq : QSt wr O R q 65536 v vs L begun credit sent) (hl : ∀ k, O k → W.heap.size ≤ k) (hb : Below W.heap.size W wr) : Ord W wr q (.slice none 0 0) (.slice none 0 0) (.slice none 0 0) [] [] [] O R v vs L begun credit sent :=
  ⟨hq, Own.nil _, Own.nil _, Own.nil _, fun _ h => by simp [Value.ownBlock] at h, fun _ h => by simp [Value.ownBlock] at h, fun _ h => by simp [Value.ownBlock] at h, fun _ h => by simp [Value.ownBlock] at h, fun _ h => by simp [Value.ownBlock] at h, fun _ h => by simp [Value.ownBlock] at h, hl, hb⟩

/-- A row beside the law's rows is written. -/
theorem Ord.other (h : Ord W wr q ov av ev xo xa E O R v vs L begun credit sent) {kv : Value} (hk : Apart W.heap.size O R kv) (ho : Disj ov kv) (ha : Disj av kv) (he' : Disj ev kv) (he : Eff (fun k => kv.ownBlock = some k) wr w') : Ord W w' q ov av ev xo xa E O R v vs L begun credit sent :=
  ⟨h.st.eff he (fun k hk' e => by obtain ⟨-, a2, a3⟩ := hk k e; rcases hk' with h6 | h6; exact a2 h6; exact a3 h6), h.o.eff he (fun k hk' e => ho k hk' e), h.a.eff he (fun k hk' e => ha k hk' e), h.e.eff he (fun k hk' e => he' k hk' e),
    h.ro, h.ra, h.re, h.oa, h.oe, h.ae, h.lo, neweff_trans h.bel he (fun k hk' => (hk k hk').1)⟩
/-- Another row of ends. -/
theorem Ord.swap (h : Ord W wr q ov av ev xo xa E O R v vs L begun credit sent) {kv : Value} {E' : List Nat} (hown : Own wr kv (i64s E')) (hk : Apart W.heap.size O R kv) (ho : Disj ov kv) (ha : Disj av kv) : Ord W wr q ov av kv xo xa E' O R v vs L begun credit sent :=
  ⟨h.st, h.o, h.a, hown, h.ro, h.ra, hk, h.oa, ho, ha, h.lo, h.bel⟩
/-- The law's bytes, cut. -/
theorem Ord.cut (h : Ord W wr q ov av ev xo xa E O R v vs L begun credit sent) {av' : Value} {xa' : List Int} (hown : Own wr av' (u8s xa')) (hb : av'.ownBlock = av.ownBlock) : Ord W wr q ov av' ev xo xa' E O R v vs L begun credit sent :=
  ⟨h.st, h.o, hown, h.e, h.ro, fun b hb' => h.ra b (hb ▸ hb'), h.re, fun b h1 h2 => h.oa b h1 (hb ▸ h2), h.oe, fun b h1 h2 => h.ae b (hb ▸ h1) h2, h.lo, h.bel⟩
end

theorem Own.cutHi {w : World} {a : Option Addr} {n cap : Nat} {vs : List Value} (h : Own w (.slice a n cap) vs) (k : Nat) (hk : k ≤ vs.length) : Own w (.slice a k cap) (vs.take k) := by
  rcases h with ⟨h1, rfl⟩ | ⟨g', o', cap', hv, hg, h1, h2, h3, h4⟩
  · simp only [Value.slice.injEq] at h1
    obtain ⟨rfl, -, rfl⟩ := h1
    have : k = 0 := by simpa using hk
    subst this
    exact .inl ⟨rfl, rfl⟩
  · simp only [Value.slice.injEq] at hv
    obtain ⟨rfl, -, rfl⟩ := hv
    have hl : (vs.take k).length = k := by rw [List.length_take]; omega
    refine .inr ⟨g', o', cap, by rw [hl], hg, by omega, h2, h3, fun j u hu => h4 j u ?_⟩
    rw [List.getElem?_take] at hu
    split at hu
    · exact hu
    · simp at hu
theorem cut_hi_any {P : Program} {t e : TypeId} (ht : P.underlying t = some (.slice e)) (hz : ∀ w, (Go.sizeOf e).run P w = .ok 1 w) (w : World) (a : Option Addr) (len cap h : Nat) (hh : h ≤ cap) :
    (Instr.slice t (.slice a len cap) none (some (.int .i64 (h : Int))) none).run P w = .ok (.slice a h cap) w := by
  have ht' : P.underlying t = some (.slice (P.elem t)) := by simp [Program.elem, ht]
  have he : P.elem t = e := by simp [Program.elem, ht]
  rw [run_slice_h w t _ _ _ ht' .i64 _ (by omega) (by omega), he, hz]
  cases a with
  | none => simp [Result.andThen, sliced]
  | some ad => obtain ⟨b, o, sp⟩ := ad; cases sp <;> simp [Result.andThen, sliced, Addr.add]
theorem take_flat (A : List Int) (L : List (List Int)) (k : Nat) : (A ++ L.flatten).take (A.length + tot (L.take k)) = A ++ (L.take k).flatten := by
  have e : L.flatten = (L.take k).flatten ++ (L.drop k).flatten := by rw [← List.flatten_append, List.take_append_drop]
  rw [e, ← List.append_assoc, List.take_append_of_le_length (by rw [List.length_append, flat_length]; exact Nat.le_refl _)]
  exact List.take_of_length_le (by rw [List.length_append, flat_length]; exact Nat.le_refl _)
theorem u8s_take (A : List Int) (k : Nat) : (u8s A).take k = u8s (A.take k) := by simp [u8s, List.map_take]
theorem atM_step (o e : Nat) (E : List Nat) : atM o (e :: E) = if 0 < o ∧ o ≤ e then e else atM o E := rfl

end Go.Proofs.Ytliaeknidmbelaa
