/-
  Proved here: the program's pace and the document's, side by side: they answer alike, and stay alike; no condition but the sizes that are named.
-/
import Derived.Test.YtpboomjnbndcpaaPaceC
import Derived.Test.YtpboomjnbndcpaaPaceR3
import Derived.Test.YtpboomjnbndcpaaPaceR4
import Derived.Test.YtpboomjnbndcpaaPaceR5
namespace Go.Proofs.Ytpboomjnbndcpaa
open Go.RowKit Go.MapKept

def projL (L : List Mrow) : List Rrow := L.map fun r => (r.1, r.2.1)
theorem projL_len (L : List Mrow) : (projL L).length = L.length := by simp [projL]
theorem projL_find (L : List Mrow) (x : Pre) : (projL L).findIdx? (fun r => decide (r.1 = x)) = L.findIdx? (fun r => decide (r.1 = x)) := by
  unfold projL; rw [List.findIdx?_map]; rfl
def whenM (g : Int) (L : List Mrow) (x : Pre) : Int := match mget L x with | none => 0 | some t => t + g

/-- What holds of a pace that is in use. -/
structure Syn (g : Int) (L : List Mrow) (ck : Nat) (y : Pre) (u : Int) : Prop where
  gap : 0 ≤ g ∧ g ≤ 65535
  tidy : Tidy L ck
  ticks : ∀ r ∈ L, 0 ≤ r.2.1 ∧ r.2.1 ≤ 1099511627776
  last : L = [] ∨ mget L y = some u

theorem mget_mem {L : List Mrow} {x : Pre} {t : Int} (h : mget L x = some t) : ∃ r ∈ L, r.1 = x ∧ r.2.1 = t := by
  induction L with
  | nil => simp [mget] at h
  | cons r L ih =>
    unfold mget at h
    split at h
    · rename_i he
      exact ⟨r, by simp, he, by simpa using h⟩
    · obtain ⟨q, hq, h1, h2⟩ := ih h
      exact ⟨q, by simp [hq], h1, h2⟩
theorem Syn.tick {g : Int} {L : List Mrow} {ck : Nat} {y : Pre} {u : Int} (h : Syn g L ck y u) {x : Pre} {t : Int} (hx : mget L x = some t) : 0 ≤ t ∧ t ≤ 1099511627776 := by
  obtain ⟨r, hr, -, rfl⟩ := mget_mem hx
  exact h.ticks r hr
theorem Syn.rticks {g : Int} {L : List Mrow} {ck : Nat} {y : Pre} {u : Int} (h : Syn g L ck y u) : Ticks (projL L) := by
  intro r hr
  obtain ⟨q, hq, rfl⟩ := List.mem_map.1 hr
  exact h.ticks q hq

theorem whenI_proj (g : Int) (L : List Mrow) (x : Pre) : whenI g (projL L) x = whenM g L x := by
  unfold whenI whenM
  rw [projL_find, mget_find]
  cases h : L.findIdx? (fun r => decide (r.1 = x)) with
  | none => rfl
  | some j =>
    have hj := (List.findIdx?_eq_some_iff_getElem.1 h).1
    simp [projL, hj]
theorem findI_proj (L : List Mrow) (x : Pre) : (findI (projL L) x < 0) ↔ mget L x = none := by
  unfold findI
  rw [projL_find, mget_find]
  cases L.findIdx? (fun r => decide (r.1 = x)) with
  | none => simp
  | some j => simp
theorem ready_proj {g : Int} {L : List Mrow} {ck : Nat} {y : Pre} {u : Int} (h : Syn g L ck y u) (x : Pre) (now : Int) : refReadyB g (projL L) x now = readyB g L y u x now := by
  unfold refReadyB readyB
  rw [whenI_proj]
  cases hx : mget L x with
  | none =>
    have := (findI_proj L x).2 hx
    simp [this]
  | some t =>
    have hn : ¬ findI (projL L) x < 0 := fun e => by rw [(findI_proj L x).1 e] at hx; cases hx
    have hw : whenM g L x = t + g := by unfold whenM; rw [hx]
    rw [hw]
    simp only [hn, decide_false, Bool.false_or]
    split
    · rename_i hc
      obtain ⟨h0, rfl, rfl⟩ := hc
      rcases h.last with rfl | hl
      · simp [mget] at hx
      · rw [hl] at hx
        have : u = t := by simpa using hx
        subst this
        simp; omega
    · rfl

/-- What a Note answers, and what is there behind it. -/
def noteE (g : Int) (L : List Mrow) (y : Pre) (u : Int) (x : Pre) (now : Int) : Int :=
  if goodI x.1 x.2 = false ∨ now < 0 ∨ 1099511627776 < now then 2 else if readyB g L y u x now = false then 8 else 0
def noteL (L : List Mrow) (ck : Nat) (x : Pre) (now : Int) : List Mrow := match mget L x with | none => L ++ [(x, now, ck)] | some _ => mput L x now
def noteC (L : List Mrow) (ck : Nat) (x : Pre) : Nat := match mget L x with | none => ck + 1 | some _ => ck

theorem mget_append {L : List Mrow} {x : Pre} {t : Int} {k : Nat} (h : mget L x = none) : mget (L ++ [(x, t, k)]) x = some t := by
  induction L with
  | nil => simp [mget]
  | cons r L ih =>
    unfold mget at h
    split at h
    · cases h
    · rename_i he
      simp only [List.cons_append, mget, he, if_false]
      exact ih h
theorem mget_put {L : List Mrow} {x : Pre} {t s : Int} (h : mget L x = some s) : mget (mput L x t) x = some t := by
  induction L with
  | nil => simp [mget] at h
  | cons r L ih =>
    unfold mput
    split
    · rename_i he; simp [mget, he]
    · rename_i he
      simp only [mget, he, if_false] at h ⊢
      exact ih h
theorem mput_births (L : List Mrow) (x : Pre) (t : Int) : (mput L x t).map (·.2.2) = L.map (·.2.2) := by
  induction L with
  | nil => rfl
  | cons r L ih => unfold mput; split <;> simp [ih]
theorem mput_len (L : List Mrow) (x : Pre) (t : Int) : (mput L x t).length = L.length := by
  induction L with
  | nil => rfl
  | cons r L ih => unfold mput; split <;> simp [ih]
theorem mput_mem {L : List Mrow} {x : Pre} {t : Int} {r : Mrow} (h : r ∈ mput L x t) : r ∈ L ∨ r.2.1 = t := by
  induction L with
  | nil => simp [mput] at h
  | cons q L ih =>
    unfold mput at h
    split at h
    · rcases List.mem_cons.1 h with rfl | h
      · exact .inr rfl
      · exact .inl (by simp [h])
    · rcases List.mem_cons.1 h with rfl | h
      · exact .inl (by simp)
      · rcases ih h with h | h
        · exact .inl (by simp [h])
        · exact .inr h

theorem Syn.note {g : Int} {L : List Mrow} {ck : Nat} {y : Pre} {u : Int} (h : Syn g L ck y u) (x : Pre) (now : Int) (hn : 0 ≤ now ∧ now ≤ 1099511627776) : Syn g (noteL L ck x now) (noteC L ck x) x now := by
  unfold noteL noteC
  cases hx : mget L x with
  | none =>
    refine ⟨h.gap, ⟨?_, ?_⟩, ?_, .inr (mget_append hx)⟩
    · intro r hr
      rcases List.mem_append.1 hr with hr | hr
      · have := h.tidy.born r hr; show _ < ck + 1; omega
      · simp only [List.mem_singleton] at hr; subst hr; simp
    · rw [List.map_append, List.nodup_append]
      refine ⟨h.tidy.births, by simp, fun a ha c hc => ?_⟩
      obtain ⟨r, hr, rfl⟩ := List.mem_map.1 ha
      have := h.tidy.born r hr
      simp at hc
      omega
    · intro r hr
      rcases List.mem_append.1 hr with hr | hr
      · exact h.ticks r hr
      · simp only [List.mem_singleton] at hr; subst hr; exact hn
  | some t =>
    refine ⟨h.gap, ⟨?_, ?_⟩, ?_, .inr (mget_put hx)⟩
    · intro r hr
      have h1 : r.2.2 ∈ (mput L x now).map (·.2.2) := List.mem_map.2 ⟨r, hr, rfl⟩
      rw [mput_births] at h1
      obtain ⟨q, hq, e⟩ := List.mem_map.1 h1
      have := h.tidy.born q hq
      show _ < ck
      omega
    · rw [mput_births]; exact h.tidy.births
    · intro r hr
      rcases mput_mem hr with hr | hr
      · exact h.ticks r hr
      · rw [hr]; exact hn
theorem noteL_len (L : List Mrow) (ck : Nat) (x : Pre) (now : Int) : (noteL L ck x now).length ≤ L.length + 1 := by
  unfold noteL
  cases mget L x with
  | none => simp
  | some t => simp [mput_len]
theorem noteL_ne (L : List Mrow) (ck : Nat) (x : Pre) (now : Int) : noteL L ck x now ≠ [] := by
  unfold noteL
  cases hx : mget L x with
  | none => simp
  | some t =>
    intro e
    have := congrArg List.length e
    simp only [mput_len, List.length_nil] at this
    rw [List.length_eq_zero_iff.1 this] at hx
    simp [mget] at hx
theorem projL_note_old {L : List Mrow} {x : Pre} {now t : Int} (hx : mget L x = some t) : ∃ i, ∃ hi : i < (projL L).length, findI (projL L) x = i ∧ projL (mput L x now) = (projL L).set i ((projL L)[i].1, now) := by
  have hm := hx
  rw [mget_find] at hm
  cases hj : L.findIdx? (fun r => decide (r.1 = x)) with
  | none => rw [hj] at hm; simp at hm
  | some j =>
    have hlt := (List.findIdx?_eq_some_iff_getElem.1 hj).1
    refine ⟨j, by rw [projL_len]; exact hlt, ?_, ?_⟩
    · unfold findI; rw [projL_find, hj]
    · rw [mput_set x now L j hj]
      simp [projL, List.map_set, hlt]

/-- The program's Note, whole. -/
theorem pNote_all (b m : Nat) (g : Int) (L : List Mrow) (ck : Nat) (y : Pre) (u : Int) (x : Pre) (now : Int) (w : World) (hp : PaceAt w b m g L ck y u) (hs : Syn g L ck y u) (hx : 0 ≤ x.1 ∧ x.1 < 4294967296) :
    Calls Try.prog 9 #[.pointer (some ⟨b, 0, none⟩), preV x, .int .i64 now] w fun e w' => e = .returned (.int .i64 (noteE g L y u x now)) ∧
      (noteE g L y u x now = 0 → PaceAt w' b m g (noteL L ck x now) (noteC L ck x) x now) ∧ (noteE g L y u x now ≠ 0 → PaceAt w' b m g L ck y u) ∧ Eff (fun k => k = b ∨ k = m) w w' := by
  unfold noteE
  by_cases hbad : goodI x.1 x.2 = false ∨ now < 0 ∨ 1099511627776 < now
  · rw [if_pos hbad]
    exact (note_arg b m g L ck y u x now w hp hx hbad).mono fun e w' ⟨he, hb⟩ => ⟨he, fun h => absurd h (by decide), fun _ => hp.below hb, Eff.of_below _ hb⟩
  · rw [if_neg hbad]
    have hG : goodI x.1 x.2 = true := by cases h : goodI x.1 x.2 with
      | true => rfl
      | false => exact absurd (.inl h) hbad
    have hn : 0 ≤ now ∧ now ≤ 1099511627776 := ⟨by have := fun h => hbad (.inr (.inl h)); omega, by have := fun h => hbad (.inr (.inr h)); omega⟩
    cases hm : mget L x with
    | none =>
      have hr : readyB g L y u x now = true := by unfold readyB; rw [hm]
      rw [hr, if_neg (by simp)]
      unfold noteL noteC
      rw [hm]
      exact (note_ok_new b m g L ck y u x now w hp hx hG hn hm hs.tidy).mono fun e w' ⟨he, h1, h2⟩ => ⟨he, fun _ => h1, fun h => absurd rfl h, h2⟩
    | some t =>
      have ht := hs.tick hm
      cases hr : readyB g L y u x now with
      | false =>
        rw [if_pos rfl]
        exact (note_state b m g L ck y u x now t w hp hx hG hn hm hs.gap ht hr).mono fun e w' ⟨he, hb⟩ => ⟨he, fun h => absurd h (by decide), fun _ => hp.below hb, Eff.of_below _ hb⟩
      | true =>
        rw [if_neg (by simp)]
        unfold noteL noteC
        rw [hm]
        exact (note_ok_old b m g L ck y u x now t w hp hx hG hn hm hs.tidy hs.gap ht hr).mono fun e w' ⟨he, h1, h2⟩ => ⟨he, fun _ => h1, fun h => absurd rfl h, h2⟩

/-- The document's pace at block r; its rows lie in memory of its own, from 'lo' on; where there are none, the slice is nil. -/
def RefIs (Z : Prop) (w : World) (lo r : Nat) (g : Int) (R : List Rrow) : Prop := lo ≤ r ∧ ∃ v, RefAt w r lo g v R ∧ (Z → R = [] → v = .slice none 0 0)
theorem RefAt.lower {w : World} {r base base' : Nat} {g : Int} {v : Value} {R : List Rrow} (h : RefAt w r base g v R) (hb : base' ≤ base) : RefAt w r base' g v R := by
  refine ⟨h.blk, ?_⟩
  obtain ⟨h1, h2⟩ := h.own
  refine ⟨h1, ?_⟩
  rcases h2 with h2 | ⟨gb, cap, cur, hv, hg, rest⟩
  · exact .inl h2
  · exact .inr ⟨gb, cap, cur, hv, Nat.le_trans hb hg, rest⟩
theorem RefIs.below {Z : Prop} {w w' : World} {lo r : Nat} {g : Int} {R : List Rrow} (h : RefIs Z w lo r g R) (hb : Below w.heap.size w w') : RefIs Z w' lo r g R := by
  obtain ⟨h0, v, h1, h2⟩ := h
  exact ⟨h0, v, h1.below hb, h2⟩

theorem mNote_all {Z : Prop} (lo r : Nat) (g : Int) (L : List Mrow) (ck : Nat) (y : Pre) (u : Int) (x : Pre) (now : Int) (w : World) (hp : RefIs Z w lo r g (projL L)) (hs : Syn g L ck y u) (hlen : L.length ≤ 1000000) (hlo : lo ≤ w.heap.size) (hx : 0 ≤ x.1 ∧ x.1 < 4294967296) :
    Calls Try.prog 14 #[.pointer (some ⟨r, 0, none⟩), preV x, .int .i64 now] w fun e w' => e = .returned (.int .i64 (noteE g L y u x now)) ∧
      (noteE g L y u x now = 0 → RefIs Z w' lo r g (projL (noteL L ck x now))) ∧ (noteE g L y u x now ≠ 0 → RefIs Z w' lo r g (projL L)) ∧ Eff (fun k => k = r) w w' := by
  obtain ⟨h0, v, hv, hnil⟩ := hp
  have hl : (projL L).length ≤ 1000000 := by rw [projL_len]; exact hlen
  have hne := noteL_ne L ck x now
  have hpne : ∀ v', Z → projL (noteL L ck x now) = [] → v' = Value.slice none 0 0 := fun v' _ e => absurd (List.map_eq_nil_iff.1 e) hne
  unfold noteE
  by_cases hbad : goodI x.1 x.2 = false ∨ now < 0 ∨ 1099511627776 < now
  · rw [if_pos hbad]
    exact (refNote_arg r lo g v _ x now w hv hx hbad).mono fun e w' ⟨he, hb⟩ => ⟨he, fun h => absurd h (by decide), fun _ => ⟨h0, v, hv.below hb, hnil⟩, Eff.of_below _ hb⟩
  · rw [if_neg hbad]
    have hG : goodI x.1 x.2 = true := by cases h : goodI x.1 x.2 with
      | true => rfl
      | false => exact absurd (.inl h) hbad
    have hn : 0 ≤ now ∧ now ≤ 1099511627776 := ⟨by have := fun h => hbad (.inr (.inl h)); omega, by have := fun h => hbad (.inr (.inr h)); omega⟩
    have hrp := ready_proj hs x now
    cases hm : mget L x with
    | none =>
      have hr : readyB g L y u x now = true := by unfold readyB; rw [hm]
      rw [hr, if_neg (by simp)]
      have hf : findI (projL L) x = -1 := by
        rcases findI_range (projL L) x with ⟨h, -⟩ | ⟨i, h, -, -⟩
        · exact h
        · have := (findI_proj L x).2 hm; omega
      have e : projL (noteL L ck x now) = projL L ++ [(x, now)] := by unfold noteL; rw [hm]; simp [projL]
      rw [e] at hpne ⊢
      exact (refNote_new r lo g v _ x now w hv hl hs.gap hs.rticks hx hG hn hf).mono fun e w' ⟨he, ⟨v', h1⟩, h2⟩ => ⟨he, fun _ => ⟨h0, v', h1.lower hlo, hpne v'⟩, fun h => absurd rfl h, h2⟩
    | some t =>
      cases hr : readyB g L y u x now with
      | false =>
        rw [if_pos rfl]
        rw [hr] at hrp
        exact (refNote_state r lo g v _ x now w hv hl hs.gap hs.rticks hx hG hn hrp).mono fun e w' ⟨he, hb⟩ => ⟨he, fun h => absurd h (by decide), fun _ => ⟨h0, v, hv.below hb, hnil⟩, Eff.of_below _ hb⟩
      | true =>
        rw [if_neg (by simp)]
        rw [hr] at hrp
        obtain ⟨i, hi, hf, he⟩ := projL_note_old (now := now) hm
        have e : projL (noteL L ck x now) = (projL L).set i ((projL L)[i].1, now) := by unfold noteL; rw [hm]; exact he
        rw [e] at hpne ⊢
        exact (refNote_old r lo g v _ x now w i hv hl hs.gap hs.rticks hx hG hn hf hi hrp).mono fun e w' ⟨he, ⟨v', h1⟩, h2⟩ => ⟨he, fun _ => ⟨h0, v', h1.lower hlo, hpne v'⟩, fun h => absurd rfl h, h2⟩

/-- The program's Ready, whole. -/
theorem pReady_all (b m : Nat) (g : Int) (L : List Mrow) (ck : Nat) (y : Pre) (u : Int) (x : Pre) (now : Int) (w : World) (hp : PaceAt w b m g L ck y u) (hs : Syn g L ck y u) :
    Calls Try.prog 8 #[.pointer (some ⟨b, 0, none⟩), preV x, .int .i64 now] w fun e w' => e = .returned (.bool (readyB g L y u x now)) ∧ Below w.heap.size w w' := by
  cases hm : mget L x with
  | none =>
    have hr : readyB g L y u x now = true := by unfold readyB; rw [hm]
    rw [hr]
    exact ready_new b m g L ck y u x now w hp hm
  | some t => exact ready_old b m g L ck y u x now t w hp hm hs.gap (hs.tick hm)
theorem mReady_all {Z : Prop} (lo r : Nat) (g : Int) (L : List Mrow) (ck : Nat) (y : Pre) (u : Int) (x : Pre) (now : Int) (w : World) (hp : RefIs Z w lo r g (projL L)) (hs : Syn g L ck y u) (hlen : L.length ≤ 1000000) :
    Calls Try.prog 12 #[.pointer (some ⟨r, 0, none⟩), preV x, .int .i64 now] w fun e w' => e = .returned (.bool (readyB g L y u x now)) ∧ Below w.heap.size w w' := by
  obtain ⟨h0, v, hv, hnil⟩ := hp
  have := refReady_any r lo g v (projL L) x now w hv (by rw [projL_len]; exact hlen) hs.gap hs.rticks
  rw [ready_proj hs] at this
  exact this
theorem pWhen_all (b m : Nat) (g : Int) (L : List Mrow) (ck : Nat) (y : Pre) (u : Int) (x : Pre) (w : World) (hp : PaceAt w b m g L ck y u) (hs : Syn g L ck y u) :
    Calls Try.prog 15 #[.pointer (some ⟨b, 0, none⟩), preV x] w fun e w' => e = .returned (.int .i64 (whenM g L x)) ∧ Below w.heap.size w w' :=
  when_any b m g L ck y u x w hp hs.gap (fun _ h => hs.tick h)
theorem mWhen_all {Z : Prop} (lo r : Nat) (g : Int) (L : List Mrow) (ck : Nat) (y : Pre) (u : Int) (x : Pre) (w : World) (hp : RefIs Z w lo r g (projL L)) (hs : Syn g L ck y u) (hlen : L.length ≤ 1000000) :
    Calls Try.prog 16 #[.pointer (some ⟨r, 0, none⟩), preV x] w fun e w' => e = .returned (.int .i64 (whenM g L x)) ∧ Below w.heap.size w w' := by
  obtain ⟨h0, v, hv, hnil⟩ := hp
  have := refWhen_any r lo g v (projL L) x w hv (by rw [projL_len]; exact hlen) hs.gap hs.rticks
  rw [whenI_proj] at this
  exact this

/-- A pace's blocks and the document's are other ones: they hold other things. -/
theorem RefIs.keepP {Z : Prop} {w w' : World} {b m lo r ck : Nat} {g g' : Int} {L : List Mrow} {y : Pre} {u : Int} {R : List Rrow} (h : RefIs Z w lo r g R) (hp : PaceAt w b m g' L ck y u) (he : Eff (fun k => k = b ∨ k = m) w w') : RefIs Z w' lo r g R := by
  obtain ⟨h0, v, hv, hnil⟩ := h
  have hb := hp.blk
  have hm := hp.map
  refine ⟨h0, v, hv.keep he ?_ ?_, hnil⟩
  · have h1 := hv.blk
    rintro (rfl | rfl)
    · rw [h1] at hb; simp at hb
    · rw [h1] at hm; simp at hm
  · intro k hk
    rcases hv.own.2 with ⟨h2, -⟩ | ⟨gb, cap, cur, h2, -, h3, -⟩
    · rw [h2] at hk; simp [Value.ownBlock] at hk
    · rw [h2] at hk
      simp only [Value.ownBlock, Option.some.injEq] at hk
      subst hk
      rintro (rfl | rfl)
      · rw [h3] at hb; simp at hb
      · rw [h3] at hm; simp at hm
theorem PaceAt.keepR {Z : Prop} {w w' : World} {b m lo r ck : Nat} {g g' : Int} {L : List Mrow} {y : Pre} {u : Int} {R : List Rrow} (hp : PaceAt w b m g' L ck y u) (h : RefIs Z w lo r g R) (he : Eff (fun k => k = r) w w') : PaceAt w' b m g' L ck y u := by
  obtain ⟨h0, v, hv, hnil⟩ := h
  have h1 := hv.blk
  have hb := hp.blk
  have hm := hp.map
  exact hp.keep he (by rintro rfl; rw [h1] at hb; simp at hb) (by rintro rfl; rw [h1] at hm; simp at hm)

end Go.Proofs.Ytpboomjnbndcpaa
