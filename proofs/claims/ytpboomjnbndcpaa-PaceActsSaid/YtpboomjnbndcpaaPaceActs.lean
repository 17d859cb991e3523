/-
  Proved here: fairwaylaw20.PaceActs returns true for every input, and its input reads as it did; no condition.
-/
import Derived.Test.YtpboomjnbndcpaaPaceS
import Derived.Test.YtpboomjnbndcpaaPaceL
import Derived.Test.YtpboomjnbndcpaaActs
import Derived.ProofKit
import Derived.OpenShut
import Derived.ShutString
import Derived.ChangeOld
import Derived.Lib.SmallJoins
namespace Go.Proofs.Ytpboomjnbndcpaa.paceActs
open Go.ChangeShapes Go.WideShapes Go.ChangeAt Go.RowKit
set_option linter.unusedVariables false

/-- One act that came in. -/
structure Act where
  fg : Bool
  a : Int
  n : Int
  now : Int
/-- The acts that a slice holds. -/
structure ActsAt (w : World) (ad : Option Addr) (len sb so : Nat) (As : List Act) : Prop where
  size : As.length = len
  at_ : 0 < len → ad = some ⟨sb, so, none⟩ ∧ sb < w.heap.size
  cells : ∀ i (h : i < As.length), w.cell? ⟨sb, so + i * 4, none⟩ = some (.bool As[i].fg) ∧ w.cell? ⟨sb, so + i * 4 + 1, none⟩ = some (.int .u32 As[i].a) ∧ w.cell? ⟨sb, so + i * 4 + 2, none⟩ = some (.int .i64 As[i].n) ∧ w.cell? ⟨sb, so + i * 4 + 3, none⟩ = some (.int .i64 As[i].now)
  range : ∀ i (h : i < As.length), 0 ≤ As[i].a ∧ As[i].a < 4294967296

/-- Both paces, at rest. -/
structure St (Z : Prop) (lo : Nat) (b m r : Nat) (g : Int) (L : List Mrow) (ck : Nat) (y : Pre) (u : Int) (w : World) : Prop where
  p : PaceAt w b m g L ck y u
  q : RefIs Z w lo r g (projL L)
  syn : Syn g L ck y u
  lob : lo ≤ b
  lom : lo ≤ m
theorem St.below {Z : Prop} {lo b m r ck : Nat} {g : Int} {L : List Mrow} {y : Pre} {u : Int} {w w' : World} (h : St Z lo b m r g L ck y u w) (hb : Below w.heap.size w w') : St Z lo b m r g L ck y u w' :=
  ⟨h.p.below hb, h.q.below hb, h.syn, h.lob, h.lom⟩
theorem St.drew {Z : Prop} {lo b m r ck : Nat} {g : Int} {L : List Mrow} {y : Pre} {u : Int} {w : World} (h : St Z lo b m r g L ck y u w) : St Z lo b m r g L ck y u w.drew := h.below (Below.drew (Below.refl _ _))
theorem St.ltr {Z : Prop} {lo b m r ck : Nat} {g : Int} {L : List Mrow} {y : Pre} {u : Int} {w : World} (h : St Z lo b m r g L ck y u w) : b < w.heap.size ∧ m < w.heap.size ∧ r < w.heap.size := by
  obtain ⟨v, hv, -⟩ := h.q.2
  exact ⟨lt_of_heap h.p.blk, lt_of_heap h.p.map, lt_of_heap hv.blk⟩

/-- Behind the program's Note, ahead of the document's. -/
structure Mid (Z : Prop) (lo : Nat) (b m r : Nat) (g : Int) (L : List Mrow) (ck : Nat) (y : Pre) (u : Int) (x : Pre) (now : Int) (w : World) : Prop where
  yes : noteE g L y u x now = 0 → PaceAt w b m g (noteL L ck x now) (noteC L ck x) x now
  no : noteE g L y u x now ≠ 0 → PaceAt w b m g L ck y u
  q : RefIs Z w lo r g (projL L)
  syn : Syn g L ck y u
  lob : lo ≤ b
  lom : lo ≤ m

theorem pNote_st {Z : Prop} (lo b m r ck : Nat) (g : Int) (L : List Mrow) (y : Pre) (u : Int) (x : Pre) (now : Int) (w : World) (h : St Z lo b m r g L ck y u w) (hx : 0 ≤ x.1 ∧ x.1 < 4294967296) :
    Calls Try.prog 9 #[.pointer (some ⟨b, 0, none⟩), preV x, .int .i64 now] w fun e w' => e = .returned (.int .i64 (noteE g L y u x now)) ∧ Mid Z lo b m r g L ck y u x now w' ∧ Eff (fun k => k = b ∨ k = m) w w' :=
  (pNote_all b m g L ck y u x now w h.p h.syn hx).mono fun e w' ⟨he, h1, h2, h3⟩ => ⟨he, ⟨h1, h2, h.q.keepP h.p h3, h.syn, h.lob, h.lom⟩, h3⟩

/-- What is there behind both. -/
def After (Z : Prop) (lo b m r : Nat) (g : Int) (n : Nat) (w : World) : Prop := ∃ (L : List Mrow) (ck : Nat) (y : Pre) (u : Int), L.length ≤ n ∧ St Z lo b m r g L ck y u w

theorem mNote_st {Z : Prop} (lo b m r ck : Nat) (g : Int) (L : List Mrow) (y : Pre) (u : Int) (x : Pre) (now : Int) (w : World) (h : Mid Z lo b m r g L ck y u x now w) (hlen : L.length ≤ 1000000) (hlo : lo ≤ w.heap.size) (hx : 0 ≤ x.1 ∧ x.1 < 4294967296) :
    Calls Try.prog 14 #[.pointer (some ⟨r, 0, none⟩), preV x, .int .i64 now] w fun e w' => e = .returned (.int .i64 (noteE g L y u x now)) ∧ After Z lo b m r g (L.length + 1) w' ∧ Eff (fun k => k = r) w w' :=
  (mNote_all lo r g L ck y u x now w h.q h.syn hlen hlo hx).mono fun e w' ⟨he, h1, h2, h3⟩ => ⟨he, by
    by_cases hz : noteE g L y u x now = 0
    · have hn : 0 ≤ now ∧ now ≤ 1099511627776 := by
        unfold noteE at hz
        split at hz
        · cases hz
        · rename_i hb
          exact ⟨by have := fun h => hb (.inr (.inl h)); omega, by have := fun h => hb (.inr (.inr h)); omega⟩
      exact ⟨_, _, _, _, noteL_len _ _ _ _, (h.yes hz).keepR h.q h3, h1 hz, h.syn.note x now hn, h.lob, h.lom⟩
    · exact ⟨L, ck, y, u, by omega, (h.no hz).keepR h.q h3, h2 hz, h.syn, h.lob, h.lom⟩, h3⟩

theorem st_forget {Z : Prop} {lo b m r ck : Nat} {g : Int} {L : List Mrow} {y : Pre} {u : Int} {w w' : World} (h : St Z lo b m r g L ck y u w) (hp : PaceAt w' b m g [] ck (0, 0) (-1)) (he : Eff (fun k => k = b ∨ k = m) w w') :
    St Z lo b m r g [] ck (0, 0) (-1) (w'.setCell ⟨r, 1, none⟩ (.slice none 0 0)) ∧ ∃ v, w'.cell? ⟨r, 1, none⟩ = some v ∧ w'.frozen? ⟨r, 1, none⟩ = false := by
  obtain ⟨h0, v, hv, -⟩ := h.q.keepP h.p he
  have hrb : b ≠ r := by rintro rfl; have h1 := hv.blk; rw [hp.blk] at h1; simp at h1
  have hrm : m ≠ r := by rintro rfl; have h1 := hv.blk; rw [hp.map] at h1; simp at h1
  refine ⟨⟨⟨heap_setCell_old hp.blk hrb, heap_setCell_old hp.map hrm⟩, ⟨h0, .slice none 0 0, ⟨heap_setCell_same hv.blk 1 _, rfl, .inl ⟨rfl, rfl⟩⟩, fun _ _ => rfl⟩, ⟨h.syn.gap, ⟨by simp, by simp⟩, by simp, .inl rfl⟩, h.lob, h.lom⟩, v, cell_of hv.blk 1, free_of hv.blk 1⟩

/-- The document's slice: as long as the rows. -/
theorem st_slice {Z : Prop} {lo b m r ck : Nat} {g : Int} {L : List Mrow} {y : Pre} {u : Int} {w : World} (h : St Z lo b m r g L ck y u w) : ∃ a cap, w.cell? ⟨r, 0, none⟩ = some (.int .i64 g) ∧ w.cell? ⟨r, 1, none⟩ = some (.slice a L.length cap) := by
  obtain ⟨h0, v, hv, -⟩ := h.q
  have c0 : w.cell? ⟨r, 0, none⟩ = some (.int .i64 g) := cell_of hv.blk 0
  have c1 : w.cell? ⟨r, 1, none⟩ = some v := cell_of hv.blk 1
  rcases hv.form with ⟨h1, h2⟩ | ⟨ab, cap, h1, -⟩
  · have : L.length = 0 := by rw [← projL_len, h2]; rfl
    exact ⟨none, 0, c0, by rw [c1, h1, this]⟩
  · exact ⟨some ⟨ab, 0, none⟩, cap, c0, by rw [c1, h1, projL_len]⟩

set_option maxHeartbeats 1000000 in
theorem walk_big (gap : Int) (a1 a2 : Option Addr) (len1 cap1 len2 cap2 : Nat) (w : World) (h : 150 < len1 ∨ 150 < len2) (hm1 : len1 ≤ maxLen) (hm2 : len2 ≤ maxLen) :
    Calls Try.prog 4 #[.int .i64 gap, .slice a1 len1 cap1, .slice a2 len2 cap2] w fun e w' => e = .returned (.bool true) ∧ Below w.heap.size w w' := by
  unfold maxLen at hm1 hm2
  by_cases h1 : 150 < len1
  · clear h
    go_enter Try.func4, Try.ntmps4
    go_wp2_with (go_at_call 6; refine (lives_any _).mono ?_; rintro e w' ⟨rfl, hb⟩)
    go_ret
    exact ⟨rfl, hb⟩
  · have h2 : 150 < len2 := h.resolve_left h1
    clear h
    go_enter Try.func4, Try.ntmps4
    go_wp2_with (go_at_call 6; refine (lives_any _).mono ?_; rintro e w' ⟨rfl, hb⟩)
    go_ret
    exact ⟨rfl, hb⟩

set_option maxHeartbeats 1000000 in
theorem walk_nil (gap : Int) (a1 a2 : Option Addr) (len1 cap1 len2 cap2 : Nat) (w : World) (h1 : ¬ 150 < len1) (h2 : ¬ 150 < len2) (hg : gap < 0 ∨ 65535 < gap) :
    Calls Try.prog 4 #[.int .i64 gap, .slice a1 len1 cap1, .slice a2 len2 cap2] w fun e w' => e = .returned (.bool true) ∧ Below w.heap.size w w' := by
  have HG := Lib.hid hg
  clear hg
  go_enter Try.func4, Try.ntmps4
  go_wp2_with (first
    | (go_at_call 7; refine (new_no _ _ HG.out).mono ?_; rintro e w' ⟨rfl, rfl⟩)
    | (go_at_call 11; refine (refNew_no _ _ HG.out).mono ?_; rintro e w' ⟨rfl, rfl⟩)
    | (go_at_call 6; refine (lives_any _).mono ?_; rintro e w' ⟨rfl, hb⟩))
  go_ret
  exact ⟨rfl, hb⟩

/-- The first loop, at a round's head. -/
structure Loop1 (W : World) (b m r : Nat) (g : Int) (k : Nat) (w : World) : Prop where
  st : After True W.heap.size b m r g k w
  bel : Below W.heap.size W w

set_option maxRecDepth 100000 in
set_option maxHeartbeats 8000000 in
theorem walk_small (gap : Int) (a1 a2 : Option Addr) (len1 cap1 len2 cap2 s1 o1 s2 o2 : Nat) (A1 A2 : List Act) (w : World) (h1 : ¬ 150 < len1) (h2 : ¬ 150 < len2) (hg0 : 0 ≤ gap) (hg1 : gap ≤ 65535)
    (i1 : ActsAt w a1 len1 s1 o1 A1) (i2 : ActsAt w a2 len2 s2 o2 A2) :
    Calls Try.prog 4 #[.int .i64 gap, .slice a1 len1 cap1, .slice a2 len2 cap2] w fun e w' => e = .returned (.bool true) ∧ Below w.heap.size w w' := by
  have I1 := Lib.hid i1
  have I2 := Lib.hid i2
  clear i1 i2
  go_enter Try.func4, Try.ntmps4
  go_wp2_with (first
    | (go_at_call 7; refine (new_yes _ _ hg0 hg1).mono ?_; rintro e w1 ⟨rfl, hP, hb1⟩; have HP := Lib.hid hP; clear hP)
    | (go_at_call 11; refine (refNew_yes _ _ hg0 hg1).mono ?_; rintro e w2 ⟨rfl, hQ, hb2⟩; have HQ := Lib.hid hQ; clear hQ))
  have hB2 : Below w.heap.size w w2 := hb1.trans (hb2.mono hb1.size)
  have hST : St True w.heap.size (w.heap.size + 1) w.heap.size w1.heap.size gap [] 0 (0, 0) (-1) w2 :=
    ⟨HP.out.below hb2, ⟨hb1.size, .slice none 0 0, ⟨HQ.out.blk, rfl, .inl ⟨rfl, rfl⟩⟩, fun _ _ => rfl⟩, ⟨⟨hg0, hg1⟩, ⟨by simp, by simp⟩, by simp, .inl rfl⟩, by omega, Nat.le_refl _⟩
  have HST := Lib.hid (And.intro hST hB2)
  have hr1 : w.heap.size ≤ w1.heap.size := hb1.size
  clear hST hB2 hb1 hb2 HP HQ
  generalize w1.heap.size = r at *
  generalize hb : w.heap.size + 1 = b at *
  generalize hm : w.heap.size = m at *
  have HM := Lib.hid hm
  clear hm hb
  go_loopw [38] (fun i wr => ∃ k : Nat, k ≤ len1 ∧ i = .int .i64 k ∧ Loop1 w b m r gap k wr) (fun i _ => len1 - (intOf i).toNat)
  case atStart => exact ⟨0, Nat.zero_le _, rfl, ⟨⟨[], 0, (0, 0), -1, Nat.le_refl _, by rw [HM.out]; exact HST.out.1⟩, by rw [HM.out]; exact HST.out.2⟩⟩
  case round =>
    obtain ⟨k, hk, rfl, hL⟩ := hrel
    by_cases hlt : k < len1
    · have hAk : k < A1.length := by rw [I1.out.size]; exact hlt
      obtain ⟨rfl, hsb⟩ := I1.out.at_ (by omega)
      obtain ⟨q0, q1, q2, q3⟩ := I1.out.cells k hAk
      obtain ⟨x0, x1⟩ := I1.out.range k hAk
      have c0 : wr.cell? ⟨s1, o1 + k * 4, none⟩ = some (.bool A1[k].fg) := by rw [hL.bel.cell (p := ⟨s1, o1 + k * 4, none⟩) hsb]; exact q0
      have c1 : wr.cell? ⟨s1, o1 + k * 4 + 1, none⟩ = some (.int .u32 A1[k].a) := by rw [hL.bel.cell (p := ⟨s1, o1 + k * 4 + 1, none⟩) hsb]; exact q1
      have c2 : wr.cell? ⟨s1, o1 + k * 4 + 2, none⟩ = some (.int .i64 A1[k].n) := by rw [hL.bel.cell (p := ⟨s1, o1 + k * 4 + 2, none⟩) hsb]; exact q2
      have c3 : wr.cell? ⟨s1, o1 + k * 4 + 3, none⟩ = some (.int .i64 A1[k].now) := by rw [hL.bel.cell (p := ⟨s1, o1 + k * 4 + 3, none⟩) hsb]; exact q3
      clear q0 q1 q2 q3
      generalize A1[k].fg = fg at *
      generalize A1[k].a = a at *
      generalize A1[k].n = n at *
      generalize A1[k].now = now at *
      obtain ⟨⟨L, ck, y, u, hLk, hst⟩, hbel⟩ := hL
      have HS := Lib.hid hst
      have hlt3 := hst.ltr
      have HB := Lib.hid hbel
      have hlo := hbel.size
      clear hst hbel
      have hLm : L.length ≤ 1000000 := by omega
      go_wp2_with fail
      have hX0 : (wr.alloc (.cells #[.bool fg, .int .u32 a, .int .i64 n, .int .i64 now] 39)).heap[wr.heap.size]? = some (.cells #[.bool fg, .int .u32 a, .int .i64 n, .int .i64 now] 39) := heap_alloc_new _ _
      have HV := Lib.hid (And.intro (HS.out.below (Below.alloc (Below.refl _ _) (Nat.le_refl _) (.cells #[.bool fg, .int .u32 a, .int .i64 n, .int .i64 now] 39))) (And.intro hX0 (HB.out.trans ((Below.alloc (Below.refl _ _) (Nat.le_refl _) (.cells #[.bool fg, .int .u32 a, .int .i64 n, .int .i64 now] 39)).mono HB.out.size))))
      clear hX0 c0 c1 c2 c3 HS HB
      generalize wr.alloc (.cells #[.bool fg, .int .u32 a, .int .i64 n, .int .i64 now] 39) = v0 at *
      generalize wr.heap.size = X at *
      have k1 : v0.cell? ⟨X, 1, none⟩ = some (.int .u32 a) := cell_of HV.out.2.1 1
      have k2 : v0.cell? ⟨X, 2, none⟩ = some (.int .i64 n) := cell_of HV.out.2.1 2
      have k3 : v0.cell? ⟨X, 3, none⟩ = some (.int .i64 now) := cell_of HV.out.2.1 3
      go_region_held3 (fun w' => w'.cell? ⟨X, 1, none⟩ = some (.int .u32 a) ∧ w'.cell? ⟨X, 2, none⟩ = some (.int .i64 n) ∧ w'.cell? ⟨X, 3, none⟩ = some (.int .i64 now))
        (first | (go_keep; done) | exact ⟨e1, e2, e3⟩ | exact ⟨d1, d2, d3⟩)
        (first
          | (go_at_call 8; refine (pReady_all b m gap L ck y u (a, n) now v0.drew HV.out.1.drew.p HV.out.1.syn).mono ?_; rintro e v1 ⟨rfl, hb1⟩; have d1 := cell_below (w := v0.drew) hb1 k1; have d2 := cell_below (w := v0.drew) hb1 k2; have d3 := cell_below (w := v0.drew) hb1 k3)
          | (go_at_call 12; refine (mReady_all m r gap L ck y u (a, n) now v1 (HM.out ▸ (HV.out.1.drew.below hb1).q) HV.out.1.syn hLm).mono ?_; rintro e v2 ⟨rfl, hb2⟩; have e1 := cell_below hb2 d1; have e2 := cell_below hb2 d2; have e3 := cell_below hb2 d3))
      have HV2 : Hid (St True m b m r gap L ck y u v2 ∧ v2.heap[X]? = some (.cells #[.bool fg, .int .u32 a, .int .i64 n, .int .i64 now] 39) ∧ Below w.heap.size w v2) := by
        obtain ⟨h1, h2, h3⟩ := HV.out
        refine Lib.hid ⟨?_, ?_, ?_⟩
        · have := (h1.drew.below hb1).below hb2
          rw [HM.out] at this
          exact this
        · exact below_heap hb2 (below_heap (w := v0.drew) hb1 h2)
        · exact (h3.drew.trans (hb1.mono h3.size)).trans (hb2.mono (Nat.le_trans h3.size hb1.size))
      clear hb1 hb2 HV k1 k2 k3 d1 d2 d3
      have hX := lt_of_heap HV2.out.2.1
      have hlo2 : m ≤ v2.heap.size := by have := HV2.out.2.2.size; rw [HM.out] at this; exact this
      have hXr : X ≠ r ∧ X ≠ b ∧ X ≠ m := ⟨by omega, by omega, by omega⟩
      obtain ⟨hXr, hXb, hXm⟩ := hXr
      cases fg
      · have f0 : v2.cell? ⟨X, 0, none⟩ = some (.bool false) := cell_of HV2.out.2.1 0
        go_wp2_with fail
        go_region_held3 (fun w' => w'.cell? ⟨X, 1, none⟩ = some (.int .u32 a) ∧ w'.cell? ⟨X, 2, none⟩ = some (.int .i64 n) ∧ w'.cell? ⟨X, 3, none⟩ = some (.int .i64 now))
          (first | (go_keep; done) | exact ⟨t1, t2, t3⟩ | exact ⟨d1, d2, d3⟩)
          (first
            | (go_at_call 9; refine (pNote_st m b m r ck gap L y u (a, n) now v2.drew HV2.out.1.drew ⟨x0, x1⟩).mono ?_; rintro e v7 ⟨rfl, hmid, hE7⟩; have hB7 := hE7.keep (w := v2.drew) HV2.out.2.1 (by rintro (rfl | rfl) <;> contradiction); have HM7 := Lib.hid (And.intro hmid (And.intro hE7 hB7)); clear hmid hE7; have d1 : v7.cell? ⟨X, 1, none⟩ = some (.int .u32 a) := cell_of hB7 1; have d2 : v7.cell? ⟨X, 2, none⟩ = some (.int .i64 n) := cell_of hB7 2; have d3 : v7.cell? ⟨X, 3, none⟩ = some (.int .i64 now) := cell_of hB7 3; clear hB7)
            | (go_at_call 14; refine (mNote_st m b m r ck gap L y u (a, n) now v7 HM7.out.1 hLm (Nat.le_trans hlo2 HM7.out.2.1.size) ⟨x0, x1⟩).mono ?_; rintro e v3 ⟨rfl, haf, hE3⟩; have hB3 := hE3.keep HM7.out.2.2 hXr; have HM3 := Lib.hid (And.intro haf (And.intro hE3 hB3)); clear haf hE3; have t1 : v3.cell? ⟨X, 1, none⟩ = some (.int .u32 a) := cell_of hB3 1; have t2 : v3.cell? ⟨X, 2, none⟩ = some (.int .i64 n) := cell_of hB3 2; have t3 : v3.cell? ⟨X, 3, none⟩ = some (.int .i64 now) := cell_of hB3 3; clear hB3))
        have HV3 : Hid (After True m b m r gap (L.length + 1) v3 ∧ v3.heap[X]? = some (.cells #[.bool false, .int .u32 a, .int .i64 n, .int .i64 now] 39) ∧ Below w.heap.size w v3) := by
          obtain ⟨h1, h2, h3⟩ := HV2.out
          refine Lib.hid ⟨HM3.out.1, HM3.out.2.2, ?_⟩
          have he := (((Eff.of_below (fun _ => False) h3).drew.trans_new (T := fun k => k = b ∨ k = m) HM7.out.2.1 (fun i hi h => by rw [HM.out] at hi; have := h1.lob; omega)).trans_new (T := fun k => k = r) HM3.out.2.1 (fun i hi h => by rw [HM.out] at hi; have := h1.q.1; omega))
          exact he.below (fun _ h => h)
        clear HV2 HM7 HM3 f0 d1 d2 d3 t1 t2 t3
        obtain ⟨L', ck', y', u', hL', hst'⟩ := HV3.out.1
        have hlen' : L'.length ≤ 1000000 := by omega
        obtain ⟨sa, sc, g0, g1'⟩ := st_slice hst'
        have HS3 := Lib.hid hst'
        clear hst'
        have hBOX := HV3.out.2.1
        have z1 : v3.cell? ⟨X, 1, none⟩ = some (.int .u32 a) := cell_of hBOX 1
        have z2 : v3.cell? ⟨X, 2, none⟩ = some (.int .i64 n) := cell_of hBOX 2
        clear hBOX
        go_wp2_with fail
        go_region_held3 (fun w' => w'.cell? ⟨X, 1, none⟩ = some (.int .u32 a) ∧ w'.cell? ⟨X, 2, none⟩ = some (.int .i64 n) ∧ w'.cell? ⟨r, 0, none⟩ = some (.int .i64 gap) ∧ w'.cell? ⟨r, 1, none⟩ = some (.slice sa L'.length sc))
          (first | (go_keep; done) | exact ⟨y1, y2, y3, y4⟩ | exact ⟨x1', x2', x3', x4'⟩)
          (first
            | (go_at_call 15; refine (pWhen_all b m gap L' ck' y' u' (a, n) v3.drew HS3.out.drew.p HS3.out.syn).mono ?_; rintro e v4 ⟨rfl, hb4⟩; have x1' := cell_below (w := v3.drew) hb4 z1; have x2' := cell_below (w := v3.drew) hb4 z2; have x3' := cell_below (w := v3.drew) hb4 g0; have x4' := cell_below (w := v3.drew) hb4 g1')
            | (go_at_call 16; refine (mWhen_all m r gap L' ck' y' u' (a, n) v4 (HS3.out.drew.below hb4).q HS3.out.syn hlen').mono ?_; rintro e v5 ⟨rfl, hb5⟩; have y1 := cell_below hb5 x1'; have y2 := cell_below hb5 x2'; have y3 := cell_below hb5 x3'; have y4 := cell_below hb5 x4')
            | (go_at_call 17; refine (len_any b m gap L' ck' y' u' v5 ((HS3.out.drew.below hb4).below hb5).p).mono ?_; rintro e v6 ⟨rfl, rfl⟩)
            | (go_at_call 18; refine (gap_any b m gap L' ck' y' u' v5 ((HS3.out.drew.below hb4).below hb5).p).mono ?_; rintro e v6 ⟨rfl, rfl⟩))
        go_wp2
        go_roundw
        case rel =>
          have hbb := HV3.out.2.2.size
          exact ⟨k + 1, by omega, by go_num, ⟨⟨L', ck', y', u', by omega, by rw [HM.out]; exact (HS3.out.drew.below hb4).below hb5⟩, (HV3.out.2.2.drew.trans (hb4.mono hbb)).trans (hb5.mono (Nat.le_trans hbb hb4.size))⟩⟩
        case measure => simp [intOf]; omega
      · have f0 : v2.cell? ⟨X, 0, none⟩ = some (.bool true) := cell_of HV2.out.2.1 0
        go_wp2_with (go_at_call 13; refine (forget_any b m gap L ck y u v2 HV2.out.1.p).mono ?_; rintro e v7 ⟨rfl, hp7, hE7⟩; obtain ⟨hst7, vv, cv, fv⟩ := st_forget HV2.out.1 hp7 hE7; have hB7 := hE7.keep HV2.out.2.1 (by rintro (rfl | rfl) <;> contradiction); have HM7 := Lib.hid (And.intro hst7 (And.intro hE7 hB7)); clear hst7 hE7 hB7 hp7)
        have HV3 : Hid (After True m b m r gap (L.length + 1) (v7.setCell ⟨r, 1, none⟩ (.slice none 0 0)) ∧ (v7.setCell ⟨r, 1, none⟩ (.slice none 0 0)).heap[X]? = some (.cells #[.bool true, .int .u32 a, .int .i64 n, .int .i64 now] 39) ∧ Below w.heap.size w (v7.setCell ⟨r, 1, none⟩ (.slice none 0 0))) := by
          obtain ⟨h1, h2, h3⟩ := HV2.out
          refine Lib.hid ⟨⟨[], ck, (0, 0), -1, by simp, HM7.out.1⟩, heap_setCell_old HM7.out.2.2 hXr, ?_⟩
          have he := Eff.setCell (p := ⟨r, 1, none⟩) ((Eff.of_below (fun _ => False) h3).trans_new (T := fun k => k = b ∨ k = m) HM7.out.2.1 (fun i hi h => by rw [HM.out] at hi; have := h1.lob; omega)) (fun h => by rw [HM.out] at h; have := h1.q.1; exact absurd h (Nat.not_lt.2 this)) (.slice none 0 0)
          exact he.below (fun _ h => h)
        clear HV2 HM7 f0 cv fv
        generalize v7.setCell ⟨r, 1, none⟩ (.slice none 0 0) = v3 at *
        obtain ⟨L', ck', y', u', hL', hst'⟩ := HV3.out.1
        have hlen' : L'.length ≤ 1000000 := by omega
        obtain ⟨sa, sc, g0, g1'⟩ := st_slice hst'
        have HS3 := Lib.hid hst'
        clear hst'
        have hBOX := HV3.out.2.1
        have z1 : v3.cell? ⟨X, 1, none⟩ = some (.int .u32 a) := cell_of hBOX 1
        have z2 : v3.cell? ⟨X, 2, none⟩ = some (.int .i64 n) := cell_of hBOX 2
        clear hBOX
        go_region_held3 (fun w' => w'.cell? ⟨X, 1, none⟩ = some (.int .u32 a) ∧ w'.cell? ⟨X, 2, none⟩ = some (.int .i64 n) ∧ w'.cell? ⟨r, 0, none⟩ = some (.int .i64 gap) ∧ w'.cell? ⟨r, 1, none⟩ = some (.slice sa L'.length sc))
          (first | (go_keep; done) | exact ⟨y1, y2, y3, y4⟩ | exact ⟨x1', x2', x3', x4'⟩)
          (first
            | (go_at_call 15; refine (pWhen_all b m gap L' ck' y' u' (a, n) v3.drew HS3.out.drew.p HS3.out.syn).mono ?_; rintro e v4 ⟨rfl, hb4⟩; have x1' := cell_below (w := v3.drew) hb4 z1; have x2' := cell_below (w := v3.drew) hb4 z2; have x3' := cell_below (w := v3.drew) hb4 g0; have x4' := cell_below (w := v3.drew) hb4 g1')
            | (go_at_call 16; refine (mWhen_all m r gap L' ck' y' u' (a, n) v4 (HS3.out.drew.below hb4).q HS3.out.syn hlen').mono ?_; rintro e v5 ⟨rfl, hb5⟩; have y1 := cell_below hb5 x1'; have y2 := cell_below hb5 x2'; have y3 := cell_below hb5 x3'; have y4 := cell_below hb5 x4')
            | (go_at_call 17; refine (len_any b m gap L' ck' y' u' v5 ((HS3.out.drew.below hb4).below hb5).p).mono ?_; rintro e v6 ⟨rfl, rfl⟩)
            | (go_at_call 18; refine (gap_any b m gap L' ck' y' u' v5 ((HS3.out.drew.below hb4).below hb5).p).mono ?_; rintro e v6 ⟨rfl, rfl⟩))
        go_wp2
        go_roundw
        case rel =>
          have hbb := HV3.out.2.2.size
          exact ⟨k + 1, by omega, by go_num, ⟨⟨L', ck', y', u', by omega, by rw [HM.out]; exact (HS3.out.drew.below hb4).below hb5⟩, (HV3.out.2.2.drew.trans (hb4.mono hbb)).trans (hb5.mono (Nat.le_trans hbb hb4.size))⟩⟩
        case measure => simp [intOf]; omega
    · obtain rfl : k = len1 := by omega
      obtain ⟨⟨L, ck, y, u, hLk, hst⟩, hbel⟩ := hL
      rw [HM.out] at hst
      obtain ⟨wo, hwo⟩ : ∃ wo : World, wo = wr := ⟨_, rfl⟩
      subst hwo
      obtain ⟨v, hv, hnil⟩ := hst.q.2
      have HS := Lib.hid hst
      have HB := Lib.hid hbel
      have HV := Lib.hid hv
      have HN := Lib.hid (hnil trivial)
      have hpl : (projL L).length ≤ 1000000 := by rw [projL_len]; omega
      clear hst hbel hv hnil
      go_wp2_with (first
        | (go_at_call 19; refine (copy_any b m gap L ck y u _ HS.out.p).mono ?_; rintro e w3 ⟨c, mc, rfl, hc, hmc, hPc, hb3⟩; have HPC := Lib.hid (And.intro hPc hb3); clear hPc hb3)
        | (go_at_call 20; refine (refCopy_any r m gap v (projL L) w3 (HV.out.below HPC.out.2) hpl HN.out).mono ?_; rintro e w4 ⟨d, v', rfl, hd, hRd, hb4⟩; have HRD := Lib.hid (And.intro hRd hb4); clear hRd hb4))
      have HIN : Hid (Below wo.heap.size wo w4 ∧ After False wo.heap.size c mc d gap (L.length + 0) w4) := by
        obtain ⟨h1, h2⟩ := HPC.out
        obtain ⟨h3, h4⟩ := HRD.out
        exact Lib.hid ⟨h2.trans (h4.mono h2.size), L, ck, y, u, by omega, h1.below h4, ⟨Nat.le_trans h2.size hd, v', h3.lower h2.size, fun h => h.elim⟩, HS.out.syn, hc, hmc⟩
      clear HPC HRD hd hpl HN HV
      go_loopw [110] (fun i wr => ∃ k : Nat, k ≤ len2 ∧ i = .int .i64 k ∧ Below wo.heap.size wo wr ∧ After False wo.heap.size c mc d gap (L.length + k) wr) (fun i _ => len2 - (intOf i).toNat)
      case atStart => exact ⟨0, Nat.zero_le _, rfl, HIN.out⟩
      case round =>
        obtain ⟨j, hj, rfl, hbw, haf⟩ := hrel
        by_cases hjl : j < len2
        · have hAj : j < A2.length := by rw [I2.out.size]; exact hjl
          obtain ⟨rfl, hsb⟩ := I2.out.at_ (by omega)
          obtain ⟨q0, q1, q2, q3⟩ := I2.out.cells j hAj
          obtain ⟨x0, x1⟩ := I2.out.range j hAj
          have hbel : Below w.heap.size w wr := HB.out.trans (hbw.mono HB.out.size)
          have c0 : wr.cell? ⟨s2, o2 + j * 4, none⟩ = some (.bool A2[j].fg) := by rw [hbel.cell (p := ⟨s2, o2 + j * 4, none⟩) hsb]; exact q0
          have c1 : wr.cell? ⟨s2, o2 + j * 4 + 1, none⟩ = some (.int .u32 A2[j].a) := by rw [hbel.cell (p := ⟨s2, o2 + j * 4 + 1, none⟩) hsb]; exact q1
          have c2 : wr.cell? ⟨s2, o2 + j * 4 + 2, none⟩ = some (.int .i64 A2[j].n) := by rw [hbel.cell (p := ⟨s2, o2 + j * 4 + 2, none⟩) hsb]; exact q2
          have c3 : wr.cell? ⟨s2, o2 + j * 4 + 3, none⟩ = some (.int .i64 A2[j].now) := by rw [hbel.cell (p := ⟨s2, o2 + j * 4 + 3, none⟩) hsb]; exact q3
          clear q0 q1 q2 q3 hbel
          generalize A2[j].fg = fg at *
          generalize A2[j].a = a at *
          generalize A2[j].n = n at *
          generalize A2[j].now = now at *
          obtain ⟨L2, ck2, y2, u2, hLk2, hst2⟩ := haf
          have hlt3 := hst2.ltr
          have hlo := hbw.size
          have hLm : L2.length ≤ 1000000 := by omega
          have HS2 := Lib.hid hst2
          have HB2 := Lib.hid hbw
          clear hst2 hbw HIN
          go_wp2_with fail
          have hX0 : (wr.alloc (.cells #[.bool fg, .int .u32 a, .int .i64 n, .int .i64 now] 39)).heap[wr.heap.size]? = some (.cells #[.bool fg, .int .u32 a, .int .i64 n, .int .i64 now] 39) := heap_alloc_new _ _
          have HW := Lib.hid (And.intro (HS2.out.below (Below.alloc (Below.refl _ _) (Nat.le_refl _) (.cells #[.bool fg, .int .u32 a, .int .i64 n, .int .i64 now] 39))) (And.intro hX0 (HB2.out.trans ((Below.alloc (Below.refl _ _) (Nat.le_refl _) (.cells #[.bool fg, .int .u32 a, .int .i64 n, .int .i64 now] 39)).mono HB2.out.size))))
          clear hX0 c0 c1 c2 c3 HS2 HB2
          generalize wr.alloc (.cells #[.bool fg, .int .u32 a, .int .i64 n, .int .i64 now] 39) = v0 at *
          generalize wr.heap.size = X at *
          have k1 : v0.cell? ⟨X, 1, none⟩ = some (.int .u32 a) := cell_of HW.out.2.1 1
          have k2 : v0.cell? ⟨X, 2, none⟩ = some (.int .i64 n) := cell_of HW.out.2.1 2
          have k3 : v0.cell? ⟨X, 3, none⟩ = some (.int .i64 now) := cell_of HW.out.2.1 3
          have hlo2 : wo.heap.size ≤ v0.heap.size := HW.out.2.2.size
          have hXs : X ≠ d ∧ X ≠ c ∧ X ≠ mc := ⟨by omega, by omega, by omega⟩
          obtain ⟨hXr, hXb, hXm⟩ := hXs
          go_region_held3 (fun w' => w'.cell? ⟨X, 1, none⟩ = some (.int .u32 a) ∧ w'.cell? ⟨X, 2, none⟩ = some (.int .i64 n) ∧ w'.cell? ⟨X, 3, none⟩ = some (.int .i64 now))
            (first | (go_keep; done) | exact ⟨t1, t2, t3⟩ | exact ⟨d1, d2, d3⟩)
            (first
              | (go_at_call 9; refine (pNote_st wo.heap.size c mc d ck2 gap L2 y2 u2 (a, n) now v0.drew HW.out.1.drew ⟨x0, x1⟩).mono ?_; rintro e v7 ⟨rfl, hmid, hE7⟩; have hB7 := hE7.keep (w := v0.drew) HW.out.2.1 (by rintro (rfl | rfl) <;> contradiction); have HM7 := Lib.hid (And.intro hmid (And.intro hE7 hB7)); clear hmid hE7; have d1 : v7.cell? ⟨X, 1, none⟩ = some (.int .u32 a) := cell_of hB7 1; have d2 : v7.cell? ⟨X, 2, none⟩ = some (.int .i64 n) := cell_of hB7 2; have d3 : v7.cell? ⟨X, 3, none⟩ = some (.int .i64 now) := cell_of hB7 3; clear hB7)
              | (go_at_call 14; refine (mNote_st wo.heap.size c mc d ck2 gap L2 y2 u2 (a, n) now v7 HM7.out.1 hLm (Nat.le_trans hlo2 HM7.out.2.1.size) ⟨x0, x1⟩).mono ?_; rintro e v3 ⟨rfl, haf, hE3⟩; have hB3 := hE3.keep HM7.out.2.2 hXr; have HM3 := Lib.hid (And.intro haf (And.intro hE3 hB3)); clear haf hE3; have t1 : v3.cell? ⟨X, 1, none⟩ = some (.int .u32 a) := cell_of hB3 1; have t2 : v3.cell? ⟨X, 2, none⟩ = some (.int .i64 n) := cell_of hB3 2; have t3 : v3.cell? ⟨X, 3, none⟩ = some (.int .i64 now) := cell_of hB3 3; clear hB3))
          go_wp2
          go_roundw
          case rel =>
            obtain ⟨h1, h2, h3⟩ := HW.out
            have he := (((Eff.of_below (fun _ => False) h3).drew.trans_new (T := fun k => k = c ∨ k = mc) HM7.out.2.1 (fun i hi h => by have := h1.lob; have := h1.lom; omega)).trans_new (T := fun k => k = d) HM3.out.2.1 (fun i hi h => by have := h1.q.1; omega))
            obtain ⟨L5, ck5, y5, u5, hL5, hst5⟩ := HM3.out.1
            exact ⟨j + 1, by omega, by go_num, he.below (fun _ h => h), L5, ck5, y5, u5, by omega, hst5⟩
          case measure => simp [intOf]; omega
        · obtain rfl : j = len2 := by omega
          obtain ⟨L2, ck2, y2, u2, hLk2, hst2⟩ := haf
          have hst1 := HS.out.below hbw
          obtain ⟨sa, sc, -, g1'⟩ := st_slice hst1
          obtain ⟨ta, tc, -, g2'⟩ := st_slice hst2
          have hbel : Below w.heap.size w wr := HB.out.trans (hbw.mono HB.out.size)
          have HH := Lib.hid (And.intro hst1 (And.intro hst2 hbel))
          have hcb : c ≠ b := by have := HS.out.ltr; omega
          clear hst1 hst2 hbel hbw HIN
          go_wp2_with fail
          go_region_held3 (fun w' => w'.cell? ⟨r, 1, none⟩ = some (.slice sa L.length sc) ∧ w'.cell? ⟨d, 1, none⟩ = some (.slice ta L2.length tc))
            (first | (go_keep; done) | exact ⟨e1, e2⟩)
            (first
              | (go_at_call_of 17 (Value.pointer (some ⟨b, 0, none⟩)); refine (len_any b m gap L ck y u wr.drew HH.out.1.drew.p).mono ?_; rintro e v6 ⟨rfl, rfl⟩)
              | (go_at_call_of 17 (Value.pointer (some ⟨c, 0, none⟩)); refine (len_any c mc gap L2 ck2 y2 u2 wr.drew HH.out.2.1.drew.p).mono ?_; rintro e v6 ⟨rfl, rfl⟩)
              | (go_at_call 6; refine (lives_any wr.drew).mono ?_; rintro e v9 ⟨rfl, hb9⟩; have e1 := cell_below (w := wr.drew) hb9 g1'; have e2 := cell_below (w := wr.drew) hb9 g2'))
          go_wp2
          go_ret
          exact ⟨rfl, HH.out.2.2.drew.trans (hb9.mono HH.out.2.2.size)⟩

end Go.Proofs.Ytpboomjnbndcpaa.paceActs
