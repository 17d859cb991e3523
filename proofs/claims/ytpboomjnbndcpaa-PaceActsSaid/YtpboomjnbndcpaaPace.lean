/-
  Proved here: what pace.New, Ready, Note, Most do at every pace that a call made (its rows in the map's order); nothing else that was there changes.
-/
import Derived.Test.YtpboomjnbndcpaaPaceA
namespace Go.Proofs.Ytpboomjnbndcpaa
open Go.RowKit Go.MapKept

/-- The pace at block b: gap, map block m with rows l and clock ck, the last announcement. -/
structure PaceAt (w : World) (b m : Nat) (g : Int) (l : List Mrow) (ck : Nat) (y : Pre) (u : Int) : Prop where
  blk : w.heap[b]? = some (.cells #[.int .i64 g, .map (some m), .int .u32 y.1, .int .i64 y.2, .int .i64 u] 53)
  map : w.heap[m]? = some (.map (entries l) ck)
theorem PaceAt.keep {w w' : World} {b m : Nat} {g : Int} {l : List Mrow} {ck : Nat} {y : Pre} {u : Int} {S : Nat → Prop} (h : PaceAt w b m g l ck y u) (he : Eff S w w') (hb : ¬ S b) (hm : ¬ S m) : PaceAt w' b m g l ck y u :=
  ⟨he.keep h.blk hb, he.keep h.map hm⟩
theorem PaceAt.below {w w' : World} {b m : Nat} {g : Int} {l : List Mrow} {ck : Nat} {y : Pre} {u : Int} (h : PaceAt w b m g l ck y u) (he : Below w.heap.size w w') : PaceAt w' b m g l ck y u :=
  ⟨below_heap he h.blk, below_heap he h.map⟩

/-- May a prefix be announced? -/
def readyB (g : Int) (l : List Mrow) (y : Pre) (u : Int) (x : Pre) (now : Int) : Bool :=
  match mget l x with
  | none => true
  | some t => if 0 < g ∧ y = x ∧ u = now then false else decide (t + g ≤ now)

set_option maxHeartbeats 400000 in
theorem made_yes (b m : Nat) (w : World) (hm : w.cell? ⟨b, 1, none⟩ = some (.map (some m))) :
    Calls Try.prog 21 #[.pointer (some ⟨b, 0, none⟩)] w fun e w' => e = .returned (.bool true) ∧ w = w' := by
  have hn := fun v => run_neq_map_nil (P := Try.prog) v 49 _ _ (some m) Try.underlying49
  go_enter Try.func21, Try.ntmps21
  go_wp2
  go_ret
  exact ⟨rfl, rfl⟩

set_option maxHeartbeats 400000 in
theorem new_yes (g : Int) (w : World) (hg : 0 ≤ g) (hg2 : g ≤ 65535) :
    Calls Try.prog 7 #[.int .i64 g] w fun e w' => e = .returned (.pointer (some ⟨w.heap.size + 1, 0, none⟩)) ∧ PaceAt w' (w.heap.size + 1) w.heap.size g [] 0 (0, 0) (-1) ∧ Below w.heap.size w w' := by
  have hmm := @run_makeMap Try.prog
  go_enter Try.func7, Try.ntmps7
  go_wp2
  go_ret
  refine ⟨rfl, ⟨?_, ?_⟩, ((Below.refl _ _).alloc (Nat.le_refl _) _).alloc (by simp) _⟩
  · have := heap_alloc_new (w.alloc (.map #[] 0)) (.cells #[.int .i64 g, .map (some w.heap.size), .int .u32 0, .int .i64 0, .int .i64 (-1)] 53)
    simpa using this
  · exact heap_alloc_old (heap_alloc_new _ _)

set_option maxHeartbeats 400000 in
theorem new_no (g : Int) (w : World) (hg : g < 0 ∨ 65535 < g) :
    Calls Try.prog 7 #[.int .i64 g] w fun e w' => e = .returned (.pointer none) ∧ w = w' := by
  rcases hg with hg | hg
  · go_enter Try.func7, Try.ntmps7
    go_wp2
    go_ret
    exact ⟨rfl, rfl⟩
  · have hg' : ¬ g < 0 := by omega
    go_enter Try.func7, Try.ntmps7
    go_wp2
    go_ret
    exact ⟨rfl, rfl⟩

set_option maxHeartbeats 400000 in
theorem most_any (t g : Int) (w : World) (ht : 1 ≤ t) (ht2 : t ≤ 1099511627776) (hg : 1 ≤ g) :
    Calls Try.prog 10 #[.int .i64 t, .int .i64 g] w fun e w' => e = .returned (.int .i64 ((t - 1) / g + 1)) ∧ w = w' := by
  have h1 : 0 ≤ (t - 1) / g := Int.ediv_nonneg (by omega) (by omega)
  have h2 : (t - 1) / g ≤ 1099511627776 := Int.le_trans (Int.ediv_le_self _ (by omega)) (by omega)
  go_enter Try.func10, Try.ntmps10
  go_wp2
  go_ret
  exact ⟨rfl, rfl⟩

set_option maxHeartbeats 400000 in
theorem ready_new (b m : Nat) (g : Int) (l : List Mrow) (ck : Nat) (y : Pre) (u : Int) (x : Pre) (now : Int) (w : World) (hp : PaceAt w b m g l ck y u) (hx : mget l x = none) :
    Calls Try.prog 8 #[.pointer (some ⟨b, 0, none⟩), preV x, .int .i64 now] w fun e w' => e = .returned (.bool true) ∧ Below w.heap.size w w' := by
  have hbl := lt_of_heap hp.blk
  have c1 : w.cell? ⟨b, 1, none⟩ = some (.map (some m)) := cell_of hp.blk 1
  have hl : ∀ k, (Instr.lookup 49 (.map (some m)) (.agg #[.int .u32 x.1, .int .i64 x.2]) true).run Try.prog ((w.alloc (.cells #[.int .u32 x.1, .int .i64 x.2] 28)).drewN k) = .ok (.tuple #[.int .i64 0, .bool false]) ((w.alloc (.cells #[.int .u32 x.1, .int .i64 x.2] 28)).drewN k) := fun k => by
    have := run_lookupPre (w := (w.alloc (.cells #[.int .u32 x.1, .int .i64 x.2] 28)).drewN k) (heap_alloc_old hp.map) x
    rw [hx] at this
    exact this
  clear hp hx
  unfold preV
  go_enter Try.func8, Try.ntmps8
  go_wp2_with (go_at_call 21; refine (made_yes b m _ (by first | exact c1 | (rw [World.cell?_alloc_lt _ _ _ hbl]; exact c1))).mono ?_; rintro e w' ⟨rfl, rfl⟩)
  go_quiet (fail)
  go_wp2
  go_ret
  exact ⟨rfl, ((Below.refl _ _).alloc (Nat.le_refl _) _).trans (below_drewN (Below.refl _ _) _)⟩
/-- Two notes are one just if prefix and tick are. -/
theorem eqlNote (x y : Pre) (t u : Int) (w : World) : (binOp .eql 51 (.agg #[.int .u32 x.1, .int .i64 x.2, .int .i64 t]) (.agg #[.int .u32 y.1, .int .i64 y.2, .int .i64 u])).run Try.prog w = .ok (.bool (decide (x = y) && (t == u))) w := by
  have ht : Try.prog.underlying 51 = some (.struct (Try.prog.fieldsOf 51)) := by kernel_rfl
  have hp : Try.prog.stoodInHeld 51 = false := by kernel_rfl
  have ht' : Try.prog.underlying 28 = some (.struct (Try.prog.fieldsOf 28)) := by kernel_rfl
  have hp' : Try.prog.stoodInHeld 28 = false := by kernel_rfl
  rw [run_eql_struct, run_equal_pairs 9999 _ _ _ [(28, 0), (3, 2)] ht hp (by kernel_rfl) (by kernel_rfl)]
  have p1 : ∀ (x y z : Int) v, (part 28 #[.int .u32 x, .int .i64 y, .int .i64 z] 0).run Try.prog v = .ok (.agg #[.int .u32 x, .int .i64 y]) v := fun _ _ _ _ => by kernel_rfl
  have p2 : ∀ (x y z : Int) v, (part 3 #[.int .u32 x, .int .i64 y, .int .i64 z] 2).run Try.prog v = .ok (.int .i64 z) v := fun _ _ _ _ => by kernel_rfl
  have q1 : ∀ (x y : Int) v, (part 26 #[.int .u32 x, .int .i64 y] 0).run Try.prog v = .ok (.int .u32 x) v := fun _ _ _ => by kernel_rfl
  have q2 : ∀ (x y : Int) v, (part 3 #[.int .u32 x, .int .i64 y] 1).run Try.prog v = .ok (.int .i64 y) v := fun _ _ _ => by kernel_rfl
  have e1 : ∀ (a n a' n' : Int) v, (Op.equalIn 9999 28 (.agg #[.int .u32 a, .int .i64 n]) (.agg #[.int .u32 a', .int .i64 n'])).run Try.prog v = .ok ((a == a') && (n == n')) v := by
    intro a n a' n' v
    have e1 : ∀ x y v, (Op.equalIn 9998 26 (.int .u32 x) (.int .u32 y)).run Try.prog v = .ok (x == y) v := fun x y v => run_equalIn_int v 9997 _ _ _ x y Try.underlying26
    have e2 : ∀ x y v, (Op.equalIn 9998 3 (.int .i64 x) (.int .i64 y)).run Try.prog v = .ok (x == y) v := fun x y v => run_equalIn_int v 9997 _ _ _ x y Try.underlying3
    rw [run_equal_pairs 9998 _ _ _ [(26, 0), (3, 1)] ht' hp' (by kernel_rfl) (by kernel_rfl)]
    simp only [eqPairs, Sem.run_bind, q1, e1, Result.andThen_ok]
    cases a == a'
    · rfl
    · simp only [Bool.not_true, Bool.false_eq_true, if_false, Sem.run_bind, q2, e2, Result.andThen_ok]
      cases n == n' <;> rfl
  have e2 : ∀ x y v, (Op.equalIn 9999 3 (.int .i64 x) (.int .i64 y)).run Try.prog v = .ok (x == y) v := fun x y v => run_equalIn_int v 9998 _ _ _ x y Try.underlying3
  simp only [eqPairs, Sem.run_bind, p1, e1, Result.andThen_ok, preV_beq]
  cases decide (x = y)
  · rfl
  · simp only [Bool.not_true, Bool.false_eq_true, if_false, Sem.run_bind, p2, e2, Result.andThen_ok]
    cases t == u <;> rfl
theorem eqGuardNote (x y : Operand) (xs ys : Array Value) (w : World) : (eqGuard .eql 51 x y (.agg xs) (.agg ys)).run Try.prog w = .ok () w :=
  run_eqGuard_agg w .eql 51 x y xs ys (by kernel_rfl)

set_option maxHeartbeats 400000 in
theorem ready_old (b m : Nat) (g : Int) (l : List Mrow) (ck : Nat) (y : Pre) (u : Int) (x : Pre) (now t : Int) (w : World) (hp : PaceAt w b m g l ck y u) (hx : mget l x = some t)
    (hg : 0 ≤ g ∧ g ≤ 65535) (ht : 0 ≤ t ∧ t ≤ 1099511627776) :
    Calls Try.prog 8 #[.pointer (some ⟨b, 0, none⟩), preV x, .int .i64 now] w fun e w' => e = .returned (.bool (readyB g l y u x now)) ∧ Below w.heap.size w w' := by
  have hbl := lt_of_heap hp.blk
  have c0 : w.cell? ⟨b, 0, none⟩ = some (.int .i64 g) := cell_of hp.blk 0
  have c1 : w.cell? ⟨b, 1, none⟩ = some (.map (some m)) := cell_of hp.blk 1
  have c2 : w.cell? ⟨b, 2, none⟩ = some (.int .u32 y.1) := cell_of hp.blk 2
  have c3 : w.cell? ⟨b, 3, none⟩ = some (.int .i64 y.2) := cell_of hp.blk 3
  have c4 : w.cell? ⟨b, 4, none⟩ = some (.int .i64 u) := cell_of hp.blk 4
  have hl : ∀ k, (Instr.lookup 49 (.map (some m)) (.agg #[.int .u32 x.1, .int .i64 x.2]) true).run Try.prog ((w.alloc (.cells #[.int .u32 x.1, .int .i64 x.2] 28)).drewN k) = .ok (.tuple #[.int .i64 t, .bool true]) ((w.alloc (.cells #[.int .u32 x.1, .int .i64 x.2] 28)).drewN k) := fun k => by
    have := run_lookupPre (w := (w.alloc (.cells #[.int .u32 x.1, .int .i64 x.2] 28)).drewN k) (heap_alloc_old hp.map) x
    rw [hx] at this
    exact this
  have hq := eqGuardNote
  have he : ∀ v, (binOp .eql 51 (.agg #[.int .u32 y.1, .int .i64 y.2, .int .i64 u]) (.agg #[.int .u32 x.1, .int .i64 x.2, .int .i64 now])).run Try.prog v = .ok (.bool (decide (y = x) && (u == now))) v := fun v => eqlNote y x u now v
  have hR : readyB g l y u x now = if 0 < g ∧ y = x ∧ u = now then false else decide (t + g ≤ now) := by unfold readyB; rw [hx]
  rw [hR]
  clear hp hx hR
  unfold preV
  obtain ⟨a1, a2⟩ := x
  obtain ⟨b1, b2⟩ := y
  dsimp only at *
  by_cases h0 : 0 < g
  · by_cases h1 : (b1, b2) = (a1, a2) ∧ u = now
    · rw [if_pos ⟨h0, h1.1, h1.2⟩]
      have hB : (decide ((b1, b2) = (a1, a2)) && (u == now)) = true := by simp [h1.1, h1.2]
      rw [hB] at he
      clear hB h1
      go_enter Try.func8, Try.ntmps8
      go_wp2_with (go_at_call 21; refine (made_yes b m _ (by first | exact c1 | (rw [World.cell?_alloc_lt _ _ _ hbl]; exact c1))).mono ?_; rintro e w' ⟨rfl, rfl⟩)
      go_quiet (fail)
      go_wp2
      go_quiet (fail)
      go_wp2
      go_ret
      exact ⟨rfl, ((Below.refl _ _).alloc (Nat.le_refl _) _).trans (by first | exact below_drewN (Below.refl _ _) _ | exact below_drewN (below_drewN (Below.refl _ _) _) _)⟩
    · rw [if_neg (fun h => h1 h.2)]
      have hB : (decide ((b1, b2) = (a1, a2)) && (u == now)) = false := by
        rw [Bool.eq_false_iff]; intro h; simp only [Bool.and_eq_true, decide_eq_true_eq, beq_iff_eq] at h; exact h1 h
      rw [hB] at he
      clear hB h1
      go_enter Try.func8, Try.ntmps8
      go_wp2_with (go_at_call 21; refine (made_yes b m _ (by first | exact c1 | (rw [World.cell?_alloc_lt _ _ _ hbl]; exact c1))).mono ?_; rintro e w' ⟨rfl, rfl⟩)
      go_quiet (fail)
      go_wp2
      go_quiet (fail)
      go_wp2
      go_ret
      exact ⟨rfl, ((Below.refl _ _).alloc (Nat.le_refl _) _).trans (by first | exact below_drewN (Below.refl _ _) _ | exact below_drewN (below_drewN (Below.refl _ _) _) _)⟩
  · rw [if_neg (fun h => h0 h.1)]
    have h0' : decide (0 < g) = false := by simpa using h0
    clear he
    go_enter Try.func8, Try.ntmps8
    go_wp2_with (go_at_call 21; refine (made_yes b m _ (by first | exact c1 | (rw [World.cell?_alloc_lt _ _ _ hbl]; exact c1))).mono ?_; rintro e w' ⟨rfl, rfl⟩)
    go_quiet (fail)
    go_wp2
    go_quiet (fail)
    go_wp2
    go_ret
    exact ⟨rfl, ((Below.refl _ _).alloc (Nat.le_refl _) _).trans (by first | exact below_drewN (Below.refl _ _) _ | exact below_drewN (below_drewN (Below.refl _ _) _) _)⟩
end Go.Proofs.Ytpboomjnbndcpaa
