/-
  Proved here: what pace.When, Len, Gap, Forget, Copy do at every pace that a call made; nothing else that was there changes.
-/
import Derived.Test.YtpboomjnbndcpaaPaceN
import Derived.Laws.Externs
import Derived.Deep.RegionHeld3
namespace Go.Proofs.Ytpboomjnbndcpaa
open Go.RowKit Go.MapKept

set_option maxHeartbeats 400000 in
theorem len_any (b m : Nat) (g : Int) (l : List Mrow) (ck : Nat) (y : Pre) (u : Int) (w : World) (hp : PaceAt w b m g l ck y u) :
    Calls Try.prog 17 #[.pointer (some ⟨b, 0, none⟩)] w fun e w' => e = .returned (.int .i64 l.length) ∧ w = w' := by
  have c1 : w.cell? ⟨b, 1, none⟩ = some (.map (some m)) := cell_of hp.blk 1
  have hsz : (entries l).size = l.length := by simp [entries]
  have hl : ∀ ty, (Builtin.len_ #[49] ty #[.map (some m)]).run Try.prog w = .ok (.int .i64 l.length) w := by
    intro ty
    simp [Builtin.len_, MapKept.run_getObj_map hp.map, Result.andThen, hsz, goInt]
  clear hp
  go_enter Try.func17, Try.ntmps17
  go_wp2_with (go_at_call 21; refine (made_yes b m _ c1).mono ?_; rintro e w' ⟨rfl, rfl⟩)
  go_ret
  exact ⟨rfl, rfl⟩

set_option maxHeartbeats 400000 in
theorem gap_any (b m : Nat) (g : Int) (l : List Mrow) (ck : Nat) (y : Pre) (u : Int) (w : World) (hp : PaceAt w b m g l ck y u) :
    Calls Try.prog 18 #[.pointer (some ⟨b, 0, none⟩)] w fun e w' => e = .returned (.int .i64 g) ∧ w = w' := by
  have c0 : w.cell? ⟨b, 0, none⟩ = some (.int .i64 g) := cell_of hp.blk 0
  have c1 : w.cell? ⟨b, 1, none⟩ = some (.map (some m)) := cell_of hp.blk 1
  clear hp
  go_enter Try.func18, Try.ntmps18
  go_wp2_with (go_at_call 21; refine (made_yes b m _ c1).mono ?_; rintro e w' ⟨rfl, rfl⟩)
  go_ret
  exact ⟨rfl, rfl⟩

set_option maxHeartbeats 400000 in
theorem when_any (b m : Nat) (g : Int) (l : List Mrow) (ck : Nat) (y : Pre) (u : Int) (x : Pre) (w : World) (hp : PaceAt w b m g l ck y u) (hg : 0 ≤ g ∧ g ≤ 65535) (ht : ∀ t, mget l x = some t → 0 ≤ t ∧ t ≤ 1099511627776) :
    Calls Try.prog 15 #[.pointer (some ⟨b, 0, none⟩), preV x] w fun e w' => e = .returned (.int .i64 (match mget l x with | none => 0 | some t => t + g)) ∧ Below w.heap.size w w' := by
  have hbl := lt_of_heap hp.blk
  have c0 : w.cell? ⟨b, 0, none⟩ = some (.int .i64 g) := cell_of hp.blk 0
  have c1 : w.cell? ⟨b, 1, none⟩ = some (.map (some m)) := cell_of hp.blk 1
  have hl : ∀ k, (Instr.lookup 49 (.map (some m)) (.agg #[.int .u32 x.1, .int .i64 x.2]) true).run Try.prog ((w.alloc (.cells #[.int .u32 x.1, .int .i64 x.2] 28)).drewN k) = .ok (.tuple #[.int .i64 ((mget l x).getD 0), .bool (mget l x).isSome]) ((w.alloc (.cells #[.int .u32 x.1, .int .i64 x.2] 28)).drewN k) := fun k =>
    run_lookupPre (w := (w.alloc (.cells #[.int .u32 x.1, .int .i64 x.2] 28)).drewN k) (heap_alloc_old hp.map) x
  clear hp
  obtain ⟨g0, g1⟩ := hg
  cases hx : mget l x with
  | none =>
    rw [hx] at hl
    clear ht hx
    unfold preV
    obtain ⟨a1, a2⟩ := x
    dsimp only [Option.getD_none, Option.isSome_none] at *
    go_enter Try.func15, Try.ntmps15
    go_wp2_with (go_at_call 21; refine (made_yes b m _ (by first | exact c1 | (rw [World.cell?_alloc_lt _ _ _ hbl]; exact c1))).mono ?_; rintro e w' ⟨rfl, rfl⟩)
    go_quiet (fail)
    go_wp2
    go_ret
    exact ⟨rfl, ((Below.refl _ _).alloc (Nat.le_refl _) _).trans (below_drewN (Below.refl _ _) _)⟩
  | some t =>
    rw [hx] at hl
    obtain ⟨t0, t1⟩ := ht t hx
    clear ht hx
    unfold preV
    obtain ⟨a1, a2⟩ := x
    dsimp only [Option.getD_some, Option.isSome_some] at *
    go_enter Try.func15, Try.ntmps15
    go_wp2_with (go_at_call 21; refine (made_yes b m _ (by first | exact c1 | (rw [World.cell?_alloc_lt _ _ _ hbl]; exact c1))).mono ?_; rintro e w' ⟨rfl, rfl⟩)
    go_quiet (fail)
    go_wp2
    go_ret
    exact ⟨rfl, ((Below.refl _ _).alloc (Nat.le_refl _) _).trans (below_drewN (Below.refl _ _) _)⟩

set_option maxHeartbeats 400000 in
theorem forget_any (b m : Nat) (g : Int) (l : List Mrow) (ck : Nat) (y : Pre) (u : Int) (w : World) (hp : PaceAt w b m g l ck y u) :
    Calls Try.prog 13 #[.pointer (some ⟨b, 0, none⟩)] w fun e w' => e = .returned (.tuple #[]) ∧ PaceAt w' b m g [] ck (0, 0) (-1) ∧ Eff (fun k => k = b ∨ k = m) w w' := by
  have hbm : b ≠ m := by
    intro e
    have h1 := hp.blk
    rw [e, hp.map] at h1
    cases h1
  have c1 : w.cell? ⟨b, 1, none⟩ = some (.map (some m)) := cell_of hp.blk 1
  have hcl : ∀ ty, (Builtin.clear_ #[49] ty #[.map (some m)]).run Try.prog w = .ok (.tuple #[]) (wset w m (.map #[] ck)) := by
    intro ty
    simp [Builtin.clear_, run_underlying Try.underlying49, MapKept.run_getObj_map hp.map, MapKept.run_setObj_map _ hp.map, Result.andThen, wset]
  have hbk : (wset w m (.map #[] ck)).heap[b]? = some (.cells #[.int .i64 g, .map (some m), .int .u32 y.1, .int .i64 y.2, .int .i64 u] 53) := by rw [wset_other hbm]; exact hp.blk
  have hmk : (wset w m (.map #[] ck)).heap[m]? = some (.map #[] ck) := wset_same (lt_of_heap hp.map)
  generalize hW : wset w m (.map #[] ck) = w1 at *
  have hE : Eff (fun k => k = b ∨ k = m) w w1 := by rw [← hW]; exact (Eff.refl _ _).wset (fun _ => .inr rfl) _
  have s2 : w1.cell? ⟨b, 2, none⟩ = some (.int .u32 y.1) := cell_of hbk 2
  have s3 : w1.cell? ⟨b, 3, none⟩ = some (.int .i64 y.2) := cell_of hbk 3
  have s4 : w1.cell? ⟨b, 4, none⟩ = some (.int .i64 u) := cell_of hbk 4
  have s2' : w1.frozen? ⟨b, 2, none⟩ = false := free_of hbk 2
  have s3' : w1.frozen? ⟨b, 3, none⟩ = false := free_of hbk 3
  have s4' : w1.frozen? ⟨b, 4, none⟩ = false := free_of hbk 4
  have HK := Lib.hid hbk
  have HM := Lib.hid hmk
  have HE := Lib.hid hE
  clear hbk hmk hE hW hp
  go_enter Try.func13, Try.ntmps13
  go_wp2_with (go_at_call 21; refine (made_yes b m _ c1).mono ?_; rintro e w' ⟨rfl, rfl⟩)
  go_end0
  refine ⟨rfl, ⟨?_, ?_⟩, ((HE.out.setCell (fun _ => .inl rfl) _).setCell (fun _ => .inl rfl) _).setCell (fun _ => .inl rfl) _⟩
  · exact heap_setCell_same (heap_setCell_same (heap_setCell_same HK.out 2 _) 3 _) 4 _
  · exact heap_setCell_old (heap_setCell_old (heap_setCell_old HM.out (Ne.symm hbm)) (Ne.symm hbm)) (Ne.symm hbm)

set_option maxHeartbeats 400000 in
/-- maps.Clone: a new map with the same rows. -/
theorem clone_any (m : Nat) (l : List Mrow) (ck : Nat) (w : World) (hm : w.heap[m]? = some (.map (entries l) ck)) :
    Calls Try.prog 25 #[.map (some m)] w fun e w' => e = .returned (.map (some w.heap.size)) ∧ w.alloc (.map (entries l) ck) = w' := by
  have hq := fun v => run_eql_map_nil (P := Try.prog) v 49 _ _ (some m) Try.underlying49
  have hc : (callFunc 28 #[.iface 49 (.map (some m))]).run Try.prog w = .ok (.value (.iface 49 (.map (some w.heap.size)))) (w.alloc (.map (entries l) ck)) := by
    have e : Extern.MapsClone.clone #[.iface 49 (.map (some m))] = (getObj m >>= fun o => match o with
        | .map entries clock => (newObj (.map entries clock) >>= fun n => pure (.iface 49 (.map (some n))))
        | _ => stuck "maps.clone: a map expected") := rfl
    rw [run_callFunc_extern Try.func28 (by kernel_rfl) (by kernel_rfl) (by kernel_rfl) (e := Extern.MapsClone.clone) (by kernel_rfl), e]
    simp [MapKept.run_getObj_map hm, Result.andThen, go_sem]
  have ha : ∀ (r : Nat) v, (Instr.typeAssert (.iface 49 (.map (some r))) 20 49 false).run Try.prog v = .ok (.map (some r)) v := fun _ _ => by kernel_rfl
  go_enter Try.func25, Try.ntmps25
  go_wp2
  go_ret
  exact ⟨rfl, rfl⟩

set_option maxHeartbeats 1000000 in
theorem copy_any (b m : Nat) (g : Int) (l : List Mrow) (ck : Nat) (y : Pre) (u : Int) (w : World) (hp : PaceAt w b m g l ck y u) :
    Calls Try.prog 19 #[.pointer (some ⟨b, 0, none⟩)] w fun e w' => ∃ c mc, e = .returned (.pointer (some ⟨c, 0, none⟩)) ∧ w.heap.size ≤ c ∧ w.heap.size ≤ mc ∧ PaceAt w' c mc g l ck y u ∧ Below w.heap.size w w' := by
  have hbl := lt_of_heap hp.blk
  have c0 : w.cell? ⟨b, 0, none⟩ = some (.int .i64 g) := cell_of hp.blk 0
  have c1 : w.cell? ⟨b, 1, none⟩ = some (.map (some m)) := cell_of hp.blk 1
  have c2 : w.cell? ⟨b, 2, none⟩ = some (.int .u32 y.1) := cell_of hp.blk 2
  have c3 : w.cell? ⟨b, 3, none⟩ = some (.int .i64 y.2) := cell_of hp.blk 3
  have c4 : w.cell? ⟨b, 4, none⟩ = some (.int .i64 u) := cell_of hp.blk 4
  have HM := Lib.hid hp.map
  have hbn : b ≠ w.heap.size := by omega
  clear hp
  go_enter Try.func19, Try.ntmps19
  go_wp2_with (go_at_call 21; refine (made_yes b m _ c1).mono ?_; rintro e w' ⟨rfl, rfl⟩)
  go_region_held3 (fun w' => w'.cell? ⟨b, 0, none⟩ = some (.int .i64 g) ∧ w'.cell? ⟨b, 1, none⟩ = some (.map (some m)) ∧ w'.cell? ⟨b, 2, none⟩ = some (.int .u32 y.1) ∧ w'.cell? ⟨b, 3, none⟩ = some (.int .i64 y.2) ∧ w'.cell? ⟨b, 4, none⟩ = some (.int .i64 u))
    (go_keep)
    (first | (go_at_call 25; refine (clone_any m l ck w.drew (show w.drew.heap[m]? = _ from HM.out)).mono ?_; rintro e w' ⟨rfl, rfl⟩))
  go_wp2
  go_ret
  exact ⟨w.heap.size + 1, w.heap.size, rfl, by omega, Nat.le_refl _, ⟨heap_alloc_new' (World.size_alloc _ _).symm, heap_alloc_old (heap_alloc_new _ _)⟩, (((Below.refl _ _).alloc (Nat.le_refl _) _).alloc (by simp) _).drew⟩
end Go.Proofs.Ytpboomjnbndcpaa
