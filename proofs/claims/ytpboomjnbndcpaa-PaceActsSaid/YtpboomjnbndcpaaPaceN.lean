/-
  Proved here: what pace.Note does at every pace that a call made; nothing else that was there changes.
-/
import Derived.Test.YtpboomjnbndcpaaPace
namespace Go.Proofs.Ytpboomjnbndcpaa
open Go.RowKit Go.MapKept

set_option maxHeartbeats 400000 in
theorem note_arg (b m : Nat) (g : Int) (l : List Mrow) (ck : Nat) (y : Pre) (u : Int) (x : Pre) (now : Int) (w : World) (hp : PaceAt w b m g l ck y u)
    (hx : 0 ≤ x.1 ∧ x.1 < 4294967296) (hbad : goodI x.1 x.2 = false ∨ now < 0 ∨ 1099511627776 < now) :
    Calls Try.prog 9 #[.pointer (some ⟨b, 0, none⟩), preV x, .int .i64 now] w fun e w' => e = .returned (.int .i64 2) ∧ Below w.heap.size w w' := by
  have hbl := lt_of_heap hp.blk
  have c1 : w.cell? ⟨b, 1, none⟩ = some (.map (some m)) := cell_of hp.blk 1
  clear hp
  unfold preV
  obtain ⟨a1, a2⟩ := x
  obtain ⟨hx1, hx2⟩ := hx
  dsimp only at *
  have cases : goodI a1 a2 = false ∨ (goodI a1 a2 = true ∧ now < 0) ∨ (goodI a1 a2 = true ∧ ¬ now < 0 ∧ 1099511627776 < now) := by
    cases hgd : goodI a1 a2
    · exact .inl rfl
    · rcases hbad with h | h | h
      · rw [hgd] at h; cases h
      · exact .inr (.inl ⟨rfl, h⟩)
      · exact .inr (.inr ⟨rfl, by omega, h⟩)
  clear hbad
  rcases cases with hG | ⟨hG, hn⟩ | ⟨hG, hn, hn2⟩
  all_goals
    go_enter Try.func9, Try.ntmps9
    go_wp2_with (first | (go_at_call 21; refine (made_yes b m _ (by first | exact c1 | (rw [World.cell?_alloc_lt _ _ _ hbl]; exact c1))).mono ?_; rintro e w' ⟨rfl, rfl⟩) | (go_at_call 22; refine (good_any _ _ _ hx1 hx2).mono ?_; rintro e w' ⟨rfl, hb⟩))
    go_ret
    exact ⟨rfl, ((Below.refl _ _).alloc (Nat.le_refl _) _).trans (hb.mono (by simp))⟩

set_option maxHeartbeats 400000 in
theorem note_state (b m : Nat) (g : Int) (l : List Mrow) (ck : Nat) (y : Pre) (u : Int) (x : Pre) (now t : Int) (w : World) (hp : PaceAt w b m g l ck y u)
    (hx : 0 ≤ x.1 ∧ x.1 < 4294967296) (hG : goodI x.1 x.2 = true) (hn : 0 ≤ now ∧ now ≤ 1099511627776) (hm : mget l x = some t) (hg : 0 ≤ g ∧ g ≤ 65535) (ht : 0 ≤ t ∧ t ≤ 1099511627776)
    (hR : readyB g l y u x now = false) :
    Calls Try.prog 9 #[.pointer (some ⟨b, 0, none⟩), preV x, .int .i64 now] w fun e w' => e = .returned (.int .i64 8) ∧ Below w.heap.size w w' := by
  have hbl := lt_of_heap hp.blk
  have c1 : w.cell? ⟨b, 1, none⟩ = some (.map (some m)) := cell_of hp.blk 1
  have HR := Lib.hid (ready_old b m g l ck y u x now t)
  have HP := Lib.hid hp
  have hRt := Lib.hid hR
  have HM := Lib.hid hm
  clear hp hR hm
  unfold preV at HR ⊢
  obtain ⟨a1, a2⟩ := x
  obtain ⟨hx1, hx2⟩ := hx
  obtain ⟨hn1, hn2⟩ := hn
  have hn1' : ¬ now < 0 := by omega
  dsimp only at *
  go_enter Try.func9, Try.ntmps9
  go_wp2_with (first | (go_at_call 21; refine (made_yes b m _ (by first | exact c1 | (rw [World.cell?_alloc_lt _ _ _ hbl]; exact c1))).mono ?_; rintro e w' ⟨rfl, rfl⟩) | (go_at_call 22; refine (good_any _ _ _ hx1 hx2).mono ?_; rintro e w' ⟨rfl, hb⟩; have k0 : w'.cell? ⟨w.heap.size, 0, none⟩ = some (.int .u32 a1) := (by rw [hb.cell (by simp)]; simp); have k1 : w'.cell? ⟨w.heap.size, 1, none⟩ = some (.int .i64 a2) := (by rw [hb.cell (by simp)]; simp)) | (go_at_call 8; refine (HR.out _ ((HP.out.below ((Below.refl _ _).alloc (Nat.le_refl _) _)).below hb) HM.out hg ht).mono ?_; rw [hRt.out]; rintro e w2 ⟨rfl, hb2⟩))
  go_ret
  exact ⟨rfl, ((Below.refl _ _).alloc (Nat.le_refl _) _).trans ((hb.mono (by simp)).trans (hb2.mono (Nat.le_trans (by simp) hb.size)))⟩
set_option maxHeartbeats 400000 in
theorem note_ok (b m : Nat) (g : Int) (l : List Mrow) (ck : Nat) (y : Pre) (u : Int) (x : Pre) (now : Int) (w : World) (hp : PaceAt w b m g l ck y u)
    (hx : 0 ≤ x.1 ∧ x.1 < 4294967296) (hG : goodI x.1 x.2 = true) (hn : 0 ≤ now ∧ now ≤ 1099511627776) (M1 M2 : Obj) (v0 : Int) (s0 : Nat)
    (hR : ∀ v, PaceAt v b m g l ck y u → Calls Try.prog 8 #[.pointer (some ⟨b, 0, none⟩), preV x, .int .i64 now] v fun e w' => e = .returned (.bool true) ∧ Below v.heap.size v w')
    (hme : ∀ v, PaceAt v b m g l ck y u → (Instr.mapEntry 49 (.map (some m)) (preV x)).run Try.prog v = .ok (.tuple #[.int .i64 v0, .int .i64 s0]) (wset v m M1))
    (hes : ∀ v, v.heap[m]? = some M1 → (Instr.entryStore 49 (.map (some m)) (.int .i64 s0) (.int .i64 now)).run Try.prog v = .ok () (wset v m M2)) :
    Calls Try.prog 9 #[.pointer (some ⟨b, 0, none⟩), preV x, .int .i64 now] w fun e w' => e = .returned (.int .i64 0) ∧
      w'.heap[b]? = some (.cells #[.int .i64 g, .map (some m), .int .u32 x.1, .int .i64 x.2, .int .i64 now] 53) ∧ w'.heap[m]? = some M2 ∧ Eff (fun k => k = b ∨ k = m) w w' := by
  have hbl := lt_of_heap hp.blk
  have hml := lt_of_heap hp.map
  have hbm : b ≠ m := by
    intro e
    have h1 := hp.blk
    rw [e, hp.map] at h1
    cases h1
  have c1 : w.cell? ⟨b, 1, none⟩ = some (.map (some m)) := cell_of hp.blk 1
  have HR := Lib.hid hR
  have HP := Lib.hid hp
  have HME := Lib.hid hme
  have HES := Lib.hid hes
  clear hp hR hme hes
  unfold preV at HR HME ⊢
  obtain ⟨a1, a2⟩ := x
  obtain ⟨hx1, hx2⟩ := hx
  obtain ⟨hn1, hn2⟩ := hn
  have hn1' : ¬ now < 0 := by omega
  dsimp only at *
  go_enter Try.func9, Try.ntmps9
  go_wp2_with (first | (go_at_call 21; refine (made_yes b m _ (by first | exact c1 | (rw [World.cell?_alloc_lt _ _ _ hbl]; exact c1))).mono ?_; rintro e w' ⟨rfl, rfl⟩) | (go_at_call 22; refine (good_any _ _ _ hx1 hx2).mono ?_; rintro e w' ⟨rfl, hb⟩; have k0 : w'.cell? ⟨w.heap.size, 0, none⟩ = some (.int .u32 a1) := (by rw [hb.cell (by simp)]; simp); have k1 : w'.cell? ⟨w.heap.size, 1, none⟩ = some (.int .i64 a2) := (by rw [hb.cell (by simp)]; simp)) | (go_at_call 8; refine (HR.out _ ((HP.out.below ((Below.refl _ _).alloc (Nat.le_refl _) _)).below hb)).mono ?_; rintro e w2 ⟨rfl, hb2⟩))
  have hP2 : PaceAt w2 b m g l ck y u := ((HP.out.below ((Below.refl _ _).alloc (Nat.le_refl _) (.cells #[.int .u32 a1, .int .i64 a2] 28))).below hb).below hb2
  have hE2 : Below w.heap.size w w2 := ((Below.refl _ _).alloc (Nat.le_refl _) _).trans ((hb.mono (by simp)).trans (hb2.mono (Nat.le_trans (by simp) hb.size)))
  have q0 : w2.cell? ⟨w.heap.size, 0, none⟩ = some (.int .u32 a1) := by rw [hb2.cell (Nat.lt_of_lt_of_le (by simp) hb.size)]; exact k0
  have q1 : w2.cell? ⟨w.heap.size, 1, none⟩ = some (.int .i64 a2) := by rw [hb2.cell (Nat.lt_of_lt_of_le (by simp) hb.size)]; exact k1
  have hws : w.heap.size ≠ m := by omega
  have hbs : b ≠ w.heap.size := by omega
  clear k0 k1 hb hb2 c1
  have c1 : w2.cell? ⟨b, 1, none⟩ = some (.map (some m)) := cell_of hP2.blk 1
  have me := HME.out w2.drew ⟨hP2.blk, hP2.map⟩
  have es := HES.out (wset w2.drew m M1) (wset_same (lt_of_heap (w := w2.drew) hP2.map))
  have ES := Lib.hid hE2
  have HP2 := Lib.hid hP2
  have d1 : (wset w2.drew m M1).cell? ⟨b, 1, none⟩ = some (.map (some m)) := by rw [wset_cell hbm]; exact c1
  have d2 : (wset w2.drew m M1).cell? ⟨w.heap.size, 0, none⟩ = some (.int .u32 a1) := by rw [wset_cell hws]; exact q0
  have d3 : (wset w2.drew m M1).cell? ⟨w.heap.size, 1, none⟩ = some (.int .i64 a2) := by rw [wset_cell hws]; exact q1
  have d4 : (wset (wset w2.drew m M1) m M2).cell? ⟨b, 1, none⟩ = some (.map (some m)) := by rw [wset_cell hbm]; exact d1
  have d5 : (wset (wset w2.drew m M1) m M2).cell? ⟨w.heap.size, 0, none⟩ = some (.int .u32 a1) := by rw [wset_cell hws]; exact d2
  have d6 : (wset (wset w2.drew m M1) m M2).cell? ⟨w.heap.size, 1, none⟩ = some (.int .i64 a2) := by rw [wset_cell hws]; exact d3
  have hbk : (wset (wset w2.drew m M1) m M2).heap[b]? = some (.cells #[.int .i64 g, .map (some m), .int .u32 y.1, .int .i64 y.2, .int .i64 u] 53) := by rw [wset_other hbm, wset_other hbm]; exact hP2.blk
  have s2 : (wset (wset w2.drew m M1) m M2).cell? ⟨b, 2, none⟩ = some (.int .u32 y.1) := cell_of hbk 2
  have s3 : (wset (wset w2.drew m M1) m M2).cell? ⟨b, 3, none⟩ = some (.int .i64 y.2) := cell_of hbk 3
  have s4 : (wset (wset w2.drew m M1) m M2).cell? ⟨b, 4, none⟩ = some (.int .i64 u) := cell_of hbk 4
  have s2' : (wset (wset w2.drew m M1) m M2).frozen? ⟨b, 2, none⟩ = false := free_of hbk 2
  have s3' : (wset (wset w2.drew m M1) m M2).frozen? ⟨b, 3, none⟩ = false := free_of hbk 3
  have s4' : (wset (wset w2.drew m M1) m M2).frozen? ⟨b, 4, none⟩ = false := free_of hbk 4
  have HK := Lib.hid hbk
  clear hE2 hP2 hbk
  go_region_held3 (fun w' => w'.cell? ⟨b, 1, none⟩ = some (.map (some m)) ∧ w'.cell? ⟨w.heap.size, 0, none⟩ = some (.int .u32 a1) ∧ w'.cell? ⟨w.heap.size, 1, none⟩ = some (.int .i64 a2))
    (first | (go_keep; done) | ((try dsimp only); (repeat' apply And.intro) <;> (rw [World.cell?_setCell_other _ _ _ _ (by simp [hbs]), World.cell?_setCell_other _ _ _ _ (by simp [hbs]), World.cell?_setCell_other _ _ _ _ (by simp [hbs])]; assumption))) (fail)
  go_wp2
  go_ret
  refine ⟨rfl, ?_, ?_, ?_⟩
  · exact heap_setCell_same (heap_setCell_same (heap_setCell_same HK.out 2 _) 3 _) 4 _
  · exact heap_setCell_old (heap_setCell_old (heap_setCell_old (wset_same (by rw [wset_size]; exact lt_of_heap (w := w2.drew) HP2.out.map)) (Ne.symm hbm)) (Ne.symm hbm)) (Ne.symm hbm)
  · exact (((((Eff.of_below _ ES.out).drew.wset (fun _ => .inr rfl) _).wset (fun _ => .inr rfl) _).setCell (fun _ => .inl rfl) _).setCell (fun _ => .inl rfl) _).setCell (fun _ => .inl rfl) _

/-- The rows' births are apart, and all ahead of the clock; so are the prefixes. -/
structure Tidy (l : List Mrow) (ck : Nat) : Prop where
  born : ∀ r ∈ l, r.2.2 < ck
  births : (l.map (·.2.2)).Nodup

theorem born_find {l : List Mrow} (h : (l.map (·.2.2)).Nodup) (j : Nat) (hj : j < l.length) : l.findIdx? (fun r => decide (r.2.2 = l[j].2.2)) = some j := by
  rw [List.findIdx?_eq_some_iff_getElem]
  refine ⟨hj, by simp, fun i hi => ?_⟩
  have h2 := List.pairwise_iff_getElem.1 h i j (by simp; omega) (by simpa using hj) hi
  simpa using h2

theorem note_ok_new (b m : Nat) (g : Int) (l : List Mrow) (ck : Nat) (y : Pre) (u : Int) (x : Pre) (now : Int) (w : World) (hp : PaceAt w b m g l ck y u)
    (hx : 0 ≤ x.1 ∧ x.1 < 4294967296) (hG : goodI x.1 x.2 = true) (hn : 0 ≤ now ∧ now ≤ 1099511627776) (hm : mget l x = none) (hT : Tidy l ck) :
    Calls Try.prog 9 #[.pointer (some ⟨b, 0, none⟩), preV x, .int .i64 now] w fun e w' => e = .returned (.int .i64 0) ∧ PaceAt w' b m g (l ++ [(x, now, ck)]) (ck + 1) x now ∧ Eff (fun k => k = b ∨ k = m) w w' := by
  have hlt : l.length < (l ++ [(x, (0 : Int), ck)]).length := by simp
  have e1 : (l ++ [(x, (0 : Int), ck)])[l.length] = (x, (0 : Int), ck) := by simp
  refine (note_ok b m g l ck y u x now w hp hx hG hn (.map (entries (l ++ [(x, 0, ck)])) (ck + 1)) (.map (entries (l ++ [(x, now, ck)])) (ck + 1)) 0 ck
    (fun v hv => ready_new b m g l ck y u x now v hv hm) (fun v hv => run_mapEntryPre_new hv.map x hm) (fun v hv => ?_)).mono fun e w' ⟨he, h1, h2, h3⟩ => ⟨he, ⟨h1, h2⟩, h3⟩
  have h := run_entryStorePre (m := m) (ck := ck + 1) hv l.length hlt
    (born_find (by
      rw [List.map_append, List.nodup_append]
      refine ⟨hT.births, by simp, fun a ha c hc => ?_⟩
      obtain ⟨r, hr, rfl⟩ := List.mem_map.1 ha
      have := hT.born r hr
      simp at hc
      omega) l.length hlt) now
  rw [e1] at h
  simpa using h

theorem mput_set (x : Pre) (t : Int) : ∀ (l : List Mrow) (j : Nat), l.findIdx? (fun r => decide (r.1 = x)) = some j → mput l x t = l.set j ((l.getD j default).1, t, (l.getD j default).2.2) := by
  intro l
  induction l with
  | nil => intro j h; simp at h
  | cons r l ih =>
    intro j h
    rw [List.findIdx?_cons] at h
    by_cases hr : r.1 = x
    · simp only [hr, decide_true, if_true, Option.some.injEq] at h
      subst h
      simp [mput, hr]
    · simp only [hr, decide_false, Bool.false_eq_true, if_false] at h
      cases hf : l.findIdx? (fun r => decide (r.1 = x)) with
      | none => rw [hf] at h; simp at h
      | some i =>
        rw [hf] at h
        simp only [Option.map_some, Option.some.injEq] at h
        subst h
        simp only [mput, hr, if_false, List.set_cons_succ, List.getD_cons_succ]
        rw [ih i hf]

theorem note_ok_old (b m : Nat) (g : Int) (l : List Mrow) (ck : Nat) (y : Pre) (u : Int) (x : Pre) (now t : Int) (w : World) (hp : PaceAt w b m g l ck y u)
    (hx : 0 ≤ x.1 ∧ x.1 < 4294967296) (hG : goodI x.1 x.2 = true) (hn : 0 ≤ now ∧ now ≤ 1099511627776) (hm : mget l x = some t) (hT : Tidy l ck) (hg : 0 ≤ g ∧ g ≤ 65535) (ht : 0 ≤ t ∧ t ≤ 1099511627776)
    (hR : readyB g l y u x now = true) :
    Calls Try.prog 9 #[.pointer (some ⟨b, 0, none⟩), preV x, .int .i64 now] w fun e w' => e = .returned (.int .i64 0) ∧ PaceAt w' b m g (mput l x now) ck x now ∧ Eff (fun k => k = b ∨ k = m) w w' := by
  have hm' := hm
  rw [mget_find] at hm'
  cases hj : l.findIdx? (fun r => decide (r.1 = x)) with
  | none => rw [hj] at hm'; simp at hm'
  | some j =>
    obtain ⟨hlt, hpj, -⟩ := List.findIdx?_eq_some_iff_getElem.1 hj
    have e1 : l.getD j default = l[j] := by simp [hlt]
    refine (note_ok b m g l ck y u x now w hp hx hG hn (.map (entries l) ck) (.map (entries (mput l x now)) ck) (l.getD j default).2.1 (l.getD j default).2.2
      (fun v hv => ?_) (fun v hv => run_mapEntryPre_old hv.map x j hj) (fun v hv => ?_)).mono fun e w' ⟨he, h1, h2, h3⟩ => ⟨he, ⟨h1, h2⟩, h3⟩
    · have := ready_old b m g l ck y u x now t v hv hm hg ht
      rw [hR] at this
      exact this
    · rw [mput_set x now l j hj, e1]
      exact run_entryStorePre hv j hlt (born_find hT.births j hlt) now
end Go.Proofs.Ytpboomjnbndcpaa
