/-
  Proved here: the document's Copy of a pace: another one, alike, in memory of its own; the rows' slice is nil where there are none.
-/
import Derived.Test.YtpboomjnbndcpaaPaceR2
namespace Go.Proofs.Ytpboomjnbndcpaa
open Go.RowKit

/-- An append of nothing. -/
theorem run_append_nil {P : Program} (w : World) (t ty e : TypeId) (i : TypeInfo) (ht : P.underlying t = some (.slice e)) (hi : P.info? e = some i) (size : Nat) (base : Nat) (v : Value) (n : Nat) (xs : List Value) (hown : w.ownsRow base e size v n xs) :
    (Builtin.append_ #[t, t] ty #[v, .slice none 0 0]).run P w = .ok v w := run_append_owned_none (P := P) (w := w) base t ty e i size ht hi v n xs hown

theorem step_append_nil {P : Program} (w : World) {ops : Array Oper} {o : Oper} {a : Act} {K : Act → World → Prop} {Q : Exit → Act → World → Prop} {E : Prop} (hgd : o.guard = none) (s x : Operand) (t : TypeId)
    (ho : o.op = .call { callee := .builtin .append, args := #[s, x], argTypes := #[t, t] })
    (base : Nat) (e : TypeId) (i : TypeInfo) (size : Nat) (ht : P.underlying t = some (.slice e)) (hi : P.info? e = some i)
    (v : Value) (n : Nat) (xs : List Value) (hs : a.eval s = v) (hown : w.ownsRow base e size v n xs) (hx : a.eval x = .slice none 0 0) (h : K (a.put o.dst v) w) :
    if Region.wanted o (yielded ops a.tmps) = true then Oper.wp P o a w K Q else E := by
  have hw : Region.wanted o (yielded ops a.tmps) = true := by simp [Region.wanted, hgd]
  rw [if_pos hw]
  have hr := run_append_nil (P := P) w t o.type e i ht hi size base v n xs hown
  unfold Oper.wp execOp
  simp only [ho, resolve, invoke, builtin, Sem.run_bind, Sem.run_pure, Result.andThen_ok, List.map_toArray, List.map_cons, List.map_nil, hs, hx, hr]
  exact h

set_option maxHeartbeats 2000000 in
theorem refCopy_any (r base : Nat) (g : Int) (v : Value) (R : List Rrow) (w : World) (hr : RefAt w r base g v R) (hlen : R.length ≤ 1000000) (hnil : R = [] → v = .slice none 0 0) :
    Calls Try.prog 20 #[.pointer (some ⟨r, 0, none⟩)] w fun e w' => ∃ c v', e = .returned (.pointer (some ⟨c, 0, none⟩)) ∧ w.heap.size ≤ c ∧ RefAt w' c w.heap.size g v' R ∧ Below w.heap.size w w' := by
  have hrl := lt_of_heap hr.blk
  have c0 : w.cell? ⟨r, 0, none⟩ = some (.int .i64 g) := cell_of hr.blk 0
  have c1 : w.cell? ⟨r, 1, none⟩ = some v := cell_of hr.blk 1
  have hrn : r ≠ w.heap.size := by omega
  obtain ⟨i0, hi, hz0, hz1, hz2⟩ := info_parts rowInfo
  by_cases hR : R = []
  · obtain rfl := hnil hR
    subst hR
    clear hr hnil
    go_enter Try.func20, Try.ntmps20
    go_wp2_with fail
    go_region_held3 (fun w' => w'.cell? ⟨r, 0, none⟩ = some (.int .i64 g) ∧ w'.cell? ⟨r, 1, none⟩ = some (.slice none 0 0)) (go_keep)
      (first | (refine step_append_nil _ rfl (.tmp 7) (.tmp 11) 40 rfl w.heap.size 59 i0 3 Try.underlying40 hi _ 0 [] rfl (own_empty 3 (heap_alloc_new' rfl) (Nat.le_refl _)).drew rfl ?_))
    go_wp2
    go_ret
    refine ⟨_, _, rfl, by omega, ⟨heap_alloc_new' (World.size_alloc _ _).symm, ?_⟩, (((Below.refl _ _).alloc (Nat.le_refl _) _).alloc (by simp) _).drew⟩
    exact own_empty 3 (heap_alloc_old (heap_alloc_new' rfl)) (Nat.le_refl _)
  · have hpos : 0 < R.length := List.length_pos_iff.2 hR
    obtain ⟨ab, cap, rfl⟩ : ∃ ab cap, v = .slice (some ⟨ab, 0, none⟩) R.length cap := by
      rcases hr.form with ⟨-, h0⟩ | ⟨ab, cap, h1, -⟩
      · exact absurd h0 hR
      · exact ⟨ab, cap, h1⟩
    have hnews : ∀ j u, (flat R)[j]? = some u → w.cell? ((⟨ab, 0, none⟩ : Addr).add j) = some u := hr.own.cells rfl
    have HN := Lib.hid hnews
    have HL := Lib.hid (flat_len R)
    have h63 : 0 + R.length ≤ maxLen := by unfold maxLen; omega
    have hby : (0 + R.length) * 24 ≤ 140737488355328 := by omega
    have hsz : w.heap.size ≤ (w.alloc (.cells #[] 59)).drew.heap.size := by simp
    clear hnews hr hnil hR
    go_enter Try.func20, Try.ntmps20
    go_wp2_with fail
    go_region_held3 (fun w' => w'.cell? ⟨r, 0, none⟩ = some (.int .i64 g) ∧ w'.cell? ⟨r, 1, none⟩ = some (.slice (some ⟨ab, 0, none⟩) R.length cap)) (first | (go_keep; done) | exact ⟨s0, s1⟩)
      (first | (refine step_append_lies _ rfl (.tmp 7) (.tmp 11) 40 rfl w.heap.size 59 i0 (.agg #[.int .u32 0, .int .i64 0, .int .i64 0]) 3 24 Try.underlying40 hi hz0 hz1 hz2 rfl (Nat.succ_pos 2) _ 0 [] rfl (own_empty 3 (heap_alloc_new' rfl) (Nat.le_refl _)).drew ⟨ab, 0, none⟩ R.length cap (flat R) rfl HL.out (fun j u h => cell_below (w := w) (Below.drew (below_alloc (Below.refl _ _) _)) (HN.out j u h)) (flat_one R) hpos h63 hby hsz _ rfl ?_
                intro gg cap5 w5 hown2 hg2 hat2 hlt2
                have hB5 : Below w.heap.size w w5 := Below.grown (Below.drew (below_alloc (Below.refl _ _) _)) hg2 (by simp) (fun k hk => (by have e : some w.heap.size = some k := hk; simp only [Option.some.injEq] at e; omega))
                have s0 := cell_below hB5 c0
                have s1 := cell_below hB5 c1))
    go_wp2
    go_ret
    rw [Nat.zero_add, List.nil_append] at hown2
    refine ⟨_, _, rfl, hB5.size, ⟨heap_alloc_new _ _, ?_⟩, below_alloc hB5 _⟩
    first | exact hown2.alloc _ | simpa using hown2.alloc _
end Go.Proofs.Ytpboomjnbndcpaa
