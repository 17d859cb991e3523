/-
  Proved here: what a fault, an array of two numbers and rows of bytes and bools are, read as data; no condition.
-/
import Derived.Test.YtdggdidmjddhbaaFsmL
namespace Go.Proofs.Ytdggdidmjddhbaa
open Go.ChangeShapes Go.WideShapes Go.ChangeAt Go.RowKit Go.Deep

theorem cell_below {w w' : World} (hb : Below w.heap.size w w') {a : Addr} {u : Value} (h : w.cell? a = some u) : w'.cell? a = some u := (hb.cell (World.block_lt_of_cell? w a h)).trans h
theorem below_drewN {B : Nat} {a w : World} (h : Below B a w) (n : Nat) : Below B a (w.drewN n) := ⟨h.os, h.tape, h.output, h.size, h.block⟩

theorem len2 {α : Type} {l : List α} (h : l.length = 2) : ∃ a b, l = [a, b] := by
  match l, h with
  | [a, b], _ => exact ⟨a, b, rfl⟩
theorem len3 {α : Type} {l : List α} (h : l.length = 3) : ∃ a b c, l = [a, b, c] := by
  match l, h with
  | [a, b, c], _ => exact ⟨a, b, c, rfl⟩

theorem range_u8 {n : Int} (h : (Lit.int .u8 n).wf = true) : 0 ≤ n ∧ n < 256 := by
  have : 0 ≤ n ∧ n ≤ 255 := by simpa [Lit.wf, IntKind.min, IntKind.max, IntKind.signed, IntKind.bits] using h
  omega
theorem addr_add (b o k : Nat) : (⟨b, o, none⟩ : Addr).add k = ⟨b, o + k, none⟩ := by unfold Addr.add; split <;> simp_all

/-- A slice of bytes, read as data, holds a text. -/
theorem txt_of {H : Type} {enc : TypeId × Value → H} {W : World} {spare : Nat → Bool} {held : Bool} {a : Option Addr} {len cap fuel : Nat} {x : DataW H × List MemPlace}
    (h : DataW.trod enc Try.prog W 0 spare held fuel 23 [.slice a len cap] = some x) : len ≤ maxLen ∧ ∃ s, Txt W a len s := by
  rcases open_ints Try.underlying23 Try.underlying5 (by kernel_rfl) h with ⟨hcs, _⟩ | ⟨ad, l, c, zs, hcs, _, hl, hm, hz, _, hcell, hwz⟩
  · simp only [List.cons.injEq, Value.slice.injEq, and_true] at hcs
    obtain ⟨rfl, rfl, rfl⟩ := hcs
    exact ⟨by simp [maxLen], _, .inl ⟨rfl, rfl⟩⟩
  · simp only [List.cons.injEq, Value.slice.injEq, and_true] at hcs
    obtain ⟨rfl, rfl, rfl⟩ := hcs
    refine ⟨Nat.le_trans hl hm, ?_⟩
    by_cases h0 : len = 0
    · subst h0
      exact ⟨_, .inr (.inl ⟨ad, rfl, rfl, rfl⟩)⟩
    · have hzl : len ≤ zs.length := by rw [hz]; split <;> omega
      obtain ⟨b, off, spot⟩ := ad
      have hc0 := hcell 0 (by omega)
      have e0 : (⟨b, off, spot⟩ : Addr).add 0 = ⟨b, off, spot⟩ := by simp [Addr.add]
      rw [e0] at hc0
      have hspot : spot = none := by simpa using World.cell?_spot hc0
      subst hspot
      refine ⟨strOfNums (zs.take len), .inr (.inr ⟨b, off, rfl, ?_, ?_, World.block_lt_of_cell? W _ hc0⟩)⟩
      · rw [strOfNums_size, List.length_take]; omega
      · refine Lib.bytes_of_nums (n := len) (by rw [List.length_take]; omega) (fun n hn => range_u8 (hwz n (List.mem_of_mem_take hn))) (fun i hi => ?_)
        have := hcell i (by omega)
        rw [addr_add] at this
        rw [this]
        have hi' : i < zs.length := by omega
        simp [List.getD, List.getElem?_take_of_lt hi]

/-- A fault's cells. -/
theorem fault_cells {H : Type} {enc : TypeId × Value → H} {W : World} {spare : Nat → Bool} {held : Bool} {fuel : Nat} {cs : List Value} {x : DataW H × List MemPlace}
    (h : DataW.trod enc Try.prog W 0 spare held fuel 25 cs = some x) :
    ∃ (c b : Int) (da : Option Addr) (dn dc : Nat) (s : ByteArray), cs = [.int .i64 c, .int .i64 b, .slice da dn dc] ∧ dn ≤ maxLen ∧ Txt W da dn s := by
  obtain ⟨y0, y1, y2, m, -, hl, h0, h1, h2⟩ := trod_struct3 Try.underlying25 h
  have e1 : Try.prog.cellsOf 25 = 3 := by kernel_rfl
  have e2 : Try.prog.cellsOf 3 = 1 := by kernel_rfl
  have e3 : Try.prog.cellsOf 23 = 1 := by kernel_rfl
  rw [e1] at hl
  obtain ⟨c0, c1, c2, rfl⟩ := len3 hl
  simp only [e2, List.drop_zero, List.take_succ_cons, List.take_zero] at h0
  simp only [e2, List.drop_succ_cons, List.drop_zero, List.take_succ_cons, List.take_zero] at h1
  simp only [e3, List.drop_succ_cons, List.drop_zero, List.take_succ_cons, List.take_zero] at h2
  obtain ⟨c, k0, -⟩ := DataW.trod_int Try.underlying3 h0
  obtain ⟨b, k1, -⟩ := DataW.trod_int Try.underlying3 h1
  obtain ⟨da, dn, dc, k2⟩ : ∃ da dn dc, c2 = .slice da dn dc := by
    rcases open_ints Try.underlying23 Try.underlying5 (by kernel_rfl) h2 with ⟨hcs, _⟩ | ⟨ad, l, c, zs, hcs, _⟩
    · simp only [List.cons.injEq, and_true] at hcs; exact ⟨_, _, _, hcs⟩
    · simp only [List.cons.injEq, and_true] at hcs; exact ⟨_, _, _, hcs⟩
  subst k2
  simp only [List.cons.injEq, and_true] at k0 k1
  subst k0 k1
  obtain ⟨hn, s, hs⟩ := txt_of h2
  exact ⟨c, b, da, dn, dc, s, rfl, hn, hs⟩

/-- Two numbers. -/
theorem two_cells {H : Type} {enc : TypeId × Value → H} {W : World} {spare : Nat → Bool} {held : Bool} {fuel : Nat} {cs : List Value} {x : DataW H × List MemPlace}
    (h : DataW.trod enc Try.prog W 0 spare held fuel 22 cs = some x) : ∃ (s e : Int), cs = [.int .i64 s, .int .i64 e] := by
  obtain ⟨xs, m, -, -, hl, hn, hi⟩ := DataW.trod_array Try.underlying22 h
  have e1 : Try.prog.cellsOf 22 = 2 := by kernel_rfl
  have e2 : Try.prog.cellsOf 3 = 1 := by kernel_rfl
  rw [e1] at hl
  obtain ⟨c0, c1, rfl⟩ := len2 hl
  obtain ⟨y0, y1, rfl⟩ := len2 hn
  have h0 := hi 0 (by omega)
  have h1 := hi 1 (by omega)
  simp only [e2, Nat.zero_mul, Nat.one_mul, List.drop_succ_cons, List.drop_zero, List.take_succ_cons, List.take_zero, List.getElem?_cons_zero, List.getElem?_cons_succ] at h0 h1
  obtain ⟨s, k0, -⟩ := DataW.trod_int Try.underlying3 h0
  obtain ⟨e, k1, -⟩ := DataW.trod_int Try.underlying3 h1
  simp only [List.cons.injEq, and_true] at k0 k1
  subst k0 k1
  exact ⟨s, e, rfl⟩

theorem okWide_two {W : World} {r : Reach} {base : Nat} {v : Value} (h : Value.okWide Try.prog W r base 22 v) : ∃ cs, v = .agg cs := by
  simp only [Value.okWide, Try.underlying22] at h
  obtain ⟨cs, h1, -⟩ := h
  exact ⟨cs, h1⟩

end Go.Proofs.Ytdggdidmjddhbaa
