/-
  Proved here: what the run of a map keyed by prefixes yields: looking a prefix up, laying it in; no condition but that the block holds such a map.
-/
import Derived.Test.YtpboomjnbndcpaaEff
import Derived.Test.YtpboomjnbndcpaaPref
namespace Go.Proofs.Ytpboomjnbndcpaa
open Go.RowKit Go.MapKept

/-- A prefix: its address and length. -/
abbrev Pre := Int × Int
def preV (x : Pre) : Value := .agg #[.int .u32 x.1, .int .i64 x.2]
/-- A map's row: the prefix, the number that it holds, when it was born. -/
abbrev Mrow := Pre × Int × Nat
def Mrow.entry (r : Mrow) : MapEntry := { key := preV r.1, val := .int .i64 r.2.1, born := r.2.2 }
def entries (l : List Mrow) : Array MapEntry := (l.map Mrow.entry).toArray
def mget : List Mrow → Pre → Option Int
  | [], _ => none
  | r :: l, x => if r.1 = x then some r.2.1 else mget l x
def mput : List Mrow → Pre → Int → List Mrow
  | [], _, _ => []
  | r :: l, x, t => if r.1 = x then (r.1, t, r.2.2) :: l else r :: mput l x t

theorem preV_beq (x y : Pre) : (x.1 == y.1 && x.2 == y.2) = decide (x = y) := by
  obtain ⟨a, b⟩ := x
  obtain ⟨c, d⟩ := y
  rw [Bool.eq_iff_iff]
  simp

theorem run_equalPre (x y : Pre) (w : World) : (Op.equal 28 (preV x) (preV y)).run Try.prog w = .ok (decide (x = y)) w := by
  have h := eqlPrefix x.1 x.2 y.1 y.2 w
  rw [run_eql_struct, preV_beq] at h
  show (Op.equalIn 10000 28 (preV x) (preV y)).run Try.prog w = _
  unfold preV
  generalize (Op.equalIn 10000 28 (Value.agg #[.int .u32 x.1, .int .i64 x.2]) (Value.agg #[.int .u32 y.1, .int .i64 y.2])).run Try.prog w = r at *
  cases r with
  | ok b w' =>
    simp only [Result.andThen_ok, Result.ok.injEq, Value.bool.injEq] at h
    rw [h.1, h.2]
  | halt e w' => simp [Result.andThen] at h

theorem run_checkPre (em : Bool) (x : Pre) (w : World) : (Instr.checkKey em 10000 28 (preV x)).run Try.prog w = .ok () w := by
  cases em <;> (unfold preV; kernel_rfl)

theorem run_findAsking (x : Pre) (w : World) : ∀ (l : List Mrow) (i : Nat), (Instr.findAsking 28 (preV x) (l.map Mrow.entry) i).run Try.prog w =
    .ok ((l.findIdx? (fun r => decide (r.1 = x))).map fun j => (i + j, .int .i64 ((l.getD j default).2.1))) w := by
  intro l
  induction l with
  | nil => intro i; rfl
  | cons r l ih =>
    intro i
    simp only [List.map_cons, Instr.findAsking, Sem.run_bind]
    show ((Op.equal 28 (preV x) (preV r.1)).run Try.prog w).andThen _ = _
    rw [run_equalPre]
    simp only [Result.andThen_ok]
    by_cases h : x = r.1
    · rw [List.findIdx?_cons, if_pos (by simp [h])]
      simp only [h, decide_true, if_true]
      simp [Mrow.entry, Sem.run_pure]
    · have h' : ¬ r.1 = x := fun e => h e.symm
      rw [List.findIdx?_cons]
      simp only [h, h', decide_false, Bool.false_eq_true, if_false]
      rw [ih]
      congr 1
      cases l.findIdx? (fun r => decide (r.1 = x)) with
      | none => rfl
      | some j => simp [Nat.add_assoc, Nat.add_comm 1 j]

theorem run_findPre (x : Pre) (l : List Mrow) (w : World) : (Instr.findKey 28 (preV x) (entries l).toList).run Try.prog w =
    .ok ((l.findIdx? (fun r => decide (r.1 = x))).map fun j => (j, .int .i64 ((l.getD j default).2.1))) w := by
  unfold Instr.findKey
  simp only [Sem.run_bind, run_underlying Try.underlying28, Result.andThen_ok]
  cases l with
  | nil => rfl
  | cons r l =>
    have : Instr.findNow (TypeDesc.struct #[{ name := "Addr", type := 26, offset := 0, embedded := false, tag := "", pkgPath := "", byteOffset := 0 }, { name := "Len", type := 3, offset := 1, embedded := false, tag := "", pkgPath := "", byteOffset := 8 }]) (preV x) (entries (r :: l)).toList 0 = none := by
      simp [entries, Instr.findNow, Instr.sameNow, preV]
    rw [this]
    have h := run_findAsking x w (r :: l) 0
    simpa [entries] using h

theorem mget_find (x : Pre) : ∀ l : List Mrow, mget l x = (l.findIdx? (fun r => decide (r.1 = x))).map fun j => (l.getD j default).2.1 := by
  intro l
  induction l with
  | nil => rfl
  | cons r l ih =>
    rw [List.findIdx?_cons]
    by_cases h : r.1 = x
    · simp [mget, h]
    · simp only [mget, h, if_false, decide_false, Bool.false_eq_true]
      rw [ih]
      cases l.findIdx? (fun r => decide (r.1 = x)) <;> simp

theorem run_lookupPre {w : World} {m ck : Nat} {l : List Mrow} (hm : w.heap[m]? = some (.map (entries l) ck)) (x : Pre) :
    (Instr.lookup 49 (.map (some m)) (preV x) true).run Try.prog w =
      .ok (.tuple #[.int .i64 ((mget l x).getD 0), .bool (mget l x).isSome]) w := by
  have hz : (zeroValue 3).run Try.prog w = .ok (.int .i64 0) w := by kernel_rfl
  unfold Instr.lookup
  simp only [Sem.run_bind, run_underlying Try.underlying49, MapKept.run_getObj_map hm, Result.andThen_ok, run_checkPre, Sem.run_pure, run_findPre, mget_find]
  cases l.findIdx? (fun r => decide (r.1 = x)) <;> simp [hz]

/-- What 'mapEntry' and 'entryStore' do: a row of the prefix is there ... -/
theorem run_mapEntryPre_new {w : World} {m ck : Nat} {l : List Mrow} (hm : w.heap[m]? = some (.map (entries l) ck)) (x : Pre) (hx : mget l x = none) :
    (Instr.mapEntry 49 (.map (some m)) (preV x)).run Try.prog w =
      .ok (.tuple #[.int .i64 0, .int .i64 ck]) (wset w m (.map (entries (l ++ [(x, 0, ck)])) (ck + 1))) := by
  have hz : (zeroValue 3).run Try.prog w = .ok (.int .i64 0) w := by kernel_rfl
  have hf : l.findIdx? (fun r => decide (r.1 = x)) = none := by
    rw [mget_find] at hx
    cases h : l.findIdx? (fun r => decide (r.1 = x)) with
    | none => rfl
    | some j => rw [h] at hx; simp at hx
  unfold Instr.mapEntry
  simp only [Sem.run_bind, run_underlying Try.underlying49, MapKept.run_getObj_map hm, Result.andThen_ok, run_checkPre, run_findPre, hf, Option.map_none, hz, MapKept.run_setObj_map _ hm, Sem.run_pure]
  simp [wset, entries, Mrow.entry, goInt]

theorem run_mapEntryPre_old {w : World} {m ck : Nat} {l : List Mrow} (hm : w.heap[m]? = some (.map (entries l) ck)) (x : Pre) (j : Nat) (hj : l.findIdx? (fun r => decide (r.1 = x)) = some j) :
    (Instr.mapEntry 49 (.map (some m)) (preV x)).run Try.prog w =
      .ok (.tuple #[.int .i64 (l.getD j default).2.1, .int .i64 (l.getD j default).2.2]) (wset w m (.map (entries l) ck)) := by
  obtain ⟨hlt, hp, -⟩ := List.findIdx?_eq_some_iff_getElem.1 hj
  have hp' : l[j].1 = x := by simpa using hp
  have he : (entries l)[j]? = some (Mrow.entry l[j]) := by simp [entries, hlt]
  unfold Instr.mapEntry
  simp only [Sem.run_bind, run_underlying Try.underlying49, MapKept.run_getObj_map hm, Result.andThen_ok, run_checkPre, run_findPre, hj, Option.map_some, he, Option.getD_some]
  have hk : (Instr.keyThatStays (Mrow.entry l[j]).key (preV x)).run Try.prog w = .ok (preV x) w := by
    have : Instr.sameBits 10000 (preV x) (preV x) = true := by unfold preV; simp [Instr.sameBits]
    simp only [Mrow.entry, hp']
    unfold Instr.keyThatStays
    rw [this]
    rfl
  rw [hk]
  simp only [Result.andThen_ok, MapKept.run_setObj_map _ hm, Sem.run_pure]
  have hmod : (entries l).modify j (fun e => { e with key := preV x }) = entries l := by
    apply Array.ext_getElem?
    intro i
    rw [Array.getElem?_modify]
    split
    · rename_i h; subst h; rw [he]; simp [Mrow.entry, hp']
    · rfl
  rw [hmod]
  simp [wset, Mrow.entry, goInt, hlt]

theorem run_entryStorePre {w : World} {m ck : Nat} {l : List Mrow} (hm : w.heap[m]? = some (.map (entries l) ck)) (j : Nat) (hj : j < l.length) (hd : l.findIdx? (fun r => decide (r.2.2 = l[j].2.2)) = some j) (v : Int) :
    (Instr.entryStore 49 (.map (some m)) (.int .i64 l[j].2.2) (.int .i64 v)).run Try.prog w = .ok () (wset w m (.map (entries (l.set j (l[j].1, v, l[j].2.2))) ck)) := by
  unfold Instr.entryStore
  have hs : (asInt (.int .i64 l[j].2.2)).run Try.prog w = .ok (l[j].2.2 : Int) w := by kernel_rfl
  have hf : (entries l).findIdx? (fun e => ((e.born : Int) == (l[j].2.2 : Int))) = some j := by
    rw [← hd]
    unfold entries
    rw [List.findIdx?_toArray, List.findIdx?_map]
    congr 1
    funext r
    simp only [Function.comp, Mrow.entry]
    rw [Bool.eq_iff_iff]; simp; omega
  simp only [Sem.run_bind, MapKept.run_getObj_map hm, Result.andThen_ok, hs, hf, MapKept.run_setObj_map _ hm]
  have hmod : (entries l).modify j (fun e => { e with val := .int .i64 v }) = entries (l.set j (l[j].1, v, l[j].2.2)) := by
    apply Array.ext_getElem?
    intro i
    rw [Array.getElem?_modify]
    simp only [entries, List.getElem?_toArray, List.getElem?_map, List.getElem?_set]
    split
    · rename_i h; subst h; simp [hj, Mrow.entry]
    · rfl
  rw [hmod]
  rfl

end Go.Proofs.Ytpboomjnbndcpaa
