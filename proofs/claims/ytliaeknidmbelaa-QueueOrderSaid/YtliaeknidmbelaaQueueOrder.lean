/-
  Proved here: fairwaylaw14.QueueOrder returns true for every input, and its input reads as it did; no condition.
-/
import Derived.Test.YtliaeknidmbelaaQ8
import Derived.Test.YtliaeknidmbelaaQOrdW
import Derived.Deep.DeepCutAuto
import Derived.Deep.CutRange
import Derived.Deep.CutBlock
import Derived.ProofKit
import Derived.OpenShut
import Derived.ShutString
import Derived.ChangeOld
import Derived.Deep.Strs
import Derived.Deep.Grids
import Derived.Lib.SmallJoins
namespace Go.Proofs.Ytliaeknidmbelaa.queueOrder
open Go.ChangeShapes Go.WideShapes Go.ChangeAt Go.RowKit Go.Deep
set_option linter.unusedVariables false

theorem bel_call {a u u' : World} (h : Below a.heap.size a u) (hb : Below u.heap.size u u') : Below a.heap.size a u' := h.trans (hb.mono h.size)

/-- A message that came in. -/
def RowIs (w : World) (u : Value) (xs : List Int) : Prop := (xs = [] ∧ ∃ a c, u = .slice a 0 c) ∨ (0 < xs.length ∧ Lies w u xs)
theorem RowIs.shape {w : World} {u : Value} {xs : List Int} (h : RowIs w u xs) : ∃ a c, u = .slice a xs.length c := by
  rcases h with ⟨rfl, a, c, rfl⟩ | ⟨-, b, o, c, rfl, -⟩
  · exact ⟨a, c, rfl⟩
  · exact ⟨_, c, rfl⟩
theorem RowIs.below {w w' : World} {u : Value} {xs : List Int} (h : RowIs w u xs) (hb : Below w.heap.size w w') : RowIs w' u xs := by
  rcases h with h | ⟨h1, h2⟩
  · exact .inl h
  · exact .inr ⟨h1, h2.below hb⟩

/-- The messages that came in. -/
structure Msgs (w : World) (la : Option Addr) (n : Nat) (lb lo : Nat) (U : Nat → Value) (X : Nat → List Int) : Prop where
  at0 : 0 < n → la = some ⟨lb, lo, none⟩ ∧ lb < w.heap.size
  cell : ∀ j, j < n → w.cell? ⟨lb, lo + j, none⟩ = some (U j)
  row : ∀ j, j < n → RowIs w (U j) (X j)
  small : ∀ j, j < n → (X j).length ≤ 140737488355328

/-- How many bytes the first messages hold. -/
def sumX (X : Nat → List Int) : Nat → Nat
  | 0 => 0
  | k + 1 => sumX X k + (X k).length

/-- The law's rows at a round's head, or behind the first statement of a round: k messages are in. -/
def OrdAt (W : World) (q : Nat) (X : Nat → List Int) (k : Nat) (ov av ev : Value) (wr : World) : Prop :=
  ∃ (xo : List Int) (E : List Nat) (O R : Nat → Prop) (v : Value) (vs : List Value) (L : List (List Int)) (begun : Bool) (credit : Int),
    Ord W wr q ov av ev xo (xo ++ L.flatten) E O R v vs L begun credit xo.length ∧ Ends xo.length L begun E ∧ xo.length + tot L ≤ sumX X k ∧ E.length ≤ k

theorem src_zero (P : Program) (w : World) {t e : TypeId} (ht : P.underlying t = some (.slice e)) (a : Option Addr) (c : Nat) : Src P 1 t (.slice a 0 c) 0 [] w := by
  cases a with
  | none => exact Src.ofNil w ht c
  | some ad => exact Src.ofSlice w ht ad 0 c [] rfl (fun j u hu => by simp at hu) (fun u hu => by cases hu)

theorem infoI : (Try.prog.info? 3).map (fun i => (i.zero, i.size, i.bytes)) = some (some (.int .i64 0), 1, 8) := by kernel_rfl

theorem sumX_mono (X : Nat → List Int) : ∀ {k n : Nat}, k ≤ n → sumX X k ≤ sumX X n := by
  intro k n h
  induction n with
  | zero => have : k = 0 := by omega
            subst this; exact Nat.le_refl _
  | succ n ih =>
    by_cases e : k = n + 1
    · subst e; exact Nat.le_refl _
    · have := ih (by omega)
      simp only [sumX]; omega

set_option maxRecDepth 100000 in
set_option maxHeartbeats 1000000 in
theorem walk_far1 (la ca da : Option Addr) (n1 c1 n2 c2 n3 c3 : Nat) (w : World) (m1 : n1 ≤ maxLen) (m2 : n2 ≤ maxLen) (h : 60 < n1 ∨ 200 < n2) :
    Calls Try.prog 3 #[.slice la n1 c1, .slice ca n2 c2, .slice da n3 c3] w fun e w' => e = .returned (.bool true) ∧ Below w.heap.size w w' := by
  unfold maxLen at m1 m2
  by_cases h1 : 60 < n1
  · clear h
    go_enter Try.func3, Try.ntmps3
    go_wp2_with (go_at_call 6; refine (lives_any _).mono ?_; rintro r v2 ⟨rfl, hb2⟩)
    go_ret
    exact ⟨rfl, hb2⟩
  · have h2 := h.resolve_left h1
    clear h
    go_enter Try.func3, Try.ntmps3
    go_wp2_with (go_at_call 6; refine (lives_any _).mono ?_; rintro r v2 ⟨rfl, hb2⟩)
    go_ret
    exact ⟨rfl, hb2⟩

set_option maxRecDepth 100000 in
set_option maxHeartbeats 4000000 in
theorem walk_near (la ca da : Option Addr) (n1 c1 n2 c2 n3 c3 : Nat) (w : World) (h1 : ¬ 60 < n1) (h2 : ¬ 200 < n2) (m3 : n3 ≤ maxLen)
    (lb lo cb co db dz : Nat) (U : Nat → Value) (X : Nat → List Int) (Z : Nat → Int) (D : Nat → Bool) (hm : Msgs w la n1 lb lo U X)
    (hc : 0 < n2 → ca = some ⟨cb, co, none⟩ ∧ cb < w.heap.size) (hz : ∀ j, j < n2 → w.cell? ⟨cb, co + j, none⟩ = some (.int .u8 (Z j)) ∧ 0 ≤ Z j ∧ Z j ≤ 255)
    (hd : 0 < n3 → da = some ⟨db, dz, none⟩ ∧ db < w.heap.size) (hb : ∀ j, j < n3 → w.cell? ⟨db, dz + j, none⟩ = some (.bool (D j))) :
    Calls Try.prog 3 #[.slice la n1 c1, .slice ca n2 c2, .slice da n3 c3] w fun e w' => e = .returned (.bool true) ∧ Below w.heap.size w w' := by
  unfold maxLen at m3
  have HM := Lib.hid hm
  have HC := Lib.hid hc
  have HZ := Lib.hid hz
  have HD := Lib.hid hd
  have HB := Lib.hid hb
  clear hm hc hz hd hb
  go_enter Try.func3, Try.ntmps3
  go_wp2_with fail
  go_loopw [7, 33] (fun nv iv wr => wr = w ∧ ∃ j : Nat, j ≤ n1 ∧ iv = .int .i64 j ∧ nv = .int .i64 (sumX X j) ∧ sumX X j ≤ 20000) (fun _ iv _ => n1 - (intOf iv).toNat)
  case atStart => exact ⟨rfl, 0, Nat.zero_le _, rfl, rfl, by simp [sumX]⟩
  case round =>
    obtain ⟨hww, j, hj, rfl, rfl, hs⟩ := hrel
    have hww' := hww.symm
    clear hww
    subst hww'
    by_cases hjn : j < n1
    · obtain ⟨rfl, hlb⟩ := HM.out.at0 (by omega)
      have hcell := HM.out.cell j hjn
      obtain ⟨a5, c5, hU⟩ := (HM.out.row j hjn).shape
      have hsm := HM.out.small j hjn
      rw [hU] at hcell
      have hsx : sumX X (j + 1) = sumX X j + (X j).length := rfl
      by_cases hbig : 20000 < sumX X (j + 1)
      · rw [hsx] at hbig
        generalize sumX X j = sj at *
        clear hsx hU
        go_wp2_with (go_at_call 6; refine (lives_any _).mono ?_; rintro r v2 ⟨rfl, hb2⟩)
        go_ret
        exact ⟨rfl, hb2⟩
      · have HS := Lib.hid hsx
        rw [hsx] at hbig
        generalize hsj : sumX X j = sj at *
        have HSJ := Lib.hid hsj
        clear hsx hU hsj
        go_wp2_with fail
        go_roundw
        case rel => exact ⟨by trivial, j + 1, by omega, by go_num, by rw [HS.out]; go_num, by rw [HS.out]; omega⟩
        case measure => simp [intOf]; omega
    · obtain rfl : j = n1 := by omega
      have HS := Lib.hid hs
      clear hs
      go_wp2_with fail
      refine (new_yes 65536 _ (by omega) (by omega)).mono ?_
      rintro r w1 ⟨rfl, hq1, hb1⟩
      have HQ1 := Lib.hid hq1
      have HB1 := Lib.hid hb1
      clear hq1 hb1
      go_wp2_with fail
      have START : OrdAt w w.heap.size X 0 (.slice none 0 0) (.slice none 0 0) (.slice none 0 0) w1 :=
        ⟨[], [], _, _, _, _, [], false, 0, Ord.start HQ1.out (fun k hk => Nat.le_of_eq hk.symm) HB1.out, Ends.start, by simp [tot], Nat.zero_le _⟩
      have HST := Lib.hid START
      clear START
      generalize hq : w.heap.size = q at *
      have HQ := Lib.hid hq
      clear hq
      go_loopw [11, 12, 13, 14, 15] (fun ov av ev kv iv wx => ∃ k i : Nat, kv = .int .i64 k ∧ iv = .int .i64 i ∧ k ≤ j ∧ i ≤ n2 ∧ OrdAt w q X k ov av ev wx) (fun _ _ _ _ iv _ => n2 - (intOf iv).toNat)
      case atStart => exact ⟨0, 0, rfl, rfl, Nat.zero_le _, Nat.zero_le _, HST.out⟩
      case round =>
        obtain ⟨k, i, rfl, rfl, hk, hi, hI⟩ := hrel
        have HI := Lib.hid hI
        clear hI
        by_cases hin : i < n2
        · go_upto_if 55 with fail
          go_cut [12, 13, 14] from 46 to 148 (fun av ev kv wx => ∃ k' : Nat, kv = .int .i64 k' ∧ k' ≤ j ∧ OrdAt w q X k' u11 av ev wx)
          case first =>
            obtain ⟨xo, E, O, R, v, vs, L, begun, credit, hO, hE, hs1, hs2⟩ := HI.out
            by_cases hkj : k < j
            · obtain ⟨rfl, hlb⟩ := HM.out.at0 (by omega)
              have hbel := hO.bel
              have hcell : wr.cell? ⟨lb, lo + k, none⟩ = some (U k) := by rw [hbel.cell (p := ⟨lb, lo + k, none⟩) hlb]; exact HM.out.cell k hkj
              have hrow := (HM.out.row k hkj).below hbel
              have hsx : sumX X (k + 1) = sumX X k + (X k).length := rfl
              have hsj := sumX_mono X (show k + 1 ≤ j by omega)
              have hsj20 := HS.out
              obtain ⟨i0, hi, hz0, hz1, hz2⟩ := info_parts infoU8
              obtain ⟨j0, ri, rz0, rz1, rz2⟩ := info_parts infoI
              have hfl := flat_length L
              obtain ⟨xa, hxa⟩ : ∃ xa, xo ++ L.flatten = xa := ⟨_, rfl⟩
              have hxl : xa.length = xo.length + tot L := by rw [← hxa, List.length_append, hfl]
              rw [hxa] at hO
              have HXA := Lib.hid hxa
              have HXL := Lib.hid hxl
              have hxl2 : xa.length ≤ 20000 := by omega
              have hEl : E.length ≤ 60 := by omega
              have ORD := Lib.hid hO
              have HE := Lib.hid hE
              clear hO hE hbel hxa hfl
              rcases hrow with ⟨hx0, a5, c5, hU⟩ | ⟨hx0, hli⟩
              · rw [hU] at hcell
                have HX0 := Lib.hid hx0
                clear hx0 hU hsx hsj hxl
                go_wp2_with (first
                  | (at_builtin; refine wpList_own_append _ rfl (.tmp 71) (.tmp 75) 23 rfl 5 i0 (.int .u8 0) 1 Try.underlying23 hi hz0 hz1 hz2 rfl u12 (u8s xa) rfl ORD.out.a _ 0 [] rfl (src_zero _ _ Try.underlying23 a5 c5) (by rw [u8s_length]; unfold maxLen; omega) (by rw [u8s_length]; omega) ?_; intro av2 w2 hown2 heff2 hblk2; have ORD2 := Lib.hid (ORD.out.appA (xa' := xa) (by simpa using hown2) heff2 hblk2); clear hown2 heff2 hblk2; obtain ⟨a2, c2, hav2, -, -⟩ := ORD2.out.a.shape; rw [u8s_length] at hav2; subst hav2)
                  | (at_builtin; refine wpList_own_append _ rfl (.tmp 77) (.tmp 80) 28 rfl 3 j0 (.int .i64 0) 8 Try.underlying28 ri rz0 rz1 rz2 rfl u13 (i64s E) rfl (ORD2.out.below (below_alloc (Below.refl _ _) _)).e _ 1 [.int .i64 ((xa).length : Nat)] rfl (Src.ofSlice _ Try.underlying28 _ _ _ _ rfl (fun j u hu => by rw [addr_add]; rcases j with _ | j <;> simp at hu ⊢; exact hu) (by simp [Value.oneCell'])) (by rw [i64s_length]; unfold maxLen; omega) (by rw [i64s_length]; omega) ?_; intro ev3 w3 hown3 heff3 hblk3; have ORD3 := Lib.hid ((ORD2.out.below (below_alloc (Below.refl _ _) _)).appE (E' := E ++ [(xa).length]) (by rw [i64s_append]; exact hown3) heff3 hblk3); clear hown3 heff3 hblk3))
                go_meet
                case rel =>
                  refine ⟨k + 1, by go_num, by omega, xo, E ++ [xa.length], O, R, v, vs, L, begun, credit, by rw [HXA.out]; exact ORD3.out, ?_, ?_, by simp; omega⟩
                  · rw [HXL.out]; exact HE.out.pushNone ORD.out.st.ne ORD.out.st.bg
                  · simp only [sumX]; omega
              · have hcw := Lib.hid (HM.out.cell k hkj)
                have hlw : Hid (Lies w (U k) (X k)) := by
                  rcases HM.out.row k hkj with ⟨h6, -⟩ | ⟨-, h6⟩
                  · rw [h6] at hx0; simp at hx0
                  · exact Lib.hid h6
                obtain ⟨b5, o5, c5, hU, -⟩ := hlw.out
                rw [hU] at hcell hli hcw hlw
                have hXk : (X k).length ≤ 20000 := by omega
                have hsum : xa.length + (X k).length ≤ 20000 := by omega
                have hpush : ((X k).length : Int) ≤ 65536 - tot L := by omega
                have HSX := Lib.hid hsx
                clear hU hsx hsj hxl
                go_wp2_with (first
                  | (go_at_call 8; refine (push_ok ORD.out.st _ (X k) hli hx0 (by have := ORD.out.st.fits; omega)).mono ?_; rintro r wp ⟨O2, R2, v2, vs2, rfl, hst2, he2, hO2, hR2⟩; have ORDP := Lib.hid (ORD.out.queue hst2 he2 hO2 hR2); have hb2 : Below w.heap.size w wp := ORDP.out.bel; have hcell2 : wp.cell? ⟨lb, lo + k, none⟩ = some (.slice (some ⟨b5, o5, none⟩) (X k).length c5) := (by rw [hb2.cell (p := ⟨lb, lo + k, none⟩) hlb]; exact hcw.out); have hli2 := Lib.hid (hlw.out.below hb2); clear hst2 he2 hO2 hR2 hb2)
                  | (at_builtin; refine wpList_own_append _ rfl (.tmp 71) (.tmp 75) 23 rfl 5 i0 (.int .u8 0) 1 Try.underlying23 hi hz0 hz1 hz2 rfl u12 (u8s xa) rfl ORDP.out.a _ (X k).length (u8s (X k)) rfl (hli2.out.src) (by rw [u8s_length]; unfold maxLen; omega) (by rw [u8s_length]; omega) ?_; intro av2 w2 hown2 heff2 hblk2; have ORD2 := Lib.hid (ORDP.out.appA (xa' := (xa ++ X k)) (by rw [u8s_append]; exact hown2) heff2 hblk2); clear hown2 heff2 hblk2; obtain ⟨a2, c2, hav2, -, -⟩ := ORD2.out.a.shape; rw [u8s_length] at hav2; subst hav2)
                  | (at_builtin; refine wpList_own_append _ rfl (.tmp 77) (.tmp 80) 28 rfl 3 j0 (.int .i64 0) 8 Try.underlying28 ri rz0 rz1 rz2 rfl u13 (i64s E) rfl (ORD2.out.below (below_alloc (Below.refl _ _) _)).e _ 1  [.int .i64 ((xa ++ X k).length : Nat)] rfl (Src.ofSlice _ Try.underlying28 _ _ _ _ rfl (fun j u hu => by rw [addr_add]; rcases j with _ | j <;> simp at hu ⊢; exact hu) (by simp [Value.oneCell'])) (by rw [i64s_length]; unfold maxLen; omega) (by rw [i64s_length]; omega) ?_; intro ev3 w3 hown3 heff3 hblk3; have ORD3 := Lib.hid ((ORD2.out.below (below_alloc (Below.refl _ _) _)).appE (E' := E ++ [(xa ++ X k).length]) (by rw [i64s_append]; exact hown3) heff3 hblk3); clear hown3 heff3 hblk3))
                go_meet
                case rel =>
                  have e : xo ++ (L ++ [X k]).flatten = xa ++ X k := by rw [← HXA.out]; simp
                  have ht : tot (L ++ [X k]) = tot L + (X k).length := by rw [tot_append, tot_cons, tot_nil]; omega
                  have hel : (xa ++ X k).length = xo.length + tot (L ++ [X k]) := by rw [List.length_append, HXL.out]; omega
                  have e5 : (xa ++ X k).length = xa.length + (X k).length := List.length_append
                  have O3 := ORD3.out
                  rw [e5] at O3 hel
                  refine ⟨k + 1, by go_num, by omega, xo, E ++ [xa.length + (X k).length], O2, R2, v2, vs2, L ++ [X k], begun, credit, by rw [e]; exact O3, ?_, ?_, by simp; omega⟩
                  · rw [hel]; exact HE.out.push (X k) hx0
                  · rw [HSX.out]; omega
            · go_wp2_with fail
              go_meet
              case rel => exact ⟨k, rfl, hk, HI.out⟩
          case rest =>
            obtain ⟨k', rfl, hk', hO'⟩ := hcut
            obtain ⟨xo, E, O, R, v, vs, L, begun, credit, hO, hE, hs1, hs2⟩ := hO'
            obtain ⟨rfl, hcb⟩ := HC.out (by omega)
            obtain ⟨hzc, hz1', hz2'⟩ := HZ.out i hin
            have hcell : wc.cell? ⟨cb, co + i, none⟩ = some (.int .u8 (Z i)) := by rw [hO.bel.cell (p := ⟨cb, co + i, none⟩) (by rw [HQ.out]; exact hcb)]; exact hzc
            obtain ⟨i0, hi0, hz0, hz1, hz2⟩ := info_parts infoU8
            obtain ⟨j0, ri, rz0, rz1, rz2⟩ := info_parts infoI
            have hsj := sumX_mono X hk'
            have hsj20 := HS.out
            have ORD := Lib.hid hO
            have HE := Lib.hid hE
            have hcr := hO.st.cr
            clear hO hE hzc
            obtain ⟨T, hT⟩ : ∃ T, takeM (grantM credit (Z i)).toNat L begun = T := ⟨_, rfl⟩
            have hTs := takeM_sum L (grantM credit (Z i)).toNat begun
            rw [hT] at hTs
            have FLAT : Hid (xo ++ L.flatten = (xo ++ T.1) ++ T.2.1.flatten) := Lib.hid (by rw [List.append_assoc, ← hT, takeM_flat])
            have EN : Hid (Ends (xo ++ T.1).length T.2.1 T.2.2.1 E) := Lib.hid (by rw [List.length_append, ← hT]; exact Ends.take L xo.length _ begun E HE.out ORD.out.st.ne)
            have SENT : Hid ((xo.length : Int) + T.1.length = ((xo ++ T.1).length : Nat)) := Lib.hid (by rw [List.length_append]; omega)
            have SUM : Hid ((xo ++ T.1).length + tot T.2.1 ≤ sumX X k') := Lib.hid (by rw [List.length_append]; omega)
            have HTT := Lib.hid hT
            clear hT
            by_cases hd3 : i < n3
            · obtain ⟨rfl, hdb⟩ := HD.out (by omega)
              cases hDi : D i
              · go_wp2_with (first
              | (go_at_call 9; refine (grant_yes ORD.out.st (Z i)).mono ?_; rintro r w1 ⟨rfl, hst1, he1⟩; have ORD1 := Lib.hid (ORD.out.queue hst1 he1 (fun _ h6 => .inl h6) (fun _ h6 => .inl h6)); clear hst1 he1)
              | (go_at_call 10; refine (take_yes ORD1.out.st (by omega)).mono ?_; rw [HTT.out]; rintro r w2 ⟨ut, vt, vst, rfl, hut, hutb, hst2, he2⟩; have HT := Lib.hid (And.intro hut hutb); have ORD2 := Lib.hid (ORD1.out.queue hst2 he2 (fun _ h6 => .inl h6) (fun _ h6 => .inl h6)); clear hst2 he2 hut hutb)
              | (at_builtin; refine wpList_own_append _ rfl (.tmp 91) (.tmp 93) 23 rfl 5 i0 (.int .u8 0) 1 Try.underlying23 hi0 hz0 hz1 hz2 rfl u11 (u8s xo) rfl ORD2.out.o _ T.1.length (u8s T.1) rfl (by have h6 := HT.out.1.src Try.underlying23 (u8s_one _); rw [u8s_length] at h6; exact h6) (by rw [u8s_length]; unfold maxLen; omega) (by rw [u8s_length]; omega) ?_; intro ov3 w3 hown3 heff3 hblk3; have ORD3 := Lib.hid (ORD2.out.appO (xo' := xo ++ T.1) (by rw [u8s_append]; exact hown3) heff3 hblk3); clear hown3 heff3 hblk3; have hb3 : Below w.heap.size w w3 := ORD3.out.bel; have dcell : w3.cell? ⟨db, dz + i, none⟩ = some (.bool (D i)) := (by rw [hb3.cell (p := ⟨db, dz + i, none⟩) (by rw [HQ.out]; exact hdb)]; exact HB.out i hd3); rw [hDi] at dcell; clear hb3))
                go_roundw
                case rel =>
                  have O3 := ORD3.out
                  rw [FLAT.out, SENT.out] at O3
                  exact ⟨k', i + 1, rfl, by go_num, hk', by omega, _, _, _, _, _, _, _, _, _, O3, EN.out, SUM.out, hs2⟩
                case measure => simp [intOf]; omega
              · go_wp2_with (first
              | (go_at_call 9; refine (grant_yes ORD.out.st (Z i)).mono ?_; rintro r w1 ⟨rfl, hst1, he1⟩; have ORD1 := Lib.hid (ORD.out.queue hst1 he1 (fun _ h6 => .inl h6) (fun _ h6 => .inl h6)); clear hst1 he1)
              | (go_at_call 10; refine (take_yes ORD1.out.st (by omega)).mono ?_; rw [HTT.out]; rintro r w2 ⟨ut, vt, vst, rfl, hut, hutb, hst2, he2⟩; have HT := Lib.hid (And.intro hut hutb); have ORD2 := Lib.hid (ORD1.out.queue hst2 he2 (fun _ h6 => .inl h6) (fun _ h6 => .inl h6)); clear hst2 he2 hut hutb)
              | (at_builtin; refine wpList_own_append _ rfl (.tmp 91) (.tmp 93) 23 rfl 5 i0 (.int .u8 0) 1 Try.underlying23 hi0 hz0 hz1 hz2 rfl u11 (u8s xo) rfl ORD2.out.o _ T.1.length (u8s T.1) rfl (by have h6 := HT.out.1.src Try.underlying23 (u8s_one _); rw [u8s_length] at h6; exact h6) (by rw [u8s_length]; unfold maxLen; omega) (by rw [u8s_length]; omega) ?_; intro ov3 w3 hown3 heff3 hblk3; have ORD3 := Lib.hid (ORD2.out.appO (xo' := xo ++ T.1) (by rw [u8s_append]; exact hown3) heff3 hblk3); clear hown3 heff3 hblk3; have hb3 : Below w.heap.size w w3 := ORD3.out.bel; have dcell : w3.cell? ⟨db, dz + i, none⟩ = some (.bool (D i)) := (by rw [hb3.cell (p := ⟨db, dz + i, none⟩) (by rw [HQ.out]; exact hdb)]; exact HB.out i hd3); rw [hDi] at dcell; clear hb3)
              | fail)
                obtain ⟨kb, nb, hkb, hnb⟩ := keep_fits ORD3.out.st
                refine (drop_yes ORD3.out.st kb nb hkb hnb).mono ?_
                rintro r w4 ⟨rfl, ⟨v4, vs4, hst4⟩, he4⟩
                have O4 := ORD3.out.queue hst4 he4 (fun _ h6 => .inl h6) (fun _ h6 => .inl h6)
                obtain ⟨xn, hxn⟩ : ∃ xn, xo ++ T.1 = xn := ⟨_, rfl⟩
                have DR := EN.out.drop ORD3.out.st.ne ORD3.out.st.bg
                rw [← hkb] at DR
                have FL := FLAT.out
                have SE := SENT.out
                have SU := SUM.out
                rw [hxn] at FL SE SU DR O4
                rw [FL, SE] at O4
                have hcut := take_flat xn T.2.1 kb
                rw [← DR.1] at hcut
                obtain ⟨a3, cc3, hov3, -, -⟩ := O4.o.shape
                obtain ⟨a4, cc4, hev4, hel4, hel5⟩ := O4.e.shape
                obtain ⟨a5, cc5, hav5, hal4, hal5⟩ := O4.a.shape
                rw [u8s_length] at hov3 hav5 hal4
                rw [i64s_length] at hev4 hel4
                subst hov3 hev4 hav5
                have OR4 := Lib.hid O4
                have DRH := Lib.hid DR
                have CUT := Lib.hid hcut
                have HXN := Lib.hid hxn
                have SUH := Lib.hid SU
                clear hst4 he4 O4 DR FL SE SU hcut hxn FLAT EN SENT SUM dcell hkb hnb
                go_upto_block 4 with fail
                go_cut [16, 18] from 46 to 148 (fun atv ee wx => atv = .int .i64 (atM xn.length E : Nat) ∧ wx = w4)
                case first =>
                  go_wp2_with fail
                  go_loopw [16, 111] (fun atv iv wx => wx = w4 ∧ ∃ m : Nat, m ≤ E.length ∧ iv = .int .i64 m ∧ atv = .int .i64 (xn.length : Nat) ∧ atM xn.length E = atM xn.length (E.drop m)) (fun _ iv _ => E.length - (intOf iv).toNat)
                  case atStart => exact ⟨rfl, 0, Nat.zero_le _, rfl, rfl, rfl⟩
                  case round =>
                    obtain ⟨hww, m, hm, rfl, rfl, hA⟩ := hrel
                    subst hww
                    by_cases hmE : m < E.length
                    · obtain ⟨g5, o5, cap5, hv5, hg5, -, -, -, hcl5⟩ := OR4.out.e.cells (by rw [i64s_length]; omega)
                      simp only [Value.slice.injEq] at hv5
                      obtain ⟨rfl, -, rfl⟩ := hv5
                      have ecell := hcl5 m (.int .i64 (Int.ofNat E[m])) (by simp [i64s, hmE])
                      rw [List.drop_eq_getElem_cons hmE, atM_step] at hA
                      generalize E[m] = e0 at *
                      have ecell' : wr.cell? ⟨g5, o5 + m, none⟩ = some (.int .i64 (e0 : Int)) := ecell
                      clear hcl5 ecell
                      have HAA := Lib.hid hA
                      clear hA
                      by_cases q1 : 0 < xn.length
                      · by_cases q2 : xn.length ≤ e0
                        · go_wp2_with fail
                          go_meet
                          case rel => exact ⟨by rw [HAA.out, if_pos ⟨q1, q2⟩], rfl⟩
                        · go_wp2_with fail
                          go_roundw
                          case rel => exact ⟨by trivial, m + 1, by omega, by go_num, rfl, by rw [HAA.out, if_neg (fun h6 => q2 h6.2)]⟩
                          case measure => simp [intOf]; omega
                      · go_wp2_with fail
                        go_roundw
                        case rel => exact ⟨by trivial, m + 1, by omega, by go_num, rfl, by rw [HAA.out, if_neg (fun h6 => q1 h6.1)]⟩
                        case measure => simp [intOf]; omega
                    · obtain rfl : m = E.length := by omega
                      have HAA := Lib.hid hA
                      clear hA
                      go_wp2_with fail
                      go_meet
                      case rel => exact ⟨by rw [HAA.out, List.drop_length]; rfl, rfl⟩
                case rest =>
                  obtain ⟨hat, hwc⟩ := hcut
                  subst hat
                  subst hwc
                  obtain ⟨A, hA⟩ : ∃ A, atM xn.length E = A := ⟨_, rfl⟩
                  have hA1 := DRH.out.1
                  have hEn := DRH.out.2
                  have hCU := CUT.out
                  rw [hA] at hA1 hEn hCU
                  rw [hA]
                  have hsp := tot_split T.2.1 kb
                  have hxl : (xn ++ T.2.1.flatten).length = xn.length + tot T.2.1 := by rw [List.length_append, flat_length]
                  have hAle : A ≤ (xn ++ T.2.1.flatten).length := by omega
                  have hAc : A ≤ cc5 := by omega
                  have hxn20 : xn.length ≤ 20000 := by have := SUH.out; omega
                  have hA20 : A ≤ 20000 := by have := SUH.out; omega
                  have O5 := OR4.out.cut (xa' := xn ++ (T.2.1.take kb).flatten) (av' := .slice a5 A cc5) (by have h6 := OR4.out.a.cutHi A (by rw [u8s_length]; exact hAle); rw [u8s_take, hCU] at h6; exact h6) (by cases a5 <;> rfl)
                  have OR5 := Lib.hid O5
                  have HEN := Lib.hid hEn
                  have HA1 := Lib.hid hA1
                  have s12 := fun v len => cut_hi_any Try.underlying23 sizeU8 v a5 len cc5 A hAc
                  clear O5 hEn hCU hA hsp hxl hAle hA1
                  go_wp2_with fail
                  go_loopw [19, 129] (fun kv iv wx => ∃ m : Nat, m ≤ E.length ∧ iv = .int .i64 m ∧ Own wx kv (i64s ((E.take m).filter (· ≤ A))) ∧ Apart w.heap.size O R kv ∧ Disj (.slice a3 xn.length cc3) kv ∧ Disj (.slice a5 A cc5) kv ∧ Disj (.slice a4 E.length cc4) kv ∧ Ord w wx q (.slice a3 xn.length cc3) (.slice a5 A cc5) (.slice a4 E.length cc4) xn (xn ++ (T.2.1.take kb).flatten) E O R v4 vs4 (T.2.1.take kb) T.2.2.1 T.2.2.2 xn.length) (fun _ iv _ => E.length - (intOf iv).toNat)
                  case atStart => exact ⟨0, Nat.zero_le _, rfl, Own.nil _, fun _ h => by simp [Value.ownBlock] at h, fun _ _ h => by simp [Value.ownBlock] at h, fun _ _ h => by simp [Value.ownBlock] at h, fun _ _ h => by simp [Value.ownBlock] at h, OR5.out⟩
                  case round =>
                    obtain ⟨m, hm, rfl, hkw, hka, hk1, hk2, hk3, hox⟩ := hrel
                    have HX := Lib.hid hox
                    have HK := Lib.hid (And.intro hkw (And.intro hka (And.intro hk1 (And.intro hk2 hk3))))
                    clear hkw hka hk1 hk2 hk3
                    by_cases hmE : m < E.length
                    · obtain ⟨g5, o5, cap5, hv5, hg5, -, -, -, hcl5⟩ := hox.e.cells (by rw [i64s_length]; omega)
                      simp only [Value.slice.injEq] at hv5
                      obtain ⟨rfl, -, rfl⟩ := hv5
                      have ecell := hcl5 m (.int .i64 (Int.ofNat E[m])) (by simp [i64s, hmE])
                      have htk : E.take (m + 1) = E.take m ++ [E[m]] := by rw [List.take_add_one, List.getElem?_eq_getElem hmE]; rfl
                      generalize E[m] = e0 at *
                      have ecell' : wr.cell? ⟨g5, o5 + m, none⟩ = some (.int .i64 (e0 : Int)) := ecell
                      have HTK := Lib.hid htk
                      clear hcl5 ecell hox htk
                      by_cases q1 : e0 ≤ A
                      · go_wp2_with (at_builtin; refine wpList_own_append _ rfl (.tmp 136) (.tmp 138) 28 rfl 3 j0 (.int .i64 0) 8 Try.underlying28 ri rz0 rz1 rz2 rfl u19 (i64s ((E.take m).filter (· ≤ A))) rfl (HK.out.1.alloc _) _ 1 [.int .i64 (e0 : Int)] rfl (Src.ofSlice _ Try.underlying28 _ _ _ _ rfl (fun j u hu => by rw [addr_add]; rcases j with _ | j <;> simp at hu ⊢; exact hu) (by simp [Value.oneCell'])) (by rw [i64s_length]; have := List.length_filter_le (· ≤ A) (E.take m); have := List.length_take_le m E; unfold maxLen; omega) (by rw [i64s_length]; have := List.length_filter_le (· ≤ A) (E.take m); have := List.length_take_le m E; omega) ?_; intro kv3 w5 hown3 heff3 hblk3)
                        go_roundw
                        case rel =>
                          have hox := HX.out.below (below_alloc (Below.refl _ _) (.cells #[.int .i64 (e0 : Int)] 3))
                          exact ⟨m + 1, by omega, by go_num, by rw [HTK.out, List.filter_append, i64s_append]; simpa [q1, i64s] using hown3, grow_apart hox.st.lt hox.bel.size HK.out.2.1 hblk3, (grow_disj hox.o HK.out.2.2.1.symm hblk3).symm, (grow_disj hox.a HK.out.2.2.2.1.symm hblk3).symm, (grow_disj hox.e HK.out.2.2.2.2.symm hblk3).symm, hox.other HK.out.2.1 HK.out.2.2.1 HK.out.2.2.2.1 HK.out.2.2.2.2 heff3⟩
                        case measure => simp [intOf]; omega
                      · go_wp2_with fail
                        go_roundw
                        case rel => exact ⟨m + 1, by omega, by go_num, by rw [HTK.out, List.filter_append]; simpa [q1] using HK.out.1, HK.out.2.1, HK.out.2.2.1, HK.out.2.2.2.1, HK.out.2.2.2.2, HX.out⟩
                        case measure => simp [intOf]; omega
                    · obtain rfl : m = E.length := by omega
                      clear hox
                      have OR6 := Lib.hid (HX.out.swap HK.out.1 HK.out.2.1 HK.out.2.2.1 HK.out.2.2.2.1)
                      have hAi : (A : Int) - xn.length = tot (T.2.1.take kb) := by have := HA1.out; omega
                      go_wp2_with (go_at_call 12; refine (len_yes OR6.out.st).mono ?_; rintro r w7 ⟨rfl, rfl⟩)
                      go_roundw
                      case rel =>
                        have hsp := tot_split T.2.1 kb
                        have hsu := SUH.out
                        have hfl := List.length_filter_le (· ≤ A) E
                        exact ⟨k', i + 1, rfl, by go_num, hk', by omega, xn, E.filter (· ≤ A), O, R, v4, vs4, T.2.1.take kb, T.2.2.1, T.2.2.2, by have h6 := OR6.out; rw [List.take_length] at h6; exact h6, HEN.out, by omega, by omega⟩
                      case measure => simp [intOf]; omega
            · go_wp2_with (first
              | (go_at_call 9; refine (grant_yes ORD.out.st (Z i)).mono ?_; rintro r w1 ⟨rfl, hst1, he1⟩; have ORD1 := Lib.hid (ORD.out.queue hst1 he1 (fun _ h6 => .inl h6) (fun _ h6 => .inl h6)); clear hst1 he1)
              | (go_at_call 10; refine (take_yes ORD1.out.st (by omega)).mono ?_; rw [HTT.out]; rintro r w2 ⟨ut, vt, vst, rfl, hut, hutb, hst2, he2⟩; have HT := Lib.hid (And.intro hut hutb); have ORD2 := Lib.hid (ORD1.out.queue hst2 he2 (fun _ h6 => .inl h6) (fun _ h6 => .inl h6)); clear hst2 he2 hut hutb)
              | (at_builtin; refine wpList_own_append _ rfl (.tmp 91) (.tmp 93) 23 rfl 5 i0 (.int .u8 0) 1 Try.underlying23 hi0 hz0 hz1 hz2 rfl u11 (u8s xo) rfl ORD2.out.o _ T.1.length (u8s T.1) rfl (by have h6 := HT.out.1.src Try.underlying23 (u8s_one _); rw [u8s_length] at h6; exact h6) (by rw [u8s_length]; unfold maxLen; omega) (by rw [u8s_length]; omega) ?_; intro ov3 w3 hown3 heff3 hblk3; have ORD3 := Lib.hid (ORD2.out.appO (xo' := xo ++ T.1) (by rw [u8s_append]; exact hown3) heff3 hblk3); clear hown3 heff3 hblk3))
              go_roundw
              case rel =>
                have O3 := ORD3.out
                rw [FLAT.out, SENT.out] at O3
                exact ⟨k', i + 1, rfl, by go_num, hk', by omega, _, _, _, _, _, _, _, _, _, O3, EN.out, SUM.out, hs2⟩
              case measure => simp [intOf]; omega
        · obtain rfl : i = n2 := by omega
          obtain ⟨xo, E, O, R, v, vs, L, begun, credit, hO, hE, hs1, hs2⟩ := HI.out
          obtain ⟨i0, hi0, hz0, hz1, hz2⟩ := info_parts infoU8
          have hsj := sumX_mono X hk
          have hsj20 := HS.out
          have ORD := Lib.hid hO
          have hcr := hO.st.cr
          have hse := hO.st.se
          have hgr : 20000 ≤ grantM credit 1048576 := by unfold grantM; repeat' split; all_goals omega
          have hall := takeM_all L (grantM credit 1048576).toNat begun (by omega) hO.st.ne
          clear hO hE
          obtain ⟨T, hT⟩ : ∃ T, takeM (grantM credit 1048576).toNat L begun = T := ⟨_, rfl⟩
          have hTs := takeM_sum L (grantM credit 1048576).toNat begun
          rw [hT] at hTs hall
          have HTT := Lib.hid hT
          obtain ⟨hT1, hT2⟩ := hall
          have HT1 := Lib.hid hT1
          have HT2 := Lib.hid hT2
          clear hT hT1 hT2
          go_wp2_with (first
            | (go_at_call 9; refine (grant_yes ORD.out.st 1048576).mono ?_; rintro r w1 ⟨rfl, hst1, he1⟩; have ORD1 := Lib.hid (ORD.out.queue hst1 he1 (fun _ h6 => .inl h6) (fun _ h6 => .inl h6)); clear hst1 he1)
            | (go_at_call 10; refine (take_yes ORD1.out.st (by omega)).mono ?_; rw [HTT.out]; rintro r w2 ⟨ut, vt, vst, rfl, hut, hutb, hst2, he2⟩; have HT := Lib.hid (And.intro hut hutb); have ORD2 := Lib.hid (ORD1.out.queue hst2 he2 (fun _ h6 => .inl h6) (fun _ h6 => .inl h6)); clear hst2 he2 hut hutb)
            | (at_builtin; refine wpList_own_append _ rfl (.tmp 151) (.tmp 153) 23 rfl 5 i0 (.int .u8 0) 1 Try.underlying23 hi0 hz0 hz1 hz2 rfl u11 (u8s xo) rfl ORD2.out.o _ T.1.length (u8s T.1) rfl (by have h6 := HT.out.1.src Try.underlying23 (u8s_one _); rw [u8s_length] at h6; exact h6) (by rw [u8s_length]; unfold maxLen; omega) (by rw [u8s_length]; omega) ?_; intro ov3 w3 hown3 heff3 hblk3; have ORD3 := Lib.hid (ORD2.out.appO (xo' := xo ++ T.1) (by rw [u8s_append]; exact hown3) heff3 hblk3); clear hown3 heff3 hblk3; obtain ⟨a3, cc3, hov3, -, -⟩ := ORD3.out.o.shape; rw [u8s_length, List.length_append] at hov3; subst hov3; have hc1 := ORD3.out.o.conv; have hc2 := ORD3.out.a.conv; rw [← HT1.out] at hc2)
            | (go_at_call 13; refine (sent_yes ORD3.out.st).mono ?_; rintro r w4 ⟨rfl, rfl⟩)
            | (go_at_call 12; refine (len_yes ORD3.out.st).mono ?_; rw [HT2.out]; rintro r w5 ⟨rfl, rfl⟩)
            | (go_at_call 6; refine (lives_any _).mono ?_; rintro r w6 ⟨rfl, hb6⟩))
          go_ret
          exact ⟨rfl, bel_call ORD3.out.bel hb6⟩

end Go.Proofs.Ytliaeknidmbelaa.queueOrder
