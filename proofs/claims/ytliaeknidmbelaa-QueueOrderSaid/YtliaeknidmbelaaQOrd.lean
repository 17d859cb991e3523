/-
  Proved here: plain facts on messages, bytes and ends, that QueueOrder leans on; no program in sight.
-/
import Derived.Test.YtliaeknidmbelaaQ7
namespace Go.Proofs.Ytliaeknidmbelaa

/-- Where the messages of a queue end, from where it stands. -/
def endsM : List (List Int) → List Nat
  | [] => []
  | x :: L => x.length :: (endsM L).map (x.length + ·)

theorem endsM_append (A : List (List Int)) (x : List Int) : endsM (A ++ [x]) = endsM A ++ [tot A + x.length] := by
  induction A with
  | nil => simp [endsM, tot]
  | cons y A ih => simp [endsM, ih, tot_cons, Nat.add_assoc]

theorem endsM_pos {L : List (List Int)} (hne : ∀ xs ∈ L, 0 < xs.length) : ∀ p ∈ endsM L, 0 < p := by
  cases L with
  | nil => simp [endsM]
  | cons x L =>
    intro p hp
    simp only [endsM, List.mem_cons, List.mem_map] at hp
    have := hne x (by simp)
    rcases hp with rfl | ⟨a, -, rfl⟩ <;> omega

theorem endsM_first {x : List Int} {L : List (List Int)} : ∀ p ∈ endsM (x :: L), x.length ≤ p := by
  intro p hp
  simp only [endsM, List.mem_cons, List.mem_map] at hp
  rcases hp with rfl | ⟨a, -, rfl⟩ <;> omega

theorem endsM_le (L : List (List Int)) : ∀ p ∈ endsM L, p ≤ tot L := by
  induction L with
  | nil => simp [endsM]
  | cons x L ih =>
    intro p hp
    rw [tot_cons]
    simp only [endsM, List.mem_cons, List.mem_map] at hp
    rcases hp with rfl | ⟨a, ha, rfl⟩
    · omega
    · have := ih a ha; omega

/-- What binds the ends that the law keeps to the queue's messages: 'o' bytes are out. -/
structure Ends (o : Nat) (L : List (List Int)) (begun : Bool) (E : List Nat) : Prop where
  sorted : E.Pairwise (· ≤ ·)
  top : ∀ e ∈ E, e ≤ o + tot L
  fwd : ∀ e ∈ E, o < e → ∃ p ∈ endsM L, e = o + p
  bwd : ∀ p ∈ endsM L, o + p ∈ E
  fresh : begun = false → o = 0 ∨ o ∈ E
  mid : begun = true → o ∉ E ∧ 0 < o

theorem Ends.start : Ends 0 [] false [] := ⟨List.Pairwise.nil, by simp, by simp, by simp [endsM], fun _ => .inl rfl, fun h => by cases h⟩

theorem Ends.push {o : Nat} {L : List (List Int)} {begun : Bool} {E : List Nat} (h : Ends o L begun E) (x : List Int) (hx : 0 < x.length) : Ends o (L ++ [x]) begun (E ++ [o + tot (L ++ [x])]) := by
  have ht : tot (L ++ [x]) = tot L + x.length := by rw [tot_append, tot_cons, tot_nil]; omega
  refine ⟨?_, ?_, ?_, ?_, ?_, ?_⟩
  · rw [List.pairwise_append]
    exact ⟨h.sorted, by simp, fun a ha b hb => by simp at hb; subst hb; have := h.top a ha; omega⟩
  · intro e he
    rcases List.mem_append.1 he with he | he
    · have := h.top e he; omega
    · simp at he; omega
  · intro e he ho
    rw [endsM_append]
    rcases List.mem_append.1 he with he | he
    · obtain ⟨p, hp, rfl⟩ := h.fwd e he ho
      exact ⟨p, by simp [hp], rfl⟩
    · simp at he
      exact ⟨tot L + x.length, by simp, by omega⟩
  · intro p hp
    rw [endsM_append] at hp
    rcases List.mem_append.1 hp with hp | hp
    · simp [h.bwd p hp]
    · simp at hp; subst hp; simp [ht]
  · intro hb
    rcases h.fresh hb with h6 | h6
    · exact .inl h6
    · exact .inr (by simp [h6])
  · intro hb
    obtain ⟨h1, h2⟩ := h.mid hb
    refine ⟨fun hm => ?_, h2⟩
    rcases List.mem_append.1 hm with hm | hm
    · exact h1 hm
    · simp at hm; omega

theorem Ends.pushNone {o : Nat} {L : List (List Int)} {begun : Bool} {E : List Nat} (h : Ends o L begun E) (hne : ∀ xs ∈ L, 0 < xs.length) (hb : begun = true → L ≠ []) : Ends o L begun (E ++ [o + tot L]) := by
  have hlast : 0 < tot L → tot L ∈ endsM L := by
    intro h0
    rcases List.eq_nil_or_concat L with rfl | ⟨A, x, rfl⟩
    · simp [tot] at h0
    · rw [List.concat_eq_append, endsM_append, tot_append, tot_cons, tot_nil]; simp
  refine ⟨?_, ?_, ?_, ?_, ?_, ?_⟩
  · rw [List.pairwise_append]
    exact ⟨h.sorted, by simp, fun a ha b hb => by simp at hb; subst hb; exact h.top a ha⟩
  · intro e he
    rcases List.mem_append.1 he with he | he
    · exact h.top e he
    · simp at he; omega
  · intro e he ho
    rcases List.mem_append.1 he with he | he
    · exact h.fwd e he ho
    · simp at he
      exact ⟨tot L, hlast (by omega), he⟩
  · intro p hp
    simp [h.bwd p hp]
  · intro hb
    rcases h.fresh hb with h6 | h6
    · exact .inl h6
    · exact .inr (by simp [h6])
  · intro hbt
    obtain ⟨h1, h2⟩ := h.mid hbt
    refine ⟨fun hm => ?_, h2⟩
    rcases List.mem_append.1 hm with hm | hm
    · exact h1 hm
    · simp at hm
      cases L with
      | nil => exact hb hbt rfl
      | cons x L => have := hne x (by simp); rw [tot_cons] at hm; omega

theorem Ends.take : ∀ (L : List (List Int)) (o c : Nat) (begun : Bool) (E : List Nat), Ends o L begun E → (∀ xs ∈ L, 0 < xs.length) → Ends (o + (takeM c L begun).1.length) (takeM c L begun).2.1 (takeM c L begun).2.2.1 E
  | [], o, c, begun, E, h, _ => by simpa [takeM] using h
  | x :: L, o, c, begun, E, h, hne => by
    by_cases h0 : c = 0
    · subst h0; simpa [takeM_zero] using h
    · by_cases hx : x.length ≤ c
      · rw [takeM_whole h0 hx]
        have hend : o + x.length ∈ E := h.bwd _ (by simp [endsM])
        have h' : Ends (o + x.length) L false E := by
          refine ⟨h.sorted, fun e he => ?_, fun e he ho => ?_, fun p hp => ?_, fun _ => .inr hend, fun h6 => by cases h6⟩
          · have := h.top e he; rw [tot_cons] at this; omega
          · obtain ⟨p, hp, rfl⟩ := h.fwd e he (by omega)
            simp only [endsM, List.mem_cons, List.mem_map] at hp
            rcases hp with rfl | ⟨a, ha, rfl⟩
            · omega
            · exact ⟨a, ha, by omega⟩
          · have := h.bwd (x.length + p) (by simp only [endsM, List.mem_cons, List.mem_map]; exact .inr ⟨p, hp, rfl⟩)
            rwa [← Nat.add_assoc] at this
        have := Ends.take L (o + x.length) (c - x.length) false E h' (fun ys hys => hne ys (by simp [hys]))
        simpa [Nat.add_assoc] using this
      · rw [takeM_part h0 hx]
        have hl : (x.take c).length = c := by rw [List.length_take]; omega
        have hd : (x.drop c).length = x.length - c := by rw [List.length_drop]
        refine ⟨h.sorted, fun e he => ?_, fun e he ho => ?_, fun p hp => ?_, fun h6 => by simp at h6, fun _ => ⟨fun hm => ?_, ?_⟩⟩
        · have := h.top e he; rw [tot_cons] at this; rw [tot_cons, hd, hl]; omega
        · rw [hl] at ho ⊢
          obtain ⟨p, hp, rfl⟩ := h.fwd e he (by omega)
          have hp1 := endsM_first p hp
          refine ⟨p - c, ?_, by omega⟩
          simp only [endsM, List.mem_cons, List.mem_map, hd] at hp ⊢
          rcases hp with rfl | ⟨a, ha, rfl⟩
          · exact .inl rfl
          · exact .inr ⟨a, ha, by omega⟩
        · rw [hl]
          simp only [endsM, List.mem_cons, List.mem_map, hd] at hp
          have := h.bwd (c + p) (by
            simp only [endsM, List.mem_cons, List.mem_map]
            rcases hp with rfl | ⟨a, ha, rfl⟩
            · exact .inl (by omega)
            · exact .inr ⟨a, ha, by omega⟩)
          rwa [← Nat.add_assoc] at this
        · rw [hl] at hm
          obtain ⟨p, hp, he⟩ := h.fwd _ hm (by omega)
          have := endsM_first p hp
          omega
        · rw [hl]; omega

/-- What the law cuts its bytes at: the first end that lies not before what is out. -/
def atM (o : Nat) : List Nat → Nat
  | [] => o
  | e :: E => if 0 < o ∧ o ≤ e then e else atM o E

theorem atM_zero (E : List Nat) : atM 0 E = 0 := by
  induction E with
  | nil => rfl
  | cons e E ih => simp [atM, ih]
theorem atM_is {o a : Nat} (h0 : 0 < o) : ∀ (E : List Nat), E.Pairwise (· ≤ ·) → a ∈ E → o ≤ a → (∀ e ∈ E, o ≤ e → a ≤ e) → atM o E = a
  | [], _, h, _, _ => by simp at h
  | e :: E, hs, ha, hoa, hmin => by
    rw [atM]
    by_cases h : o ≤ e
    · rw [if_pos ⟨h0, h⟩]
      have h1 := hmin e (by simp) h
      rcases List.mem_cons.1 ha with rfl | h2
      · rfl
      · have := (List.pairwise_cons.1 hs).1 a h2; omega
    · rw [if_neg (fun h6 => h h6.2)]
      refine atM_is h0 E (List.pairwise_cons.1 hs).2 ?_ hoa (fun e' he' => hmin e' (by simp [he']))
      rcases List.mem_cons.1 ha with rfl | h2
      · exact absurd hoa h
      · exact h2

theorem Ends.drop {o : Nat} {L : List (List Int)} {begun : Bool} {E : List Nat} (h : Ends o L begun E) (hne : ∀ xs ∈ L, 0 < xs.length) (hb : begun = true → L ≠ []) :
    atM o E = o + tot (L.take (if begun = true then 1 else 0)) ∧ Ends o (L.take (if begun = true then 1 else 0)) begun (E.filter (· ≤ atM o E)) := by
  cases begun with
  | false =>
    have ha : atM o E = o := by
      rcases h.fresh rfl with rfl | h6
      · exact atM_zero E
      · by_cases h0 : 0 < o
        · exact atM_is h0 E h.sorted h6 (Nat.le_refl _) (fun e _ he => he)
        · have : o = 0 := by omega
          subst this; exact atM_zero E
    rw [ha]
    refine ⟨by simp [tot], h.sorted.filter _, fun e he => ?_, fun e he ho => ?_, fun p hp => ?_, fun _ => ?_, fun h6 => by cases h6⟩
    · simp at he; simp [tot]; omega
    · simp at he; omega
    · simp [endsM] at hp
    · rcases h.fresh rfl with h6 | h6
      · exact .inl h6
      · exact .inr (by simp [h6])
  | true =>
    obtain ⟨x, L', rfl⟩ : ∃ x L', L = x :: L' := by
      cases L with
      | nil => exact absurd rfl (hb rfl)
      | cons x L' => exact ⟨x, L', rfl⟩
    obtain ⟨hm, h0⟩ := h.mid rfl
    have hx := hne x (by simp)
    have hend : o + x.length ∈ E := h.bwd _ (by simp [endsM])
    have ha : atM o E = o + x.length := atM_is h0 E h.sorted hend (by omega) (fun e he hoe => by
      have : o < e := Nat.lt_of_le_of_ne hoe (fun h6 => hm (h6 ▸ he))
      obtain ⟨p, hp, rfl⟩ := h.fwd e he this
      have := endsM_first p hp
      omega)
    rw [ha]
    refine ⟨by simp [tot], h.sorted.filter _, fun e he => ?_, fun e he ho => ?_, fun p hp => ?_, fun h6 => (by cases h6), fun _ => ⟨fun h6 => hm ?_, h0⟩⟩
    · simp at he; simp [tot]; omega
    · simp at he
      obtain ⟨p, hp, rfl⟩ := h.fwd e he.1 ho
      have := endsM_first p hp
      exact ⟨p, by simp [endsM]; omega, rfl⟩
    · simp [endsM] at hp
      subst hp
      simp [hend]
    · simp at h6; exact h6

theorem takeM_all : ∀ (L : List (List Int)) (c : Nat) (b : Bool), tot L ≤ c → (∀ xs ∈ L, 0 < xs.length) → (takeM c L b).1 = L.flatten ∧ (takeM c L b).2.1 = []
  | [], c, b, _, _ => by simp [takeM]
  | x :: L, c, b, h, hne => by
    rw [tot_cons] at h
    have hx := hne x (by simp)
    rw [takeM_whole (by omega) (by omega)]
    have := takeM_all L (c - x.length) false (by omega) (fun ys hys => hne ys (by simp [hys]))
    simp [this.1, this.2]
theorem takeM_flat : ∀ (L : List (List Int)) (c : Nat) (b : Bool), (takeM c L b).1 ++ (takeM c L b).2.1.flatten = L.flatten
  | [], c, b => by simp [takeM]
  | x :: L, c, b => by
    by_cases h0 : c = 0
    · subst h0; simp [takeM_zero]
    · by_cases h : x.length ≤ c
      · rw [takeM_whole h0 h]
        simp [List.append_assoc, takeM_flat L (c - x.length) false]
      · rw [takeM_part h0 h]
        rw [List.flatten_cons, List.flatten_cons, ← List.append_assoc, List.take_append_drop]
theorem flat_length (L : List (List Int)) : L.flatten.length = tot L := by simp [tot, List.length_flatten]

end Go.Proofs.Ytliaeknidmbelaa
