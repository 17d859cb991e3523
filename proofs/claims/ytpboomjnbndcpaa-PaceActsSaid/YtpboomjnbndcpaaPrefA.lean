/-
  Proved here: what the masks of a prefix are, and that the program and the document agree on which prefixes are good; the Lean side alone, no program in sight.
-/
import Derived.WalkKit
import Derived.WalkLawsBesides
namespace Go.Proofs.Ytpboomjnbndcpaa

/-- The mask of n bits, 0 ≤ n ≤ 32. -/
def maskN (n : Nat) : Nat := 2 ^ 32 - 2 ^ (32 - n)
def maskI (n : Int) : Int := (maskN n.toNat : Nat)
theorem maskN_lt (n : Nat) : maskN n < 4294967296 := by
  unfold maskN
  have : 0 < 2 ^ (32 - n) := Nat.two_pow_pos _
  omega
def clampI (n : Int) : Int := if n < 0 then 0 else if 32 < n then 32 else n
theorem clamp_range (n : Int) : 0 ≤ clampI n ∧ clampI n ≤ 32 := by unfold clampI; split <;> (try split) <;> omega
/-- May a prefix be? -/
def goodI (a n : Int) : Bool := decide (0 ≤ n) && decide (n ≤ 32) && (bits .andNot .u32 a (maskI n) == 0)

theorem mask_val (n : Nat) (h : n ≤ 32) : IntKind.u64.wrap (4294967296 - IntKind.u64.wrap (2 ^ (32 - n))) % 4294967296 = maskI n := by
  have h2 : (2 : Int) ^ (32 - n) = ((2 ^ (32 - n) : Nat) : Int) := by simp
  have h3 : 2 ^ (32 - n) ≤ 2 ^ 32 := Nat.pow_le_pow_right (by omega) (by omega)
  have h4 : 0 < 2 ^ (32 - n) := Nat.two_pow_pos _
  rw [h2, IntKind.wrap_u64, IntKind.wrap_u64]
  unfold maskI maskN
  simp only [Int.toNat_natCast]
  generalize 2 ^ (32 - n) = p at *
  omega

/-- a & m = a just where a &^ m = 0. -/
theorem and_eq_iff (a m : Int) (h1 : 0 ≤ a) (h2 : a < 4294967296) (h3 : 0 ≤ m) (h4 : m < 4294967296) :
    (bits .and .u32 a m = a) ↔ (bits .andNot .u32 a m = 0) := by
  obtain ⟨x, rfl⟩ := Int.eq_ofNat_of_zero_le h1
  obtain ⟨y, rfl⟩ := Int.eq_ofNat_of_zero_le h3
  have hx : x < 2 ^ 32 := by omega
  have hy : y < 2 ^ 32 := by omega
  rw [u32_and_nat x y (by omega) (by omega), u32_andNot_nat x y (by omega) (by omega)]
  have key : x = (x &&& y) + (x &&& (4294967295 - y)) := by
    have e1 : ((BitVec.ofNat 32 x) &&& (BitVec.ofNat 32 y)) + ((BitVec.ofNat 32 x) &&& ~~~(BitVec.ofNat 32 y)) = BitVec.ofNat 32 x := by
      rw [BitVec.add_eq_or_of_and_eq_zero]
      · ext i; simp only [BitVec.getElem_or, BitVec.getElem_and, BitVec.getElem_not]; cases (BitVec.ofNat 32 x)[i] <;> cases (BitVec.ofNat 32 y)[i] <;> rfl
      · ext i; simp only [BitVec.getElem_and, BitVec.getElem_not]; cases (BitVec.ofNat 32 x)[i] <;> cases (BitVec.ofNat 32 y)[i] <;> simp
    have e2 := congrArg BitVec.toNat e1
    simp only [BitVec.toNat_add, BitVec.toNat_and, BitVec.toNat_not, BitVec.toNat_ofNat, Nat.mod_eq_of_lt hx, Nat.mod_eq_of_lt hy] at e2
    have l1 : x &&& y ≤ x := Nat.and_le_left
    have l2 : x &&& (4294967295 - y) ≤ x := Nat.and_le_left
    have e3 : (2 ^ 32 - 1 - y) = 4294967295 - y := by omega
    rw [e3] at e2
    omega
  constructor
  · intro h
    have h' : x &&& y = x := by exact_mod_cast h
    have : x &&& (4294967295 - y) = 0 := by omega
    exact_mod_cast this
  · intro h
    have h' : x &&& (4294967295 - y) = 0 := by exact_mod_cast h
    have : x &&& y = x := by omega
    exact_mod_cast this

theorem good_canon (a n : Int) (h1 : 0 ≤ a) (h2 : a < 4294967296) :
    ((a == bits .and .u32 a (maskI (clampI n))) && (n == clampI n)) = goodI a n := by
  have hm := maskN_lt (clampI n).toNat
  have key := and_eq_iff a (maskI (clampI n)) h1 h2 (by unfold maskI; omega) (by unfold maskI; omega)
  unfold goodI
  by_cases h : 0 ≤ n ∧ n ≤ 32
  · obtain ⟨ha, hb⟩ := h
    have hc : clampI n = n := by unfold clampI; rw [if_neg (by omega), if_neg (by omega)]
    rw [hc] at key ⊢
    rw [Bool.eq_iff_iff]
    simp only [Bool.and_eq_true, beq_iff_eq, decide_eq_true_eq]
    constructor
    · rintro ⟨h, -⟩; exact ⟨⟨ha, hb⟩, key.1 h.symm⟩
    · rintro ⟨-, h⟩; exact ⟨(key.2 h).symm, trivial⟩
  · have hc : n ≠ clampI n := by
      intro e
      have := clamp_range n
      omega
    rw [Bool.eq_iff_iff]
    simp only [Bool.and_eq_true, beq_iff_eq, decide_eq_true_eq]
    constructor
    · rintro ⟨-, h⟩; exact absurd h hc
    · rintro ⟨⟨ha, hb⟩, -⟩; exact absurd ⟨ha, hb⟩ h

end Go.Proofs.Ytpboomjnbndcpaa
