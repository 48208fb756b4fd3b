/-
  THE PLAIN LAW under 'Rows.LawS930018QAAWholeSaid': no Go in sight, nothing of the dump imported but the law's bit operator.
  'leapB': what IsLeap reckons; 'modelB': what the law's model reckons; 'leap_model': the two are one function on Int.
-/
import Derived.Laws.BitsLemmas
namespace Go.Proofs.Ymwhba

/-- What IsLeap reckons. -/
def leapB (y : Int) : Bool := y.tmod 4 == 0 && (y.tmod 100 != 0 || y.tmod 400 == 0)

/-- The year's place in the cycle of 400 years, as the law's model reckons it. -/
def placeI (y : Int) : Int := if y.tmod 400 < 0 then y.tmod 400 + 400 else y.tmod 400

/-- What the law's model answers for a place in the cycle. -/
def atPlaceB (r : Int) : Bool :=
  if r = 0 then true
  else if r = 100 ∨ r = 200 ∨ r = 300 then false
  else r % 4 == 0

/-- What the law's model answers. -/
def modelB (y : Int) : Bool := atPlaceB (placeI y)

theorem tmod_zero_iff (y m : Int) : y.tmod m = 0 ↔ y % m = 0 := by
  rw [← Int.dvd_iff_tmod_eq_zero, ← Int.dvd_iff_emod_eq_zero]

theorem placeI_eq (y : Int) : placeI y = y % 400 := by
  unfold placeI
  by_cases h : 0 ≤ y
  · rw [Int.tmod_eq_emod_of_nonneg h]; omega
  · have e : y = -(-y) := by omega
    have t : y.tmod 400 = -((-y) % 400) := by
      rw [e, Int.neg_tmod, Int.tmod_eq_emod_of_nonneg (by omega)]
      congr 1
      omega
    rw [t]; omega

theorem tmod400_bd (y : Int) : -399 ≤ y.tmod 400 ∧ y.tmod 400 ≤ 399 := by
  have h := placeI_eq y
  unfold placeI at h
  have h0 := tmod_zero_iff y 400
  split at h <;> omega

theorem leap_model (y : Int) : leapB y = modelB y := by
  have h4 := tmod_zero_iff y 4
  have h100 := tmod_zero_iff y 100
  have h400 := tmod_zero_iff y 400
  unfold leapB modelB atPlaceB
  rw [placeI_eq, Bool.eq_iff_iff]
  simp only [Bool.and_eq_true, Bool.or_eq_true, beq_iff_eq, bne_iff_ne, ne_eq, h4, h100, h400]
  by_cases c0 : y % 400 = 0
  · simp [c0]; omega
  · by_cases c1 : y % 400 = 100 ∨ y % 400 = 200 ∨ y % 400 = 300
    · simp [c0, c1]; omega
    · rw [if_neg c0, if_neg c1]; simp; omega

/-- 'r & 3' on an int is the remainder by 4, for every r. -/
theorem and3_i64 (n : Int) : bits .and .i64 n 3 = n % 4 := by
  have h3 : (BitVec.ofInt 64 3).toNat = 2 ^ 2 - 1 := by decide
  have key : (BitVec.ofInt 64 n &&& BitVec.ofInt 64 3).toNat = (n % ((2 ^ 64 : Nat) : Int)).toNat % 2 ^ 2 := by
    rw [BitVec.toNat_and, BitVec.toNat_ofInt, h3, Nat.and_two_pow_sub_one_eq_mod]
  show IntKind.i64.wrap ((BitVec.ofInt 64 n &&& BitVec.ofInt 64 3).toNat : Nat) = n % 4
  rw [key, IntKind.wrap_i64]
  omega

end Go.Proofs.Ymwhba
