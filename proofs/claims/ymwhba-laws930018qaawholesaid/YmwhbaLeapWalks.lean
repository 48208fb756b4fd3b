/-
  THE WALKS of the two functions under the law: IsLeap (number 4) and zzs930018qaamodel (number 5): each only computes; the world stands.
-/
import Derived.Test.YmwhbaRows
import Derived.Test.YmwhbaLeapPlain
import Derived.WalkKit
import Derived.ProofKit
namespace Go.Proofs.Ymwhba
open Go.ChangeShapes Go.WideShapes Go.ChangeAt Go.RowKit

theorem ret_bool {a b : Bool} (h : a = b) : Ending.returned (.bool a) = .returned (.bool b) := by rw [h]

/-! ### The ways through the model, one small lemma each -/
theorem model_neg {y : Int} (h : y.tmod 400 < 0) : modelB y = atPlaceB (y.tmod 400 + 400) := by
  unfold modelB placeI; rw [if_pos h]
theorem model_pos {y : Int} (h : 0 ≤ y.tmod 400) : modelB y = atPlaceB (y.tmod 400) := by
  unfold modelB placeI; rw [if_neg (by omega)]
theorem at_zero {r : Int} (h : (r == 0) = true) : true = atPlaceB r := by
  simp at h; simp [atPlaceB, h]
theorem at_hundred {r : Int} (h : r = 100 ∨ r = 200 ∨ r = 300) : false = atPlaceB r := by
  unfold atPlaceB; rw [if_neg (by omega), if_pos h]
theorem at_hundreds {r : Int} (h : ((r == 100) = true ∨ (r == 200) = true) ∨ (r == 300) = true) : false = atPlaceB r := by
  simp at h; exact at_hundred (by omega)
theorem at_other {r : Int} (h : (r == 0) = false) (h' : ((r == 100) = false ∧ (r == 200) = false) ∧ (r == 300) = false) :
    (bits BinOp.and IntKind.i64 r 3 == 0) = atPlaceB r := by
  simp at h h'
  unfold atPlaceB
  rw [if_neg h, if_neg (by omega), and3_i64]

/-! ### IsLeap -/
set_option maxHeartbeats 400000 in
theorem isLeap_any (y : Int) (w : World) :
    Calls Ybav.prog 4 #[.int .i64 y] w fun e w' => e = .returned (.bool (leapB y)) ∧ w' = w := by
  go_enter Ybav.func4, Ybav.ntmps4
  go_wp2
  all_goals
    go_ret
    exact ⟨ret_bool (by simp [leapB, *]), rfl⟩

/-! ### The model -/
set_option maxHeartbeats 400000 in
theorem model_any (y : Int) (w : World) :
    Calls Ybav.prog 5 #[.int .i64 y] w fun e w' => e = .returned (.bool (modelB y)) ∧ w' = w := by
  have hb := tmod400_bd y
  go_enter Ybav.func5, Ybav.ntmps5
  go_wp2
  all_goals
    go_ret
    refine ⟨ret_bool ?_, rfl⟩
    first
      | rw [model_neg ‹_›]
      | rw [model_pos ‹_›]
    first
      | exact at_zero ‹_›
      | exact at_hundred (by omega)
      | exact at_hundreds ‹_›
      | exact at_other ‹_› ‹_›

end Go.Proofs.Ymwhba
