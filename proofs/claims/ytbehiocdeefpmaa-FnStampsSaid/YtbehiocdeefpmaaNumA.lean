/- Contracts of small leaf functions: ranges and stamps. -/
import Derived.Test.YtbehiocdeefpmaaRows
import Derived.Test.YtbehiocdeefpmaaBase
import Derived.WalkKit
import Derived.WalkLawsBesides
import Derived.WalkSpells
import Derived.Lib.Hide
import Derived.Handy
namespace Go.Proofs.Ytbehiocdeefpmaa
open Go.RowKit

/-- x lies between lo and hi -/
def inB (x lo hi : Int) : Bool := decide (lo ≤ x) && decide (x ≤ hi)

theorem within_any (x lo hi : Int) (w : World) :
    Calls Try.prog 38 #[.int .i64 x, .int .i64 lo, .int .i64 hi] w fun e w' => e = .returned (.bool (inB x lo hi)) ∧ w = w' := by
  go_enter Try.func38, Try.ntmps38
  go_wp2
  all_goals go_ret
  all_goals exact ⟨ret_bool (beq_bool (by simp [inB]; try omega)), rfl⟩

theorem l1In_any (x lo hi : Int) (w : World) :
    Calls Try.prog 41 #[.int .i64 x, .int .i64 lo, .int .i64 hi] w fun e w' => e = .returned (.bool (inB x lo hi)) ∧ w = w' := by
  go_enter Try.func41, Try.ntmps41
  go_wp2
  all_goals go_ret
  all_goals exact ⟨ret_bool (beq_bool (by simp [inB]; try omega)), rfl⟩

theorem isRep_any (x : Int) (w : World) :
    Calls Try.prog 62 #[.int .i64 x] w fun e w' => e = .returned (.bool (inB x 0 2)) ∧ w = w' := by
  go_enter Try.func62, Try.ntmps62
  go_wp2
  all_goals go_ret
  all_goals exact ⟨ret_bool (beq_bool (by simp [inB]; try omega)), rfl⟩

theorem l9Node_any (x : Int) (w : World) :
    Calls Try.prog 42 #[.int .i64 x] w fun e w' => e = .returned (.bool (inB x 0 2)) ∧ w = w' := by
  go_enter Try.func42, Try.ntmps42
  go_wp2
  all_goals go_ret
  all_goals exact ⟨ret_bool (beq_bool (by simp [inB]; try omega)), rfl⟩

def stampOkB (a b c : Int) : Bool := inB a 0 1000000 && inB b 0 999 && inB c 0 2

theorem stampOk_impl (a b c : Int) (w : World) :
    Calls Try.prog 34 #[.agg #[.int .i64 a, .int .i64 b, .int .i64 c]] w fun e w' => e = .returned (.bool (stampOkB a b c)) ∧ w.alloc (.cells #[.int .i64 a, .int .i64 b, .int .i64 c] 24) = w' := by
  go_enter Try.func34, Try.ntmps34
  go_wp2_with (first | (go_at_call 38; refine (within_any _ _ _ _).mono ?_; rintro e w' ⟨rfl, rfl⟩) | (go_at_call 62; refine (isRep_any _ _).mono ?_; rintro e w' ⟨rfl, rfl⟩))
  all_goals go_ret
  all_goals exact ⟨ret_bool (beq_bool (by simp [stampOkB, *])), rfl⟩

theorem stampOk_spec (a b c : Int) (w : World) :
    Calls Try.prog 18 #[.agg #[.int .i64 a, .int .i64 b, .int .i64 c]] w fun e w' => e = .returned (.bool (stampOkB a b c)) ∧ w.alloc (.cells #[.int .i64 a, .int .i64 b, .int .i64 c] 24) = w' := by
  go_enter Try.func18, Try.ntmps18
  go_wp2_with (first | (go_at_call 41; refine (l1In_any _ _ _ _).mono ?_; rintro e w' ⟨rfl, rfl⟩) | (go_at_call 42; refine (l9Node_any _ _).mono ?_; rintro e w' ⟨rfl, rfl⟩))
  all_goals go_ret
  all_goals exact ⟨ret_bool (beq_bool (by simp [stampOkB, *])), rfl⟩

theorem toStamp_any (a b c : Int) (w : World) :
    Calls Try.prog 8 #[.agg #[.int .i64 a, .int .i64 b, .int .i64 c]] w fun e w' => e = .returned (.agg #[.int .i64 a, .int .i64 b, .int .i64 c]) ∧ Below w.heap.size w w' := by
  go_enter Try.func8, Try.ntmps8
  go_wp2
  all_goals go_returns
  all_goals exact ⟨rfl, by go_grown⟩

def stampLessB (a b c x y z : Int) : Bool := if a ≠ x then decide (a < x) else if b ≠ y then decide (b < y) else decide (c < z)

theorem stampLess_impl (a b c x y z : Int) (w : World) :
    Calls Try.prog 13 #[.agg #[.int .i64 a, .int .i64 b, .int .i64 c], .agg #[.int .i64 x, .int .i64 y, .int .i64 z]] w fun e w' => e = .returned (.bool (stampLessB a b c x y z)) ∧ Below w.heap.size w w' := by
  go_enter Try.func13, Try.ntmps13
  go_wp2
  all_goals go_returns
  all_goals exact ⟨ret_bool (by simp_all [stampLessB]), by go_grown⟩

theorem stampLess_spec (a b c x y z : Int) (w : World) :
    Calls Try.prog 19 #[.agg #[.int .i64 a, .int .i64 b, .int .i64 c], .agg #[.int .i64 x, .int .i64 y, .int .i64 z]] w fun e w' => e = .returned (.bool (stampLessB a b c x y z)) ∧ Below w.heap.size w w' := by
  go_enter Try.func19, Try.ntmps19
  go_wp2
  all_goals go_returns
  all_goals exact ⟨ret_bool (by simp_all [stampLessB]), by go_grown⟩

theorem eqStamp_any (a b c x y z : Int) (w : World) :
    Calls Try.prog 10 #[.agg #[.int .i64 a, .int .i64 b, .int .i64 c], .agg #[.int .i64 x, .int .i64 y, .int .i64 z]] w fun e w' => e = .returned (.bool (decide (a = x ∧ b = y ∧ c = z))) ∧ Below w.heap.size w w' := by
  go_enter Try.func10, Try.ntmps10
  go_wp2
  all_goals go_returns
  all_goals exact ⟨ret_bool (by simp_all), by go_grown⟩

end Go.Proofs.Ytbehiocdeefpmaa
