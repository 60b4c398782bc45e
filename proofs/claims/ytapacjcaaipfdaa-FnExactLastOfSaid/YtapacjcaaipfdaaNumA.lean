/- Contracts of small leaf functions: ranges and stamps. -/
import Derived.Test.YtapacjcaaipfdaaRows
import Derived.Test.YtapacjcaaipfdaaBase
import Derived.WalkKit
import Derived.WalkLawsBesides
import Derived.WalkSpells
import Derived.Lib.Hide
import Derived.Handy
namespace Go.Proofs.Ytapacjcaaipfdaa
open Go.RowKit

/-- x lies between lo and hi -/
def inB (x lo hi : Int) : Bool := decide (lo ≤ x) && decide (x ≤ hi)

theorem within_any (x lo hi : Int) (w : World) :
    Calls Try.prog 51 #[.int .i64 x, .int .i64 lo, .int .i64 hi] w fun e w' => e = .returned (.bool (inB x lo hi)) ∧ w = w' := by
  go_enter Try.func51, Try.ntmps51
  go_wp2
  all_goals go_ret
  all_goals exact ⟨ret_bool (beq_bool (by simp [inB]; try omega)), rfl⟩

theorem l1In_any (x lo hi : Int) (w : World) :
    Calls Try.prog 49 #[.int .i64 x, .int .i64 lo, .int .i64 hi] w fun e w' => e = .returned (.bool (inB x lo hi)) ∧ w = w' := by
  go_enter Try.func49, Try.ntmps49
  go_wp2
  all_goals go_ret
  all_goals exact ⟨ret_bool (beq_bool (by simp [inB]; try omega)), rfl⟩

theorem isRep_any (x : Int) (w : World) :
    Calls Try.prog 52 #[.int .i64 x] w fun e w' => e = .returned (.bool (inB x 0 2)) ∧ w = w' := by
  go_enter Try.func52, Try.ntmps52
  go_wp2
  all_goals go_ret
  all_goals exact ⟨ret_bool (beq_bool (by simp [inB]; try omega)), rfl⟩

theorem l9Node_any (x : Int) (w : World) :
    Calls Try.prog 50 #[.int .i64 x] w fun e w' => e = .returned (.bool (inB x 0 2)) ∧ w = w' := by
  go_enter Try.func50, Try.ntmps50
  go_wp2
  all_goals go_ret
  all_goals exact ⟨ret_bool (beq_bool (by simp [inB]; try omega)), rfl⟩

def stampOkB (a b c : Int) : Bool := inB a 0 1000000 && inB b 0 999 && inB c 0 2

theorem stampOk_impl (a b c : Int) (w : World) :
    Calls Try.prog 19 #[.agg #[.int .i64 a, .int .i64 b, .int .i64 c]] w fun e w' => e = .returned (.bool (stampOkB a b c)) ∧ w.alloc (.cells #[.int .i64 a, .int .i64 b, .int .i64 c] 27) = w' := by
  go_enter Try.func19, Try.ntmps19
  go_wp2_with (first | (go_at_call 51; refine (within_any _ _ _ _).mono ?_; rintro e w' ⟨rfl, rfl⟩) | (go_at_call 52; refine (isRep_any _ _).mono ?_; rintro e w' ⟨rfl, rfl⟩))
  all_goals go_ret
  all_goals exact ⟨ret_bool (beq_bool (by simp [stampOkB, *])), rfl⟩

theorem stampOk_spec (a b c : Int) (w : World) :
    Calls Try.prog 17 #[.agg #[.int .i64 a, .int .i64 b, .int .i64 c]] w fun e w' => e = .returned (.bool (stampOkB a b c)) ∧ w.alloc (.cells #[.int .i64 a, .int .i64 b, .int .i64 c] 27) = w' := by
  go_enter Try.func17, Try.ntmps17
  go_wp2_with (first | (go_at_call 49; refine (l1In_any _ _ _ _).mono ?_; rintro e w' ⟨rfl, rfl⟩) | (go_at_call 50; refine (l9Node_any _ _).mono ?_; rintro e w' ⟨rfl, rfl⟩))
  all_goals go_ret
  all_goals exact ⟨ret_bool (beq_bool (by simp [stampOkB, *])), rfl⟩

theorem toStamp_any (a b c : Int) (w : World) :
    Calls Try.prog 18 #[.agg #[.int .i64 a, .int .i64 b, .int .i64 c]] w fun e w' => e = .returned (.agg #[.int .i64 a, .int .i64 b, .int .i64 c]) ∧ Below w.heap.size w w' := by
  go_enter Try.func18, Try.ntmps18
  go_wp2
  all_goals go_returns
  all_goals exact ⟨rfl, by go_grown⟩

def stampLessB (a b c x y z : Int) : Bool := if a ≠ x then decide (a < x) else if b ≠ y then decide (b < y) else decide (c < z)

theorem stampLess_impl (a b c x y z : Int) (w : World) :
    Calls Try.prog 21 #[.agg #[.int .i64 a, .int .i64 b, .int .i64 c], .agg #[.int .i64 x, .int .i64 y, .int .i64 z]] w fun e w' => e = .returned (.bool (stampLessB a b c x y z)) ∧ Below w.heap.size w w' := by
  go_enter Try.func21, Try.ntmps21
  go_wp2
  all_goals go_returns
  all_goals exact ⟨ret_bool (by simp_all [stampLessB]), by go_grown⟩

theorem stampLess_spec (a b c x y z : Int) (w : World) :
    Calls Try.prog 20 #[.agg #[.int .i64 a, .int .i64 b, .int .i64 c], .agg #[.int .i64 x, .int .i64 y, .int .i64 z]] w fun e w' => e = .returned (.bool (stampLessB a b c x y z)) ∧ Below w.heap.size w w' := by
  go_enter Try.func20, Try.ntmps20
  go_wp2
  all_goals go_returns
  all_goals exact ⟨ret_bool (by simp_all [stampLessB]), by go_grown⟩

theorem eqStamp_any (a b c x y z : Int) (w : World) :
    Calls Try.prog 33 #[.agg #[.int .i64 a, .int .i64 b, .int .i64 c], .agg #[.int .i64 x, .int .i64 y, .int .i64 z]] w fun e w' => e = .returned (.bool (decide (a = x ∧ b = y ∧ c = z))) ∧ Below w.heap.size w w' := by
  go_enter Try.func33, Try.ntmps33
  go_wp2
  all_goals go_returns
  all_goals exact ⟨ret_bool (by simp_all), by go_grown⟩

/-- the first byte modulo 16, 0 where there is none -/
def bucketOf (s : ByteArray) : Int := if h : 0 < s.size then ((s[0]'h).toNat : Int) % 16 else 0

theorem bucketOf_impl (s : ByteArray) (w : World) :
    Calls Try.prog 16 #[.string s] w fun e w' => e = .returned (.int .i64 (bucketOf s)) ∧ w = w' := by
  by_cases h : 0 < s.size
  · have h1 := str_ne h
    go_enter Try.func16, Try.ntmps16
    go_wp2
    all_goals go_returns
    exact ⟨by simp only [bucketOf, h, dite_true, byte_wrap]; rw [Int.tmod_eq_emod_of_nonneg (by omega)]; rfl, rfl⟩
  · have h1 := str_nil h
    go_enter Try.func16, Try.ntmps16
    go_wp2
    all_goals go_returns
    exact ⟨by simp [bucketOf, h], rfl⟩

theorem bucketOf_spec (s : ByteArray) (w : World) :
    Calls Try.prog 15 #[.string s] w fun e w' => e = .returned (.int .i64 (bucketOf s)) ∧ w = w' := by
  by_cases h : 0 < s.size
  · have h1 := str_ne h
    go_enter Try.func15, Try.ntmps15
    go_wp2
    all_goals go_returns
    exact ⟨by simp only [bucketOf, h, dite_true, byte_wrap]; rw [Int.tmod_eq_emod_of_nonneg (by omega)]; rfl, rfl⟩
  · have h1 := str_nil h
    go_enter Try.func15, Try.ntmps15
    go_wp2
    all_goals go_returns
    exact ⟨by simp [bucketOf, h], rfl⟩
end Go.Proofs.Ytapacjcaaipfdaa
