/- Contracts of small leaf functions: ranges and stamps. -/
import Derived.Test.YtfbfomlgjghcmaaDoorRows
import Derived.Test.YtfbfomlgjghcmaaDoorBase
import Derived.WalkKit
import Derived.WalkLawsBesides
import Derived.WalkSpells
import Derived.Lib.Hide
import Derived.Handy
namespace Go.Proofs.YtfbfomlgjghcmaaDoor
open Go.RowKit

/-- x lies between lo and hi -/
def inB (x lo hi : Int) : Bool := decide (lo ≤ x) && decide (x ≤ hi)

theorem within_any (x lo hi : Int) (w : World) :
    Calls Tryd.prog 71 #[.int .i64 x, .int .i64 lo, .int .i64 hi] w fun e w' => e = .returned (.bool (inB x lo hi)) ∧ w = w' := by
  go_enter Tryd.func71, Tryd.ntmps71
  go_wp2
  all_goals go_ret
  all_goals exact ⟨ret_bool (beq_bool (by simp [inB]; try omega)), rfl⟩

/-- the first byte modulo 16, 0 where there is none -/
def bucketOf (s : ByteArray) : Int := if h : 0 < s.size then ((s[0]'h).toNat : Int) % 16 else 0

theorem bucketOf_impl (s : ByteArray) (w : World) :
    Calls Tryd.prog 31 #[.string s] w fun e w' => e = .returned (.int .i64 (bucketOf s)) ∧ w = w' := by
  by_cases h : 0 < s.size
  · have h1 := str_ne h
    go_enter Tryd.func31, Tryd.ntmps31
    go_wp2
    all_goals go_returns
    exact ⟨by simp only [bucketOf, h, dite_true, byte_wrap]; rw [Int.tmod_eq_emod_of_nonneg (by omega)]; rfl, rfl⟩
  · have h1 := str_nil h
    go_enter Tryd.func31, Tryd.ntmps31
    go_wp2
    all_goals go_returns
    exact ⟨by simp [bucketOf, h], rfl⟩

theorem bucketOf_spec (s : ByteArray) (w : World) :
    Calls Tryd.prog 29 #[.string s] w fun e w' => e = .returned (.int .i64 (bucketOf s)) ∧ w = w' := by
  by_cases h : 0 < s.size
  · have h1 := str_ne h
    go_enter Tryd.func29, Tryd.ntmps29
    go_wp2
    all_goals go_returns
    exact ⟨by simp only [bucketOf, h, dite_true, byte_wrap]; rw [Int.tmod_eq_emod_of_nonneg (by omega)]; rfl, rfl⟩
  · have h1 := str_nil h
    go_enter Tryd.func29, Tryd.ntmps29
    go_wp2
    all_goals go_returns
    exact ⟨by simp [bucketOf, h], rfl⟩
end Go.Proofs.YtfbfomlgjghcmaaDoor
