/- Contracts on stamps: StampNow, StampHear of the program and of the reference. -/
import Derived.Test.YtbehiocdeefpmaaNumA
namespace Go.Proofs.Ytbehiocdeefpmaa
open Go.RowKit

theorem inB_iff {x lo hi : Int} : inB x lo hi = true ↔ lo ≤ x ∧ x ≤ hi := by simp [inB]
theorem stampOkB_iff {a b c : Int} : stampOkB a b c = true ↔ (0 ≤ a ∧ a ≤ 1000000) ∧ (0 ≤ b ∧ b ≤ 999) ∧ (0 ≤ c ∧ c ≤ 2) := by
  simp [stampOkB, inB, and_assoc]

/-- a stamp behind a local event at a wall time -/
def stampNext (a b wall : Int) : Int × Int := if a < wall then (wall, 0) else if b = 999 then (a + 1, 0) else (a, b + 1)
def stampNow (a b c wall : Int) : (Int × Int × Int) × Bool :=
  if stampOkB a b c = true ∧ inB wall 0 1000000 = true ∧ stampOkB (stampNext a b wall).1 (stampNext a b wall).2 c = true then (((stampNext a b wall).1, (stampNext a b wall).2, c), true) else ((a, b, c), false)

def stampV (s : Int × Int × Int) : Value := .agg #[.int .i64 s.1, .int .i64 s.2.1, .int .i64 s.2.2]

set_option maxHeartbeats 1000000 in
theorem stampNow_impl (a b c wall : Int) (w : World) :
    Calls Try.prog 14 #[.agg #[.int .i64 a, .int .i64 b, .int .i64 c], .int .i64 wall] w fun e w' => e = .returned (.tuple #[stampV (stampNow a b c wall).1, .bool (stampNow a b c wall).2]) ∧ Below w.heap.size w w' := by
  by_cases h1 : stampOkB a b c = true
  · obtain ⟨⟨ha0, ha1⟩, ⟨hb0, hb1⟩, _⟩ := stampOkB_iff.1 h1
    by_cases h2 : inB wall 0 1000000 = true
    · by_cases h3 : a < wall
      · by_cases h4 : stampOkB wall 0 c = true
        · have hfin := Lib.hid (show stampNow a b c wall = ((wall, 0, c), true) by simp [stampNow, stampNext, h1, h2, h3, h4])
          go_enter Try.func14, Try.ntmps14
          go_wp2_with (first | (go_at_call 34; refine (stampOk_impl _ _ _ _).mono ?_; rintro e w' ⟨rfl, rfl⟩) | (go_at_call 38; refine (within_any _ _ _ _).mono ?_; rintro e w' ⟨rfl, rfl⟩))
          go_returns
          exact ⟨by rw [hfin.out]; rfl, by go_grown⟩
        · have hfin := Lib.hid (show stampNow a b c wall = ((a, b, c), false) by simp [stampNow, stampNext, h1, h2, h3, h4])
          go_enter Try.func14, Try.ntmps14
          go_wp2_with (first | (go_at_call 34; refine (stampOk_impl _ _ _ _).mono ?_; rintro e w' ⟨rfl, rfl⟩) | (go_at_call 38; refine (within_any _ _ _ _).mono ?_; rintro e w' ⟨rfl, rfl⟩))
          go_returns
          exact ⟨by rw [hfin.out]; rfl, by go_grown⟩
      · by_cases h5 : b = 999
        · subst h5
          by_cases h4 : stampOkB (a + 1) 0 c = true
          · have hfin := Lib.hid (show stampNow a 999 c wall = ((a + 1, 0, c), true) by simp [stampNow, stampNext, h1, h2, h3, h4])
            go_enter Try.func14, Try.ntmps14
            go_wp2_with (first | (go_at_call 34; refine (stampOk_impl _ _ _ _).mono ?_; rintro e w' ⟨rfl, rfl⟩) | (go_at_call 38; refine (within_any _ _ _ _).mono ?_; rintro e w' ⟨rfl, rfl⟩))
            go_returns
            exact ⟨by rw [hfin.out]; rfl, by go_grown⟩
          · have hfin := Lib.hid (show stampNow a 999 c wall = ((a, 999, c), false) by simp [stampNow, stampNext, h1, h2, h3, h4])
            go_enter Try.func14, Try.ntmps14
            go_wp2_with (first | (go_at_call 34; refine (stampOk_impl _ _ _ _).mono ?_; rintro e w' ⟨rfl, rfl⟩) | (go_at_call 38; refine (within_any _ _ _ _).mono ?_; rintro e w' ⟨rfl, rfl⟩))
            go_returns
            exact ⟨by rw [hfin.out]; rfl, by go_grown⟩
        · have g5 : (b == 999) = false := by simpa using h5
          by_cases h4 : stampOkB a (b + 1) c = true
          · have hfin := Lib.hid (show stampNow a b c wall = ((a, b + 1, c), true) by simp [stampNow, stampNext, h1, h2, h3, h4, h5])
            go_enter Try.func14, Try.ntmps14
            go_wp2_with (first | (go_at_call 34; refine (stampOk_impl _ _ _ _).mono ?_; rintro e w' ⟨rfl, rfl⟩) | (go_at_call 38; refine (within_any _ _ _ _).mono ?_; rintro e w' ⟨rfl, rfl⟩))
            go_returns
            exact ⟨by rw [hfin.out]; rfl, by go_grown⟩
          · have hfin := Lib.hid (show stampNow a b c wall = ((a, b, c), false) by simp [stampNow, stampNext, h1, h2, h3, h4, h5])
            go_enter Try.func14, Try.ntmps14
            go_wp2_with (first | (go_at_call 34; refine (stampOk_impl _ _ _ _).mono ?_; rintro e w' ⟨rfl, rfl⟩) | (go_at_call 38; refine (within_any _ _ _ _).mono ?_; rintro e w' ⟨rfl, rfl⟩))
            go_returns
            exact ⟨by rw [hfin.out]; rfl, by go_grown⟩
    · have hfin := Lib.hid (show stampNow a b c wall = ((a, b, c), false) by simp [stampNow, stampNext, h1, h2])
      go_enter Try.func14, Try.ntmps14
      go_wp2_with (first | (go_at_call 34; refine (stampOk_impl _ _ _ _).mono ?_; rintro e w' ⟨rfl, rfl⟩) | (go_at_call 38; refine (within_any _ _ _ _).mono ?_; rintro e w' ⟨rfl, rfl⟩))
      go_returns
      exact ⟨by rw [hfin.out]; rfl, by go_grown⟩
  · have hfin := Lib.hid (show stampNow a b c wall = ((a, b, c), false) by simp [stampNow, stampNext, h1])
    go_enter Try.func14, Try.ntmps14
    go_wp2_with (first | (go_at_call 34; refine (stampOk_impl _ _ _ _).mono ?_; rintro e w' ⟨rfl, rfl⟩) | (go_at_call 38; refine (within_any _ _ _ _).mono ?_; rintro e w' ⟨rfl, rfl⟩))
    go_returns
    exact ⟨by rw [hfin.out]; rfl, by go_grown⟩

set_option maxHeartbeats 1000000 in
theorem stampNow_spec (a b c wall : Int) (w : World) :
    Calls Try.prog 33 #[.agg #[.int .i64 a, .int .i64 b, .int .i64 c], .int .i64 wall] w fun e w' => e = .returned (.tuple #[stampV (stampNow a b c wall).1, .bool (stampNow a b c wall).2]) ∧ Below w.heap.size w w' := by
  by_cases h1 : stampOkB a b c = true
  · obtain ⟨⟨ha0, ha1⟩, ⟨hb0, hb1⟩, _⟩ := stampOkB_iff.1 h1
    by_cases h2 : inB wall 0 1000000 = true
    · by_cases h3 : a < wall
      · by_cases h4 : stampOkB wall 0 c = true
        · have hfin := Lib.hid (show stampNow a b c wall = ((wall, 0, c), true) by simp [stampNow, stampNext, h1, h2, h3, h4])
          go_enter Try.func33, Try.ntmps33
          go_wp2_with (first | (go_at_call 18; refine (stampOk_spec _ _ _ _).mono ?_; rintro e w' ⟨rfl, rfl⟩) | (go_at_call 41; refine (l1In_any _ _ _ _).mono ?_; rintro e w' ⟨rfl, rfl⟩))
          all_goals go_returns
          all_goals exact ⟨by rw [hfin.out]; rfl, by go_grown⟩
        · have hfin := Lib.hid (show stampNow a b c wall = ((a, b, c), false) by simp [stampNow, stampNext, h1, h2, h3, h4])
          go_enter Try.func33, Try.ntmps33
          go_wp2_with (first | (go_at_call 18; refine (stampOk_spec _ _ _ _).mono ?_; rintro e w' ⟨rfl, rfl⟩) | (go_at_call 41; refine (l1In_any _ _ _ _).mono ?_; rintro e w' ⟨rfl, rfl⟩))
          all_goals go_returns
          all_goals exact ⟨by rw [hfin.out]; rfl, by go_grown⟩
      · by_cases h5 : b = 999
        · subst h5
          by_cases h4 : stampOkB (a + 1) 0 c = true
          · have hfin := Lib.hid (show stampNow a 999 c wall = ((a + 1, 0, c), true) by simp [stampNow, stampNext, h1, h2, h3, h4])
            go_enter Try.func33, Try.ntmps33
            go_wp2_with (first | (go_at_call 18; refine (stampOk_spec _ _ _ _).mono ?_; rintro e w' ⟨rfl, rfl⟩) | (go_at_call 41; refine (l1In_any _ _ _ _).mono ?_; rintro e w' ⟨rfl, rfl⟩))
            all_goals go_returns
            all_goals exact ⟨by rw [hfin.out]; rfl, by go_grown⟩
          · have hfin := Lib.hid (show stampNow a 999 c wall = ((a, 999, c), false) by simp [stampNow, stampNext, h1, h2, h3, h4])
            go_enter Try.func33, Try.ntmps33
            go_wp2_with (first | (go_at_call 18; refine (stampOk_spec _ _ _ _).mono ?_; rintro e w' ⟨rfl, rfl⟩) | (go_at_call 41; refine (l1In_any _ _ _ _).mono ?_; rintro e w' ⟨rfl, rfl⟩))
            all_goals go_returns
            all_goals exact ⟨by rw [hfin.out]; rfl, by go_grown⟩
        · have g5 : ¬ 999 < b + 1 := by omega
          by_cases h4 : stampOkB a (b + 1) c = true
          · have hfin := Lib.hid (show stampNow a b c wall = ((a, b + 1, c), true) by simp [stampNow, stampNext, h1, h2, h3, h4, h5])
            go_enter Try.func33, Try.ntmps33
            go_wp2_with (first | (go_at_call 18; refine (stampOk_spec _ _ _ _).mono ?_; rintro e w' ⟨rfl, rfl⟩) | (go_at_call 41; refine (l1In_any _ _ _ _).mono ?_; rintro e w' ⟨rfl, rfl⟩))
            all_goals go_returns
            all_goals exact ⟨by rw [hfin.out]; rfl, by go_grown⟩
          · have hfin := Lib.hid (show stampNow a b c wall = ((a, b, c), false) by simp [stampNow, stampNext, h1, h2, h3, h4, h5])
            go_enter Try.func33, Try.ntmps33
            go_wp2_with (first | (go_at_call 18; refine (stampOk_spec _ _ _ _).mono ?_; rintro e w' ⟨rfl, rfl⟩) | (go_at_call 41; refine (l1In_any _ _ _ _).mono ?_; rintro e w' ⟨rfl, rfl⟩))
            all_goals go_returns
            all_goals exact ⟨by rw [hfin.out]; rfl, by go_grown⟩
    · have hfin := Lib.hid (show stampNow a b c wall = ((a, b, c), false) by simp [stampNow, stampNext, h1, h2])
      go_enter Try.func33, Try.ntmps33
      go_wp2_with (first | (go_at_call 18; refine (stampOk_spec _ _ _ _).mono ?_; rintro e w' ⟨rfl, rfl⟩) | (go_at_call 41; refine (l1In_any _ _ _ _).mono ?_; rintro e w' ⟨rfl, rfl⟩))
      all_goals go_returns
      all_goals exact ⟨by rw [hfin.out]; rfl, by go_grown⟩
  · have hfin := Lib.hid (show stampNow a b c wall = ((a, b, c), false) by simp [stampNow, stampNext, h1])
    go_enter Try.func33, Try.ntmps33
    go_wp2_with (first | (go_at_call 18; refine (stampOk_spec _ _ _ _).mono ?_; rintro e w' ⟨rfl, rfl⟩) | (go_at_call 41; refine (l1In_any _ _ _ _).mono ?_; rintro e w' ⟨rfl, rfl⟩))
    all_goals go_returns
    all_goals exact ⟨by rw [hfin.out]; rfl, by go_grown⟩

end Go.Proofs.Ytbehiocdeefpmaa
