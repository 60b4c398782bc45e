/- Contracts of StampHear of the program and of the reference. -/
import Derived.Test.YtbehiocdeefpmaaStamps
namespace Go.Proofs.Ytbehiocdeefpmaa
open Go.RowKit

/-- a stamp behind a stamp that was heard -/
def stampHear (a b c x y z wall : Int) : (Int × Int × Int) × Bool :=
  if stampOkB a b c = true ∧ stampOkB x y z = true then
    if a < x ∨ (x = a ∧ b < y) then (if (stampNow x y c wall).2 = true then stampNow x y c wall else ((a, b, c), false))
    else (if (stampNow a b c wall).2 = true then stampNow a b c wall else ((a, b, c), false))
  else ((a, b, c), false)
theorem stampHear_top {a b c x y z wall : Int} (h1 : stampOkB a b c = true) (h2 : stampOkB x y z = true) (h3 : a < x ∨ (x = a ∧ b < y)) :
    stampHear a b c x y z wall = if (stampNow x y c wall).2 = true then stampNow x y c wall else ((a, b, c), false) := by
  unfold stampHear; rw [if_pos ⟨h1, h2⟩, if_pos h3]
theorem stampHear_own {a b c x y z wall : Int} (h1 : stampOkB a b c = true) (h2 : stampOkB x y z = true) (h3 : ¬ (a < x ∨ (x = a ∧ b < y))) :
    stampHear a b c x y z wall = if (stampNow a b c wall).2 = true then stampNow a b c wall else ((a, b, c), false) := by
  unfold stampHear; rw [if_pos ⟨h1, h2⟩, if_neg h3]

set_option maxHeartbeats 2000000 in
theorem stampHear_impl (a b c x y z wall : Int) (w : World) :
    Calls Try.prog 9 #[.agg #[.int .i64 a, .int .i64 b, .int .i64 c], .agg #[.int .i64 x, .int .i64 y, .int .i64 z], .int .i64 wall] w fun e w' => e = .returned (.tuple #[stampV (stampHear a b c x y z wall).1, .bool (stampHear a b c x y z wall).2]) ∧ Below w.heap.size w w' := by
  by_cases h1 : stampOkB a b c = true
  · by_cases h2 : stampOkB x y z = true
    · by_cases h3 : a < x ∨ (x = a ∧ b < y)
      · obtain ⟨⟨⟨p, q, r⟩, ok⟩, hnow⟩ : ∃ t, stampNow x y c wall = t := ⟨_, rfl⟩
        have hC := stampNow_impl x y c wall
        have hS := stampHear_top (z := z) (wall := wall) h1 h2 h3
        rw [hnow] at hC hS
        simp only [stampV] at hC
        have HC := Lib.hid hC; have HS := Lib.hid hS; clear hC hS hnow
        by_cases h4 : a < x
        · clear h3
          cases ok with
          | false =>
            go_enter Try.func9, Try.ntmps9
            go_wp2_with (first | (go_at_call 34; refine (stampOk_impl _ _ _ _).mono ?_; rintro e w' ⟨rfl, rfl⟩) | (go_at_call 14; refine (HC.out _).mono ?_; rintro e w1 ⟨rfl, hbw⟩; obtain ⟨hc1, hf1⟩ := bcell hbw; have hz := hbw.size; simp at hz; have hz0 : w.heap.size < w1.heap.size := (by omega); have hz1 : w.heap.size + 1 < w1.heap.size := (by omega); have hz2 : w.heap.size + 1 + 1 < w1.heap.size := (by omega); have hz3 : w.heap.size + 1 + 1 + 1 < w1.heap.size := (by omega); have hz4 : w.heap.size + 2 < w1.heap.size := (by omega); have hz5 : w.heap.size + 3 < w1.heap.size := (by omega); have hz6 : w.heap.size + 2 + 1 < w1.heap.size := (by omega)))
            refine bodyPost_ret (v := .tuple #[.agg #[.int .i64 a, .int .i64 b, .int .i64 c], .bool false]) (by simp [results, Try.results9, go_sem, hc1, hz2]) rfl ⟨by rw [HS.out]; rfl, ?_⟩
            go_grown; exact bthen (by go_grown) hbw
          | true =>
            go_enter Try.func9, Try.ntmps9
            go_wp2_with (first | (go_at_call 34; refine (stampOk_impl _ _ _ _).mono ?_; rintro e w' ⟨rfl, rfl⟩) | (go_at_call 14; refine (HC.out _).mono ?_; rintro e w1 ⟨rfl, hbw⟩; obtain ⟨hc1, hf1⟩ := bcell hbw; have hz := hbw.size; simp at hz; have hz0 : w.heap.size < w1.heap.size := (by omega); have hz1 : w.heap.size + 1 < w1.heap.size := (by omega); have hz2 : w.heap.size + 1 + 1 < w1.heap.size := (by omega); have hz3 : w.heap.size + 1 + 1 + 1 < w1.heap.size := (by omega); have hz4 : w.heap.size + 2 < w1.heap.size := (by omega); have hz5 : w.heap.size + 3 < w1.heap.size := (by omega); have hz6 : w.heap.size + 2 + 1 < w1.heap.size := (by omega)))
            refine bodyPost_ret (v := .tuple #[.agg #[.int .i64 p, .int .i64 q, .int .i64 r], .bool true]) (by simp [results, Try.results9, go_sem, hc1, hz2]) rfl ⟨by rw [HS.out]; rfl, ?_⟩
            go_grown; exact bthen (by go_grown) hbw
        · have h5 : x = a ∧ b < y := by omega
          obtain ⟨h5, h6⟩ := h5
          subst h5
          clear h3 h4
          cases ok with
          | false =>
            go_enter Try.func9, Try.ntmps9
            go_wp2_with (first | (go_at_call 34; refine (stampOk_impl _ _ _ _).mono ?_; rintro e w' ⟨rfl, rfl⟩) | (go_at_call 14; refine (HC.out _).mono ?_; rintro e w1 ⟨rfl, hbw⟩; obtain ⟨hc1, hf1⟩ := bcell hbw; have hz := hbw.size; simp at hz; have hz0 : w.heap.size < w1.heap.size := (by omega); have hz1 : w.heap.size + 1 < w1.heap.size := (by omega); have hz2 : w.heap.size + 1 + 1 < w1.heap.size := (by omega); have hz3 : w.heap.size + 1 + 1 + 1 < w1.heap.size := (by omega); have hz4 : w.heap.size + 2 < w1.heap.size := (by omega); have hz5 : w.heap.size + 3 < w1.heap.size := (by omega); have hz6 : w.heap.size + 2 + 1 < w1.heap.size := (by omega)))
            refine bodyPost_ret (v := .tuple #[.agg #[.int .i64 x, .int .i64 b, .int .i64 c], .bool false]) (by simp [results, Try.results9, go_sem, hc1, hz2]) rfl ⟨by rw [HS.out]; rfl, ?_⟩
            go_grown; exact bthen (by go_grown) hbw
          | true =>
            go_enter Try.func9, Try.ntmps9
            go_wp2_with (first | (go_at_call 34; refine (stampOk_impl _ _ _ _).mono ?_; rintro e w' ⟨rfl, rfl⟩) | (go_at_call 14; refine (HC.out _).mono ?_; rintro e w1 ⟨rfl, hbw⟩; obtain ⟨hc1, hf1⟩ := bcell hbw; have hz := hbw.size; simp at hz; have hz0 : w.heap.size < w1.heap.size := (by omega); have hz1 : w.heap.size + 1 < w1.heap.size := (by omega); have hz2 : w.heap.size + 1 + 1 < w1.heap.size := (by omega); have hz3 : w.heap.size + 1 + 1 + 1 < w1.heap.size := (by omega); have hz4 : w.heap.size + 2 < w1.heap.size := (by omega); have hz5 : w.heap.size + 3 < w1.heap.size := (by omega); have hz6 : w.heap.size + 2 + 1 < w1.heap.size := (by omega)))
            refine bodyPost_ret (v := .tuple #[.agg #[.int .i64 p, .int .i64 q, .int .i64 r], .bool true]) (by simp [results, Try.results9, go_sem, hc1, hz2]) rfl ⟨by rw [HS.out]; rfl, ?_⟩
            go_grown; exact bthen (by go_grown) hbw
      · obtain ⟨⟨⟨p, q, r⟩, ok⟩, hnow⟩ : ∃ t, stampNow a b c wall = t := ⟨_, rfl⟩
        have hC := stampNow_impl a b c wall
        have hS := stampHear_own (z := z) (wall := wall) h1 h2 h3
        rw [hnow] at hC hS
        simp only [stampV] at hC
        have HC := Lib.hid hC; have HS := Lib.hid hS; clear hC hS hnow
        have h4 : ¬ a < x := fun h => h3 (.inl h)
        by_cases h5 : x = a
        · have h6 : ¬ b < y := fun h => h3 (.inr ⟨h5, h⟩)
          subst h5
          clear h3 h4
          cases ok with
          | false =>
            go_enter Try.func9, Try.ntmps9
            go_wp2_with (first | (go_at_call 34; refine (stampOk_impl _ _ _ _).mono ?_; rintro e w' ⟨rfl, rfl⟩) | (go_at_call 14; refine (HC.out _).mono ?_; rintro e w1 ⟨rfl, hbw⟩; obtain ⟨hc1, hf1⟩ := bcell hbw; have hz := hbw.size; simp at hz; have hz0 : w.heap.size < w1.heap.size := (by omega); have hz1 : w.heap.size + 1 < w1.heap.size := (by omega); have hz2 : w.heap.size + 1 + 1 < w1.heap.size := (by omega); have hz3 : w.heap.size + 1 + 1 + 1 < w1.heap.size := (by omega); have hz4 : w.heap.size + 2 < w1.heap.size := (by omega); have hz5 : w.heap.size + 3 < w1.heap.size := (by omega); have hz6 : w.heap.size + 2 + 1 < w1.heap.size := (by omega)))
            refine bodyPost_ret (v := .tuple #[.agg #[.int .i64 x, .int .i64 b, .int .i64 c], .bool false]) (by simp [results, Try.results9, go_sem, hc1, hz2]) rfl ⟨by rw [HS.out]; rfl, ?_⟩
            go_grown; exact bthen (by go_grown) hbw
          | true =>
            go_enter Try.func9, Try.ntmps9
            go_wp2_with (first | (go_at_call 34; refine (stampOk_impl _ _ _ _).mono ?_; rintro e w' ⟨rfl, rfl⟩) | (go_at_call 14; refine (HC.out _).mono ?_; rintro e w1 ⟨rfl, hbw⟩; obtain ⟨hc1, hf1⟩ := bcell hbw; have hz := hbw.size; simp at hz; have hz0 : w.heap.size < w1.heap.size := (by omega); have hz1 : w.heap.size + 1 < w1.heap.size := (by omega); have hz2 : w.heap.size + 1 + 1 < w1.heap.size := (by omega); have hz3 : w.heap.size + 1 + 1 + 1 < w1.heap.size := (by omega); have hz4 : w.heap.size + 2 < w1.heap.size := (by omega); have hz5 : w.heap.size + 3 < w1.heap.size := (by omega); have hz6 : w.heap.size + 2 + 1 < w1.heap.size := (by omega)))
            refine bodyPost_ret (v := .tuple #[.agg #[.int .i64 p, .int .i64 q, .int .i64 r], .bool true]) (by simp [results, Try.results9, go_sem, hc1, hz2]) rfl ⟨by rw [HS.out]; rfl, ?_⟩
            go_grown; exact bthen (by go_grown) hbw
        · have g5 : (x == a) = false := by simpa using h5
          clear h3 h5
          cases ok with
          | false =>
            go_enter Try.func9, Try.ntmps9
            go_wp2_with (first | (go_at_call 34; refine (stampOk_impl _ _ _ _).mono ?_; rintro e w' ⟨rfl, rfl⟩) | (go_at_call 14; refine (HC.out _).mono ?_; rintro e w1 ⟨rfl, hbw⟩; obtain ⟨hc1, hf1⟩ := bcell hbw; have hz := hbw.size; simp at hz; have hz0 : w.heap.size < w1.heap.size := (by omega); have hz1 : w.heap.size + 1 < w1.heap.size := (by omega); have hz2 : w.heap.size + 1 + 1 < w1.heap.size := (by omega); have hz3 : w.heap.size + 1 + 1 + 1 < w1.heap.size := (by omega); have hz4 : w.heap.size + 2 < w1.heap.size := (by omega); have hz5 : w.heap.size + 3 < w1.heap.size := (by omega); have hz6 : w.heap.size + 2 + 1 < w1.heap.size := (by omega)))
            refine bodyPost_ret (v := .tuple #[.agg #[.int .i64 a, .int .i64 b, .int .i64 c], .bool false]) (by simp [results, Try.results9, go_sem, hc1, hz2]) rfl ⟨by rw [HS.out]; rfl, ?_⟩
            go_grown; exact bthen (by go_grown) hbw
          | true =>
            go_enter Try.func9, Try.ntmps9
            go_wp2_with (first | (go_at_call 34; refine (stampOk_impl _ _ _ _).mono ?_; rintro e w' ⟨rfl, rfl⟩) | (go_at_call 14; refine (HC.out _).mono ?_; rintro e w1 ⟨rfl, hbw⟩; obtain ⟨hc1, hf1⟩ := bcell hbw; have hz := hbw.size; simp at hz; have hz0 : w.heap.size < w1.heap.size := (by omega); have hz1 : w.heap.size + 1 < w1.heap.size := (by omega); have hz2 : w.heap.size + 1 + 1 < w1.heap.size := (by omega); have hz3 : w.heap.size + 1 + 1 + 1 < w1.heap.size := (by omega); have hz4 : w.heap.size + 2 < w1.heap.size := (by omega); have hz5 : w.heap.size + 3 < w1.heap.size := (by omega); have hz6 : w.heap.size + 2 + 1 < w1.heap.size := (by omega)))
            refine bodyPost_ret (v := .tuple #[.agg #[.int .i64 p, .int .i64 q, .int .i64 r], .bool true]) (by simp [results, Try.results9, go_sem, hc1, hz2]) rfl ⟨by rw [HS.out]; rfl, ?_⟩
            go_grown; exact bthen (by go_grown) hbw
    · have HS := Lib.hid (show stampHear a b c x y z wall = ((a, b, c), false) by simp [stampHear, h2])
      go_enter Try.func9, Try.ntmps9
      go_wp2_with (first | (go_at_call 34; refine (stampOk_impl _ _ _ _).mono ?_; rintro e w' ⟨rfl, rfl⟩))
      go_returns
      exact ⟨by rw [HS.out]; rfl, by go_grown⟩
  · have HS := Lib.hid (show stampHear a b c x y z wall = ((a, b, c), false) by simp [stampHear, h1])
    go_enter Try.func9, Try.ntmps9
    go_wp2_with (first | (go_at_call 34; refine (stampOk_impl _ _ _ _).mono ?_; rintro e w' ⟨rfl, rfl⟩))
    go_returns
    exact ⟨by rw [HS.out]; rfl, by go_grown⟩

set_option maxHeartbeats 2000000 in
theorem stampHear_spec (a b c x y z wall : Int) (w : World) :
    Calls Try.prog 7 #[.agg #[.int .i64 a, .int .i64 b, .int .i64 c], .agg #[.int .i64 x, .int .i64 y, .int .i64 z], .int .i64 wall] w fun e w' => e = .returned (.tuple #[stampV (stampHear a b c x y z wall).1, .bool (stampHear a b c x y z wall).2]) ∧ Below w.heap.size w w' := by
  by_cases h1 : stampOkB a b c = true
  · by_cases h2 : stampOkB x y z = true
    · by_cases h3 : a < x ∨ (x = a ∧ b < y)
      · obtain ⟨⟨⟨p, q, r⟩, ok⟩, hnow⟩ : ∃ t, stampNow x y c wall = t := ⟨_, rfl⟩
        have hC := stampNow_spec x y c wall
        have hS := stampHear_top (z := z) (wall := wall) h1 h2 h3
        rw [hnow] at hC hS
        simp only [stampV] at hC
        have HC := Lib.hid hC; have HS := Lib.hid hS; clear hC hS hnow
        by_cases h4 : a < x
        · clear h3
          cases ok with
          | false =>
            go_enter Try.func7, Try.ntmps7
            go_wp2_with (first | (go_at_call 18; refine (stampOk_spec _ _ _ _).mono ?_; rintro e w' ⟨rfl, rfl⟩) | (go_at_call 33; refine (HC.out _).mono ?_; rintro e w1 ⟨rfl, hbw⟩; obtain ⟨hc1, hf1⟩ := bcell hbw; have hz := hbw.size; simp at hz; have hz0 : w.heap.size < w1.heap.size := (by omega); have hz1 : w.heap.size + 1 < w1.heap.size := (by omega); have hz2 : w.heap.size + 1 + 1 < w1.heap.size := (by omega); have hz3 : w.heap.size + 1 + 1 + 1 < w1.heap.size := (by omega); have hz4 : w.heap.size + 2 < w1.heap.size := (by omega); have hz5 : w.heap.size + 3 < w1.heap.size := (by omega); have hz6 : w.heap.size + 2 + 1 < w1.heap.size := (by omega)))
            refine bodyPost_ret (v := .tuple #[.agg #[.int .i64 a, .int .i64 b, .int .i64 c], .bool false]) (by simp [results, Try.results7, go_sem, hc1, hz2]) rfl ⟨by rw [HS.out]; rfl, ?_⟩
            go_grown; exact bthen (by go_grown) hbw
          | true =>
            go_enter Try.func7, Try.ntmps7
            go_wp2_with (first | (go_at_call 18; refine (stampOk_spec _ _ _ _).mono ?_; rintro e w' ⟨rfl, rfl⟩) | (go_at_call 33; refine (HC.out _).mono ?_; rintro e w1 ⟨rfl, hbw⟩; obtain ⟨hc1, hf1⟩ := bcell hbw; have hz := hbw.size; simp at hz; have hz0 : w.heap.size < w1.heap.size := (by omega); have hz1 : w.heap.size + 1 < w1.heap.size := (by omega); have hz2 : w.heap.size + 1 + 1 < w1.heap.size := (by omega); have hz3 : w.heap.size + 1 + 1 + 1 < w1.heap.size := (by omega); have hz4 : w.heap.size + 2 < w1.heap.size := (by omega); have hz5 : w.heap.size + 3 < w1.heap.size := (by omega); have hz6 : w.heap.size + 2 + 1 < w1.heap.size := (by omega)))
            refine bodyPost_ret (v := .tuple #[.agg #[.int .i64 p, .int .i64 q, .int .i64 r], .bool true]) (by simp [results, Try.results7, go_sem, hc1, hz2]) rfl ⟨by rw [HS.out]; rfl, ?_⟩
            go_grown; exact bthen (by go_grown) hbw
        · have h5 : x = a ∧ b < y := by omega
          obtain ⟨h5, h6⟩ := h5
          subst h5
          clear h3 h4
          cases ok with
          | false =>
            go_enter Try.func7, Try.ntmps7
            go_wp2_with (first | (go_at_call 18; refine (stampOk_spec _ _ _ _).mono ?_; rintro e w' ⟨rfl, rfl⟩) | (go_at_call 33; refine (HC.out _).mono ?_; rintro e w1 ⟨rfl, hbw⟩; obtain ⟨hc1, hf1⟩ := bcell hbw; have hz := hbw.size; simp at hz; have hz0 : w.heap.size < w1.heap.size := (by omega); have hz1 : w.heap.size + 1 < w1.heap.size := (by omega); have hz2 : w.heap.size + 1 + 1 < w1.heap.size := (by omega); have hz3 : w.heap.size + 1 + 1 + 1 < w1.heap.size := (by omega); have hz4 : w.heap.size + 2 < w1.heap.size := (by omega); have hz5 : w.heap.size + 3 < w1.heap.size := (by omega); have hz6 : w.heap.size + 2 + 1 < w1.heap.size := (by omega)))
            refine bodyPost_ret (v := .tuple #[.agg #[.int .i64 x, .int .i64 b, .int .i64 c], .bool false]) (by simp [results, Try.results7, go_sem, hc1, hz2]) rfl ⟨by rw [HS.out]; rfl, ?_⟩
            go_grown; exact bthen (by go_grown) hbw
          | true =>
            go_enter Try.func7, Try.ntmps7
            go_wp2_with (first | (go_at_call 18; refine (stampOk_spec _ _ _ _).mono ?_; rintro e w' ⟨rfl, rfl⟩) | (go_at_call 33; refine (HC.out _).mono ?_; rintro e w1 ⟨rfl, hbw⟩; obtain ⟨hc1, hf1⟩ := bcell hbw; have hz := hbw.size; simp at hz; have hz0 : w.heap.size < w1.heap.size := (by omega); have hz1 : w.heap.size + 1 < w1.heap.size := (by omega); have hz2 : w.heap.size + 1 + 1 < w1.heap.size := (by omega); have hz3 : w.heap.size + 1 + 1 + 1 < w1.heap.size := (by omega); have hz4 : w.heap.size + 2 < w1.heap.size := (by omega); have hz5 : w.heap.size + 3 < w1.heap.size := (by omega); have hz6 : w.heap.size + 2 + 1 < w1.heap.size := (by omega)))
            refine bodyPost_ret (v := .tuple #[.agg #[.int .i64 p, .int .i64 q, .int .i64 r], .bool true]) (by simp [results, Try.results7, go_sem, hc1, hz2]) rfl ⟨by rw [HS.out]; rfl, ?_⟩
            go_grown; exact bthen (by go_grown) hbw
      · obtain ⟨⟨⟨p, q, r⟩, ok⟩, hnow⟩ : ∃ t, stampNow a b c wall = t := ⟨_, rfl⟩
        have hC := stampNow_spec a b c wall
        have hS := stampHear_own (z := z) (wall := wall) h1 h2 h3
        rw [hnow] at hC hS
        simp only [stampV] at hC
        have HC := Lib.hid hC; have HS := Lib.hid hS; clear hC hS hnow
        have h4 : ¬ a < x := fun h => h3 (.inl h)
        by_cases h5 : x = a
        · have h6 : ¬ b < y := fun h => h3 (.inr ⟨h5, h⟩)
          subst h5
          clear h3 h4
          cases ok with
          | false =>
            go_enter Try.func7, Try.ntmps7
            go_wp2_with (first | (go_at_call 18; refine (stampOk_spec _ _ _ _).mono ?_; rintro e w' ⟨rfl, rfl⟩) | (go_at_call 33; refine (HC.out _).mono ?_; rintro e w1 ⟨rfl, hbw⟩; obtain ⟨hc1, hf1⟩ := bcell hbw; have hz := hbw.size; simp at hz; have hz0 : w.heap.size < w1.heap.size := (by omega); have hz1 : w.heap.size + 1 < w1.heap.size := (by omega); have hz2 : w.heap.size + 1 + 1 < w1.heap.size := (by omega); have hz3 : w.heap.size + 1 + 1 + 1 < w1.heap.size := (by omega); have hz4 : w.heap.size + 2 < w1.heap.size := (by omega); have hz5 : w.heap.size + 3 < w1.heap.size := (by omega); have hz6 : w.heap.size + 2 + 1 < w1.heap.size := (by omega)))
            refine bodyPost_ret (v := .tuple #[.agg #[.int .i64 x, .int .i64 b, .int .i64 c], .bool false]) (by simp [results, Try.results7, go_sem, hc1, hz2]) rfl ⟨by rw [HS.out]; rfl, ?_⟩
            go_grown; exact bthen (by go_grown) hbw
          | true =>
            go_enter Try.func7, Try.ntmps7
            go_wp2_with (first | (go_at_call 18; refine (stampOk_spec _ _ _ _).mono ?_; rintro e w' ⟨rfl, rfl⟩) | (go_at_call 33; refine (HC.out _).mono ?_; rintro e w1 ⟨rfl, hbw⟩; obtain ⟨hc1, hf1⟩ := bcell hbw; have hz := hbw.size; simp at hz; have hz0 : w.heap.size < w1.heap.size := (by omega); have hz1 : w.heap.size + 1 < w1.heap.size := (by omega); have hz2 : w.heap.size + 1 + 1 < w1.heap.size := (by omega); have hz3 : w.heap.size + 1 + 1 + 1 < w1.heap.size := (by omega); have hz4 : w.heap.size + 2 < w1.heap.size := (by omega); have hz5 : w.heap.size + 3 < w1.heap.size := (by omega); have hz6 : w.heap.size + 2 + 1 < w1.heap.size := (by omega)))
            refine bodyPost_ret (v := .tuple #[.agg #[.int .i64 p, .int .i64 q, .int .i64 r], .bool true]) (by simp [results, Try.results7, go_sem, hc1, hz2]) rfl ⟨by rw [HS.out]; rfl, ?_⟩
            go_grown; exact bthen (by go_grown) hbw
        · have g5 : (x == a) = false := by simpa using h5
          clear h3 h5
          cases ok with
          | false =>
            go_enter Try.func7, Try.ntmps7
            go_wp2_with (first | (go_at_call 18; refine (stampOk_spec _ _ _ _).mono ?_; rintro e w' ⟨rfl, rfl⟩) | (go_at_call 33; refine (HC.out _).mono ?_; rintro e w1 ⟨rfl, hbw⟩; obtain ⟨hc1, hf1⟩ := bcell hbw; have hz := hbw.size; simp at hz; have hz0 : w.heap.size < w1.heap.size := (by omega); have hz1 : w.heap.size + 1 < w1.heap.size := (by omega); have hz2 : w.heap.size + 1 + 1 < w1.heap.size := (by omega); have hz3 : w.heap.size + 1 + 1 + 1 < w1.heap.size := (by omega); have hz4 : w.heap.size + 2 < w1.heap.size := (by omega); have hz5 : w.heap.size + 3 < w1.heap.size := (by omega); have hz6 : w.heap.size + 2 + 1 < w1.heap.size := (by omega)))
            refine bodyPost_ret (v := .tuple #[.agg #[.int .i64 a, .int .i64 b, .int .i64 c], .bool false]) (by simp [results, Try.results7, go_sem, hc1, hz2]) rfl ⟨by rw [HS.out]; rfl, ?_⟩
            go_grown; exact bthen (by go_grown) hbw
          | true =>
            go_enter Try.func7, Try.ntmps7
            go_wp2_with (first | (go_at_call 18; refine (stampOk_spec _ _ _ _).mono ?_; rintro e w' ⟨rfl, rfl⟩) | (go_at_call 33; refine (HC.out _).mono ?_; rintro e w1 ⟨rfl, hbw⟩; obtain ⟨hc1, hf1⟩ := bcell hbw; have hz := hbw.size; simp at hz; have hz0 : w.heap.size < w1.heap.size := (by omega); have hz1 : w.heap.size + 1 < w1.heap.size := (by omega); have hz2 : w.heap.size + 1 + 1 < w1.heap.size := (by omega); have hz3 : w.heap.size + 1 + 1 + 1 < w1.heap.size := (by omega); have hz4 : w.heap.size + 2 < w1.heap.size := (by omega); have hz5 : w.heap.size + 3 < w1.heap.size := (by omega); have hz6 : w.heap.size + 2 + 1 < w1.heap.size := (by omega)))
            refine bodyPost_ret (v := .tuple #[.agg #[.int .i64 p, .int .i64 q, .int .i64 r], .bool true]) (by simp [results, Try.results7, go_sem, hc1, hz2]) rfl ⟨by rw [HS.out]; rfl, ?_⟩
            go_grown; exact bthen (by go_grown) hbw
    · have HS := Lib.hid (show stampHear a b c x y z wall = ((a, b, c), false) by simp [stampHear, h2])
      go_enter Try.func7, Try.ntmps7
      go_wp2_with (first | (go_at_call 18; refine (stampOk_spec _ _ _ _).mono ?_; rintro e w' ⟨rfl, rfl⟩))
      go_returns
      exact ⟨by rw [HS.out]; rfl, by go_grown⟩
  · have HS := Lib.hid (show stampHear a b c x y z wall = ((a, b, c), false) by simp [stampHear, h1])
    go_enter Try.func7, Try.ntmps7
    go_wp2_with (first | (go_at_call 18; refine (stampOk_spec _ _ _ _).mono ?_; rintro e w' ⟨rfl, rfl⟩))
    go_returns
    exact ⟨by rw [HS.out]; rfl, by go_grown⟩
end Go.Proofs.Ytbehiocdeefpmaa
