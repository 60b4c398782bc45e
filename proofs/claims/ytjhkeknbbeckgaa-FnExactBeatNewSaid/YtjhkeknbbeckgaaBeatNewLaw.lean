/- The walk of the law FnExactBeatNew, over the contracts of the two BeatNew. -/
import Derived.Test.YtjhkeknbbeckgaaBeatNew
import Derived.Test.YtjhkeknbbeckgaaMarkBeat
import Derived.Lib.SmallJoins
namespace Go.Proofs.Ytjhkeknbbeckgaa
open Go.ChangeShapes Go.WideShapes Go.ChangeAt Go.RowKit Go.Joins

theorem beatNewLaw (x : Int) (w : World) (hS0 : ∀ w, Calls Try.prog 35 #[.int .i64 x] w (BeatNewR x w)) :
    Calls Try.prog 6 #[.int .i64 x] w fun e w' => e = .returned (.bool true) ∧ Below w.heap.size w w' := by
  have HS := Lib.hid hS0
  have HI := Lib.hid (beatNew_impl x)
  clear hS0
  unfold BeatNewR at HS HI
  obtain ⟨ok, hok⟩ : ∃ ok, inB x 1 1000 = ok := ⟨_, rfl⟩
  rw [hok] at HS HI
  obtain ⟨n, hN⟩ : ∃ n, nOf ok = n := ⟨_, rfl⟩
  have hn3 : n ≤ 3 := by rw [← hN]; unfold nOf; split <;> omega
  rw [hN] at HS HI
  clear hok hN
  go_enter Try.func6, Try.ntmps6
  go_wp2_with fail
  refine (HS.out _).mono ?_
  rintro e w1 ⟨A1, A2, A3, m, rfl, rfl, hS1, hb1⟩
  have hB1 : Below w.heap.size w w1 := hb1
  go_wp2_with fail
  refine (HI.out _).mono ?_
  rintro e w2 ⟨B1, B2, B3, m2, rfl, rfl, hG2, hb2⟩
  simp only [World.size_alloc] at hG2
  have hS2 := hS1.keep (bthen ((Below.refl _ _).alloc (Nat.le_refl _) _) hb2)
  have t0 : w2.cell? ⟨w1.heap.size, 0, none⟩ = some (.slice A1 m2 m2) := keep_cell hb2 (by simp [go_sem])
  have t1 : w2.cell? ⟨w1.heap.size, 1, none⟩ = some (.slice A2 m2 m2) := keep_cell hb2 (by simp [go_sem])
  have t2 : w2.cell? ⟨w1.heap.size, 2, none⟩ = some (.slice A3 m2 m2) := keep_cell hb2 (by simp [go_sem])
  have hz2 := hb2.size
  simp at hz2
  have hB2 : Below w.heap.size w w2 := (hB1.alloc hB1.size _).trans (hb2.mono (by simp; have := hB1.size; omega))
  have hz1 := hB1.size
  have hzl : w1.heap.size < w2.heap.size := by omega
  have al2 := fun o => (Below.refl w2.heap.size w2).alloc (Nat.le_refl _) o
  go_wp2_with fail
  refine (eqBeat_same _ _ _ _ _ _ _ _ _ _ _ _ _ _ _ _ _ _ _ (hG2.keep (al2 _)).at_ (hS2.keep (al2 _)).at_ (by omega) (by omega) (by omega)).mono ?_
  rintro e w3 ⟨rfl, hb3⟩
  have s0 := keep_cell hb3 (keep_alloc t0 _)
  have s1 := keep_cell hb3 (keep_alloc t1 _)
  have s2 := keep_cell hb3 (keep_alloc t2 _)
  have u0 : w3.cell? ⟨w2.heap.size, 0, none⟩ = some (.slice B1 m2 m2) := keep_cell hb3 (by simp [go_sem])
  have u1 : w3.cell? ⟨w2.heap.size, 1, none⟩ = some (.slice B2 m2 m2) := keep_cell hb3 (by simp [go_sem])
  have u2 : w3.cell? ⟨w2.heap.size, 2, none⟩ = some (.slice B3 m2 m2) := keep_cell hb3 (by simp [go_sem])
  have hS3 := hS2.keep (bthen (al2 _) hb3)
  have hG3 := hG2.keep (bthen (al2 _) hb3)
  have hB3 : Below w.heap.size w w3 := bthen (hB2.alloc hB2.size _) hb3
  have hlG := fun b hb => hG2.lt (b := b) hb
  have hlS := fun b hb => hS1.lt (b := b) hb
  have hz3 := hb3.size
  simp at hz3
  clear t0 t1 t2 hS2 hG2
  cases ok
  all_goals
    go_wp2_with fail
    refine (markBeat_any _ _ _ _ _ _ _ 1 _ _ hG3 (by omega) (by omega) (by omega)).mono ?_
    rintro e w4 ⟨rfl, hG4, hc4⟩
    have s0' := hc4.cell s0 (fun hb => by have := hlG _ hb; omega)
    have s1' := hc4.cell s1 (fun hb => by have := hlG _ hb; omega)
    have s2' := hc4.cell s2 (fun hb => by have := hlG _ hb; omega)
    have u0' := hc4.cell u0 (fun hb => by have := hlG _ hb; omega)
    have u1' := hc4.cell u1 (fun hb => by have := hlG _ hb; omega)
    have u2' := hc4.cell u2 (fun hb => by have := hlG _ hb; omega)
    have hS4 := hS3.ch hc4 (fun b hb h => by have := hlG _ h; have := hlS _ hb; omega)
    have hB4 : Below w.heap.size w w4 := hB3.trans (hc4.below (fun b hb => by have := hlG _ hb; omega) (by omega))
    have hz4 := hc4.size
    clear s0 s1 s2 u0 u1 u2 hS3 hG3
    go_wp2_with fail
    refine (heldBeat_any _ _ _ _ 1 _ hG4.at_ (by omega) (by omega) (by omega)).mono ?_
    rintro e w5 ⟨rfl, hb5⟩
    have s0 := keep_cell hb5 s0'
    have s1 := keep_cell hb5 s1'
    have s2 := keep_cell hb5 s2'
    have u0 := keep_cell hb5 u0'
    have u1 := keep_cell hb5 u1'
    have u2 := keep_cell hb5 u2'
    have hS5 := hS4.keep hb5
    have hG5 := hG4.keep hb5
    have hB5 := bthen hB4 hb5
    have hz5 := hb5.size
    clear s0' s1' s2' u0' u1' u2' hS4 hG4
    go_wp2_with fail
    refine (HI.out _).mono ?_
    rintro e w6 ⟨C1, C2, C3, m3, rfl, rfl, hH6, hb6⟩
    have s0' := keep_cell hb6 s0
    have s1' := keep_cell hb6 s1
    have s2' := keep_cell hb6 s2
    have u0' := keep_cell hb6 u0
    have u1' := keep_cell hb6 u1
    have u2' := keep_cell hb6 u2
    have hS6 := hS5.keep hb6
    have hG6 := hG5.keep hb6
    have hB6 := bthen hB5 hb6
    have hz6 := hb6.size
    have hq1 : w1.heap.size < w6.heap.size := by omega
    have hq2 : w2.heap.size < w6.heap.size := by omega
    have al6 := fun o => (Below.refl w6.heap.size w6).alloc (Nat.le_refl _) o
    clear s0 s1 s2 u0 u1 u2 hS5 hG5
    go_wp2_with fail
    refine (eqBeat_same _ _ _ _ _ _ _ _ _ _ _ _ _ _ _ _ _ _ _ (hH6.keep (al6 _)).at_ (hS6.keep (al6 _)).at_ (by omega) (by omega) (by omega)).mono ?_
    rintro e w7 ⟨rfl, hb7⟩
    have u0 := keep_cell hb7 (keep_alloc u0' _)
    have u1 := keep_cell hb7 (keep_alloc u1' _)
    have u2 := keep_cell hb7 (keep_alloc u2' _)
    have hG7 := hG6.keep (bthen (al6 _) hb7)
    have hB7 : Below w.heap.size w w7 := bthen (hB6.alloc hB6.size _) hb7
    clear s0' s1' s2' u0' u1' u2' hS6 hG6
    go_wp2_with fail
    refine (heldBeat_any _ _ _ _ 1 _ hG7.at_ (by omega) (by omega) (by omega)).mono ?_
    rintro e w8 ⟨rfl, hb8⟩
    go_wp2
    go_returns
    exact ⟨rfl, bthen hB7 hb8⟩
end Go.Proofs.Ytjhkeknbbeckgaa
