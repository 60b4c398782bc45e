/- Contracts of BeatNew, markBeat, heldBeat. -/
import Derived.Test.YtjhkeknbbeckgaaMarks
import Derived.RegionTactic
import Derived.ChangeAlike
namespace Go.Proofs.Ytjhkeknbbeckgaa
open Go.RowKit

theorem mkInts3 (w : World) : (Instr.makeSlice 24 (.int .i64 3) (.int .i64 3)).run Try.prog w = .ok (.slice (some ⟨w.heap.size, 0, none⟩) 3 3) (w.alloc (.cells #[.int .i64 0, .int .i64 0, .int .i64 0] 3)) := by kernel_rfl
theorem mkBools3 (w : World) : (Instr.makeSlice 25 (.int .i64 3) (.int .i64 3)).run Try.prog w = .ok (.slice (some ⟨w.heap.size, 0, none⟩) 3 3) (w.alloc (.cells #[.bool false, .bool false, .bool false] 4)) := by kernel_rfl
attribute [local go_sem ↓] mkInts3 mkBools3

theorem hp_new {w : World} {g : Nat} {o : Obj} (h : g = w.heap.size) : (w.alloc o).heap[g]? = some o := by subst h; exact heap_alloc_new w _
theorem hp_old {w : World} {g : Nat} {o u : Obj} (h : w.heap[g]? = some u) : (w.alloc o).heap[g]? = some u :=
  (((Below.refl w.heap.size w).alloc (Nat.le_refl _) o).block g (Array.getElem?_eq_some_iff.1 h).1).trans h
theorem hp_drew {w : World} {g : Nat} {u : Obj} (h : w.heap[g]? = some u) : w.drew.heap[g]? = some u := h

def nOf (ok : Bool) : Nat := if ok then 3 else 0
/-- what BeatNew answers -/
def BeatNewR (x : Int) (w : World) (e : Ending) (w' : World) : Prop :=
  ∃ A1 A2 A3 n, n = nOf (inB x 1 1000) ∧ e = .returned (.tuple #[.agg #[.slice A1 n n, .slice A2 n n, .slice A3 n n], .bool (inB x 1 1000)]) ∧ Own3 w' w.heap.size A1 A2 A3 n (fun _ => 0) (fun _ => x) (fun _ => false) ∧ Below w.heap.size w w'
theorem own3_of {w w' : World} {x : Int} {g1 g2 g3 : Nat} (h1 : w.heap.size ≤ g1) (h2 : w.heap.size ≤ g2) (h3 : w.heap.size ≤ g3)
    (k1 : w'.heap[g1]? = some (.cells #[.int .i64 0, .int .i64 0, .int .i64 0] 3)) (k2 : w'.heap[g2]? = some (.cells #[.int .i64 x, .int .i64 x, .int .i64 x] 3)) (k3 : w'.heap[g3]? = some (.cells #[.bool false, .bool false, .bool false] 4))
    (d1 : g1 ≠ g2) (d2 : g1 ≠ g3) (d3 : g2 ≠ g3) : Own3 w' w.heap.size (some ⟨g1, 0, none⟩) (some ⟨g2, 0, none⟩) (some ⟨g3, 0, none⟩) 3 (fun _ => 0) (fun _ => x) (fun _ => false) :=
  ⟨own_of3 h1 k1 rfl rfl rfl, own_of3 h2 k2 rfl rfl rfl, own_of3 h3 k3 rfl rfl rfl, fun _ p q => d1 (p.eq.trans q.eq.symm), fun _ p q => d2 (p.eq.trans q.eq.symm), fun _ p q => d3 (p.eq.trans q.eq.symm)⟩
theorem own3_nil {w' : World} {b : Nat} {f1 f2 : Nat → Int} {f3 : Nat → Bool} : Own3 w' b none none none 0 f1 f2 f3 :=
  ⟨own_nil, own_nil, own_nil, fun _ p => by simp [BlockOf] at p, fun _ p => by simp [BlockOf] at p, fun _ p => by simp [BlockOf] at p⟩

theorem beatNew_impl (x : Int) (w : World) : Calls Try.prog 16 #[.int .i64 x] w (BeatNewR x w) := by
  obtain ⟨ok, hok⟩ : ∃ ok, inB x 1 1000 = ok := ⟨_, rfl⟩
  have HX := Lib.hid hok
  cases ok
  · go_enter Try.func16, Try.ntmps16
    go_wp2_with (go_at_call 67; refine (within_any _ _ _ _).mono ?_; rintro e w' ⟨rfl, rfl⟩; rw [HX.out])
    go_returns
    exact ⟨none, none, none, 0, by rw [HX.out]; rfl, by rw [HX.out], own3_nil, by go_grown⟩
  · go_enter Try.func16, Try.ntmps16
    go_wp2_with (go_at_call 67; refine (within_any _ _ _ _).mono ?_; rintro e w' ⟨rfl, rfl⟩; rw [HX.out])
    go_region
    all_goals go_wp2
    all_goals go_returns
    all_goals
      refine ⟨_, _, _, 3, by rw [HX.out]; rfl, by rw [HX.out], own3_of ?_ ?_ ?_ ?_ ?_ ?_ ?_ ?_ ?_, by go_grown⟩
      all_goals first
        | omega
        | (refine hp_drew ?_; repeat (first | exact hp_new (by simp) | refine hp_old ?_))

end Go.Proofs.Ytjhkeknbbeckgaa
