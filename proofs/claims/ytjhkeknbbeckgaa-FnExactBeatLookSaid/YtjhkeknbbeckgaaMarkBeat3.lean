/- Contract of markBeat on a copied Beat: three rows of any lengths. -/
import Derived.Test.YtjhkeknbbeckgaaMarks
namespace Go.Proofs.Ytjhkeknbbeckgaa
open Go.RowKit

def In3 (g1 g2 g3 b : Nat) : Prop := b = g1 ∨ b = g2 ∨ b = g3
theorem BtOwn.lt {w : World} {base g1 n1 : Nat} {f1 : Nat → Int} {g2 n2 : Nat} {f2 : Nat → Int} {g3 n3 : Nat} {f3 : Nat → Bool} (h : BtOwn w base g1 n1 f1 g2 n2 f2 g3 n3 f3) {b : Nat} (hb : In3 g1 g2 g3 b) : base ≤ b ∧ b < w.heap.size := by
  rcases hb with rfl | rfl | rfl
  · exact h.1.lt
  · exact h.2.1.lt
  · exact h.2.2.1.lt
theorem BtOwn.keep {w w' : World} {base g1 n1 : Nat} {f1 : Nat → Int} {g2 n2 : Nat} {f2 : Nat → Int} {g3 n3 : Nat} {f3 : Nat → Bool} (h : BtOwn w base g1 n1 f1 g2 n2 f2 g3 n3 f3) (hb : Below w.heap.size w w') : BtOwn w' base g1 n1 f1 g2 n2 f2 g3 n3 f3 :=
  ⟨h.1.ch (S := fun _ => False) (Ch.of_below hb) (fun _ _ h => h), h.2.1.ch (S := fun _ => False) (Ch.of_below hb) (fun _ _ h => h), h.2.2.1.ch (S := fun _ => False) (Ch.of_below hb) (fun _ _ h => h), h.2.2.2⟩
theorem ob_some {g n c k : Nat} (h : (Value.slice (some ⟨g, 0, none⟩) n c).ownBlock = some k) : g = k := by simpa [Value.ownBlock] using h

theorem markBeat3_any (g1 g2 g3 n1 n2 n3 : Nat) (f1 f2 : Nat → Int) (f3 : Nat → Bool) (base : Nat) (w : World) (h : BtOwn w base g1 n1 f1 g2 n2 f2 g3 n3 f3) (h1 : n1 ≤ 16777216) (h2 : n2 ≤ 16777216) (h3 : n3 ≤ 16777216) :
    Calls Try.prog 36 #[.agg #[.slice (some ⟨g1, 0, none⟩) n1 n1, .slice (some ⟨g2, 0, none⟩) n2 n2, .slice (some ⟨g3, 0, none⟩) n3 n3], .int .i64 1] w fun e w' => e = .returned (.int .i64 (1 + n1 + n2 + n3)) ∧ Ch (In3 g1 g2 g3) w w' := by
  have L1 := h.1.lt; have L2 := h.2.1.lt; have L3 := h.2.2.1.lt
  have D1 := h.2.2.2.1; have D2 := h.2.2.2.2
  have r1 := h.1; have r2 := h.2.1; have r3 := h.2.2.1
  clear h
  go_enter Try.func36, Try.ntmps36
  go_wp2_with fail
  refine (markInts_any _ _ _ _ _ base _ _ (r1.ch (S := fun _ => False) ((Ch.refl _).alloc _) (fun _ _ h => h)) h1 (by omega) (by omega)).mono ?_
  rintro e w1 ⟨rfl, ho1, hc1⟩
  have z1 : w1.cell? ⟨w.heap.size, 1, none⟩ = some (.slice (some ⟨g2, 0, none⟩) n2 n2) := hc1.cell (by simp [go_sem]) (fun hb => by have := hb.eq; omega)
  have z2 : w1.cell? ⟨w.heap.size, 2, none⟩ = some (.slice (some ⟨g3, 0, none⟩) n3 n3) := hc1.cell (by simp [go_sem]) (fun hb => by have := hb.eq; omega)
  have C1 : Ch (In3 g1 g2 g3) w w1 := ((Ch.refl w).alloc _).trans (hc1.mono fun _ h => .inl h.eq.symm)
  go_wp2_with fail
  refine (markInts_any _ _ _ _ _ base _ _ ((r2.ch (S := fun _ => False) ((Ch.refl _).alloc _) (fun _ _ h => h)).ch hc1 (fun k hk hb => by have := hb.eq; have := ob_some hk; omega)) h2 (by omega) (by omega)).mono ?_
  rintro e w2 ⟨rfl, ho2, hc2⟩
  have z3 : w2.cell? ⟨w.heap.size, 2, none⟩ = some (.slice (some ⟨g3, 0, none⟩) n3 n3) := hc2.cell z2 (fun hb => by have := hb.eq; omega)
  have C2 : Ch (In3 g1 g2 g3) w w2 := C1.trans (hc2.mono fun _ h => .inr (.inl h.eq.symm))
  go_wp2_with fail
  refine (markBools_any _ _ _ _ _ base _ _ (((r3.ch (S := fun _ => False) ((Ch.refl _).alloc _) (fun _ _ h => h)).ch hc1 (fun k hk hb => by have := hb.eq; have := ob_some hk; omega)).ch hc2 (fun k hk hb => by have := hb.eq; have := ob_some hk; omega)) h3 (by omega) (by omega)).mono ?_
  rintro e w3 ⟨rfl, ho3, hc3⟩
  go_wp2
  go_returns
  exact ⟨rfl, C2.trans (hc3.mono fun _ h => .inr (.inr h.eq.symm))⟩
end Go.Proofs.Ytjhkeknbbeckgaa
