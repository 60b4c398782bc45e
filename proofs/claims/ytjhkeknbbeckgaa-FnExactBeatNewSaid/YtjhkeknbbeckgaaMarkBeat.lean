/- Contracts of markBeat and heldBeat. -/
import Derived.Test.YtjhkeknbbeckgaaMarks
namespace Go.Proofs.Ytjhkeknbbeckgaa
open Go.RowKit

theorem markBeat_any (A1 A2 A3 : Option Addr) (n : Nat) (f1 f2 : Nat → Int) (f3 : Nat → Bool) (k0 : Int) (base : Nat) (w : World) (h : Own3 w base A1 A2 A3 n f1 f2 f3) (hn : n ≤ 16777216) (hk0 : 0 ≤ k0) (hk1 : k0 ≤ 1152921504606846976) :
    Calls Try.prog 36 #[.agg #[.slice A1 n n, .slice A2 n n, .slice A3 n n], .int .i64 k0] w fun e w' => e = .returned (.int .i64 (k0 + n + n + n)) ∧ Own3 w' base A1 A2 A3 n (markI k0) (markI (k0 + n)) (markB (k0 + n + n)) ∧ Ch (Of3 A1 A2 A3) w w' := by
  have hlt := fun b hb => h.lt (b := b) hb
  go_enter Try.func36, Try.ntmps36
  go_wp2_with fail
  refine (markInts_any _ _ _ _ _ base _ _ (h.r1.ch (S := fun _ => False) ((Ch.refl _).alloc _) (fun _ _ h => h)) hn hk0 (by omega)).mono ?_
  rintro e w1 ⟨rfl, ho1, hc1⟩
  have z1 : w1.cell? ⟨w.heap.size, 1, none⟩ = some (.slice A2 n n) := hc1.cell (by simp [go_sem]) (fun hb => by have := hlt _ (.inl hb); omega)
  have z2 : w1.cell? ⟨w.heap.size, 2, none⟩ = some (.slice A3 n n) := hc1.cell (by simp [go_sem]) (fun hb => by have := hlt _ (.inl hb); omega)
  have C1 : Ch (Of3 A1 A2 A3) w w1 := ((Ch.refl w).alloc _).trans (hc1.mono fun _ h => .inl h)
  have hs1 := hc1.size
  try simp at hs1
  go_wp2_with fail
  refine (markInts_any _ _ _ _ _ base _ _ ((h.r2.ch (S := fun _ => False) ((Ch.refl _).alloc _) (fun _ _ h => h)).ch hc1 (fun k hk hb => h.d12 k hb (Own3.ch.own_block hk))) hn (by omega) (by omega)).mono ?_
  rintro e w2 ⟨rfl, ho2, hc2⟩
  have z3 : w2.cell? ⟨w.heap.size, 2, none⟩ = some (.slice A3 n n) := hc2.cell z2 (fun hb => by have := hlt _ (.inr (.inl hb)); omega)
  have C2 : Ch (Of3 A1 A2 A3) w w2 := C1.trans (hc2.mono fun _ h => .inr (.inl h))
  have ho12 := ho1.ch hc2 (fun k hk hb => h.d12 k (Own3.ch.own_block hk) hb)
  have hs2 := hc2.size
  go_wp2_with fail
  refine (markBools_any _ _ _ _ _ base _ _ (((h.r3.ch (S := fun _ => False) ((Ch.refl _).alloc _) (fun _ _ h => h)).ch hc1 (fun k hk hb => h.d13 k hb (Own3.ch.own_block hk))).ch hc2 (fun k hk hb => h.d23 k hb (Own3.ch.own_block hk))) hn (by omega) (by omega)).mono ?_
  rintro e w3 ⟨rfl, ho3, hc3⟩
  go_wp2
  go_returns
  exact ⟨rfl, ⟨ho12.ch hc3 (fun k hk hb => h.d13 k (Own3.ch.own_block hk) hb), ho2.ch hc3 (fun k hk hb => h.d23 k (Own3.ch.own_block hk) hb), ho3, h.d12, h.d13, h.d23⟩, C2.trans (hc3.mono fun _ h => .inr (.inr h))⟩

theorem heldBeat_any (A1 A2 A3 : Option Addr) (n : Nat) (k0 : Int) (w : World) (h : BtAt w A1 n (markI k0) A2 n (markI (k0 + n)) A3 n (markB (k0 + n + n))) (hn : n ≤ 16777216) (hk0 : 0 ≤ k0) (hk1 : k0 ≤ 1152921504606846976) :
    Calls Try.prog 37 #[.agg #[.slice A1 n n, .slice A2 n n, .slice A3 n n], .int .i64 k0] w fun e w' => e = .returned (.int .i64 (k0 + n + n + n)) ∧ Below w.heap.size w w' := by
  go_enter Try.func37, Try.ntmps37
  go_wp2_with fail
  refine (heldInts_any _ _ _ _ _ (h.1.keep (by go_grown)) hn hk0 (by omega)).mono ?_
  rintro e w1 ⟨rfl, rfl⟩
  go_wp2_with fail
  refine (heldInts_any _ _ _ _ _ (h.2.1.keep (by go_grown)) hn (by omega) (by omega)).mono ?_
  rintro e w1 ⟨rfl, rfl⟩
  go_wp2_with fail
  refine (heldBools_any _ _ _ _ _ (h.2.2.keep (by go_grown)) hn (by omega) (by omega)).mono ?_
  rintro e w1 ⟨rfl, rfl⟩
  go_wp2
  go_returns
  exact ⟨rfl, by go_grown⟩
end Go.Proofs.Ytjhkeknbbeckgaa
