/- Frames by sets of blocks; rows that are read, with a bound on their block. -/
import Derived.Test.YtbijkdpifnncmaaMem
namespace Go.Proofs.Ytbijkdpifnncmaa
open Go.RowKit

/-- of the old blocks only those in S may have changed -/
structure Ch (S : Nat → Prop) (w w' : World) : Prop where
  os : w'.os = w.os
  tape : w'.tape = w.tape
  output : w'.output = w.output
  size : w.heap.size ≤ w'.heap.size
  block : ∀ k, k < w.heap.size → ¬ S k → w'.heap[k]? = w.heap[k]?

section
variable {S T : Nat → Prop} {a b c w w' : World}
theorem Ch.refl (w : World) : Ch S w w := ⟨rfl, rfl, rfl, Nat.le_refl _, fun _ _ _ => rfl⟩
theorem Ch.trans (h : Ch S a b) (k : Ch S b c) : Ch S a c :=
  ⟨k.os.trans h.os, k.tape.trans h.tape, k.output.trans h.output, Nat.le_trans h.size k.size, fun i hi hn => (k.block i (Nat.lt_of_lt_of_le hi h.size) hn).trans (h.block i hi hn)⟩
theorem Ch.mono (h : Ch S a b) (hST : ∀ k, S k → T k) : Ch T a b := ⟨h.os, h.tape, h.output, h.size, fun k hk hn => h.block k hk (fun hs => hn (hST k hs))⟩
theorem Ch.of_below (h : Below w.heap.size w w') : Ch S w w' := ⟨h.os, h.tape, h.output, h.size, fun k hk _ => h.block k hk⟩
theorem Ch.below {B : Nat} (h : Ch S w w') (hS : ∀ k, S k → B ≤ k) (hB : B ≤ w.heap.size) : Below B w w' := ⟨h.os, h.tape, h.output, h.size, fun k hk => h.block k (by omega) (fun hs => by have := hS k hs; omega)⟩
theorem Ch.alloc (h : Ch S a w) (o : Obj) : Ch S a (w.alloc o) := h.trans (Ch.of_below ((Below.refl _ _).alloc (Nat.le_refl _) o))
theorem Ch.drew (h : Ch S a w) : Ch S a w.drew := ⟨h.os, h.tape, h.output, h.size, h.block⟩
theorem Ch.drewN (h : Ch S a w) (n : Nat) : Ch S a (w.drewN n) := ⟨h.os, h.tape, h.output, h.size, h.block⟩
theorem Ch.setCell (h : Ch S a w) {p : Addr} (hp : S p.block) (u : Value) : Ch S a (w.setCell p u) :=
  h.trans ⟨rfl, rfl, rfl, by simp, fun k _ hn => Below.heap_setCell _ _ _ _ (fun e => hn (by rw [e]; exact hp))⟩
theorem Ch.cell (h : Ch S w w') {g o : Nat} {v : Value} (hc : w.cell? ⟨g, o, none⟩ = some v) (hn : ¬ S g) : w'.cell? ⟨g, o, none⟩ = some v :=
  (World.cell?_of_block (a := ⟨g, o, none⟩) (h.block g (cell_lt hc) hn)).trans hc
end

theorem own_ch {S : Nat → Prop} {w w' : World} {base e sz n : Nat} {v : Value} {xs : List Value} (h : w.ownsRow base e sz v n xs) (hb : Ch S w w') (hS : ∀ k, v.ownBlock = some k → ¬ S k) : w'.ownsRow base e sz v n xs := by
  refine ⟨h.1, ?_⟩
  rcases h.2 with hn | ⟨g, cap, cur, rfl, hbb, hgg, rest⟩
  · exact .inl hn
  · exact .inr ⟨g, cap, cur, rfl, hbb, by rw [hb.block g (Array.getElem?_eq_some_iff.1 hgg).1 (hS g rfl)]; exact hgg, rest⟩
theorem own_up {w : World} {base base' e sz n : Nat} {v : Value} {xs : List Value} (h : w.ownsRow base e sz v n xs) (hb : base' ≤ base) : w.ownsRow base' e sz v n xs := by
  refine ⟨h.1, ?_⟩
  rcases h.2 with hn | ⟨g, cap, cur, rfl, hbb, hgg, rest⟩
  · exact .inl hn
  · exact .inr ⟨g, cap, cur, rfl, by omega, hgg, rest⟩

/-- n elements of sz cells lie at A, in a block below s: the cells xs -/
def CellsLt (s : Nat) (w : World) (A : Option Addr) (n sz : Nat) (xs : List Value) : Prop :=
  xs.length = n * sz ∧ (0 < n → ∃ b off, A = some ⟨b, off, none⟩ ∧ b < s ∧ ∀ j u, xs[j]? = some u → w.cell? ⟨b, off + j, none⟩ = some u)

section
variable {s s' n sz : Nat} {w w' : World} {A : Option Addr} {xs : List Value}
theorem CellsLt.at_ (h : CellsLt s w A n sz xs) {k : Nat} (hk : k < n) : ∃ b off, A = some ⟨b, off, none⟩ ∧ b < s ∧ ∀ j u, xs[j]? = some u → w.cell? ⟨b, off + j, none⟩ = some u := h.2 (by omega)
theorem CellsLt.ch {S : Nat → Prop} (h : CellsLt s w A n sz xs) (hb : Ch S w w') (hS : ∀ k, S k → s ≤ k) : CellsLt s w' A n sz xs :=
  ⟨h.1, fun hn => by
    obtain ⟨b, off, rfl, hlt, hc⟩ := h.2 hn
    exact ⟨b, off, rfl, hlt, fun j u hu => hb.cell (hc j u hu) (fun hs => by have := hS b hs; omega)⟩⟩
theorem CellsLt.keep (h : CellsLt s w A n sz xs) (hb : Below w.heap.size w w') : CellsLt s w' A n sz xs :=
  h.ch (S := fun _ => False) (Ch.of_below hb) (fun _ h => h.elim)
theorem CellsLt.more (h : CellsLt s w A n sz xs) (hs : s ≤ s') : CellsLt s' w A n sz xs :=
  ⟨h.1, fun hn => by
    obtain ⟨b, off, rfl, hlt, hc⟩ := h.2 hn
    exact ⟨b, off, rfl, by omega, hc⟩⟩
theorem CellsLt.lt (h : CellsAt w A n sz xs) (hsz : 0 < sz) : CellsLt w.heap.size w A n sz xs :=
  ⟨h.1, fun hn => by
    obtain ⟨b, off, rfl, hc⟩ := h.2 hn
    have hl := h.1
    have : n ≤ n * sz := Nat.le_mul_of_pos_right n hsz
    have h0 : xs[0]? = some (xs[0]'(by omega)) := List.getElem?_eq_getElem (by omega)
    exact ⟨b, off, rfl, cell_lt (hc 0 _ h0), hc⟩⟩
theorem CellsLt.cells (h : CellsLt s w A n sz xs) : CellsAt w A n sz xs :=
  ⟨h.1, fun hn => by
    obtain ⟨b, off, rfl, hlt, hc⟩ := h.2 hn
    exact ⟨b, off, rfl, hc⟩⟩
theorem CellsLt.of_own {base e c : Nat} (h : w.ownsRow base e sz (.slice A n c) n xs) (hsz : 0 < sz) : CellsLt w.heap.size w A n sz xs := CellsLt.lt (own_cells h) hsz
end

/-! ### cells behind stores -/
theorem sethere {w : World} {g j : Nat} {v u : Value} (h : w.cell? ⟨g, j, none⟩ = some v) : (w.setCell ⟨g, j, none⟩ u).cell? ⟨g, j, none⟩ = some u := by
  unfold World.cell? at h ⊢
  cases hh : w.heap[g]? with
  | none => rw [hh] at h; simp at h
  | some o =>
    cases o <;> rw [hh] at h <;> simp at h
    rename_i c t fr
    have : g < w.heap.size := (Array.getElem?_eq_some_iff.1 hh).1
    simp [World.setCell, Array.getElem?_modify, hh]
    obtain ⟨hj, _⟩ := Array.getElem?_eq_some_iff.1 h
    simp [hj]
theorem setoff {w : World} {g j b o : Nat} {v u : Value} (h : w.cell? ⟨b, o, none⟩ = some v) (hne : g ≠ b ∨ j ≠ o) : (w.setCell ⟨g, j, none⟩ u).cell? ⟨b, o, none⟩ = some v :=
  (World.cell?_setCell_other w ⟨g, j, none⟩ ⟨b, o, none⟩ u (fun e => by injection e with e1 e2; rcases hne with h | h <;> contradiction)).trans h
/-- three cells of a block set -/
theorem set3 {W : World} {g : Nat} {u v x a b c : Value} (k0 : W.cell? ⟨g, 0, none⟩ = some a) (k1 : W.cell? ⟨g, 1, none⟩ = some b) (k2 : W.cell? ⟨g, 2, none⟩ = some c) :
    ∃ WF, WF = ((W.setCell ⟨g, 0, none⟩ u).setCell ⟨g, 1, none⟩ v).setCell ⟨g, 2, none⟩ x ∧ WF.cell? ⟨g, 0, none⟩ = some u ∧ WF.cell? ⟨g, 1, none⟩ = some v ∧ WF.cell? ⟨g, 2, none⟩ = some x :=
  ⟨_, rfl, setoff (setoff (sethere k0) (.inr (by omega))) (.inr (by omega)), setoff (sethere (setoff k1 (.inr (by omega)))) (.inr (by omega)), sethere (setoff (setoff k2 (.inr (by omega))) (.inr (by omega)))⟩
end Go.Proofs.Ytbijkdpifnncmaa
