/- Rows of the call's own within an interval of blocks. -/
import Derived.Test.YtbijkdpifnncmaaOwn
namespace Go.Proofs.Ytbijkdpifnncmaa
open Go.RowKit

/-- a block of an interval -/
def Iv (lo hi k : Nat) : Prop := lo ≤ k ∧ k < hi
theorem iv_off {a b c d : Nat} (h : b ≤ c ∨ d ≤ a) : ∀ k, Iv a b k → ¬ Iv c d k := fun k h1 h2 => by unfold Iv at h1 h2; omega
def BlkOf (A : Option Addr) (b : Nat) : Prop := A.map Addr.block = some b
theorem BlkOf.eq {g b : Nat} (h : BlkOf (some ⟨g, 0, none⟩) b) : g = b := by simpa [BlkOf] using h
theorem BlkOf.no {b : Nat} (h : BlkOf none b) : False := by simp [BlkOf] at h
theorem blk_of {A : Option Addr} {n c k : Nat} (hk : (Value.slice A n c).ownBlock = some k) : BlkOf A k := by
  rcases A with _ | a
  · simp [Value.ownBlock] at hk
  · simpa [Value.ownBlock, BlkOf] using hk

/-- a row of the call's own of n elements of sz cells, the cells xs, in a block of [lo, hi) -/
structure RowIn (e sz lo hi : Nat) (w : World) (A : Option Addr) (n c : Nat) (xs : List Value) : Prop where
  own : w.ownsRow lo e sz (.slice A n c) n xs
  lt : ∀ g, BlkOf A g → g < hi
section
variable {e sz lo hi lo' hi' n c : Nat} {w w' : World} {A : Option Addr} {xs : List Value}
theorem RowIn.blk (h : RowIn e sz lo hi w A n c xs) {g : Nat} (hg : BlkOf A g) : Iv lo hi g ∧ g < w.heap.size := by
  have h2 := h.lt g hg
  rcases own_form h.own with ⟨rfl, _⟩ | ⟨g', rfl, h1, h3⟩
  · exact hg.no.elim
  · have := hg.eq; subst this; exact ⟨⟨h1, h2⟩, h3⟩
theorem RowIn.ch {S : Nat → Prop} (h : RowIn e sz lo hi w A n c xs) (hc : Ch S w w') (hS : ∀ k, Iv lo hi k → ¬ S k) : RowIn e sz lo hi w' A n c xs :=
  ⟨own_ch h.own hc (fun k hk => hS k (h.blk (blk_of hk)).1), h.lt⟩
theorem RowIn.keep (h : RowIn e sz lo hi w A n c xs) (hb : Below w.heap.size w w') : RowIn e sz lo hi w' A n c xs :=
  h.ch (S := fun _ => False) (Ch.of_below hb) (fun _ _ h => h)
theorem RowIn.wide (h : RowIn e sz lo hi w A n c xs) (h1 : lo' ≤ lo) (h2 : hi ≤ hi') : RowIn e sz lo' hi' w A n c xs :=
  ⟨own_up h.own h1, fun g hg => Nat.lt_of_lt_of_le (h.lt g hg) h2⟩
theorem RowIn.of_own (h : w.ownsRow lo e sz (.slice A n c) n xs) : RowIn e sz lo w.heap.size w A n c xs := by
  refine ⟨h, fun g hg => ?_⟩
  rcases own_form h with ⟨rfl, _⟩ | ⟨g', rfl, _, h3⟩
  · exact hg.no.elim
  · have := hg.eq; subst this; exact h3
theorem RowIn.nil : RowIn e sz lo hi w none 0 0 [] := ⟨⟨by simp, .inl ⟨rfl, rfl⟩⟩, fun _ h => h.no.elim⟩
theorem RowIn.cells (h : RowIn e sz lo hi w A n c xs) (hsz : 0 < sz) : CellsLt w.heap.size w A n sz xs := CellsLt.of_own h.own hsz
theorem RowIn.head (h : RowIn e sz lo hi w A n c xs) (hn : 0 < n) : ∃ g, A = some ⟨g, 0, none⟩ := by
  rcases own_form h.own with ⟨_, h0, _⟩ | ⟨g, hA, _⟩
  · omega
  · exact ⟨g, hA⟩
theorem RowIn.len (h : RowIn e sz lo hi w A n c xs) : xs.length = n * sz := h.own.1
/-- a cell of a row is stored -/
theorem RowIn.store {g : Nat} (h : RowIn e sz lo hi w (some ⟨g, 0, none⟩) n c xs) (j : Nat) (v : Value) :
    RowIn e sz lo hi (w.setCell ⟨g, j, none⟩ v) (some ⟨g, 0, none⟩) n c (xs.set j v) ∧ Ch (Iv lo hi) w (w.setCell ⟨g, j, none⟩ v) :=
  ⟨⟨(h.own.stored j v).1, h.lt⟩, (Ch.refl w).setCell (h.blk (by simp [BlkOf])).1 v⟩
end
theorem Ch.iv {lo hi lo' hi' : Nat} {w w' : World} (h : Ch (Iv lo hi) w w') (h1 : lo' ≤ lo) (h2 : hi ≤ hi') : Ch (Iv lo' hi') w w' :=
  h.mono fun k hk => by unfold Iv at hk ⊢; omega
theorem Ch.ivb {lo hi B : Nat} {w0 w w' : World} (h : Ch (Iv lo hi) w w') (hb : Below B w0 w) (hB : B ≤ lo) (hs : B ≤ w0.heap.size) : Below B w0 w' :=
  hb.trans (h.below (fun k hk => by unfold Iv at hk; omega) (Nat.le_trans hs hb.size))
theorem StrsAt.of_row {e lo hi n c : Nat} {w : World} {A : Option Addr} {l : List ByteArray} (h : RowIn e 1 lo hi w A n c (l.map Value.string)) : StrsAt w A n l := StrsAt.of_own h.own
/-- a cell is kept where no store of the interval hits its block -/
theorem ch_cell {lo hi g o : Nat} {w w' : World} {v : Value} (h : Ch (Iv lo hi) w w') (hc : w.cell? ⟨g, o, none⟩ = some v) (hn : g < lo ∨ hi ≤ g) : w'.cell? ⟨g, o, none⟩ = some v :=
  h.cell hc (fun hi => by unfold Iv at hi; omega)
theorem row_set {α : Type} {xs : List α} {k n : Nat} {g : Nat → α} (hn : xs.length = n) (hk : k < n) (h : ∀ j, j < k → xs[j]? = some (g j)) {u : α} (hu : u = g k) : ∀ j, j < k + 1 → (xs.set k u)[j]? = some (g j) := set_upto hn hk h hu
theorem StrsAt.ch {S : Nat → Prop} {w w' : World} {A : Option Addr} {n : Nat} {l : List ByteArray} {m : Nat} (h : StrsAt w A n l) (hb : Ch S w w') (hm : ∀ b off, A = some ⟨b, off, none⟩ → b < m) (hS : ∀ k, S k → m ≤ k) : StrsAt w' A n l := by
  refine ⟨h.1, fun hn => ?_⟩
  obtain ⟨b, off, rfl, hlt, hc⟩ := h.2 hn
  exact ⟨b, off, rfl, Nat.lt_of_lt_of_le hlt hb.size, fun i hi => hb.cell (hc i hi) (fun hs => by have := hS b hs; have := hm b off rfl; omega)⟩
theorem own_le {w : World} {base e sz n c : Nat} {A : Option Addr} {xs : List Value} (h : w.ownsRow base e sz (.slice A n c) n xs) : n ≤ c ∧ c ≤ 9223372036854775807 := by
  rcases h.2 with ⟨hv, h0⟩ | ⟨g, cap, cur, hv, hb, hg, h1, h2, _⟩
  · injection hv with _ _ hc; omega
  · injection hv with _ _ hc; unfold maxLen at h2; omega
end Go.Proofs.Ytbijkdpifnncmaa
