/- Contracts and lemmas: Ints, IntRow. -/
import Derived.Test.YtdphdnllhmnelaaJ1
import Derived.Test.YtdphdnllhmnelaaRows
import Derived.BigQuiet
import Derived.Deep.QuietTactic
import Derived.StillTailTactics
/- Contracts of the laws' helpers on []int and []bool; rows given by a function of the place. -/
namespace Go.Proofs.Ytdphdnllhmnelaa
open Go.RowKit

/-- n cells lie at A: cell i holds f i -/
def ValsAt (w : World) (A : Option Addr) (n : Nat) (f : Nat → Value) : Prop :=
  0 < n → ∃ b off, A = some ⟨b, off, none⟩ ∧ b < w.heap.size ∧ ∀ i, i < n → w.cell? ⟨b, off + i, none⟩ = some (f i)
section
variable {w w' : World} {A : Option Addr} {n : Nat} {f : Nat → Value}
theorem ValsAt.keep (h : ValsAt w A n f) (hb : Below w.heap.size w w') : ValsAt w' A n f := fun hn => by
  obtain ⟨b, off, rfl, hlt, hc⟩ := h hn
  exact ⟨b, off, rfl, Nat.lt_of_lt_of_le hlt hb.size, fun i hi => keep_cell hb (hc i hi)⟩
theorem ValsAt.of_own {base e c : Nat} {xs : List Value} (h : w.ownsRow base e 1 (.slice A n c) n xs) (hx : ∀ j, j < n → xs[j]? = some (f j)) : ValsAt w A n f := fun hn => by
  obtain ⟨b, off, rfl, hc⟩ := (own_cells h).2 hn
  exact ⟨b, off, rfl, cell_lt (hc 0 _ (hx 0 hn)), fun i hi => hc i _ (hx i hi)⟩
end
def intV (f : Nat → Int) (i : Nat) : Value := .int .i64 (f i)
def boolV (f : Nat → Bool) (i : Nat) : Value := .bool (f i)

theorem infoInt : (Try.prog.info? 3).map (fun i => (i.zero, i.size, i.bytes)) = some (some (.int .i64 0), 1, 8) := by kernel_rfl
end Go.Proofs.Ytdphdnllhmnelaa
/- Contracts of the laws' helpers on []int and []bool of the call's own: copy, marks. -/
namespace Go.Proofs.Ytdphdnllhmnelaa
open Go.RowKit

/-- a row of one cell each, given by the place -/
def RowF (e lo hi : Nat) (w : World) (A : Option Addr) (n c : Nat) (f : Nat → Value) : Prop := RowIn e 1 lo hi w A n c ((List.range n).map f)
section
variable {e lo hi lo' hi' n c : Nat} {w w' : World} {A : Option Addr} {f : Nat → Value}
theorem RowF.ch {S : Nat → Prop} (h : RowF e lo hi w A n c f) (hc : Ch S w w') (hS : ∀ k, Iv lo hi k → ¬ S k) : RowF e lo hi w' A n c f := RowIn.ch h hc hS
theorem RowF.keep (h : RowF e lo hi w A n c f) (hb : Below w.heap.size w w') : RowF e lo hi w' A n c f := RowIn.keep h hb
theorem RowF.wide (h : RowF e lo hi w A n c f) (h1 : lo' ≤ lo) (h2 : hi ≤ hi') : RowF e lo' hi' w A n c f := RowIn.wide h h1 h2
theorem RowF.vals (h : RowF e lo hi w A n c f) : ValsAt w A n f := ValsAt.of_own (RowIn.own h) (fun j hj => by simp [hj])
theorem RowF.of_own {xs : List Value} (h : w.ownsRow lo e 1 (.slice A n c) n xs) (hx : ∀ j, j < n → xs[j]? = some (f j)) : RowF e lo w.heap.size w A n c f := by
  have e1 := list_of_get (n := n) (by simpa using h.1) hx
  subst e1
  exact RowIn.of_own h
theorem RowF.nil : RowF e lo hi w none 0 0 f := RowIn.nil
theorem RowF.blk (h : RowF e lo hi w A n c f) {g : Nat} (hg : BlkOf A g) : Iv lo hi g ∧ g < w.heap.size := RowIn.blk h hg
theorem RowF.congr {f' : Nat → Value} (h : RowF e lo hi w A n c f) (hf : ∀ j, j < n → f j = f' j) : RowF e lo hi w A n c f' := by
  unfold RowF at h ⊢
  rwa [List.map_congr_left (fun j hj => hf j (List.mem_range.1 hj))] at h
/-- a cell of a row is stored -/
theorem RowF.store {g : Nat} (h : RowF e lo hi w (some ⟨g, 0, none⟩) n c f) (j : Nat) (v : Value) :
    RowF e lo hi (w.setCell ⟨g, j, none⟩ v) (some ⟨g, 0, none⟩) n c (fun i => if i = j then v else f i) := by
  have h2 := (RowIn.store h j v).1
  unfold RowF
  have e2 : ((List.range n).map f).set j v = (List.range n).map (fun i => if i = j then v else f i) := by
    apply List.ext_getElem?
    intro i
    rw [List.getElem?_set]
    by_cases hij : j = i
    · subst hij
      by_cases hj : j < n <;> simp [hj]
    · rw [if_neg hij]
      by_cases hi : i < n
      · simp [hi, Ne.symm hij]
      · simp [hi]
  rwa [e2] at h2
end

def mkI (k : Int) (j : Nat) : Int := k + (j : Int)
def mkB (k : Int) (j : Nat) : Bool := (k + (j : Int)) % 3 == 0


end Go.Proofs.Ytdphdnllhmnelaa
