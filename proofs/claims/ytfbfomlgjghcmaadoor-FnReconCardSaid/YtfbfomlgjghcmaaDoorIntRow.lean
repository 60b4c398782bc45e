/- Contracts of the laws' helpers on []int and []bool of the call's own: copy, marks. -/
import Derived.Test.YtfbfomlgjghcmaaDoorRow
import Derived.Test.YtfbfomlgjghcmaaDoorInts
namespace Go.Proofs.YtfbfomlgjghcmaaDoor
open Go.RowKit

/-- a row of one cell each, given by the place -/
def RowF (e lo hi : Nat) (w : World) (A : Option Addr) (n c : Nat) (f : Nat → Value) : Prop := RowIn e 1 lo hi w A n c ((List.range n).map f)
section
variable {e lo hi lo' hi' n c : Nat} {w w' : World} {A : Option Addr} {f : Nat → Value}
theorem RowF.ch {S : Nat → Prop} (h : RowF e lo hi w A n c f) (hc : Ch S w w') (hS : ∀ k, Iv lo hi k → ¬ S k) : RowF e lo hi w' A n c f := RowIn.ch h hc hS
theorem RowF.chb {S : Nat → Prop} (h : RowF e lo hi w A n c f) (hc : Ch S w w') (hS : ∀ k, BlkOf A k → ¬ S k) : RowF e lo hi w' A n c f :=
  ⟨own_ch (RowIn.own h) hc (fun k hk => hS k (blk_of hk)), RowIn.lt h⟩
theorem RowF.keep (h : RowF e lo hi w A n c f) (hb : Below w.heap.size w w') : RowF e lo hi w' A n c f := RowIn.keep h hb
theorem RowF.wide (h : RowF e lo hi w A n c f) (h1 : lo' ≤ lo) (h2 : hi ≤ hi') : RowF e lo' hi' w A n c f := RowIn.wide h h1 h2
theorem RowF.vals (h : RowF e lo hi w A n c f) : ValsAt w A n f := ValsAt.of_own (RowIn.own h) (fun j hj => by simp [hj])
theorem RowF.of_own {xs : List Value} (h : w.ownsRow lo e 1 (.slice A n c) n xs) (hx : ∀ j, j < n → xs[j]? = some (f j)) : RowF e lo w.heap.size w A n c f := by
  have e1 := list_of_get (n := n) (by simpa using h.1) hx
  subst e1
  exact RowIn.of_own h
theorem RowF.nil : RowF e lo hi w none 0 0 f := RowIn.nil
theorem RowF.blk (h : RowF e lo hi w A n c f) {g : Nat} (hg : BlkOf A g) : Iv lo hi g ∧ g < w.heap.size := RowIn.blk h hg
theorem RowF.congr {f' : Nat → Value} (h : RowF e lo hi w A n c f) (hf : ∀ j, j < n → f j = f' j) : RowF e lo hi w A n c f' := by
  unfold RowF at h ⊢
  rwa [List.map_congr_left (fun j hj => hf j (List.mem_range.1 hj))] at h
/-- a cell of a row is stored -/
theorem RowF.store {g : Nat} (h : RowF e lo hi w (some ⟨g, 0, none⟩) n c f) (j : Nat) (v : Value) :
    RowF e lo hi (w.setCell ⟨g, j, none⟩ v) (some ⟨g, 0, none⟩) n c (fun i => if i = j then v else f i) := by
  have h2 := (RowIn.store h j v).1
  unfold RowF
  have e2 : ((List.range n).map f).set j v = (List.range n).map (fun i => if i = j then v else f i) := by
    apply List.ext_getElem?
    intro i
    rw [List.getElem?_set]
    by_cases hij : j = i
    · subst hij
      by_cases hj : j < n <;> simp [hj]
    · rw [if_neg hij]
      by_cases hi : i < n
      · simp [hi, Ne.symm hij]
      · simp [hi]
  rwa [e2] at h2
end

def mkI (k : Int) (j : Nat) : Int := k + (j : Int)
def mkB (k : Int) (j : Nat) : Bool := (k + (j : Int)) % 3 == 0


theorem markInts_row (A : Option Addr) (n c : Nat) (xs : List Value) (k0 : Int) (lo hi e : Nat) (w : World) (h : RowIn e 1 lo hi w A n c xs) (hn : n ≤ 16777216) (hk0 : 0 ≤ k0) (hk1 : k0 ≤ 4611686018427387904) :
    Calls Tryd.prog 17 #[.slice A n c, .int .i64 k0] w fun e' w' => e' = .returned (.int .i64 (k0 + n)) ∧ RowF e lo hi w' A n c (intV (mkI k0)) ∧ Ch (BlkOf A) w w' := by
  go_enter Tryd.func17, Tryd.ntmps17
  go_wp2
  go_loopw [1, 5] (fun u i wr => ∃ (k : Nat) (xs : List Value), k ≤ n ∧ i = .int .i64 k ∧ u = .int .i64 (k0 + k) ∧ RowIn e 1 lo hi wr A n c xs ∧ (∀ j, j < k → xs[j]? = some (intV (mkI k0) j)) ∧ Ch (BlkOf A) w wr) (fun _ i _ => n - (intOf i).toNat)
  case atStart => exact ⟨0, xs, Nat.zero_le _, rfl, by simp, h, fun j hj => absurd hj (by omega), Ch.refl _⟩
  case round =>
    obtain ⟨k, xs, hk, rfl, rfl, hown, hx, hb⟩ := hrel
    have HX := Lib.hid hx; clear hx
    by_cases hlt : k < n
    · obtain ⟨g, rfl⟩ := hown.head (by omega)
      obtain ⟨old, hold⟩ := own_cell hown.own (j := k) (by omega)
      have hfr := hown.own.frozenAt k
      go_wp2
      obtain ⟨hown2, _⟩ := hown.store k (.int .i64 (k0 + k))
      exact ⟨⟨k + 1, _, by omega, by go_num, by congr 1; push_cast; omega, hown2, set_upto (n := n) (by simpa using hown.len) hlt HX.out rfl, hb.setCell (p := ⟨g, k, none⟩) rfl _⟩, by simp [intOf]; omega⟩
    · go_wp2
      go_returns
      have : k = n := by omega
      subst this
      refine ⟨rfl, ?_, hb⟩
      have e1 := list_of_get (n := k) (by simpa using hown.len) HX.out
      subst e1
      exact hown

theorem heldInts_row (A : Option Addr) (n c : Nat) (k0 : Int) (w : World) (h : ValsAt w A n (intV (mkI k0))) (hn : n ≤ 16777216) (hk0 : 0 ≤ k0) (hk1 : k0 ≤ 4611686018427387904) :
    Calls Tryd.prog 18 #[.slice A n c, .int .i64 k0] w fun e' w' => e' = .returned (.int .i64 (k0 + n)) ∧ w = w' := by
  go_enter Tryd.func18, Tryd.ntmps18
  go_wp2
  go_loop [1, 5] (fun u i => ∃ (k : Nat), k ≤ n ∧ i = .int .i64 k ∧ u = .int .i64 (k0 + k)) (fun _ i => n - (intOf i).toNat)
  case atStart => exact ⟨0, Nat.zero_le _, rfl, by simp⟩
  case round =>
    obtain ⟨k, hk, rfl, rfl⟩ := hrel
    by_cases hlt : k < n
    · obtain ⟨b, off, rfl, hbl, hc⟩ := h (by omega)
      have hck := hc k hlt
      clear hc
      unfold intV mkI at hck
      go_wp2
      exact ⟨⟨k + 1, by omega, by go_num, by congr 1; push_cast; omega⟩, by simp [intOf]; omega⟩
    · go_wp2
      go_returns
      have : k = n := by omega
      subst this
      exact ⟨rfl, rfl⟩
end Go.Proofs.YtfbfomlgjghcmaaDoor
