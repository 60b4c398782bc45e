/- slices.Sort and slices.Compact on rows of ints of the call's own. -/
import Derived.Test.YtmichbgiaoopgaaShelfI
import Derived.Test.YtmichbgiaoopgaaIntList
import Derived.Lib.OwnBridge
import Derived.Lib.RowBridge
namespace Go.Proofs.Ytmichbgiaoopgaa
open Go.RowKit

def sortI (l : List Int) : List Int := l.mergeSort (fun x y => decide (x ≤ y))
theorem sortI_len (l : List Int) : (sortI l).length = l.length := List.length_mergeSort l
theorem sortI_mem {l : List Int} {x : Int} : x ∈ sortI l ↔ x ∈ l := List.mem_mergeSort
theorem sortI_le (l : List Int) : (sortI l).Pairwise (fun x y => x ≤ y) :=
  (List.pairwise_mergeSort (le := fun x y : Int => decide (x ≤ y)) (fun a b c h1 h2 => by simp at *; omega) (fun a b => by simp; omega) l).imp (fun h => by simpa using h)

theorem Ch.of_belowB {B : Nat} {w w' : World} (h : Below B w w') : Ch (fun k => B ≤ k) w w' :=
  ⟨h.os, h.tape, h.output, h.size, fun k _ hn => h.block k (by omega)⟩
theorem RowIn.keepB {e sz lo hi B n c : Nat} {w w' : World} {A : Option Addr} {xs : List Value} (h : RowIn e sz lo hi w A n c xs) (hb : Below B w w') (hB : hi ≤ B) : RowIn e sz lo hi w' A n c xs :=
  h.ch (Ch.of_belowB hb) (fun k hk hs => by unfold Iv at hk; omega)
theorem IntsIn.keepB {lo hi B n c : Nat} {w w' : World} {A : Option Addr} {l : List Int} (h : IntsIn lo hi w A n c l) (hb : Below B w w') (hB : hi ≤ B) : IntsIn lo hi w' A n c l := ⟨h.row.keepB hb hB⟩

theorem below_grow (w : World) (os : Array Obj) : Below w.heap.size w (Sort.grow w os) :=
  ⟨rfl, rfl, rfl, by show w.heap.size ≤ (w.heap ++ os).size; rw [Array.size_append]; omega, fun k hk => Sort.heap_grow_old w os hk⟩
theorem ch_putRow {enc : Int → Value} (w : World) (g q : Nat) (d : Array Int) : Ch (fun k => k = g) w (Sort.putRow enc (Sort.ahead w q) g 0 d) :=
  ⟨rfl, rfl, rfl, by simp [Sort.putRow, Sort.mapBlock, Sort.ahead], fun k _ hn => by simp [Sort.putRow, Sort.mapBlock, Sort.ahead, Array.getElem?_modify, Ne.symm hn]⟩

theorem sort_ints (A : Option Addr) (n c : Nat) (l : List Int) (lo hi : Nat) (w : World) (h : IntsIn lo hi w A n c l) (hn : n ≤ 16777216) :
    Calls Try.prog 98 #[.slice A n c] w fun e w' => e = .returned (.tuple #[]) ∧ IntsIn lo hi w' A n c (sortI l) ∧ Ch (Iv lo hi) w w' := by
  have hl := h.len
  rcases A with _ | a
  · have h0 : n = 0 ∧ c = 0 ∧ l.map (Value.int .i64) = [] := by
      rcases own_form h.row.own with ⟨_, h0, hc, hx⟩ | ⟨g, hg, _⟩
      · exact ⟨h0, hc, hx⟩
      · cases hg
    obtain ⟨rfl, rfl, hx⟩ := h0
    have hl0 : l = [] := by simpa using hx
    subst hl0
    refine (Try.slices_Sort_int_none none 0 w).mono fun e w' ⟨h1, h2⟩ => ?_
    subst h2
    exact ⟨h1, by simpa [sortI] using h, Ch.refl _⟩
  · obtain ⟨g, cap, hv, hlo, hg, hnc, hcm, hln, hH⟩ := Lib.holds_of_ownsRow (enc := Value.int .i64) h.row.own (by intro hx; injection hx with hx; cases hx)
    injection hv with ha _ hcc
    injection ha with ha
    subst ha hcc
    subst hl
    refine (Try.slices_Sort_int g 0 c l w hH hg (by omega)).mono fun e w' ⟨h1, q, os, h2⟩ => ⟨h1, ?_⟩
    subst h2
    have hrow := Lib.ownsRow_putRow (q := q) (ys := sortI l) (k := l.length) h.row.own (sortI_len l) (Nat.le_refl _)
    rw [List.take_of_length_le (by rw [sortI_len]; exact Nat.le_refl _)] at hrow
    have hb := below_grow (Sort.putRow (Value.int .i64) (Sort.ahead w q) g 0 (sortI l).toArray) os
    have hgi := (h.row.blk (g := g) (by simp [BlkOf])).1
    refine ⟨⟨(RowIn.mk hrow h.row.lt).keep hb⟩, ((ch_putRow w g q _).mono fun k hk => by subst hk; exact hgi).trans (Ch.of_below hb)⟩

theorem compact_ints (A : Option Addr) (n c : Nat) (l : List Int) (lo hi : Nat) (w : World) (h : IntsIn lo hi w A n c l) (hn : n ≤ 16777216) :
    Calls Try.prog 100 #[.slice A n c] w fun e w' => ∃ n', e = .returned (.slice A n' c) ∧ IntsIn lo hi w' A n' c (Lib.compact l) ∧ Ch (Iv lo hi) w w' := by
  have hl := h.len
  rcases A with _ | a
  · have h0 : n = 0 ∧ c = 0 ∧ l.map (Value.int .i64) = [] := by
      rcases own_form h.row.own with ⟨_, h0, hc, hx⟩ | ⟨g, hg, _⟩
      · exact ⟨h0, hc, hx⟩
      · cases hg
    obtain ⟨rfl, rfl, hx⟩ := h0
    have hl0 : l = [] := by simpa using hx
    subst hl0
    refine (Try.slices_Compact_int_empty none 0 w).mono fun e w' ⟨h1, h2⟩ => ?_
    subst h2
    exact ⟨0, h1, h, Ch.refl _⟩
  · obtain ⟨g, cap, hv, hlo, hg, hnc, hcm, hln, hH⟩ := Lib.holds_of_ownsRow (enc := Value.int .i64) h.row.own (by intro hx; injection hx with hx; cases hx)
    injection hv with ha _ hcc
    injection ha with ha
    subst ha hcc
    subst hl
    have hcl := Lib.compact_length_le l
    refine (Try.slices_Compact_int g 0 c l w hH (by omega) hnc).mono fun e w' ⟨h1, q, h2⟩ => ⟨_, h1, ?_⟩
    subst h2
    have hrow := Lib.ownsRow_putRow (q := q) (ys := Lib.compact l ++ List.replicate (l.length - (Lib.compact l).length) 0) (k := (Lib.compact l).length) h.row.own (by simp; omega) hcl
    rw [List.take_left'  rfl] at hrow
    have hgi := (h.row.blk (g := g) (by simp [BlkOf])).1
    exact ⟨⟨RowIn.mk hrow h.row.lt⟩, (ch_putRow w g q _).mono fun k hk => by subst hk; exact hgi⟩
end Go.Proofs.Ytmichbgiaoopgaa
