/- slices.Sort and slices.Compact on rows of texts of the call's own. -/
import Derived.Test.YtfbfomlgjghcmaaDoorShelfT
import Derived.Test.YtfbfomlgjghcmaaDoorStrRow
import Derived.Test.YtfbfomlgjghcmaaDoorStrOrd
import Derived.Lib.OwnBridge
import Derived.Lib.RowBridge
namespace Go.Proofs.YtfbfomlgjghcmaaDoor
open Go.RowKit

def ofL (x : By) : ByteArray := ⟨x.toArray⟩
def toL (s : ByteArray) : By := s.data.toList
theorem ofL_toL (s : ByteArray) : ofL (toL s) = s := by cases s; simp [ofL, toL]
theorem toL_ofL (x : By) : toL (ofL x) = x := by simp [ofL, toL]
theorem encs (l : List By) : l.map encStr = (l.map ofL).map Value.string := by
  rw [List.map_map]; rfl
/-- texts given by their bytes -/
def txs (l : List By) : List ByteArray := l.map ofL
theorem txs_toL (l : List ByteArray) : txs (l.map toL) = l := by unfold txs; rw [List.map_map, show ofL ∘ toL = id from funext ofL_toL, List.map_id]

theorem belowT_grow (w : World) (os : Array Obj) : Below w.heap.size w (Sort.grow w os) :=
  ⟨rfl, rfl, rfl, by show w.heap.size ≤ (w.heap ++ os).size; rw [Array.size_append]; omega, fun k hk => Sort.heap_grow_old w os hk⟩
theorem chT_putRow {enc : By → Value} (w : World) (g q : Nat) (d : Array By) : Ch (fun k => k = g) w (Sort.putRow enc (Sort.ahead w q) g 0 d) :=
  ⟨rfl, rfl, rfl, by simp [Sort.putRow, Sort.mapBlock, Sort.ahead], fun k _ hn => by simp [Sort.putRow, Sort.mapBlock, Sort.ahead, Array.getElem?_modify, Ne.symm hn]⟩

theorem sort_texts (A : Option Addr) (n c : Nat) (l : List By) (lo hi : Nat) (w : World) (h : StrsIn lo hi w A n c (txs l)) (hn : n ≤ 16777216) :
    Calls Tryd.prog 37 #[.slice A n c] w fun e w' => e = .returned (.tuple #[]) ∧ StrsIn lo hi w' A n c (txs (sortB l)) ∧ Ch (Iv lo hi) w w' := by
  have hl : n = l.length := by have := h.at_.1; simpa [txs] using this
  have hrow := h.row
  unfold txs at hrow
  rw [← encs] at hrow
  rcases A with _ | a
  · have h0 : n = 0 ∧ c = 0 ∧ l.map encStr = [] := by
      rcases own_form hrow.own with ⟨_, h0, hc, hx⟩ | ⟨g, hg, _⟩
      · exact ⟨h0, hc, hx⟩
      · cases hg
    obtain ⟨rfl, rfl, hx⟩ := h0
    have hl0 : l = [] := by simpa using hx
    subst hl0
    refine (Tryd.slices_Sort_string_none none 0 w).mono fun e w' ⟨h1, h2⟩ => ?_
    subst h2
    exact ⟨h1, by simpa [sortB] using h, Ch.refl _⟩
  · obtain ⟨g, cap, hv, hlo, hg, hnc, hcm, hln, hH⟩ := Lib.holds_of_ownsRow (enc := encStr) hrow.own (by intro hx; injection hx with hx; cases hx)
    injection hv with ha _ hcc
    injection ha with ha
    subst ha hcc
    subst hl
    refine (Tryd.slices_Sort_string g 0 c l w hH hg (by omega)).mono fun e w' ⟨h1, q, os, h2⟩ => ⟨h1, ?_⟩
    subst h2
    have hrow2 := Lib.ownsRow_putRow (q := q) (ys := sortB l) (k := l.length) hrow.own (sortB_len l) (Nat.le_refl _)
    rw [List.take_of_length_le (by rw [sortB_len]; exact Nat.le_refl _)] at hrow2
    have hb := belowT_grow (Sort.putRow encStr (Sort.ahead w q) g 0 (sortB l).toArray) os
    have hgi := (hrow.blk (g := g) (by simp [BlkOf])).1
    refine ⟨⟨?_⟩, ((chT_putRow w g q _).mono fun k hk => by subst hk; exact hgi).trans (Ch.of_below hb)⟩
    unfold txs
    rw [← encs]
    exact (RowIn.mk hrow2 hrow.lt).keep hb

end Go.Proofs.YtfbfomlgjghcmaaDoor
