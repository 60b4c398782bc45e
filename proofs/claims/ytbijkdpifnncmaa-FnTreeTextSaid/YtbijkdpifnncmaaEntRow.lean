/- The laws' helpers on lists of entries of the call's own: marks. -/
import Derived.Test.YtbijkdpifnncmaaEnts
namespace Go.Proofs.Ytbijkdpifnncmaa
open Go.RowKit
attribute [local irreducible] StrsAt

section
variable {α : Type} {F : Nat → Nat → World → List Value → α → Prop} {e sz lo hi n c g q r : Nat} {w w' : World} {A : Option Addr} {css : List (List Value)} {l : List α} {cs : List Value} {x x' : α} {v : Value}
/-- a cell of element q that leads nowhere is stored -/
theorem RowsIn.stc (E : Elem F sz) (h : RowsIn F e sz lo hi w (some ⟨g, 0, none⟩) n c l css) (hq : css[q]? = some cs) (hr : r < sz) (hx : F lo hi (w.setCell ⟨g, q * sz + r, none⟩ v) (cs.set r v) x') (hv : v.ownBlock = none) :
    RowsIn F e sz lo hi (w.setCell ⟨g, q * sz + r, none⟩ v) (some ⟨g, 0, none⟩) n c (l.set q x') (css.set q (cs.set r v)) := by
  have hl : ∀ b, Leads (cs.set r v) b → Leads cs b := fun b ⟨u, hu, hb⟩ => by
    rcases List.mem_or_eq_of_mem_set hu with hu | rfl
    · exact ⟨u, hu, hb⟩
    · rw [hv] at hb; cases hb
  have hC : Ch (fun b => b = g) w (w.setCell ⟨g, q * sz + r, none⟩ v) := (Ch.refl (S := fun b => b = g) w).setCell (p := ⟨g, q * sz + r, none⟩) rfl v
  refine ⟨?_, h.subs.set E hq hC (fun b hb => .inr (fun cs'' h'' h3 => h.off cs'' h'' b h3 (by subst hb; simp [BlkOf]))) hx hl, fun cs' h' b hb => ?_, by simpa using h.nl⟩
  · rw [flat_set (h.subs.lens E) hq hr]
    exact (h.row.store (q * sz + r) v).1
  · rcases List.mem_or_eq_of_mem_set h' with h' | rfl
    · exact h.off cs' h' b hb
    · exact h.off cs (List.mem_of_getElem? hq) b (hl b hb)
theorem set_same {β : Type} {l : List β} {q : Nat} {x : β} (h : l[q]? = some x) : l.set q x = l := by
  apply List.ext_getElem?; intro j; rw [List.getElem?_set]
  by_cases e : q = j
  · subst e; rw [if_pos rfl, h]; simp [(List.getElem?_eq_some_iff.1 h).1]
  · rw [if_neg e]
/-- what element q leads to is changed -/
theorem RowsIn.stl (E : Elem F sz) {S : Nat → Prop} (h : RowsIn F e sz lo hi w A n c l css) (hq : css[q]? = some cs) (hc : Ch S w w') (hS : ∀ b, S b → Leads cs b) (hx : F lo hi w' cs x') : RowsIn F e sz lo hi w' A n c (l.set q x') css := by
  have hmem := List.mem_of_getElem? hq
  refine ⟨⟨own_ch h.row.own hc (fun b hb hb2 => h.off _ hmem b (hS b hb2) (blk_of hb)), h.row.lt⟩, ?_, h.off, by simpa using h.nl⟩
  have := h.subs.set E hq hc (fun b hb => .inl (hS b hb)) hx (fun b hb => hb)
  rwa [set_same hq] at this
end

end Go.Proofs.Ytbijkdpifnncmaa
