/- Contract of copyTexts. -/
import Derived.Test.YtfbfomlgjghcmaaDoorStrRow
namespace Go.Proofs.YtfbfomlgjghcmaaDoor
open Go.RowKit
theorem strsT_one (l : List ByteArray) : ∀ u ∈ l.map Value.string, u.oneCell' = true := by
  intro u hu; obtain ⟨x, _, rfl⟩ := List.mem_map.1 hu; rfl
theorem StrsIn.nilcap {lo hi n c : Nat} {w : World} {A : Option Addr} {l : List ByteArray} (h : StrsIn lo hi w A n c l) : A = none → c = 0 := fun e => by
  subst e
  rcases own_form h.row.own with ⟨_, _, hc, _⟩ | ⟨g, hg, _⟩
  · exact hc
  · cases hg
theorem copyTextsT (A : Option Addr) (n c : Nat) (l : List ByteArray) (w : World) (h : StrsAt w A n l) (hc : A = none → c = 0) (hn : n ≤ 16777216) :
    Calls Tryd.prog 36 #[.slice A n c] w fun e w' => ∃ A' c', e = .returned (.slice A' n c') ∧ StrsIn w.heap.size w'.heap.size w' A' n c' l ∧ Below w.heap.size w w' := by
  have hcl := h.cells
  have hown := World.ownsRow_nil w w.heap.size 9 1
  have hz := Nat.le_refl w.heap.size
  go_enter Tryd.func36, Tryd.ntmps36
  go_wp2_with (at_builtin; refine wpList_app (P := Tryd.prog) w rfl (.const (.slice none 0 0)) (.tmp 3) 22 rfl w.heap.size 9 _ 1 16 Tryd.underlying22 infoString rfl (by omega) (.slice none 0 0) 0 [] rfl hown A n c (l.map Value.string) rfl hcl (strsT_one _) hc (by unfold maxLen; omega) (by omega) hz ?_; intro A' c' w1 hown1 hg1 hb1 _)
  go_returns
  simp only [Nat.zero_add, List.nil_append] at hown1 ⊢
  exact ⟨A', c', rfl, ⟨RowIn.of_own hown1⟩, hb1⟩
end Go.Proofs.YtfbfomlgjghcmaaDoor
