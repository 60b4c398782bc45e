/- The laws' helpers on lists of entries in one shape. -/
import Derived.Test.YtbijkdpifnncmaaStrRow
import Derived.Test.YtbijkdpifnncmaaNest
import Derived.Test.YtbijkdpifnncmaaFrame
import Derived.Test.YtbijkdpifnncmaaRowAt
import Derived.Deep.RegionHeld3
import Derived.StillTailTactics
import Derived.BigQuiet
import Derived.Deep.QuietTactic
namespace Go.Proofs.Ytbijkdpifnncmaa
open Go.RowKit
attribute [local irreducible] StrsAt

/-- an entry: its path, its chunks -/
structure Ent where
  p : ByteArray
  ch : List ByteArray
def entNil : Ent := ⟨ByteArray.empty, []⟩
def enAt (l : List Ent) (i : Nat) : Ent := l.getD i entNil
theorem enAt_get {l : List Ent} {k : Nat} (h : k < l.length) : enAt l k = l[k] := by simp [enAt, h]
/-- a row of entries -/
def EntsAt (w : World) (A : Option Addr) (n : Nat) (l : List Ent) : Prop := n = l.length ∧ (0 < n → ∃ b off, A = some ⟨b, off, none⟩ ∧ b < w.heap.size ∧ ∀ i, i < n → w.cell? ⟨b, off + i * 2, none⟩ = some (.string (enAt l i).p) ∧
  ∃ A' n' c', w.cell? ⟨b, off + i * 2 + 1, none⟩ = some (.slice A' n' c') ∧ StrsAt w A' n' (enAt l i).ch ∧ (A' = none → c' = 0))
section
variable {w w' : World} {A : Option Addr} {n : Nat} {l : List Ent}
theorem EntsAt.keep (h : EntsAt w A n l) (hb : Below w.heap.size w w') : EntsAt w' A n l := by
  refine ⟨h.1, fun hn => ?_⟩
  obtain ⟨b, off, rfl, hlt, hc⟩ := h.2 hn
  refine ⟨b, off, rfl, Nat.lt_of_lt_of_le hlt hb.size, fun i hi => ?_⟩
  obtain ⟨h0, A', n', c', h1, h2, h3⟩ := hc i hi
  exact ⟨(hb.cell hlt).trans h0, A', n', c', (hb.cell hlt).trans h1, h2.keep hb, h3⟩
theorem EntsAt.at_ (h : EntsAt w A n l) (hn : 0 < n) : ∃ b off, A = some ⟨b, off, none⟩ ∧ b < w.heap.size ∧ ∀ i, i < n → w.cell? ⟨b, off + i * 2, none⟩ = some (.string (enAt l i).p) ∧
  ∃ A' n' c', w.cell? ⟨b, off + i * 2 + 1, none⟩ = some (.slice A' n' c') ∧ StrsAt w A' n' (enAt l i).ch ∧ (A' = none → c' = 0) := h.2 hn
end
/-- an entry's cells that came in -/
def CEnt (w : World) (cs : List Value) (x : Ent) : Prop := ∃ A n c, cs = [.string x.p, .slice A n c] ∧ StrsAt w A n x.ch ∧ (A = none → c = 0) ∧ n ≤ 9223372036854775807 ∧ x.p.size ≤ 9223372036854775807 ∧ ∀ i, i < n → (sAt x.ch i).size ≤ 9223372036854775807
theorem EntsAt.of_row {w : World} {A : Option Addr} {n : Nat} {l : List Ent} (h : RowAt CEnt 2 w A n l) : EntsAt w A n l := by
  have hl := h.1
  refine ⟨hl, fun hn => ?_⟩
  obtain ⟨b, off, rfl, hlt, hc⟩ := h.2 hn
  refine ⟨b, off, rfl, hlt, fun i hi => ?_⟩
  obtain ⟨cs, ⟨A', n', c', rfl, h2, h3, _⟩, _, hcell⟩ := hc i (enAt l i) (by rw [enAt_get (by omega)]; exact List.getElem?_eq_getElem (by omega))
  exact ⟨by simpa using hcell 0 _ rfl, A', n', c', by simpa using hcell 1 _ rfl, h2, h3⟩
structure EntsOk (w : World) (A : Option Addr) (n : Nat) (l : List Ent) : Prop where
  at_ : EntsAt w A n l
  bn : n ≤ 9223372036854775807
  bs : ∀ i, i < n → (enAt l i).p.size ≤ 9223372036854775807 ∧ (enAt l i).ch.length ≤ 9223372036854775807 ∧ ∀ j, j < (enAt l i).ch.length → (sAt (enAt l i).ch j).size ≤ 9223372036854775807
theorem EntsOk.keep {w w' : World} {A : Option Addr} {n : Nat} {l : List Ent} (h : EntsOk w A n l) (hb : Below w.heap.size w w') : EntsOk w' A n l := ⟨h.at_.keep hb, h.bn, h.bs⟩
section
attribute [local semireducible] StrsAt
theorem StrsAt.nn {w : World} {A : Option Addr} {n : Nat} {l : List ByteArray} (h : StrsAt w A n l) : n = l.length := h.1
end
theorem EntsOk.of_row {w : World} {A : Option Addr} {n : Nat} {l : List Ent} (h : RowAt CEnt 2 w A n l) (hn : n ≤ 9223372036854775807) : EntsOk w A n l := by
  refine ⟨EntsAt.of_row h, hn, fun i hi => ?_⟩
  obtain ⟨b, off, rfl, hlt, hc⟩ := h.2 (by omega)
  have hl := h.1
  obtain ⟨cs, ⟨A', n', c', rfl, h2, h3, h4, h5, h6⟩, _⟩ := hc i (enAt l i) (by rw [enAt_get (by omega)]; exact List.getElem?_eq_getElem (by omega))
  have := h2.nn
  exact ⟨h5, by omega, fun j hj => h6 j (by omega)⟩

/-- an entry of the call's own -/
def FEnt (lo hi : Nat) (w : World) (cs : List Value) (x : Ent) : Prop := ∃ A n c, cs = [.string x.p, .slice A n c] ∧ StrsIn lo hi w A n c x.ch
theorem leads2 {s : ByteArray} {v : Value} {b : Nat} (h : Leads [.string s, v] b) : v.ownBlock = some b := by
  obtain ⟨u, hu, hb⟩ := h
  simp at hu
  rcases hu with rfl | rfl
  · simp [Value.ownBlock] at hb
  · exact hb
theorem leads2_mk {s : ByteArray} {v : Value} {b : Nat} (h : v.ownBlock = some b) : Leads [.string s, v] b := ⟨v, by simp, h⟩
theorem elemEnt : Elem FEnt 2 where
  len := fun ⟨A, n, c, h, _⟩ => by subst h; rfl
  leads := fun ⟨A, n, c, h, hi⟩ hb => by subst h; exact hi.row.blk (blk_of (leads2 hb))
  ch := fun ⟨A, n, c, h, hi⟩ hc hS => by
    subst h
    exact ⟨A, n, c, rfl, ⟨⟨own_ch hi.row.own hc (fun k hk => hS k (leads2_mk hk)), hi.row.lt⟩⟩⟩
  wide := fun ⟨A, n, c, h, hi⟩ h1 h2 => ⟨A, n, c, h, hi.wide h1 h2⟩
structure EntsIn (lo hi : Nat) (w : World) (A : Option Addr) (n c : Nat) (l : List Ent) : Prop where
  ex : ∃ css, RowsIn FEnt 33 2 lo hi w A n c l css
theorem own_cap0 {w : World} {base e sz n c : Nat} {A : Option Addr} {xs : List Value} (h : w.ownsRow base e sz (.slice A n c) n xs) : A = none → c = 0 := fun hA => by
  rcases own_form h with ⟨_, _, h0, _⟩ | ⟨g, hg, _⟩
  · exact h0
  · rw [hA] at hg; cases hg
section
variable {lo hi lo' hi' n c : Nat} {w w' : World} {A : Option Addr} {l : List Ent}
theorem EntsIn.keep (h : EntsIn lo hi w A n c l) (hb : Below w.heap.size w w') : EntsIn lo hi w' A n c l := ⟨by obtain ⟨css, h⟩ := h.ex; exact ⟨css, h.keep elemEnt hb⟩⟩
theorem EntsIn.ch {S : Nat → Prop} (h : EntsIn lo hi w A n c l) (hc : Ch S w w') (hS : ∀ k, Iv lo hi k → ¬ S k) : EntsIn lo hi w' A n c l := ⟨by obtain ⟨css, h⟩ := h.ex; exact ⟨css, h.ch elemEnt hc hS⟩⟩
theorem EntsIn.wide (h : EntsIn lo hi w A n c l) (h1 : lo' ≤ lo) (h2 : hi ≤ hi') : EntsIn lo' hi' w A n c l := ⟨by obtain ⟨css, h⟩ := h.ex; exact ⟨css, h.wide elemEnt h1 h2⟩⟩
theorem EntsIn.len (h : EntsIn lo hi w A n c l) : n = l.length := by obtain ⟨css, h⟩ := h.ex; exact h.nl
theorem EntsIn.at_ (h : EntsIn lo hi w A n c l) : EntsAt w A n l := by
  obtain ⟨css, h⟩ := h.ex
  refine ⟨h.nl, fun h0 => ?_⟩
  obtain ⟨g, cs, x, hA, _⟩ := h.elem elemEnt h0
  subst hA
  have hg := (h.row.blk (g := g) (by simp [BlkOf])).2
  refine ⟨g, 0, rfl, hg, fun i hi => ?_⟩
  obtain ⟨g', cs, x, hA, hci, hxi, ⟨A', n', c', rfl, hin⟩, hcell⟩ := h.elem elemEnt hi
  injection hA with hA; injection hA with hA _ _; subst hA
  have hx : enAt l i = x := by simp [enAt, hxi]
  rw [hx]
  exact ⟨by simpa using hcell 0 _ rfl, A', n', c', by simpa using hcell 1 _ rfl, hin.at_, own_cap0 hin.row.own⟩
theorem EntsIn.nil : EntsIn lo hi w none 0 0 [] := ⟨⟨[], RowsIn.nil⟩⟩
end
/-- the answer is entries in memory of the call's own -/
def EntsR (l : List Ent) (w : World) (e : Ending) (w' : World) : Prop :=
  ∃ A n c, e = .returned (.slice A n c) ∧ EntsIn w.heap.size w'.heap.size w' A n c l ∧ Below w.heap.size w w'
def entSz (x : Ent) : Nat := x.p.size + strsSz x.ch
def entsSz (l : List Ent) : Nat := l.length + (l.map entSz).sum
theorem ents_n {w : World} {A : Option Addr} {n : Nat} {l : List Ent} {m : Nat} (h : EntsAt w A n l) (hs : entsSz l ≤ m) : n ≤ m := by
  have := h.1; unfold entsSz at hs; omega
theorem ents_el {l : List Ent} {m : Nat} (hs : entsSz l ≤ m) (i : Nat) : entSz (enAt l i) ≤ m := by
  rcases Nat.lt_or_ge i l.length with h | h
  · rw [enAt_get h]
    have h1 := sumTo_succ entSz l i h
    have h2 := sumTo_le entSz l (i + 1)
    unfold entsSz at hs; omega
  · simp [enAt, h, entSz, entNil, strsSz]

theorem set2c {W : World} {g : Nat} {u v a b : Value} (k0 : W.cell? ⟨g, 0, none⟩ = some a) (k1 : W.cell? ⟨g, 1, none⟩ = some b) :
    ∃ WF, WF = (W.setCell ⟨g, 0, none⟩ u).setCell ⟨g, 1, none⟩ v ∧ WF.cell? ⟨g, 0, none⟩ = some u ∧ WF.cell? ⟨g, 1, none⟩ = some v :=
  ⟨_, rfl, setoff (sethere k0) (.inr (by omega)), sethere (setoff k1 (.inr (by omega)))⟩

theorem infoEntry : (Try.prog.info? 33).map (fun i => (i.zero, i.size, i.bytes)) = some (some (.agg #[.string ByteArray.empty, .slice none 0 0]), 2, 40) := by kernel_rfl

/-- two cells behind a row's first k elements -/
theorem fill2 {xs : List Value} {css : List (List Value)} {k n : Nat} {a b : Value} (hx : ∀ j, j < k * 2 → xs[j]? = css.flatten[j]?) (hl : xs.length = n * 2) (hk : k < n) (hf : css.flatten.length = k * 2) :
    ∀ j, j < (k + 1) * 2 → ((xs.set (k * 2) a).set (k * 2 + 1) b)[j]? = (css ++ [[a, b]]).flatten[j]? := by
  intro j hj
  rw [flat_snoc]
  simp only [List.getElem?_set, List.length_set]
  by_cases e : j < k * 2
  · rw [if_neg (by omega), if_neg (by omega), List.getElem?_append_left (by omega)]
    exact hx j e
  · rw [List.getElem?_append_right (by omega), hf]
    rcases (show j = k * 2 ∨ j = k * 2 + 1 by omega) with e | e
    · subst e; rw [if_neg (by omega), if_pos rfl, if_pos (by omega)]; simp
    · subst e; rw [if_pos rfl, if_pos (by omega)]; simp
theorem take_snoc2 {α : Type} (l : List α) (k : Nat) (h : k < l.length) : l.take (k + 1) = l.take k ++ [l[k]] := List.take_succ_eq_append_getElem h
theorem own_size {w : World} {base e sz n c g : Nat} {xs : List Value} (h : w.ownsRow base e sz (.slice (some ⟨g, 0, none⟩) n c) n xs) : g < w.heap.size :=
  (own_form h).elim (fun h => by obtain ⟨h, _⟩ := h; cases h) (fun ⟨g', hg, _, hlt⟩ => by injection hg with hg; injection hg with hg _ _; omega)

section
open Go.ChangeShapes Go.WideShapes Go.ChangeAt Go.Deep
variable {H : Type} {enc : TypeId × Value → H} {w : World} {base : Nat} {spare : Nat → Bool} {held : Bool}
theorem cellsStringL : Try.prog.cellsOf 9 = 1 := by kernel_rfl
theorem cellsStrsL : Try.prog.cellsOf 31 = 1 := by kernel_rfl
theorem two_of {cs : List Value} (h : cs.length = 2) : ∃ a b, cs = [a, b] := by
  match cs, h with
  | [a, b], _ => exact ⟨a, b, rfl⟩
set_option maxRecDepth 8000 in
theorem trod_strs {fu : Nat} {cs : List Value} {y : DataW H × List MemPlace} (h : DataW.trod enc Try.prog w base spare held fu 31 cs = some y) :
    ∃ A n c l, cs = [.slice A n c] ∧ StrsAt w A n l ∧ (A = none → c = 0) ∧ n ≤ 9223372036854775807 ∧ ∀ i, i < n → (sAt l i).size ≤ 9223372036854775807 := by
  obtain ⟨A, n, c, l, hcs, hr, hn, _, hc⟩ := open_rows_cs (C := fun _ cs (x : ByteArray) => cs = [.string x] ∧ x.size ≤ 9223372036854775807) Try.underlying31 cellsStringL (by omega) (fun fu cs y h => by obtain ⟨m, hm, hw⟩ := trod_str1 Try.underlying9 h; exact ⟨m, hm, hw⟩) h
  have hl := hr.1
  refine ⟨A, n, c, l, hcs, ?_, hc, hn, fun i hi => ?_⟩
  · unfold StrsAt
    refine ⟨hl, fun h0 => ?_⟩
    obtain ⟨b, off, rfl, hlt, hcell⟩ := hr.2 h0
    refine ⟨b, off, rfl, hlt, fun i hi => ?_⟩
    obtain ⟨cs', ⟨hx, _⟩, _, hc'⟩ := hcell i (sAt l i) (by rw [sAt_get (by omega)]; exact List.getElem?_eq_getElem (by omega))
    subst hx
    simpa using hc' 0 _ rfl
  · obtain ⟨b, off, rfl, hlt, hcell⟩ := hr.2 (by omega)
    obtain ⟨cs', ⟨_, hw⟩, _⟩ := hcell i (sAt l i) (by rw [sAt_get (by omega)]; exact List.getElem?_eq_getElem (by omega))
    exact hw
end
end Go.Proofs.Ytbijkdpifnncmaa
