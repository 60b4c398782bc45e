/- Contracts and lemmas: Base, Mem, Own, Ints, Frame, RowAt, Code0, Row, Draw, NumA, ByteRow, DrawX, DrawP, Dag, DagB. -/
import Derived.WalkKit
import Derived.WalkLawsBesides
import Derived.WalkSpells
import Derived.Lib.Hide
import Derived.Lib.Strings
import Derived.Handy
import Derived.Maps.AppendAt
import Derived.Deep.AppendLies
import Derived.OwnWalk
import Derived.Test.YtbijkdpifnncmaaRows
import Derived.BigQuiet
import Derived.Deep.QuietTactic
import Derived.StillTailTactics
import Derived.ProofKit
import Derived.OpenShut
import Derived.SliceStrings
import Derived.Lib.SmallJoins
import Derived.Deep.Slices
import Derived.Deep.Fields
import Derived.Laws.Bits128
import Derived.OrdersHeld
import Derived.Deep.RegionHeld3
/- Plain lemmas and predicates on memory that all walks of this seat use. -/
namespace Go.Proofs.Ytbijkdpifnncmaa
open Go.RowKit

theorem ret_bool {a b : Bool} (h : a = b) : Ending.returned (.bool a) = .returned (.bool b) := by rw [h]
theorem ret_int {a b : Int} (h : a = b) : Ending.returned (.int .i64 a) = .returned (.int .i64 b) := by rw [h]
theorem beq_bool {a b : Bool} (h : a = true ↔ b = true) : a = b := Bool.eq_iff_iff.2 h

theorem bcell {W w1 : World} (hb : Below W.heap.size W w1) : (∀ b o, b < W.heap.size → w1.cell? ⟨b, o, none⟩ = W.cell? ⟨b, o, none⟩) ∧ (∀ b o, b < W.heap.size → w1.frozen? ⟨b, o, none⟩ = W.frozen? ⟨b, o, none⟩) :=
  ⟨fun b o h => hb.cell (p := ⟨b, o, none⟩) h, fun b o h => hb.frozen (p := ⟨b, o, none⟩) h⟩

theorem cell_lt {w : World} {b o : Nat} {v : Value} (h : w.cell? ⟨b, o, none⟩ = some v) : b < w.heap.size := World.block_lt_of_cell? w ⟨b, o, none⟩ h

theorem keep_cell {W w1 : World} (hb : Below W.heap.size W w1) {b o : Nat} {v : Value} (h : W.cell? ⟨b, o, none⟩ = some v) : w1.cell? ⟨b, o, none⟩ = some v := (hb.cell (p := ⟨b, o, none⟩) (cell_lt h)).trans h
theorem keep_alloc {W : World} {b o : Nat} {v : Value} (h : W.cell? ⟨b, o, none⟩ = some v) (x : Obj) : (W.alloc x).cell? ⟨b, o, none⟩ = some v := (World.cell?_alloc_lt _ _ _ (cell_lt h)).trans h
theorem keep_set {W : World} {b o g j : Nat} {v u : Value} (h : W.cell? ⟨b, o, none⟩ = some v) (hg : g ≠ b) : (W.setCell ⟨g, j, none⟩ u).cell? ⟨b, o, none⟩ = some v :=
  (World.cell?_setCell_other W ⟨g, j, none⟩ ⟨b, o, none⟩ u (fun e => hg (by injection e))).trans h
/-- what is known of old memory behind a call: cells, marks, sizes -/
theorem bcell3 {W w1 : World} (hb : Below W.heap.size W w1) : (∀ b o, b < W.heap.size → w1.cell? ⟨b, o, none⟩ = W.cell? ⟨b, o, none⟩) ∧ (∀ b o, b < W.heap.size → w1.frozen? ⟨b, o, none⟩ = W.frozen? ⟨b, o, none⟩) ∧ (∀ n, n < W.heap.size → n < w1.heap.size) :=
  ⟨fun b o h => hb.cell (p := ⟨b, o, none⟩) h, fun b o h => hb.frozen (p := ⟨b, o, none⟩) h, fun _ h => Nat.lt_of_lt_of_le h hb.size⟩
theorem bthen {w W w1 : World} (h : Below w.heap.size w W) (hb : Below W.heap.size W w1) : Below w.heap.size w w1 := h.trans (hb.mono h.size)

/-! ### bytes and strings -/
theorem byte_wrap (b : UInt8) : wrap64 (b.toNat : Int) = b.toNat := by
  have := b.toNat_lt
  exact IntWalk.wrap64_in _ ⟨by omega, by omega⟩
theorem str_len (s : ByteArray) : s.toList.length = s.size := by rw [Lib.toList_data, Lib.size_eq]
theorem str_ne {s : ByteArray} (h : 0 < s.size) : s.toList.isEmpty = false := by
  have := str_len s
  cases hl : s.toList with
  | nil => rw [hl] at this; simp at this; omega
  | cons _ _ => rfl
theorem str_nil {s : ByteArray} (h : ¬ 0 < s.size) : s.toList.isEmpty = true := by
  have := str_len s
  rw [List.isEmpty_iff, ← List.length_eq_zero_iff]; omega

theorem str_ext {a b : ByteArray} (h : a.toList = b.toList) : a = b := by
  rw [Lib.toList_data, Lib.toList_data] at h
  have h1 : a.data = b.data := Array.toList_inj.1 h
  cases a; cases b; simp_all
theorem str_beq (a b : ByteArray) : (a.toList == b.toList) = decide (a = b) := by
  rw [Bool.eq_iff_iff]; simp
  exact ⟨str_ext, fun h => by rw [h]⟩
theorem str_beq_yes {a b : ByteArray} (h : (!(a.toList == b.toList)) = false) : a = b := by
  rw [str_beq] at h; simpa using h
theorem str_beq_no {a b : ByteArray} (h : (!(a.toList == b.toList)) = true) : a ≠ b := by
  rw [str_beq] at h; simpa using h

/-- byte i of a text, 0 behind its end -/
def bAt (s : ByteArray) (i : Nat) : Nat := if h : i < s.size then (s[i]'h).toNat else 0
theorem bAt_get {s : ByteArray} {i : Nat} (h : i < s.size) : (s[i]'h).toNat = bAt s i := by unfold bAt; rw [dif_pos h]
theorem bAt_lt (s : ByteArray) (i : Nat) : bAt s i < 256 := by
  unfold bAt; split
  · exact UInt8.toNat_lt _
  · omega

/-! ### all over a range -/
theorem all_yes {n : Nat} {p : Nat → Bool} (h : ∀ j, j < n → p j = true) : (List.range n).all p = true := by
  rw [List.all_eq_true]; intro x hx; exact h x (List.mem_range.1 hx)
theorem all_no {n k : Nat} {p : Nat → Bool} (hk : k < n) (h : p k = false) : (List.range n).all p = false := by
  rw [List.all_eq_false]; exact ⟨k, List.mem_range.2 hk, by simp [h]⟩
theorem upto_succ {p : Nat → Bool} {k : Nat} (h : ∀ j, j < k → p j = true) (hk : p k = true) : ∀ j, j < k + 1 → p j = true := by
  intro j hj
  rcases Nat.lt_or_ge j k with h' | h'
  · exact h j h'
  · obtain rfl : j = k := by omega
    exact hk

/-- string i of a list -/
def sAt (l : List ByteArray) (i : Nat) : ByteArray := l.getD i ByteArray.empty

/-! ### sums of sizes -/
/-- the sum of f over the first k of a list -/
def sumTo {α : Type} (f : α → Nat) (l : List α) (k : Nat) : Nat := ((l.take k).map f).sum
theorem sumTo_zero {α : Type} (f : α → Nat) (l : List α) : sumTo f l 0 = 0 := by simp [sumTo]
theorem sumTo_succ {α : Type} (f : α → Nat) (l : List α) (k : Nat) (h : k < l.length) : sumTo f l (k + 1) = sumTo f l k + f l[k] := by
  unfold sumTo; rw [List.take_succ_eq_append_getElem h, List.map_append, List.sum_append]; simp only [List.map_cons, List.map_nil, List.sum_cons, List.sum_nil, Nat.add_zero]
theorem sumTo_le {α : Type} (f : α → Nat) (l : List α) (k : Nat) : sumTo f l k ≤ (l.map f).sum := by
  have h : (l.map f).sum = ((l.take k).map f).sum + ((l.drop k).map f).sum := by
    rw [← List.sum_append, ← List.map_append, List.take_append_drop]
  unfold sumTo; omega
theorem sumTo_all {α : Type} (f : α → Nat) (l : List α) (k : Nat) (h : l.length ≤ k) : sumTo f l k = (l.map f).sum := by
  unfold sumTo; rw [List.take_of_length_le h]
theorem sAt_get {l : List ByteArray} {k : Nat} (h : k < l.length) : sAt l k = l[k] := by simp [sAt, h]
theorem sAt_ext {l l' : List ByteArray} (hl : l.length = l'.length) (h : ∀ j, j < l.length → sAt l j = sAt l' j) : l = l' := by
  apply List.ext_getElem hl
  intro j h1 h2
  have := h j h1
  rwa [sAt_get h1, sAt_get h2] at this
/-- what a list of strings takes: its length and its letters -/
def strsSz (l : List ByteArray) : Nat := l.length + (l.map ByteArray.size).sum
/-- what a size law answers: what is left, or -1 -/
def szR (left : Int) (s : Nat) : Int := if (s : Int) ≤ left then left - s else -1
theorem szR_yes {left : Int} {s : Nat} (h : (s : Int) ≤ left) : szR left s = left - s := if_pos h
theorem szR_no {left : Int} {s : Nat} (h : left < (s : Int)) : szR left s = -1 := if_neg (by omega)

/-! ### slices that are read -/
/-- the slice value's address A, n elements: a row of strings -/
def StrsAt (w : World) (A : Option Addr) (n : Nat) (l : List ByteArray) : Prop :=
  n = l.length ∧ (0 < n → ∃ b off, A = some ⟨b, off, none⟩ ∧ b < w.heap.size ∧ ∀ i, i < n → w.cell? ⟨b, off + i, none⟩ = some (.string (sAt l i)))

theorem StrsAt.at_ {w : World} {A : Option Addr} {n : Nat} {l : List ByteArray} (h : StrsAt w A n l) (hn : 0 < n) :
    ∃ b off, A = some ⟨b, off, none⟩ ∧ b < w.heap.size ∧ ∀ i, i < n → w.cell? ⟨b, off + i, none⟩ = some (.string (sAt l i)) := h.2 hn
theorem StrsAt.keep {w w' : World} {A : Option Addr} {n : Nat} {l : List ByteArray} (h : StrsAt w A n l) (hb : Below w.heap.size w w') : StrsAt w' A n l := by
  refine ⟨h.1, fun hn => ?_⟩
  obtain ⟨b, off, rfl, hlt, hc⟩ := h.2 hn
  exact ⟨b, off, rfl, Nat.lt_of_lt_of_le hlt hb.size, fun i hi => (hb.cell hlt).trans (hc i hi)⟩
/-! ### rows of the call's own -/
theorem list_of_get {α : Type} {xs : List α} {n : Nat} {g : Nat → α} (hn : xs.length = n) (h : ∀ j, j < n → xs[j]? = some (g j)) : xs = (List.range n).map g := by
  apply List.ext_getElem?
  intro j
  rcases Nat.lt_or_ge j n with hj | hj
  · rw [h j hj]; simp [hj]
  · rw [List.getElem?_eq_none (by omega), List.getElem?_eq_none (by simp; omega)]
theorem map_sAt (l : List ByteArray) : (List.range l.length).map (fun j => Value.string (sAt l j)) = l.map Value.string := by
  apply List.ext_getElem?
  intro j
  rcases Nat.lt_or_ge j l.length with hj | hj
  · simp [hj, sAt]
  · rw [List.getElem?_eq_none (by simp; omega), List.getElem?_eq_none (by simp; omega)]
theorem set_upto {α : Type} {xs : List α} {k n : Nat} {g : Nat → α} (hn : xs.length = n) (hk : k < n) (h : ∀ j, j < k → xs[j]? = some (g j)) {u : α} (hu : u = g k) : ∀ j, j < k + 1 → (xs.set k u)[j]? = some (g j) := by
  intro j hj
  rw [List.getElem?_set]
  by_cases e : k = j
  · subst e; rw [if_pos rfl, if_pos (by omega), hu]
  · rw [if_neg e]; exact h j (by omega)
theorem own_cell {w : World} {base e sz g n cap : Nat} {xs : List Value} (h : w.ownsRow base e sz (.slice (some ⟨g, 0, none⟩) n cap) n xs) {j : Nat} (hj : j < n * sz) : ∃ v, w.cell? ⟨g, j, none⟩ = some v := by
  have hl := h.1
  exact ⟨xs[j]'(by omega), (h.cellAt j hj).trans (List.getElem?_eq_getElem (by omega))⟩
/-- an owned row of strings reads as that list -/
theorem StrsAt.of_own {w : World} {base e : Nat} {A : Option Addr} {n c : Nat} {l : List ByteArray} (h : w.ownsRow base e 1 (.slice A n c) n (l.map Value.string)) : StrsAt w A n l := by
  have hlen : l.length = n := by simpa using h.1
  refine ⟨hlen.symm, fun hn => ?_⟩
  rcases h.2 with ⟨_, h0⟩ | ⟨g, cap, cur, hv, hb, hg, _⟩
  · omega
  · injection hv with hA _ _
    subst hA
    have hcell := h.cells (g := g) rfl
    refine ⟨g, 0, rfl, (Array.getElem?_eq_some_iff.1 hg).1, fun i hi => ?_⟩
    have := hcell i (.string (sAt l i)) (by simp [sAt, hlen, hi])
    rw [Addr.add_lit] at this
    exact this

/-! ### quiet calls -/
theorem quiet_l {P : Program} {f : FuncId} {args : Array Value} {w : World} {n : Nat} {v : Value}
    (h : Calls P f args (w.drewN n) fun e w' => e = .returned v ∧ w.drewN n = w') : Calls P f args (w.drewN n) fun e w'' => e = .returned v ∧ ∃ m, w'' = w.drewN m :=
  h.mono fun _ _ ⟨he, hm⟩ => ⟨he, n, hm.symm⟩
theorem quiet_la {P : Program} {f : FuncId} {args : Array Value} {w : World} {a n : Nat} {v : Value}
    (h : Calls P f args (w.drewN (a + n)) fun e w' => e = .returned v ∧ w.drewN (a + n) = w') :
    Calls P f args (w.drewN (a + n)) fun e w'' => e = .returned v ∧ ∃ m, w'' = w.drewN (a + m) :=
  h.mono fun _ _ ⟨he, hm⟩ => ⟨he, n, hm.symm⟩
end Go.Proofs.Ytbijkdpifnncmaa
/- Laws on rows of the call's own: append, make. -/
namespace Go.Proofs.Ytbijkdpifnncmaa
open Go.RowKit

/-- n elements of sz cells lie at A, the cells news -/
def CellsAt (w : World) (A : Option Addr) (n sz : Nat) (news : List Value) : Prop :=
  news.length = n * sz ∧ (0 < n → ∃ b off, A = some ⟨b, off, none⟩ ∧ ∀ j u, news[j]? = some u → w.cell? ⟨b, off + j, none⟩ = some u)

theorem CellsAt.keep {w w' : World} {A : Option Addr} {n sz : Nat} {news : List Value} (h : CellsAt w A n sz news) (hb : Below w.heap.size w w') : CellsAt w' A n sz news :=
  ⟨h.1, fun hn => by
    obtain ⟨b, off, rfl, hc⟩ := h.2 hn
    exact ⟨b, off, rfl, fun j u hu => keep_cell hb (hc j u hu)⟩⟩
theorem StrsAt.cells {w : World} {A : Option Addr} {n : Nat} {l : List ByteArray} (h : StrsAt w A n l) : CellsAt w A n 1 (l.map Value.string) := by
  refine ⟨by simp [h.1], fun hn => ?_⟩
  obtain ⟨b, off, rfl, _, hc⟩ := h.2 hn
  refine ⟨b, off, rfl, fun j u hu => ?_⟩
  have hj : j < l.length := by
    rcases Nat.lt_or_ge j l.length with h' | h'
    · exact h'
    · rw [List.getElem?_eq_none (by simpa using h')] at hu; cases hu
  have hl := h.1
  rw [hc j (by omega)]
  simp [hj] at hu
  rw [← hu, sAt_get hj]
/-- an owned row's cells -/
theorem own_cells {w : World} {base e sz n c : Nat} {A : Option Addr} {xs : List Value} (h : w.ownsRow base e sz (.slice A n c) n xs) : CellsAt w A n sz xs := by
  refine ⟨h.1, fun hn => ?_⟩
  rcases h.2 with ⟨_, h0⟩ | ⟨g, cap, cur, hv, hb, hg, _⟩
  · omega
  · injection hv with hA _ _
    subst hA
    exact ⟨g, 0, rfl, fun j u hu => by have := h.cells (g := g) rfl j u hu; rwa [Addr.add_lit] at this⟩
/-- an owned row: nil, or the head of a block -/
theorem own_form {w : World} {base e sz n c : Nat} {A : Option Addr} {xs : List Value} (h : w.ownsRow base e sz (.slice A n c) n xs) : (A = none ∧ n = 0 ∧ c = 0 ∧ xs = []) ∨ ∃ g, A = some ⟨g, 0, none⟩ ∧ base ≤ g ∧ g < w.heap.size := by
  rcases h.2 with ⟨hv, h0⟩ | ⟨g, cap, cur, hv, hb, hg, _⟩
  · injection hv with hA _ hc
    refine .inl ⟨hA, h0, hc, List.eq_nil_of_length_eq_zero ?_⟩
    rw [h.1, h0]; simp
  · injection hv with hA _ _
    exact .inr ⟨g, hA, hb, (Array.getElem?_eq_some_iff.1 hg).1⟩
theorem own_val {w : World} {base e sz n : Nat} {v : Value} {xs : List Value} (h : w.ownsRow base e sz v n xs) : ∃ A c, v = .slice A n c := by
  rcases h.2 with ⟨rfl, rfl⟩ | ⟨g, cap, cur, rfl, _⟩
  · exact ⟨none, 0, rfl⟩
  · exact ⟨_, cap, rfl⟩
theorem below_own {w w' : World} {base e sz n : Nat} {v : Value} {xs : List Value} (h : w.ownsRow base e sz v n xs) (hg : w.grownBy w' v.ownBlock) (hb : base ≤ w.heap.size) : Below base w w' :=
  (Below.refl base w).grown hg hb (fun k hk => (h.lt k hk).1)

/-- '[]T{}' -/
theorem own_empty (w : World) (e sz : Nat) {base : Nat} (hb : base ≤ w.heap.size) : (w.alloc (.cells #[] e)).ownsRow base e sz (.slice (some ⟨w.heap.size, 0, none⟩) 0 0) 0 [] :=
  World.ownsRow_lit w #[] 0 hb (by unfold maxLen; omega) (by simp)
section
variable {P : Program} (w : World)
theorem run_app (base t ty e : TypeId) (z : Value) (size bytes : Nat) (ht : P.underlying t = some (.slice e)) (hinfo : (P.info? e).map (fun i => (i.zero, i.size, i.bytes)) = some (some z, size, bytes))
    (hzs : z.cells.size = size) (hsz : 0 < size) (v : Value) (n : Nat) (xs : List Value) (hown : w.ownsRow base e size v n xs)
    (A : Option Addr) (m c : Nat) (news : List Value) (hsrc : CellsAt w A m size news) (h1 : ∀ u ∈ news, u.oneCell' = true) (hn : A = none → c = 0)
    (h63 : n + m ≤ maxLen) (hbytes : (n + m) * bytes ≤ 140737488355328) (hbase : base ≤ w.heap.size) :
    ∃ A' c' w', (Builtin.append_ #[t, t] ty #[v, .slice A m c]).run P w = .ok (.slice A' (n + m) c') w' ∧ w'.ownsRow base e size (.slice A' (n + m) c') (n + m) (xs ++ news) ∧ w.grownBy w' v.ownBlock ∧
      ((Value.slice A' (n + m) c').ownBlock = v.ownBlock ∨ (Value.slice A' (n + m) c').ownBlock = some w.heap.size) := by
  obtain ⟨i, hi, hz, hsize, hby⟩ := info_parts hinfo
  rcases A with _ | ad
  · have hm : m = 0 := by
      rcases Nat.eq_zero_or_pos m with h0 | h0
      · exact h0
      · obtain ⟨b, off, h, _⟩ := hsrc.2 h0
        cases h
    subst hm
    obtain rfl := hn rfl
    have hnil : news = [] := List.eq_nil_of_length_eq_zero (by simpa using hsrc.1)
    subst hnil
    obtain ⟨A0, c0, rfl⟩ := own_val hown
    exact ⟨A0, c0, w, run_append_owned_none w base t ty e i size ht hi _ n xs hown, by simpa using hown, World.grownBy.refl w _, .inl rfl⟩
  · have hcells : ∀ j u, news[j]? = some u → w.cell? (ad.add j) = some u := by
      intro j u hu
      rcases Nat.eq_zero_or_pos m with h0 | h0
      · subst h0
        have hnil : news = [] := List.eq_nil_of_length_eq_zero (by simpa using hsrc.1)
        subst hnil
        simp at hu
      · obtain ⟨b, off, h, hc⟩ := hsrc.2 h0
        injection h with h
        subst h
        rw [Addr.add_lit]
        exact hc j u hu
    obtain ⟨v', w', hrun, h2, h3, _, h5⟩ := run_append_own_at (P := P) w base t ty e i z size bytes ht hi hz hsize hby hzs hsz v n xs hown ad m c news hsrc.1 hcells h1 h63 hbytes hbase
    obtain ⟨A0, c0, rfl⟩ := own_val h2
    exact ⟨A0, c0, w', hrun, h2, h3, h5⟩

/-- 'append(s, x...)', s of the call's own, x read from wherever it lies -/
theorem wpList_app {ops : Array Oper} {rest : List Oper} {o : Oper} {a : Act} {Q : Exit → Act → World → Prop} (hgd : o.guard = none) (s x : Operand) (t : TypeId)
    (ho : o.op = .call { callee := .builtin .append, args := #[s, x], argTypes := #[t, t] })
    (base : Nat) (e : TypeId) (z : Value) (size bytes : Nat) (ht : P.underlying t = some (.slice e)) (hinfo : (P.info? e).map (fun i => (i.zero, i.size, i.bytes)) = some (some z, size, bytes))
    (hzs : z.cells.size = size) (hsz : 0 < size) (v : Value) (n : Nat) (xs : List Value) (hs : a.eval s = v) (hown : w.ownsRow base e size v n xs)
    (A : Option Addr) (m c : Nat) (news : List Value) (hx : a.eval x = .slice A m c) (hsrc : CellsAt w A m size news) (h1 : ∀ u ∈ news, u.oneCell' = true) (hn : A = none → c = 0)
    (h63 : n + m ≤ maxLen) (hbytes : (n + m) * bytes ≤ 140737488355328) (hbase : base ≤ w.heap.size)
    (h : ∀ A' c' w', w'.ownsRow base e size (.slice A' (n + m) c') (n + m) (xs ++ news) → w.grownBy w' v.ownBlock → Below base w w' →
      ((Value.slice A' (n + m) c').ownBlock = v.ownBlock ∨ (Value.slice A' (n + m) c').ownBlock = some w.heap.size) → wpList P ops Q rest (a.put o.dst (.slice A' (n + m) c')) w') : wpList P ops Q (o :: rest) a w := by
  refine wpList_plain hgd fun K hK => ?_
  obtain ⟨A', c', w', hr, h2, h3, h4⟩ := run_app (P := P) w base t o.type e z size bytes ht hinfo hzs hsz v n xs hown A m c news hsrc h1 hn h63 hbytes hbase
  unfold Oper.wp execOp
  simp only [ho, resolve, invoke, builtin, Sem.run_bind, Sem.run_pure, Result.andThen_ok, List.map_toArray, List.map_cons, List.map_nil, hs, hx, hr]
  exact hK _ _ (h A' c' w' h2 h3 (below_own hown h3 hbase) h4)

/-- 'append(s, x)' of one element, s of the call's own: the element lies in the newest block -/
theorem wpList_app1 {ops : Array Oper} {rest : List Oper} {o : Oper} {a : Act} {Q : Exit → Act → World → Prop} (hgd : o.guard = none) (s x : Operand) (t : TypeId)
    (ho : o.op = .call { callee := .builtin .append, args := #[s, x], argTypes := #[t, t] })
    (base : Nat) (e : TypeId) (z : Value) (size bytes : Nat) (ht : P.underlying t = some (.slice e)) (hinfo : (P.info? e).map (fun i => (i.zero, i.size, i.bytes)) = some (some z, size, bytes))
    (hzs : z.cells.size = size) (hsz : 0 < size) (v : Value) (n : Nat) (xs : List Value) (hs : a.eval s = v) (hown : w.ownsRow base e size v n xs)
    (news : Array Value) (hx : a.eval x = .slice (some ⟨w.heap.size, 0, none⟩) 1 1) (hnl : news.size = size) (h1 : ∀ u ∈ news.toList, u.oneCell' = true)
    (h63 : n + 1 ≤ maxLen) (hbytes : (n + 1) * bytes ≤ 140737488355328) (hbase : base ≤ w.heap.size)
    (h : ∀ A' c' w', w'.ownsRow base e size (.slice A' (n + 1) c') (n + 1) (xs ++ news.toList) → w.grownBy w' v.ownBlock → Below base w w' →
      ((Value.slice A' (n + 1) c').ownBlock = v.ownBlock ∨ (Value.slice A' (n + 1) c').ownBlock = some (w.heap.size + 1)) → wpList P ops Q rest (a.put o.dst (.slice A' (n + 1) c')) w') : wpList P ops Q (o :: rest) a (w.alloc (.cells news e)) := by
  have hsrc : CellsAt (w.alloc (.cells news e)) (some ⟨w.heap.size, 0, none⟩) 1 size news.toList := by
    refine ⟨by simp [hnl], fun _ => ⟨w.heap.size, 0, rfl, fun j u hu => ?_⟩⟩
    rw [Nat.zero_add, World.cell?_alloc_new]
    simpa using hu
  refine wpList_app (P := P) (w.alloc (.cells news e)) hgd s x t ho base e z size bytes ht hinfo hzs hsz v n xs hs (hown.alloc _) _ 1 1 news.toList hx hsrc h1 (fun h => by cases h) h63 hbytes (by simp; omega) ?_
  intro A' c' w' h2 h3 h4 h5
  have hg : w.grownBy w' v.ownBlock := (World.grownBy_alloc w _ v.ownBlock).trans h3
  exact h A' c' w' h2 hg (below_own hown hg hbase) (by simpa using h5)

/-- the same, the newest block's number given by itself -/
theorem wpList_app1g {ops : Array Oper} {rest : List Oper} {o : Oper} {a : Act} {Q : Exit → Act → World → Prop} (hgd : o.guard = none) (s x : Operand) (t : TypeId)
    (ho : o.op = .call { callee := .builtin .append, args := #[s, x], argTypes := #[t, t] })
    (base : Nat) (e : TypeId) (z : Value) (size bytes : Nat) (ht : P.underlying t = some (.slice e)) (hinfo : (P.info? e).map (fun i => (i.zero, i.size, i.bytes)) = some (some z, size, bytes))
    (hzs : z.cells.size = size) (hsz : 0 < size) (v : Value) (n : Nat) (xs : List Value) (hs : a.eval s = v) (hown : w.ownsRow base e size v n xs)
    (news : Array Value) (gx : Nat) (hx : a.eval x = .slice (some ⟨gx, 0, none⟩) 1 1) (hgx : gx = w.heap.size) (hnl : news.size = size) (h1 : ∀ u ∈ news.toList, u.oneCell' = true)
    (h63 : n + 1 ≤ maxLen) (hbytes : (n + 1) * bytes ≤ 140737488355328) (hbase : base ≤ w.heap.size)
    (h : ∀ A' c' w', w'.ownsRow base e size (.slice A' (n + 1) c') (n + 1) (xs ++ news.toList) → w.grownBy w' v.ownBlock → Below base w w' →
      ((Value.slice A' (n + 1) c').ownBlock = v.ownBlock ∨ (Value.slice A' (n + 1) c').ownBlock = some (w.heap.size + 1)) → wpList P ops Q rest (a.put o.dst (.slice A' (n + 1) c')) w') : wpList P ops Q (o :: rest) a (w.alloc (.cells news e)) := by
  subst hgx
  exact wpList_app1 w hgd s x t ho base e z size bytes ht hinfo hzs hsz v n xs hs hown news hx hnl h1 h63 hbytes hbase h

/-- 'make([]T, n)' -/
theorem wpList_mk {ops : Array Oper} {rest : List Oper} {o : Oper} {a : Act} {Q : Exit → Act → World → Prop}
    (hg : o.guard = none) (l c : Operand) (t : TypeId) (hop : o.op = Op.makeSlice t l c)
    (base : Nat) (e : TypeId) (z : Value) (size bytes : Nat) (ht : P.underlying t = some (.slice e)) (hinfo : (P.info? e).map (fun i => (i.zero, i.size, i.bytes)) = some (some z, size, bytes))
    (kl kc : IntKind) (L C : Int) (n : Nat) (hl : a.eval l = .int kl L) (hc : a.eval c = .int kc C) (hL : L = (n : Int)) (hC : C = (n : Int)) (b2 : bytes * n ≤ 281474976710656) (b3 : n ≤ maxLen) (b4 : base ≤ w.heap.size)
    (hK : ∀ w', w'.ownsRow base e size (.slice (some ⟨w.heap.size, 0, none⟩) n n) n (madeCells z.cells (n * size)).toList → w.grownBy w' none → Below base w w' → wpList P ops Q rest (a.put o.dst (.slice (some ⟨w.heap.size, 0, none⟩) n n)) w') :
    wpList P ops Q (o :: rest) a w := by
  obtain ⟨i, hi, hz, hsize, hby⟩ := info_parts hinfo
  exact wpList_make_full w hg l c t hop base e i z size ht hi hz hsize kl kc L C n hl hc hL hC (by rw [hby]; exact b2) b3 b4
    (fun w' h1 h2 => hK w' h1 h2 ((Below.refl base w).grown h2 b4 (fun k hk => by cases hk)))
end
end Go.Proofs.Ytbijkdpifnncmaa
/- Frames by sets of blocks; rows that are read, with a bound on their block. -/
namespace Go.Proofs.Ytbijkdpifnncmaa
open Go.RowKit

/-- of the old blocks only those in S may have changed -/
structure Ch (S : Nat → Prop) (w w' : World) : Prop where
  os : w'.os = w.os
  tape : w'.tape = w.tape
  output : w'.output = w.output
  size : w.heap.size ≤ w'.heap.size
  block : ∀ k, k < w.heap.size → ¬ S k → w'.heap[k]? = w.heap[k]?

section
variable {S T : Nat → Prop} {a b c w w' : World}
theorem Ch.refl (w : World) : Ch S w w := ⟨rfl, rfl, rfl, Nat.le_refl _, fun _ _ _ => rfl⟩
theorem Ch.trans (h : Ch S a b) (k : Ch S b c) : Ch S a c :=
  ⟨k.os.trans h.os, k.tape.trans h.tape, k.output.trans h.output, Nat.le_trans h.size k.size, fun i hi hn => (k.block i (Nat.lt_of_lt_of_le hi h.size) hn).trans (h.block i hi hn)⟩
theorem Ch.mono (h : Ch S a b) (hST : ∀ k, S k → T k) : Ch T a b := ⟨h.os, h.tape, h.output, h.size, fun k hk hn => h.block k hk (fun hs => hn (hST k hs))⟩
theorem Ch.of_below (h : Below w.heap.size w w') : Ch S w w' := ⟨h.os, h.tape, h.output, h.size, fun k hk _ => h.block k hk⟩
theorem Ch.below {B : Nat} (h : Ch S w w') (hS : ∀ k, S k → B ≤ k) (hB : B ≤ w.heap.size) : Below B w w' := ⟨h.os, h.tape, h.output, h.size, fun k hk => h.block k (by omega) (fun hs => by have := hS k hs; omega)⟩
theorem Ch.alloc (h : Ch S a w) (o : Obj) : Ch S a (w.alloc o) := h.trans (Ch.of_below ((Below.refl _ _).alloc (Nat.le_refl _) o))
theorem Ch.drew (h : Ch S a w) : Ch S a w.drew := ⟨h.os, h.tape, h.output, h.size, h.block⟩
theorem Ch.drewN (h : Ch S a w) (n : Nat) : Ch S a (w.drewN n) := ⟨h.os, h.tape, h.output, h.size, h.block⟩
theorem Ch.setCell (h : Ch S a w) {p : Addr} (hp : S p.block) (u : Value) : Ch S a (w.setCell p u) :=
  h.trans ⟨rfl, rfl, rfl, by simp, fun k _ hn => Below.heap_setCell _ _ _ _ (fun e => hn (by rw [e]; exact hp))⟩
theorem Ch.cell (h : Ch S w w') {g o : Nat} {v : Value} (hc : w.cell? ⟨g, o, none⟩ = some v) (hn : ¬ S g) : w'.cell? ⟨g, o, none⟩ = some v :=
  (World.cell?_of_block (a := ⟨g, o, none⟩) (h.block g (cell_lt hc) hn)).trans hc
end

theorem own_ch {S : Nat → Prop} {w w' : World} {base e sz n : Nat} {v : Value} {xs : List Value} (h : w.ownsRow base e sz v n xs) (hb : Ch S w w') (hS : ∀ k, v.ownBlock = some k → ¬ S k) : w'.ownsRow base e sz v n xs := by
  refine ⟨h.1, ?_⟩
  rcases h.2 with hn | ⟨g, cap, cur, rfl, hbb, hgg, rest⟩
  · exact .inl hn
  · exact .inr ⟨g, cap, cur, rfl, hbb, by rw [hb.block g (Array.getElem?_eq_some_iff.1 hgg).1 (hS g rfl)]; exact hgg, rest⟩
theorem own_up {w : World} {base base' e sz n : Nat} {v : Value} {xs : List Value} (h : w.ownsRow base e sz v n xs) (hb : base' ≤ base) : w.ownsRow base' e sz v n xs := by
  refine ⟨h.1, ?_⟩
  rcases h.2 with hn | ⟨g, cap, cur, rfl, hbb, hgg, rest⟩
  · exact .inl hn
  · exact .inr ⟨g, cap, cur, rfl, by omega, hgg, rest⟩

/-- n elements of sz cells lie at A, in a block below s: the cells xs -/
def CellsLt (s : Nat) (w : World) (A : Option Addr) (n sz : Nat) (xs : List Value) : Prop :=
  xs.length = n * sz ∧ (0 < n → ∃ b off, A = some ⟨b, off, none⟩ ∧ b < s ∧ ∀ j u, xs[j]? = some u → w.cell? ⟨b, off + j, none⟩ = some u)

section
variable {s s' n sz : Nat} {w w' : World} {A : Option Addr} {xs : List Value}
theorem CellsLt.at_ (h : CellsLt s w A n sz xs) {k : Nat} (hk : k < n) : ∃ b off, A = some ⟨b, off, none⟩ ∧ b < s ∧ ∀ j u, xs[j]? = some u → w.cell? ⟨b, off + j, none⟩ = some u := h.2 (by omega)
theorem CellsLt.ch {S : Nat → Prop} (h : CellsLt s w A n sz xs) (hb : Ch S w w') (hS : ∀ k, S k → s ≤ k) : CellsLt s w' A n sz xs :=
  ⟨h.1, fun hn => by
    obtain ⟨b, off, rfl, hlt, hc⟩ := h.2 hn
    exact ⟨b, off, rfl, hlt, fun j u hu => hb.cell (hc j u hu) (fun hs => by have := hS b hs; omega)⟩⟩
theorem CellsLt.keep (h : CellsLt s w A n sz xs) (hb : Below w.heap.size w w') : CellsLt s w' A n sz xs :=
  h.ch (S := fun _ => False) (Ch.of_below hb) (fun _ h => h.elim)
theorem CellsLt.more (h : CellsLt s w A n sz xs) (hs : s ≤ s') : CellsLt s' w A n sz xs :=
  ⟨h.1, fun hn => by
    obtain ⟨b, off, rfl, hlt, hc⟩ := h.2 hn
    exact ⟨b, off, rfl, by omega, hc⟩⟩
theorem CellsLt.lt (h : CellsAt w A n sz xs) (hsz : 0 < sz) : CellsLt w.heap.size w A n sz xs :=
  ⟨h.1, fun hn => by
    obtain ⟨b, off, rfl, hc⟩ := h.2 hn
    have hl := h.1
    have : n ≤ n * sz := Nat.le_mul_of_pos_right n hsz
    have h0 : xs[0]? = some (xs[0]'(by omega)) := List.getElem?_eq_getElem (by omega)
    exact ⟨b, off, rfl, cell_lt (hc 0 _ h0), hc⟩⟩
theorem CellsLt.cells (h : CellsLt s w A n sz xs) : CellsAt w A n sz xs :=
  ⟨h.1, fun hn => by
    obtain ⟨b, off, rfl, hlt, hc⟩ := h.2 hn
    exact ⟨b, off, rfl, hc⟩⟩
theorem CellsLt.of_own {base e c : Nat} (h : w.ownsRow base e sz (.slice A n c) n xs) (hsz : 0 < sz) : CellsLt w.heap.size w A n sz xs := CellsLt.lt (own_cells h) hsz
end

/-! ### cells behind stores -/
theorem sethere {w : World} {g j : Nat} {v u : Value} (h : w.cell? ⟨g, j, none⟩ = some v) : (w.setCell ⟨g, j, none⟩ u).cell? ⟨g, j, none⟩ = some u := by
  unfold World.cell? at h ⊢
  cases hh : w.heap[g]? with
  | none => rw [hh] at h; simp at h
  | some o =>
    cases o <;> rw [hh] at h <;> simp at h
    rename_i c t fr
    have : g < w.heap.size := (Array.getElem?_eq_some_iff.1 hh).1
    simp [World.setCell, Array.getElem?_modify, hh]
    obtain ⟨hj, _⟩ := Array.getElem?_eq_some_iff.1 h
    simp [hj]
theorem setoff {w : World} {g j b o : Nat} {v u : Value} (h : w.cell? ⟨b, o, none⟩ = some v) (hne : g ≠ b ∨ j ≠ o) : (w.setCell ⟨g, j, none⟩ u).cell? ⟨b, o, none⟩ = some v :=
  (World.cell?_setCell_other w ⟨g, j, none⟩ ⟨b, o, none⟩ u (fun e => by injection e with e1 e2; rcases hne with h | h <;> contradiction)).trans h
/-- three cells of a block set -/
theorem set3 {W : World} {g : Nat} {u v x a b c : Value} (k0 : W.cell? ⟨g, 0, none⟩ = some a) (k1 : W.cell? ⟨g, 1, none⟩ = some b) (k2 : W.cell? ⟨g, 2, none⟩ = some c) :
    ∃ WF, WF = ((W.setCell ⟨g, 0, none⟩ u).setCell ⟨g, 1, none⟩ v).setCell ⟨g, 2, none⟩ x ∧ WF.cell? ⟨g, 0, none⟩ = some u ∧ WF.cell? ⟨g, 1, none⟩ = some v ∧ WF.cell? ⟨g, 2, none⟩ = some x :=
  ⟨_, rfl, setoff (setoff (sethere k0) (.inr (by omega))) (.inr (by omega)), setoff (sethere (setoff k1 (.inr (by omega)))) (.inr (by omega)), sethere (setoff (setoff k2 (.inr (by omega))) (.inr (by omega)))⟩
end Go.Proofs.Ytbijkdpifnncmaa
/- Contracts of the laws' helpers on []int and []bool; rows given by a function of the place. -/
namespace Go.Proofs.Ytbijkdpifnncmaa
open Go.RowKit

/-- n cells lie at A: cell i holds f i -/
def ValsAt (w : World) (A : Option Addr) (n : Nat) (f : Nat → Value) : Prop :=
  0 < n → ∃ b off, A = some ⟨b, off, none⟩ ∧ b < w.heap.size ∧ ∀ i, i < n → w.cell? ⟨b, off + i, none⟩ = some (f i)
section
variable {w w' : World} {A : Option Addr} {n : Nat} {f : Nat → Value}
theorem ValsAt.keep (h : ValsAt w A n f) (hb : Below w.heap.size w w') : ValsAt w' A n f := fun hn => by
  obtain ⟨b, off, rfl, hlt, hc⟩ := h hn
  exact ⟨b, off, rfl, Nat.lt_of_lt_of_le hlt hb.size, fun i hi => keep_cell hb (hc i hi)⟩
theorem ValsAt.of_own {base e c : Nat} {xs : List Value} (h : w.ownsRow base e 1 (.slice A n c) n xs) (hx : ∀ j, j < n → xs[j]? = some (f j)) : ValsAt w A n f := fun hn => by
  obtain ⟨b, off, rfl, hc⟩ := (own_cells h).2 hn
  exact ⟨b, off, rfl, cell_lt (hc 0 _ (hx 0 hn)), fun i hi => hc i _ (hx i hi)⟩
end
def intV (f : Nat → Int) (i : Nat) : Value := .int .i64 (f i)
def boolV (f : Nat → Bool) (i : Nat) : Value := .bool (f i)

theorem infoInt : (Try.prog.info? 3).map (fun i => (i.zero, i.size, i.bytes)) = some (some (.int .i64 0), 1, 8) := by kernel_rfl
theorem infoBool : (Try.prog.info? 4).map (fun i => (i.zero, i.size, i.bytes)) = some (some (.bool false), 1, 1) := by kernel_rfl



end Go.Proofs.Ytbijkdpifnncmaa
/- The frame of every law of this seat: a call that answers true and leaves old memory alone meets the given row. -/
namespace Go.Proofs.Ytbijkdpifnncmaa
open Go.ChangeShapes Go.WideShapes Go.ChangeAt Go.RowKit Go.Joins

theorem Try.own : ownKnob Try.prog.godebug = none := by kernel_rfl
theorem Try.laidOut : laidOutB Try.prog = true := by kernel_rfl

section
variable {H : Type} {enc : TypeId × Value → H} {P : Program}
theorem trodAll_below (hl : laidOutB P = true) {W W' : World} (hb : Below W.heap.size W W') : ∀ {ts : List TypeId} {vs : List Value} {ds : List (DataW H)} {ps : List MemPlace},
    (∀ t ∈ ts, P.readableRec t = true ∧ t < P.types.size) → DataW.TrodAll enc P W 0 (fun _ => true) true ts vs ds ps → (∀ x ∈ ps, x.block < W.heap.size) →
    DataW.TrodAll enc P W' 0 (fun b => decide (b < W.heap.size)) true ts vs ds ps
  | [], vs, ds, ps, _, h, _ => by
    obtain ⟨rfl, rfl, rfl⟩ := trodAll_nil h
    exact trodAll_mk0
  | t :: ts, vs, ds, ps, hr, h, hlt => by
    obtain ⟨v, vs', d, ds', p, q, rfl, rfl, rfl, h0, h1⟩ := trodAll_cons h
    have ht := hr t (List.mem_cons_self ..)
    exact trodAll_cons_mk (Below.trod hl ht.1 ht.2 h0 hb (fun x hx => hlt x (List.mem_append_left _ hx)))
      (trodAll_below hl hb (fun t' h' => hr t' (List.mem_cons_of_mem _ h')) h1 (fun x hx => hlt x (List.mem_append_right _ hx)))

theorem trodAll_spare {ts : List TypeId} {vs : List Value} {ds : List (DataW H)} {ps : List MemPlace} {W W' : World} (hl : laidOutB P = true) (hb : Below W.heap.size W W')
    (hr : ∀ t ∈ ts, P.readableRec t = true ∧ t < P.types.size) (h : DataW.TrodAll enc P W 0 (fun _ => true) true ts vs ds ps) (hlt : ∀ x ∈ ps, x.block < W.heap.size) (sp : Nat → Bool) (hsp : ∀ x ∈ ps, sp x.block = true) :
    DataW.TrodAll enc P W' 0 sp true ts vs ds ps := by
  induction ts generalizing vs ds ps with
  | nil =>
    obtain ⟨rfl, rfl, rfl⟩ := trodAll_nil h
    exact trodAll_mk0
  | cons t ts ih =>
    obtain ⟨v, vs', d, ds', p, q, rfl, rfl, rfl, h0, h1⟩ := trodAll_cons h
    have ht := hr t (List.mem_cons_self ..)
    exact trodAll_cons_mk (WideElems.Trod_stays hl ht.1 ht.2 h0 (fun x hx => hb.same (hlt x (List.mem_append_left _ hx))) (fun x hx => hsp x (List.mem_append_left _ hx)))
      (ih (fun t' h' => hr t' (List.mem_cons_of_mem _ h')) h1 (fun x hx => hlt x (List.mem_append_right _ hx)) (fun x hx => hsp x (List.mem_append_right _ hx)))

theorem law_post (hl : laidOutB P = true) {f : Func} {s : ChangeSpec} {W W' : World} {args : Array Value} {ds gs : List (DataW H)} {before : List MemPlace} {tb : TypeId}
    (hread : ∀ t ∈ f.params.toList, P.readableRec t = true ∧ t < P.types.size) (hrt : f.resultTypes = #[tb]) (htb : P.underlying tb = some .bool)
    (hW : DataW.Whole enc P f.params.toList s.vars false W args.toList ds gs before) (hv : s.vars = [])
    (hres : (s.fn H (ds ++ gs)).results = [.lit (.bool true)]) (hargs : (s.fn H (ds ++ gs)).args = ds) (hvars : (s.fn H (ds ++ gs)).vars = [])
    (hb : Below W.heap.size W W') : s.post enc P f false true false false W args (.bool true) W' := by
  have hW0 := hW
  obtain ⟨p, q, hA, hV, rfl, hfz, hnd⟩ := hW
  rw [hv] at hV
  obtain ⟨rfl, rfl⟩ := trodVars_none hV
  have hlt : ∀ x ∈ p, x.block < W.heap.size := fun x hx => hW0.lt x (by simpa using hx)
  have hlast : (Value.bool true).resultList f.resultTypes.size = [.bool true] := by rw [hrt]; rfl
  refine ⟨ds, [], p ++ [], [], p, [], hW0, ?_, ?_, ?_, ?_, fun h => by cases h⟩
  · rw [hlast, hres, hrt]
    exact trodAll_mk1 (shut_bool htb true)
  · rw [hargs]
    exact trodAll_spare hl hb hread hA hlt _ (fun x hx => by simpa using hlt x hx)
  · rw [hv, hvars]
    rfl
  · exact hb.frame _
end

/-! ### opening arguments -/
theorem cell_spot {w : World} {a : Addr} {v : Value} (h : w.cell? a = some v) : a.spot = none := by
  unfold World.cell? at h
  split at h
  · cases hs : a.spot with
    | none => rfl
    | some x => rw [hs] at h; simp at h
  · cases h

theorem i64_wf {n : Int} (h : (Lit.int .i64 n).wf = true) : -9223372036854775808 ≤ n ∧ n ≤ 9223372036854775807 := by
  simpa [Lit.wf, IntKind.min, IntKind.max, IntKind.signed, IntKind.bits] using h

section
variable {H : Type} {enc : TypeId × Value → H} {P : Program} {w : World} {base : Nat} {spare : Nat → Bool} {held : Bool}
theorem open_strs {r : Reach} {b0 : Nat} {t e : TypeId} {v : Value} {d : DataW H} {p : List MemPlace} (ht : P.underlying t = some (.slice e)) (he : P.underlying e = some .string) (hc : P.cellsOf e = 1)
    (hv : Value.okWide P w r b0 t v) (h : DataW.Trod enc P w base spare held t v d p) :
    ∃ (A : Option Addr) (n c : Nat) (l : List ByteArray), v = .slice A n c ∧ StrsAt w A n l ∧ n ≤ 9223372036854775807 ∧ ∀ i, i < n → (sAt l i).size ≤ 9223372036854775807 := by
  obtain ⟨A, n, c, rfl⟩ := okWide_slice ht hv
  obtain ⟨fuel, hf⟩ := h
  rcases open_strings ht he hc hf with ⟨hcs, _⟩ | ⟨a, len, cap, ss, hcs, _, hl, hm, hz, _, hcell, hws⟩
  · simp [Value.cells] at hcs
    obtain ⟨rfl, rfl, rfl⟩ := hcs
    exact ⟨none, 0, 0, [], rfl, ⟨rfl, fun h => absurd h (by omega)⟩, by omega, fun i hi => absurd hi (by omega)⟩
  · simp [Value.cells] at hcs
    obtain ⟨rfl, rfl, rfl⟩ := hcs
    have hlen : n ≤ ss.length := by rw [hz]; split <;> omega
    unfold maxLen at hm hws
    refine ⟨some a, n, c, ss.take n, rfl, ⟨by simp [hlen], fun hn => ?_⟩, by omega, fun i hi => ?_⟩
    · have h0 := hcell 0 (by omega)
      rw [Addr.add_zero'] at h0
      have hsp := cell_spot h0
      obtain ⟨b, off, sp⟩ := a
      simp at hsp
      subst hsp
      have hlt := World.block_lt_of_cell? w _ h0
      refine ⟨b, off, rfl, by simpa using hlt, fun i hi => ?_⟩
      have := hcell i (by omega)
      rw [Addr.add_lit] at this
      rw [this]
      simp [sAt, hi]
    · have hi' : i < ss.length := by omega
      have := hws ss[i] (List.getElem_mem hi')
      simp [sAt, hi, hi']
      omega
end
end Go.Proofs.Ytbijkdpifnncmaa
/- Rows of elements of whatever make that are read; opening a slice argument. -/
namespace Go.Proofs.Ytbijkdpifnncmaa
open Go.RowKit Go.ChangeShapes Go.WideShapes Go.Deep

/-- n elements, sz cells each, lie at A; the cells of element i are in relation C with l[i] -/
def RowAt {α : Type} (C : World → List Value → α → Prop) (sz : Nat) (w : World) (A : Option Addr) (n : Nat) (l : List α) : Prop :=
  n = l.length ∧ (0 < n → ∃ b off, A = some ⟨b, off, none⟩ ∧ b < w.heap.size ∧ ∀ i x, l[i]? = some x → ∃ cs, C w cs x ∧ cs.length = sz ∧ ∀ j u, cs[j]? = some u → w.cell? ⟨b, off + i * sz + j, none⟩ = some u)

theorem RowAt.keep {α : Type} {C : World → List Value → α → Prop} {sz : Nat} {w w' : World} {A : Option Addr} {n : Nat} {l : List α} (h : RowAt C sz w A n l) (hb : Below w.heap.size w w')
    (hC : ∀ cs x, x ∈ l → C w cs x → C w' cs x) : RowAt C sz w' A n l := by
  refine ⟨h.1, fun hn => ?_⟩
  obtain ⟨b, off, rfl, hlt, hc⟩ := h.2 hn
  refine ⟨b, off, rfl, Nat.lt_of_lt_of_le hlt hb.size, fun i x hx => ?_⟩
  obtain ⟨cs, h1, h2, h3⟩ := hc i x hx
  exact ⟨cs, hC cs x (List.mem_of_getElem? hx) h1, h2, fun j u hu => keep_cell hb (h3 j u hu)⟩

section
variable {H : Type} {enc : TypeId × Value → H} {P : Program} {w : World} {base : Nat} {spare : Nat → Bool} {held : Bool}
/-- a slice that reads as data, its elements opened by what reads one element's cells -/
theorem open_rows_cs {α : Type} {C : World → List Value → α → Prop} {sz : Nat} {t e : TypeId} {fuel : Nat} {cs : List Value} {x : DataW H × List MemPlace} (ht : P.underlying t = some (.slice e)) (hsz : P.cellsOf e = sz) (h0 : 0 < sz)
    (hel : ∀ (fu : Nat) (cs : List Value) (y : DataW H × List MemPlace), DataW.trod enc P w base spare held fu e cs = some y → ∃ x, C w cs x)
    (h : DataW.trod enc P w base spare held fuel t cs = some x) :
    ∃ (A : Option Addr) (n c : Nat) (l : List α), cs = [.slice A n c] ∧ RowAt C sz w A n l ∧ n ≤ 9223372036854775807 ∧ n ≤ c ∧ (A = none → c = 0) := by
  rcases open_slice ht h with ⟨hcs, _⟩ | ⟨a, n, c, m, fu, D, Pl, hcs, _, hl, hm, hmm, _, hi⟩
  · exact ⟨none, 0, 0, [], hcs, ⟨rfl, fun h => absurd h (by omega)⟩, by omega, by omega, fun _ => rfl⟩
  · have hnm : n ≤ m := by rw [hmm]; split <;> omega
    have hex : ∀ i : Fin n, ∃ x, ∃ cs', C w cs' x ∧ cs'.length = sz ∧ ∀ j, j < sz → w.cell? (a.add (i * sz + j)) = cs'[j]? := by
      intro i
      obtain ⟨cs', hc, ht'⟩ := hi i (by omega)
      obtain ⟨x, hx⟩ := hel fu cs' _ ht'
      obtain ⟨_, hlen, hcell⟩ := World.cells?_some hc
      rw [hsz] at hlen hcell
      refine ⟨x, cs', hx, hlen, fun j hj => ?_⟩
      rw [← hcell j hj, Go.Addr.add_add]
    refine ⟨some a, n, c, List.ofFn (fun i => Classical.choose (hex i)), hcs, ⟨by simp, fun hn => ?_⟩, by unfold maxLen at hm; omega, hl, fun h => by cases h⟩
    have hsp : a.spot = none := by
      obtain ⟨cs', _, hlen, hcell⟩ := Classical.choose_spec (hex ⟨0, hn⟩)
      have h1 := hcell 0 h0
      rw [List.getElem?_eq_getElem (by omega)] at h1
      simp only [Nat.zero_mul, Nat.add_zero, Addr.add_zero'] at h1
      exact cell_spot h1
    obtain ⟨b, off, sp⟩ := a
    simp at hsp
    subst hsp
    refine ⟨b, off, rfl, ?_, fun i x hx => ?_⟩
    · obtain ⟨cs', _, hlen, hcell⟩ := Classical.choose_spec (hex ⟨0, hn⟩)
      have h1 := hcell 0 h0
      rw [List.getElem?_eq_getElem (by omega)] at h1
      simp only [Nat.zero_mul, Nat.add_zero, Addr.add_zero'] at h1
      exact cell_lt h1
    · have hin : i < n := by
        rcases Nat.lt_or_ge i n with h' | h'
        · exact h'
        · rw [List.getElem?_eq_none (by simpa using h')] at hx; cases hx
      have hx' : Classical.choose (hex ⟨i, hin⟩) = x := by simpa [hin] using hx
      obtain ⟨cs', hC, hlen, hcell⟩ := Classical.choose_spec (hex ⟨i, hin⟩)
      rw [hx'] at hC
      refine ⟨cs', hC, hlen, fun j u hu => ?_⟩
      have hj : j < sz := by
        rcases Nat.lt_or_ge j cs'.length with h' | h'
        · omega
        · rw [List.getElem?_eq_none h'] at hu; cases hu
      have := hcell j hj
      rw [Addr.add_lit] at this
      rw [Nat.add_assoc, this, hu]
/-- the same of an argument -/
theorem open_rows {α : Type} {C : World → List Value → α → Prop} {sz : Nat} {r : Reach} {b0 : Nat} {t e : TypeId} {v : Value} {d : DataW H} {p : List MemPlace} (ht : P.underlying t = some (.slice e)) (hsz : P.cellsOf e = sz) (h0 : 0 < sz)
    (hel : ∀ (fu : Nat) (cs : List Value) (y : DataW H × List MemPlace), DataW.trod enc P w base spare held fu e cs = some y → ∃ x, C w cs x)
    (hv : Value.okWide P w r b0 t v) (h : DataW.Trod enc P w base spare held t v d p) :
    ∃ (A : Option Addr) (n c : Nat) (l : List α), v = .slice A n c ∧ RowAt C sz w A n l ∧ n ≤ 9223372036854775807 := by
  obtain ⟨A, n, c, rfl⟩ := okWide_slice ht hv
  obtain ⟨fuel, hf⟩ := h
  obtain ⟨A', n', c', l, hcs, hr, hn, _⟩ := open_rows_cs ht hsz h0 hel hf
  simp [Value.cells] at hcs
  obtain ⟨rfl, rfl, rfl⟩ := hcs
  exact ⟨_, _, _, l, rfl, hr, hn⟩

/-! ### one element's cells -/
theorem trod_int1 {t : TypeId} {fu : Nat} {cs : List Value} {y : DataW H × List MemPlace} (ht : P.underlying t = some (.int .i64)) (h : DataW.trod enc P w base spare held fu t cs = some y) :
    ∃ n : Int, cs = [.int .i64 n] ∧ -9223372036854775808 ≤ n ∧ n ≤ 9223372036854775807 := by
  obtain ⟨n, h1, _, hw⟩ := DataW.trod_int ht h
  exact ⟨n, h1, i64_wf hw⟩
theorem trod_str1 {t : TypeId} {fu : Nat} {cs : List Value} {y : DataW H × List MemPlace} (ht : P.underlying t = some .string) (h : DataW.trod enc P w base spare held fu t cs = some y) :
    ∃ s : ByteArray, cs = [.string s] ∧ s.size ≤ 9223372036854775807 := by
  obtain ⟨s, h1, _, hw⟩ := DataW.trod_string ht h
  exact ⟨s, h1, by unfold maxLen at hw; omega⟩
/-- the fields' cells of a struct -/
theorem trod_fields {t : TypeId} {fs : Array Field} {fu : Nat} {cs : List Value} {y : DataW H × List MemPlace} (ht : P.underlying t = some (.struct fs)) (h : DataW.trod enc P w base spare held fu t cs = some y) :
    cs.length = P.cellsOf t ∧ ∃ n, ∀ (i : Nat) (f : Field), fs[i]? = some f → ∃ y', DataW.trod enc P w base spare held n f.type ((cs.drop f.offset).take (P.cellsOf f.type)) = some y' := by
  obtain ⟨xs, n, _, _, hl, hxl, hf⟩ := DataW.trod_struct ht h
  refine ⟨hl, n, fun i f hi => ?_⟩
  have hlt : i < xs.length := by rw [hxl]; exact (Array.getElem?_eq_some_iff.1 hi).1
  exact ⟨xs[i], (hf i f hi).trans (List.getElem?_eq_getElem hlt)⟩
/-- field j of a struct: its type and the place of its cells -/
theorem trod_fieldAt {t ft : TypeId} {off sz : Nat} {fs : Array Field} {fu : Nat} {cs : List Value} {y : DataW H × List MemPlace} (ht : P.underlying t = some (.struct fs)) (j : Nat) (hj : (fs[j]?).map (fun f => (f.type, f.offset)) = some (ft, off)) (hsz : P.cellsOf ft = sz)
    (h : DataW.trod enc P w base spare held fu t cs = some y) : ∃ n y', DataW.trod enc P w base spare held n ft ((cs.drop off).take sz) = some y' := by
  obtain ⟨f, hf, he⟩ := Option.map_eq_some_iff.1 hj
  simp only [Prod.mk.injEq] at he
  obtain ⟨rfl, rfl⟩ := he
  subst hsz
  obtain ⟨_, n, hh⟩ := trod_fields ht h
  obtain ⟨y', hy⟩ := hh j f hf
  exact ⟨n, y', hy⟩
theorem trod_len {t : TypeId} {sz : Nat} {fs : Array Field} {fu : Nat} {cs : List Value} {y : DataW H × List MemPlace} (ht : P.underlying t = some (.struct fs)) (hsz : P.cellsOf t = sz) (h : DataW.trod enc P w base spare held fu t cs = some y) : cs.length = sz := by
  obtain ⟨hl, _⟩ := trod_fields ht h
  rw [← hsz]; exact hl
end
end Go.Proofs.Ytbijkdpifnncmaa
/- A law's code: bytes; big. -/
namespace Go.Proofs.Ytbijkdpifnncmaa
open Go.RowKit

/-- a code: n bytes -/
structure CodeAt (w : World) (A : Option Addr) (n : Nat) (f : Nat → Int) : Prop where
  vals : ValsAt w A n (fun j => .int .u8 (f j))
  bd : ∀ j, 0 ≤ f j ∧ f j ≤ 255
theorem CodeAt.keep {w w' : World} {A : Option Addr} {n : Nat} {f : Nat → Int} (h : CodeAt w A n f) (hb : Below w.heap.size w w') : CodeAt w' A n f := ⟨h.vals.keep hb, h.bd⟩

theorem big_any (A : Option Addr) (n c : Nat) (w : World) :
    Calls Try.prog 5 #[.slice A n c] w fun e w' => e = .returned (.bool (decide ((n : Int) > 1048576))) ∧ w = w' := by
  go_enter Try.func5, Try.ntmps5
  go_wp2
  go_returns
  exact ⟨rfl, rfl⟩

theorem u8_wf {n : Int} (h : (Lit.int .u8 n).wf = true) : 0 ≤ n ∧ n ≤ 255 := by
  simpa [Lit.wf, IntKind.min, IntKind.max, IntKind.signed, IntKind.bits] using h
instance : Inhabited {x : Int // 0 ≤ x ∧ x ≤ 255} := ⟨⟨0, by omega⟩⟩
section
open Go.ChangeShapes Go.WideShapes Go.ChangeAt Go.Deep Go.Joins
variable {H : Type} {enc : TypeId × Value → H} {w : World} {base : Nat} {spare : Nat → Bool} {held : Bool}
theorem cellsByte : Try.prog.cellsOf 5 = 1 := by kernel_rfl
set_option maxRecDepth 20000 in
theorem open_code {r : Reach} {b0 : Nat} {v : Value} {d : DataW H} {p : List MemPlace}
    (hv : Value.okWide Try.prog w r b0 22 v) (h : DataW.Trod enc Try.prog w base spare held 22 v d p) :
    ∃ (A : Option Addr) (n c : Nat) (f : Nat → Int), v = .slice A n c ∧ CodeAt w A n f ∧ n ≤ 9223372036854775807 := by
  obtain ⟨A, n, c, l, hcs, hr, hn⟩ := open_rows (C := fun _ cs (x : {x : Int // 0 ≤ x ∧ x ≤ 255}) => cs = [.int .u8 x.1]) Try.underlying22 cellsByte (by omega)
    (fun fu cs y h => by obtain ⟨m, hm, _, hw⟩ := DataW.trod_int Try.underlying5 h; exact ⟨⟨m, u8_wf hw⟩, hm⟩) hv h
  refine ⟨A, n, c, fun i => (l.getD i ⟨0, by omega⟩).1, hcs, ⟨fun hn => ?_, fun j => (l.getD j ⟨0, by omega⟩).2⟩, hn⟩
  obtain ⟨b, off, rfl, hlt, hc⟩ := hr.2 hn
  have hl := hr.1
  refine ⟨b, off, rfl, hlt, fun i hi => ?_⟩
  obtain ⟨cs, hx, _, hcell⟩ := hc i (l.getD i ⟨0, by omega⟩) (by simp [show i < l.length by omega])
  subst hx
  simpa using hcell 0 _ rfl
end
end Go.Proofs.Ytbijkdpifnncmaa
/- Rows of the call's own within an interval of blocks. -/
namespace Go.Proofs.Ytbijkdpifnncmaa
open Go.RowKit

/-- a block of an interval -/
def Iv (lo hi k : Nat) : Prop := lo ≤ k ∧ k < hi
theorem iv_off {a b c d : Nat} (h : b ≤ c ∨ d ≤ a) : ∀ k, Iv a b k → ¬ Iv c d k := fun k h1 h2 => by unfold Iv at h1 h2; omega
def BlkOf (A : Option Addr) (b : Nat) : Prop := A.map Addr.block = some b
theorem BlkOf.eq {g b : Nat} (h : BlkOf (some ⟨g, 0, none⟩) b) : g = b := by simpa [BlkOf] using h
theorem BlkOf.no {b : Nat} (h : BlkOf none b) : False := by simp [BlkOf] at h
theorem blk_of {A : Option Addr} {n c k : Nat} (hk : (Value.slice A n c).ownBlock = some k) : BlkOf A k := by
  rcases A with _ | a
  · simp [Value.ownBlock] at hk
  · simpa [Value.ownBlock, BlkOf] using hk

/-- a row of the call's own of n elements of sz cells, the cells xs, in a block of [lo, hi) -/
structure RowIn (e sz lo hi : Nat) (w : World) (A : Option Addr) (n c : Nat) (xs : List Value) : Prop where
  own : w.ownsRow lo e sz (.slice A n c) n xs
  lt : ∀ g, BlkOf A g → g < hi
section
variable {e sz lo hi lo' hi' n c : Nat} {w w' : World} {A : Option Addr} {xs : List Value}
theorem RowIn.blk (h : RowIn e sz lo hi w A n c xs) {g : Nat} (hg : BlkOf A g) : Iv lo hi g ∧ g < w.heap.size := by
  have h2 := h.lt g hg
  rcases own_form h.own with ⟨rfl, _⟩ | ⟨g', rfl, h1, h3⟩
  · exact hg.no.elim
  · have := hg.eq; subst this; exact ⟨⟨h1, h2⟩, h3⟩
theorem RowIn.ch {S : Nat → Prop} (h : RowIn e sz lo hi w A n c xs) (hc : Ch S w w') (hS : ∀ k, Iv lo hi k → ¬ S k) : RowIn e sz lo hi w' A n c xs :=
  ⟨own_ch h.own hc (fun k hk => hS k (h.blk (blk_of hk)).1), h.lt⟩
theorem RowIn.keep (h : RowIn e sz lo hi w A n c xs) (hb : Below w.heap.size w w') : RowIn e sz lo hi w' A n c xs :=
  h.ch (S := fun _ => False) (Ch.of_below hb) (fun _ _ h => h)
theorem RowIn.wide (h : RowIn e sz lo hi w A n c xs) (h1 : lo' ≤ lo) (h2 : hi ≤ hi') : RowIn e sz lo' hi' w A n c xs :=
  ⟨own_up h.own h1, fun g hg => Nat.lt_of_lt_of_le (h.lt g hg) h2⟩
theorem RowIn.of_own (h : w.ownsRow lo e sz (.slice A n c) n xs) : RowIn e sz lo w.heap.size w A n c xs := by
  refine ⟨h, fun g hg => ?_⟩
  rcases own_form h with ⟨rfl, _⟩ | ⟨g', rfl, _, h3⟩
  · exact hg.no.elim
  · have := hg.eq; subst this; exact h3
theorem RowIn.nil : RowIn e sz lo hi w none 0 0 [] := ⟨⟨by simp, .inl ⟨rfl, rfl⟩⟩, fun _ h => h.no.elim⟩
theorem RowIn.cells (h : RowIn e sz lo hi w A n c xs) (hsz : 0 < sz) : CellsLt w.heap.size w A n sz xs := CellsLt.of_own h.own hsz
theorem RowIn.head (h : RowIn e sz lo hi w A n c xs) (hn : 0 < n) : ∃ g, A = some ⟨g, 0, none⟩ := by
  rcases own_form h.own with ⟨_, h0, _⟩ | ⟨g, hA, _⟩
  · omega
  · exact ⟨g, hA⟩
theorem RowIn.len (h : RowIn e sz lo hi w A n c xs) : xs.length = n * sz := h.own.1
/-- a cell of a row is stored -/
theorem RowIn.store {g : Nat} (h : RowIn e sz lo hi w (some ⟨g, 0, none⟩) n c xs) (j : Nat) (v : Value) :
    RowIn e sz lo hi (w.setCell ⟨g, j, none⟩ v) (some ⟨g, 0, none⟩) n c (xs.set j v) ∧ Ch (Iv lo hi) w (w.setCell ⟨g, j, none⟩ v) :=
  ⟨⟨(h.own.stored j v).1, h.lt⟩, (Ch.refl w).setCell (h.blk (by simp [BlkOf])).1 v⟩
end
theorem Ch.iv {lo hi lo' hi' : Nat} {w w' : World} (h : Ch (Iv lo hi) w w') (h1 : lo' ≤ lo) (h2 : hi ≤ hi') : Ch (Iv lo' hi') w w' :=
  h.mono fun k hk => by unfold Iv at hk ⊢; omega
theorem Ch.ivb {lo hi B : Nat} {w0 w w' : World} (h : Ch (Iv lo hi) w w') (hb : Below B w0 w) (hB : B ≤ lo) (hs : B ≤ w0.heap.size) : Below B w0 w' :=
  hb.trans (h.below (fun k hk => by unfold Iv at hk; omega) (Nat.le_trans hs hb.size))
theorem StrsAt.of_row {e lo hi n c : Nat} {w : World} {A : Option Addr} {l : List ByteArray} (h : RowIn e 1 lo hi w A n c (l.map Value.string)) : StrsAt w A n l := StrsAt.of_own h.own
/-- a cell is kept where no store of the interval hits its block -/
theorem ch_cell {lo hi g o : Nat} {w w' : World} {v : Value} (h : Ch (Iv lo hi) w w') (hc : w.cell? ⟨g, o, none⟩ = some v) (hn : g < lo ∨ hi ≤ g) : w'.cell? ⟨g, o, none⟩ = some v :=
  h.cell hc (fun hi => by unfold Iv at hi; omega)
theorem row_set {α : Type} {xs : List α} {k n : Nat} {g : Nat → α} (hn : xs.length = n) (hk : k < n) (h : ∀ j, j < k → xs[j]? = some (g j)) {u : α} (hu : u = g k) : ∀ j, j < k + 1 → (xs.set k u)[j]? = some (g j) := set_upto hn hk h hu
theorem StrsAt.ch {S : Nat → Prop} {w w' : World} {A : Option Addr} {n : Nat} {l : List ByteArray} {m : Nat} (h : StrsAt w A n l) (hb : Ch S w w') (hm : ∀ b off, A = some ⟨b, off, none⟩ → b < m) (hS : ∀ k, S k → m ≤ k) : StrsAt w' A n l := by
  refine ⟨h.1, fun hn => ?_⟩
  obtain ⟨b, off, rfl, hlt, hc⟩ := h.2 hn
  exact ⟨b, off, rfl, Nat.lt_of_lt_of_le hlt hb.size, fun i hi => hb.cell (hc i hi) (fun hs => by have := hS b hs; have := hm b off rfl; omega)⟩
theorem own_le {w : World} {base e sz n c : Nat} {A : Option Addr} {xs : List Value} (h : w.ownsRow base e sz (.slice A n c) n xs) : n ≤ c ∧ c ≤ 9223372036854775807 := by
  rcases h.2 with ⟨hv, h0⟩ | ⟨g, cap, cur, hv, hb, hg, h1, h2, _⟩
  · injection hv with _ _ hc; omega
  · injection hv with _ _ hc; unfold maxLen at h2; omega
end Go.Proofs.Ytbijkdpifnncmaa
/- The draws' cursor: l1New, l1Byte, l1Below, l1Once, l1Pick, l1PickInt. -/
namespace Go.Proofs.Ytbijkdpifnncmaa
open Go.RowKit

/-- x & 255, x & 0x3fffffff -/
def and255 (n : Int) : Int := ((BitVec.ofInt 64 n &&& BitVec.ofInt 64 255).toNat : Int)
theorem and255_in (n : Int) : 0 ≤ and255 n ∧ and255 n ≤ 255 := by
  unfold and255
  have h : (BitVec.ofInt 64 n &&& BitVec.ofInt 64 255).toNat ≤ 255 := by
    rw [BitVec.toNat_and]
    exact Nat.le_trans Nat.and_le_right (by decide)
  omega
theorem bits_and255 (n : Int) : bits .and .i64 n 255 = and255 n := by
  have h := and255_in n
  show IntKind.i64.wrap ((BitVec.ofInt 64 n &&& BitVec.ofInt 64 255).toNat : Int) = _
  unfold and255 at h ⊢
  rw [IntKind.wrap_i64]; omega
def andBig (n : Int) : Int := ((BitVec.ofInt 64 n &&& BitVec.ofInt 64 1073741823).toNat : Int)
theorem andBig_in (n : Int) : 0 ≤ andBig n ∧ andBig n ≤ 1073741823 := by
  unfold andBig
  have h : (BitVec.ofInt 64 n &&& BitVec.ofInt 64 1073741823).toNat ≤ 1073741823 := by
    rw [BitVec.toNat_and]
    exact Nat.le_trans Nat.and_le_right (by decide)
  omega
theorem bits_andBig (n : Int) : bits .and .i64 n 1073741823 = andBig n := by
  have h := andBig_in n
  show IntKind.i64.wrap ((BitVec.ofInt 64 n &&& BitVec.ofInt 64 1073741823).toNat : Int) = _
  unfold andBig at h ⊢
  rw [IntKind.wrap_i64]; omega
attribute [local irreducible] and255 andBig
attribute [local go_sem] bits_and255 bits_andBig

/-- a cursor in block g over a code -/
structure Cur (w : World) (g : Nat) : Prop where
  ex : ∃ (A : Option Addr) (n c i : Nat) (h : Int) (f : Nat → Int), w.cell? ⟨g, 0, none⟩ = some (.slice A n c) ∧ w.cell? ⟨g, 1, none⟩ = some (.int .i64 i) ∧ w.cell? ⟨g, 2, none⟩ = some (.int .i64 h) ∧
    CodeAt w A n f ∧ n ≤ 1048576 ∧ i ≤ n ∧ w.frozen? ⟨g, 1, none⟩ = false ∧ w.frozen? ⟨g, 2, none⟩ = false ∧ (0 < n → ∀ b off, A = some ⟨b, off, none⟩ → b < g)
theorem Ch.frozen {S : Nat → Prop} {w w' : World} (h : Ch S w w') {g o : Nat} (hg : g < w.heap.size) (hn : ¬ S g) : w'.frozen? ⟨g, o, none⟩ = w.frozen? ⟨g, o, none⟩ := by
  have hb := h.block g hg hn
  unfold World.frozen?
  simp only [hb]
theorem CodeAt.ch {S : Nat → Prop} {w w' : World} {A : Option Addr} {n g : Nat} {f : Nat → Int} (h : CodeAt w A n f) (hc : Ch S w w') (hb : 0 < n → ∀ b off, A = some ⟨b, off, none⟩ → b < g) (hS : ∀ k, S k → g ≤ k) : CodeAt w' A n f :=
  ⟨fun hn => by
    obtain ⟨b, off, rfl, hlt, hcell⟩ := h.vals hn
    exact ⟨b, off, rfl, Nat.lt_of_lt_of_le hlt hc.size, fun i hi => hc.cell (hcell i hi) (fun hs => by have := hS b hs; have := hb hn b off rfl; omega)⟩, h.bd⟩
theorem Cur.lt {w : World} {g : Nat} (h : Cur w g) : g < w.heap.size := by
  obtain ⟨_, _, _, _, _, _, h0, _⟩ := h.ex
  exact cell_lt h0
theorem Cur.ch {S : Nat → Prop} {w w' : World} {g : Nat} (h : Cur w g) (hc : Ch S w w') (hS : ∀ k, S k → g < k) : Cur w' g := by
  have hlt := h.lt
  obtain ⟨A, n, c, i, u, f, h0, h1, h2, hcode, hn, hi, f1, f2, hb⟩ := h.ex
  have hg : ¬ S g := fun hs => by have := hS g hs; omega
  exact ⟨A, n, c, i, u, f, hc.cell h0 hg, hc.cell h1 hg, hc.cell h2 hg, hcode.ch hc hb (fun k hk => by have := hS k hk; omega), hn, hi, (hc.frozen hlt hg).trans f1, (hc.frozen hlt hg).trans f2, hb⟩
theorem Cur.keep {w w' : World} {g : Nat} (h : Cur w g) (hb : Below w.heap.size w w') : Cur w' g := h.ch (S := fun _ => False) (Ch.of_below hb) (fun _ h => h.elim)
theorem Ch.one {w : World} {g o : Nat} {v : Value} : Ch (fun k => k = g) w (w.setCell ⟨g, o, none⟩ v) := (Ch.refl (S := fun k => k = g) w).setCell (p := ⟨g, o, none⟩) rfl v
theorem Cur.set1 {w : World} {g : Nat} {j n c : Nat} {A : Option Addr} (h : Cur w g) (h0 : w.cell? ⟨g, 0, none⟩ = some (.slice A n c)) (hj : j ≤ n) : Cur (w.setCell ⟨g, 1, none⟩ (.int .i64 j)) g := by
  have hlt := h.lt
  obtain ⟨A', n', c', i', u, f, k0, k1, k2, hcode, hn, hi, f1, f2, hb⟩ := h.ex
  rw [h0] at k0
  injection k0 with k0
  injection k0 with e1 e2 e3
  subst e1 e2 e3
  exact ⟨A, n, c, j, u, f, setoff h0 (.inr (by omega)), sethere k1, setoff k2 (.inr (by omega)), hcode.ch Ch.one hb (fun k hk => by omega), hn, hj, (World.frozen?_setCell _ _ _ _).trans f1, (World.frozen?_setCell _ _ _ _).trans f2, hb⟩
theorem Cur.set2 {w : World} {g : Nat} {v : Int} (h : Cur w g) : Cur (w.setCell ⟨g, 2, none⟩ (.int .i64 v)) g := by
  obtain ⟨A', n', c', i', u, f, k0, k1, k2, hcode, hn, hi, f1, f2, hb⟩ := h.ex
  exact ⟨A', n', c', i', v, f, setoff k0 (.inr (by omega)), setoff k1 (.inr (by omega)), sethere k2, hcode.ch Ch.one hb (fun k hk => by omega), hn, hi, (World.frozen?_setCell _ _ _ _).trans f1, (World.frozen?_setCell _ _ _ _).trans f2, hb⟩

theorem Ch.thenB {S : Nat → Prop} {w W W' : World} (h : Ch S w W) (hb : Below w.heap.size W W') : Ch S w W' :=
  ⟨hb.os.trans h.os, hb.tape.trans h.tape, hb.output.trans h.output, Nat.le_trans h.size hb.size, fun k hk hn => (hb.block k hk).trans (h.block k hk hn)⟩
theorem Cur.below {B g : Nat} {w w' : World} (h : Cur w g) (hb : Below B w w') (hg : g < B) : Cur w' g :=
  h.ch (S := fun k => B ≤ k) ⟨hb.os, hb.tape, hb.output, hb.size, fun k _ hn => hb.block k (by omega)⟩ (fun k hk => by omega)
theorem own_off {w w' : World} {g B e sz n : Nat} {v : Value} {xs : List Value} (h : w.ownsRow B e sz v n xs) (hc : Ch (fun k => k = g) w w') (hg : g < B) : w'.ownsRow B e sz v n xs := by
  obtain ⟨A, c, rfl⟩ := own_val h
  exact ((RowIn.of_own h).ch hc (fun k hk e => by unfold Iv at hk; omega)).own

theorem l1New_any (A : Option Addr) (n c : Nat) (f : Nat → Int) (w : World) (h : CodeAt w A n f) (hn : n ≤ 1048576) :
    Calls Try.prog 25 #[.slice A n c] w fun e w' => e = .returned (.pointer (some ⟨w.heap.size, 0, none⟩)) ∧ Cur w' w.heap.size ∧ Below w.heap.size w w' := by
  go_enter Try.func25, Try.ntmps25
  go_wp2
  go_loop [3, 4] (fun u i => ∃ (k : Nat) (x : Int), k ≤ n ∧ i = .int .i64 k ∧ u = .int .i64 x ∧ 0 ≤ x ∧ x ≤ 1073741823) (fun _ i => n - (intOf i).toNat)
  case atStart => exact ⟨0, 10101 + (n : Int), Nat.zero_le _, rfl, by go_num, by omega, by omega⟩
  case round =>
    obtain ⟨k, x, hk, rfl, rfl, hx0, hx1⟩ := hrel
    by_cases hlt : k < n
    · obtain ⟨b, off, rfl, hbl, hc⟩ := h.vals (by omega)
      have hck := hc k hlt
      have hfb := h.bd k
      clear hc
      by_cases h4 : (k : Int) < 4000
      · go_wp2
        have hb := andBig_in (x * 131 + f k + 7)
        exact ⟨⟨k + 1, _, by omega, by go_num, rfl, hb.1, hb.2⟩, by simp [intOf]; omega⟩
      · go_wp2
        go_returns
        refine ⟨rfl, ⟨_, n, c, 0, x, f, by simp [go_sem], by simp [go_sem], by simp [go_sem], h.keep (by go_grown), hn, Nat.zero_le _, by simp [go_sem], by simp [go_sem], fun _ b' off' e => ?_⟩, by go_grown⟩
        injection e with e; injection e with e _ _; omega
    · go_wp2
      go_returns
      refine ⟨rfl, ⟨A, n, c, 0, x, f, by simp [go_sem], by simp [go_sem], by simp [go_sem], h.keep (by go_grown), hn, Nat.zero_le _, by simp [go_sem], by simp [go_sem], fun h0 b' off' e => ?_⟩, by go_grown⟩
      obtain ⟨b, off, rfl, hbl, hc⟩ := h.vals h0
      injection e with e; injection e with e _ _; omega

set_option maxRecDepth 4000 in
set_option maxHeartbeats 400000 in
theorem l1Byte_any (g : Nat) (w : World) (h : Cur w g) :
    Calls Try.prog 67 #[.pointer (some ⟨g, 0, none⟩)] w fun e w' => ∃ x : Int, e = .returned (.int .i64 x) ∧ 0 ≤ x ∧ x ≤ 255 ∧ Cur w' g ∧ Ch (fun k => k = g) w w' := by
  have hlt := h.lt
  obtain ⟨A, n, c, i, u, f, k0, k1, k2, hcode, hn, hi, f1, f2, hb⟩ := h.ex
  by_cases hin : i < n
  · obtain ⟨b, off, rfl, hbl, hc⟩ := hcode.vals (by omega)
    have hck := hc i hin
    have hfb := hcode.bd i
    have hbg := hb (by omega) b off rfl
    clear hc hcode
    go_enter Try.func67, Try.ntmps67
    go_wp2
    go_quiet (fail)
    go_wp2
    go_quiet (fail)
    go_wp2
    go_quiet (fail)
    go_wp2
    go_returns
    have D : ∀ (W : World) (m : Nat), Ch (fun _ => False) W (W.drewN m) := fun W m => (Ch.refl W).drewN m
    exact ⟨_, rfl, (and255_in _).1, (and255_in _).2, (h.set2.ch (D _ _) (fun _ h => h.elim)).set1 (j := i + 1) ((D _ _).cell (setoff k0 (.inr (by omega))) (fun h => h)) (by omega), ((Ch.one.drewN _).trans Ch.one)⟩
  · go_enter Try.func67, Try.ntmps67
    go_wp2
    go_quiet (fail)
    go_wp2
    go_quiet (fail)
    go_wp2
    go_returns
    exact ⟨_, rfl, (and255_in _).1, (and255_in _).2, h.set2.ch (S := fun _ => False) (((Ch.refl _).drewN _).drewN _) (fun _ hh => False.elim hh), (Ch.one.drewN _).drewN _⟩

theorem l1Below_any (g : Nat) (n : Int) (w : World) (h : Cur w g) (hn : n ≤ 256) :
    Calls Try.prog 59 #[.pointer (some ⟨g, 0, none⟩), .int .i64 n] w fun e w' => ∃ x : Int, e = .returned (.int .i64 x) ∧ 0 ≤ x ∧ (0 < n → x < n) ∧ (n ≤ 0 → x = 0) ∧ Cur w' g ∧ Ch (fun k => k = g) w w' := by
  by_cases h0 : n ≤ 0
  · go_enter Try.func59, Try.ntmps59
    go_wp2
    go_returns
    exact ⟨0, rfl, by omega, fun h => by omega, fun _ => rfl, h, Ch.refl _⟩
  · go_enter Try.func59, Try.ntmps59
    go_wp2_with fail
    refine (l1Byte_any g _ h).mono ?_
    rintro e w1 ⟨x, rfl, hx0, hx1, hc, hch⟩
    go_wp2
    go_returns
    exact ⟨x % n, rfl, Int.emod_nonneg _ (by omega), fun h => Int.emod_lt_of_pos _ h, fun h => by omega, hc, hch⟩

theorem l1Once_any (g : Nat) (n : Int) (w : World) (h : Cur w g) (hn : n ≤ 256) :
    Calls Try.prog 34 #[.pointer (some ⟨g, 0, none⟩), .int .i64 n] w fun e w' => ∃ b : Bool, e = .returned (.bool b) ∧ Cur w' g ∧ Ch (fun k => k = g) w w' := by
  go_enter Try.func34, Try.ntmps34
  go_wp2_with fail
  refine (l1Below_any g _ _ h hn).mono ?_
  rintro e w1 ⟨x, rfl, hx0, hx1, _, hc, hch⟩
  go_wp2
  go_returns
  exact ⟨_, rfl, hc, hch⟩

theorem l1Pick_any (g : Nat) (A : Option Addr) (n c : Nat) (l : List ByteArray) (w : World) (h : Cur w g) (hl : StrsAt w A n l) (h0 : 0 < n) (hn : n ≤ 256) (hg : ∀ b off, A = some ⟨b, off, none⟩ → b ≠ g) :
    Calls Try.prog 49 #[.pointer (some ⟨g, 0, none⟩), .slice A n c] w fun e w' => ∃ i, i < n ∧ e = .returned (.string (sAt l i)) ∧ Cur w' g ∧ Ch (fun k => k = g) w w' := by
  obtain ⟨b, off, rfl, hbl, hcell⟩ := hl.at_ h0
  have hbg := hg b off rfl
  go_enter Try.func49, Try.ntmps49
  go_wp2_with fail
  refine (l1Below_any g _ _ h (by omega)).mono ?_
  rintro e w1 ⟨x, rfl, hx0, hx1, _, hc, hch⟩
  obtain ⟨i, rfl⟩ := Int.eq_ofNat_of_zero_le hx0
  have hi : i < n := by have := hx1 (by omega); omega
  have hci := hch.cell (hcell i hi) hbg
  go_wp2
  go_returns
  exact ⟨i, hi, rfl, hc, hch⟩
end Go.Proofs.Ytbijkdpifnncmaa
/- Contracts of small leaf functions: ranges and stamps. -/
namespace Go.Proofs.Ytbijkdpifnncmaa
open Go.RowKit

/-- x lies between lo and hi -/
def inB (x lo hi : Int) : Bool := decide (lo ≤ x) && decide (x ≤ hi)

theorem within_any (x lo hi : Int) (w : World) :
    Calls Try.prog 64 #[.int .i64 x, .int .i64 lo, .int .i64 hi] w fun e w' => e = .returned (.bool (inB x lo hi)) ∧ w = w' := by
  go_enter Try.func64, Try.ntmps64
  go_wp2
  all_goals go_ret
  all_goals exact ⟨ret_bool (beq_bool (by simp [inB]; try omega)), rfl⟩

theorem l1In_any (x lo hi : Int) (w : World) :
    Calls Try.prog 69 #[.int .i64 x, .int .i64 lo, .int .i64 hi] w fun e w' => e = .returned (.bool (inB x lo hi)) ∧ w = w' := by
  go_enter Try.func69, Try.ntmps69
  go_wp2
  all_goals go_ret
  all_goals exact ⟨ret_bool (beq_bool (by simp [inB]; try omega)), rfl⟩
end Go.Proofs.Ytbijkdpifnncmaa
/- Rows of bytes of the call's own, and the text made of one. -/
namespace Go.Proofs.Ytbijkdpifnncmaa
open Go.RowKit
theorem var_byte (n : Nat) (h : n < 256) : ((UInt8.ofNat n).toNat : Int) = n := by simp; omega
def byteV (b : UInt8) : Value := .int .u8 (b.toNat : Int)
theorem byteV_of {n : Nat} (h : n < 256) : byteV (UInt8.ofNat n) = .int .u8 (n : Int) := by unfold byteV; rw [var_byte n h]
theorem infoByteV : (Try.prog.info? 5).map (fun i => (i.zero, i.size, i.bytes)) = some (some (.int .u8 0), 1, 1) := by kernel_rfl
theorem conv_own {w : World} {base n c : Nat} {A : Option Addr} {xs : List UInt8} (h : w.ownsRow base 5 1 (.slice A n c) n (xs.map byteV)) (hn : 0 < n) :
    ∃ g, A = some ⟨g, 0, none⟩ ∧ (convert 22 9 (.slice (some ⟨g, 0, none⟩) n c)).run Try.prog w = .ok (.string ⟨xs.toArray⟩) w := by
  rcases own_form h with ⟨_, h0, _⟩ | ⟨g, rfl, _⟩
  · omega
  · have hl : xs.length = n := by have := h.1; simpa using this
    subst hl
    have hcv := run_convert_bytes_back (P := Try.prog) w 22 9 5 ⟨g, 0, none⟩ c xs Try.underlying22 Try.underlying5 Try.underlying9 (by
      intro t ht
      rw [Addr.add_lit, Nat.zero_add, h.cellAt t (by simpa using ht)]
      simp only [List.getElem?_map, List.getElem?_eq_getElem ht]
      rfl)
    exact ⟨g, rfl, hcv⟩
end Go.Proofs.Ytbijkdpifnncmaa
/- The draw of a text: l1Text. -/
namespace Go.Proofs.Ytbijkdpifnncmaa
open Go.RowKit

theorem conv_some {w : World} {base g n c : Nat} {xs : List UInt8} (h : w.ownsRow base 5 1 (.slice (some ⟨g, 0, none⟩) n c) n (xs.map byteV)) :
    (convert 22 9 (.slice (some ⟨g, 0, none⟩) n c)).run Try.prog w = .ok (.string ⟨xs.toArray⟩) w := by
  have hl : xs.length = n := by have := h.1; simpa using this
  subst hl
  exact run_convert_bytes_back (P := Try.prog) w 22 9 5 ⟨g, 0, none⟩ c xs Try.underlying22 Try.underlying5 Try.underlying9 (by
    intro t ht
    rw [Addr.add_lit, Nat.zero_add, h.cellAt t (by simpa using ht)]
    simp only [List.getElem?_map, List.getElem?_eq_getElem ht]
    rfl)
theorem byte_ex {b : Int} (h0 : 0 ≤ b) (h1 : b ≤ 255) : ∃ x : UInt8, Value.int .u8 b = byteV x := by
  obtain ⟨n, rfl⟩ := Int.eq_ofNat_of_zero_le h0
  exact ⟨UInt8.ofNat n, (byteV_of (by omega)).symm⟩

set_option maxRecDepth 4000 in
set_option maxHeartbeats 1000000 in
theorem l1Text_any (g : Nat) (most : Int) (w : World) (h : Cur w g) (h0 : 0 ≤ most) (hm : most ≤ 200) :
    Calls Try.prog 66 #[.pointer (some ⟨g, 0, none⟩), .int .i64 most] w fun e w' => ∃ s : ByteArray, e = .returned (.string s) ∧ (s.size : Int) ≤ most ∧ Cur w' g ∧ Ch (fun k => k = g) w w' := by
  have hlt := h.lt
  have al := (Below.refl w.heap.size w).alloc (Nat.le_refl _) (.cells #[] 5)
  go_enter Try.func66, Try.ntmps66
  go_wp2_with fail
  refine (l1Below_any g _ _ (h.keep al) (by omega)).mono ?_
  rintro e w1 ⟨x, rfl, hx0, hx1, _, hc1, hch1⟩
  obtain ⟨q, rfl⟩ := Int.eq_ofNat_of_zero_le hx0
  have hq : q < 4 := by have := hx1 (by omega); omega
  clear hx0 hx1
  have hown1 := own_ch (own_empty w 5 1 (Nat.le_refl w.heap.size)) hch1 (fun k hk e => by simp [Value.ownBlock] at hk; omega)
  have hchw : Ch (fun k => k = g) w w1 := (Ch.of_below al).trans hch1
  go_wp2_with fail
  refine (l1Below_any g _ _ hc1 (by omega)).mono ?_
  rintro e w2 ⟨x, rfl, hx0, hx1, _, hc2, hch2⟩
  obtain ⟨m, rfl⟩ := Int.eq_ofNat_of_zero_le hx0
  have hmm : (m : Int) ≤ most := by have := hx1 (by omega); omega
  clear hx0 hx1
  have hown2 := own_off hown1 hch2 (by omega)
  have hchw2 := hchw.trans hch2
  clear hown1 hchw hch1 hch2 hc1
  go_wp2
  go_loopw [5, 7] (fun o u wr => ∃ (k : Nat) (L : List UInt8) (o0 cap : Nat), u = .int .i64 k ∧ L.length + k = m ∧ o = .slice (some ⟨o0, 0, none⟩) L.length cap ∧ wr.ownsRow w.heap.size 5 1 (.slice (some ⟨o0, 0, none⟩) L.length cap) L.length (L.map byteV) ∧ Cur wr g ∧ Ch (fun k => k = g) w wr) (fun _ u _ => (intOf u).toNat)
  case atStart => exact ⟨m, [], _, 0, rfl, by simp, rfl, hown2, hc2, hchw2⟩
  case round =>
    obtain ⟨k, L, o0, cap, rfl, hk, rfl, hown, hc, hch⟩ := hrel
    by_cases hpos : 0 < k
    · have hki : (0 : Int) < (k : Int) := by omega
      have hzw := hch.size
      go_wp2_with fail
      refine (l1Byte_any g _ hc).mono ?_
      rintro e w3 ⟨b, rfl, hb0, hb1, hc3, hch3⟩
      have hown3 := own_off hown hch3 (by omega)
      have hz3 : w.heap.size ≤ w3.heap.size := Nat.le_trans hzw hch3.size
      have hch4 := hch.trans hch3
      clear hown hch hch3
      have fin : ∀ (b' : Int) (A' : Option Addr) (c' : Nat) (w4 : World), 0 ≤ b' → b' ≤ 255 → w4.ownsRow w.heap.size 5 1 (.slice A' (L.length + 1) c') (L.length + 1) (L.map byteV ++ [.int .u8 b']) → Below w.heap.size w3 w4 →
          ∃ (L' : List UInt8) (o1 : Nat), L'.length = L.length + 1 ∧ A' = some ⟨o1, 0, none⟩ ∧ w4.ownsRow w.heap.size 5 1 (.slice (some ⟨o1, 0, none⟩) L'.length c') L'.length (L'.map byteV) ∧ Cur w4 g ∧ Ch (fun k => k = g) w w4 := by
        intro b' A' c' w4 k0 k1 ho hb
        obtain ⟨x, hx⟩ := byte_ex k0 k1
        rw [hx] at ho
        obtain ⟨o1, rfl⟩ := (RowIn.of_own ho).head (by omega)
        exact ⟨L ++ [x], o1, by simp, rfl, by simpa using ho, hc3.below hb hlt, hch4.thenB hb⟩
      have FIN := Lib.hid fin
      have hkL : L.length < 201 := by omega
      clear fin hc3 hch4
      rcases (show q = 0 ∨ q = 1 ∨ q = 2 ∨ q = 3 by omega) with rfl | rfl | rfl | rfl
      · go_wp2_with (at_builtin; refine wpList_app1g (P := Try.prog) w3 rfl (.tmp 31) (.tmp 34) 22 rfl w.heap.size 5 _ 1 1 Try.underlying22 infoByteV rfl (by omega) (.slice (some ⟨o0, 0, none⟩) L.length cap) _ _ rfl hown3 _ _ rfl (by simp) rfl (by simp [Value.oneCell']) (by unfold maxLen; omega) (by omega) hz3 ?_; intro A' c' w4 hown4 hg4 hb4 _)
        obtain ⟨L', o1, hl', rfl, r1, r2, r3⟩ := FIN.out _ _ _ _ (by omega) (by omega) hown4 hb4
        exact ⟨⟨k - 1, by omega, L', by omega, o1, c', by rw [hl']; exact ⟨rfl, rfl, rfl⟩, r1, r2, r3⟩, by simp [intOf]; omega⟩
      · have hb2 : 0 ≤ b % 2 ∧ b % 2 ≤ 255 := by omega
        go_wp2_with (at_builtin; refine wpList_app1g (P := Try.prog) w3 rfl (.tmp 31) (.tmp 34) 22 rfl w.heap.size 5 _ 1 1 Try.underlying22 infoByteV rfl (by omega) (.slice (some ⟨o0, 0, none⟩) L.length cap) _ _ rfl hown3 _ _ rfl (by simp) rfl (by simp [Value.oneCell']) (by unfold maxLen; omega) (by omega) hz3 ?_; intro A' c' w4 hown4 hg4 hb4 _)
        obtain ⟨L', o1, hl', rfl, r1, r2, r3⟩ := FIN.out _ _ _ _ (by omega) (by omega) hown4 hb4
        exact ⟨⟨k - 1, by omega, L', by omega, o1, c', by rw [hl']; exact ⟨rfl, rfl, rfl⟩, r1, r2, r3⟩, by simp [intOf]; omega⟩
      · have hb2 : 0 ≤ b % 4 ∧ b % 4 ≤ 3 := by omega
        go_wp2_with (at_builtin; refine wpList_app1g (P := Try.prog) w3 rfl (.tmp 31) (.tmp 34) 22 rfl w.heap.size 5 _ 1 1 Try.underlying22 infoByteV rfl (by omega) (.slice (some ⟨o0, 0, none⟩) L.length cap) _ _ rfl hown3 _ _ rfl (by simp) rfl (by simp [Value.oneCell']) (by unfold maxLen; omega) (by omega) hz3 ?_; intro A' c' w4 hown4 hg4 hb4 _)
        obtain ⟨L', o1, hl', rfl, r1, r2, r3⟩ := FIN.out _ _ _ _ (by omega) (by omega) hown4 hb4
        exact ⟨⟨k - 1, by omega, L', by omega, o1, c', by rw [hl']; exact ⟨rfl, rfl, rfl⟩, r1, r2, r3⟩, by simp [intOf]; omega⟩
      · go_wp2_with (at_builtin; refine wpList_app1g (P := Try.prog) w3 rfl (.tmp 31) (.tmp 34) 22 rfl w.heap.size 5 _ 1 1 Try.underlying22 infoByteV rfl (by omega) (.slice (some ⟨o0, 0, none⟩) L.length cap) _ _ rfl hown3 _ _ rfl (by simp) rfl (by simp [Value.oneCell']) (by unfold maxLen; omega) (by omega) hz3 ?_; intro A' c' w4 hown4 hg4 hb4 _)
        obtain ⟨L', o1, hl', rfl, r1, r2, r3⟩ := FIN.out _ _ _ _ (by omega) (by omega) hown4 hb4
        exact ⟨⟨k - 1, by omega, L', by omega, o1, c', by rw [hl']; exact ⟨rfl, rfl, rfl⟩, r1, r2, r3⟩, by simp [intOf]; omega⟩
    · have hk0 : k = 0 := by omega
      subst hk0
      have hcv := conv_some hown
      have hsz : (⟨L.toArray⟩ : ByteArray).size = L.length := by show L.toArray.size = _; simp
      go_wp2
      go_returns
      exact ⟨_, rfl, by rw [hsz]; omega, hc, hch⟩

end Go.Proofs.Ytbijkdpifnncmaa
/- The draws of paths: l30Path. -/
namespace Go.Proofs.Ytbijkdpifnncmaa
open Go.RowKit
theorem strs_new (w : World) (e : TypeId) (l : List ByteArray) : StrsAt (w.alloc (.cells (l.map Value.string).toArray e)) (some ⟨w.heap.size, 0, none⟩) l.length l := by
  refine ⟨rfl, fun _ => ⟨w.heap.size, 0, rfl, by simp, fun i hi => ?_⟩⟩
  rw [Nat.zero_add, World.cell?_alloc_new]
  simp [sAt, hi]
theorem sAt_le {l : List ByteArray} {m : Nat} (h : ∀ x ∈ l, x.size ≤ m) (i : Nat) : (sAt l i).size ≤ m := by
  unfold sAt
  by_cases hi : i < l.length
  · simp [hi]; exact h _ (List.getElem_mem hi)
  · simp [hi]
def pthA : List ByteArray := [⟨#[97]⟩, ⟨#[98]⟩, ⟨#[100, 105, 114]⟩, ⟨#[120]⟩]
def pthB : List ByteArray := [⟨#[97]⟩, ⟨#[98]⟩, ⟨#[102]⟩]
def pthC : List ByteArray := [⟨#[]⟩, ⟨#[47]⟩, ⟨#[97, 47]⟩, ⟨#[47, 97]⟩, ⟨#[65]⟩, ⟨#[97, 47, 47, 98]⟩, ⟨#[97, 47, 98, 47, 99, 47, 100]⟩, ⟨#[97, 98, 99, 100, 101, 102, 103, 104, 105]⟩]
theorem pthA_le (i : Nat) : (sAt pthA i).size ≤ 3 := sAt_le (by decide) i
theorem pthB_le (i : Nat) : (sAt pthB i).size ≤ 1 := sAt_le (by decide) i
theorem pthC_le (i : Nat) : (sAt pthC i).size ≤ 9 := sAt_le (by decide) i
theorem blk_ne {w : World} {g : Nat} (h : g < w.heap.size) : ∀ b off, (some ⟨w.heap.size, 0, none⟩ : Option Addr) = some ⟨b, off, none⟩ → b ≠ g := by
  intro b off e
  injection e with e; injection e with e _ _
  omega
set_option maxRecDepth 4000 in
set_option maxHeartbeats 400000 in
theorem l30Path_any (g : Nat) (w : World) (h : Cur w g) :
    Calls Try.prog 60 #[.pointer (some ⟨g, 0, none⟩)] w fun e w' => ∃ p : ByteArray, e = .returned (.string p) ∧ p.size ≤ 16 ∧ Cur w' g ∧ Ch (fun k => k = g) w w' := by
  have hlt := h.lt
  have al := (Below.refl w.heap.size w).alloc (Nat.le_refl _) (.cells (pthA.map Value.string).toArray 9)
  go_enter Try.func60, Try.ntmps60
  go_wp2_with fail
  refine (l1Pick_any g _ 4 _ pthA _ (h.keep al) (strs_new _ _ pthA) (by omega) (by omega) (blk_ne hlt)).mono ?_
  rintro e w1 ⟨i, hi, rfl, hc1, hch1⟩
  have hs1 := pthA_le i
  generalize sAt pthA i = p1 at *
  have hch1 := (Ch.of_below al).trans hch1
  clear al
  go_wp2_with fail
  refine (l1Below_any g _ _ hc1 (by omega)).mono ?_
  rintro e w2 ⟨x, rfl, hx0, hx1, _, hc2, hch2⟩
  obtain ⟨n, rfl⟩ := Int.eq_ofNat_of_zero_le hx0
  have hn : n < 3 := by have := hx1 (by omega); omega
  clear hx0 hx1
  have hchw := hch1.trans hch2
  go_wp2
  go_loopw [3, 4] (fun p n wr => ∃ (k : Nat) (q : ByteArray), n = .int .i64 k ∧ p = .string q ∧ q.size + 2 * k ≤ 7 ∧ Cur wr g ∧ Ch (fun k => k = g) w wr) (fun _ n _ => (intOf n).toNat)
  case atStart => exact ⟨n, p1, rfl, rfl, by omega, hc2, hchw⟩
  case round =>
    clear hc1 hc2 hch1 hch2 hchw
    obtain ⟨k, q, rfl, rfl, hq, hc, hch⟩ := hrel
    by_cases hpos : 0 < k
    · have hki : (0 : Int) < (k : Int) := by omega
      have hltr := hc.lt
      have al := (Below.refl wr.heap.size wr).alloc (Nat.le_refl _) (.cells (pthB.map Value.string).toArray 9)
      go_wp2_with fail
      refine (l1Pick_any g _ 3 _ pthB _ (hc.keep al) (strs_new _ _ pthB) (by omega) (by omega) (blk_ne hltr)).mono ?_
      rintro e w3 ⟨i, hi, rfl, hc3, hch3⟩
      have hs3 := pthB_le i
      generalize sAt pthB i = p3 at *
      go_wp2
      refine ⟨⟨k - 1, _, by congr 1; omega, rfl, ?_, hc3, (hch.trans (Ch.of_below al)).trans hch3⟩, by simp [intOf]; omega⟩
      simp only [ByteArray.size_append]
      have : (⟨#[47]⟩ : ByteArray).size = 1 := rfl
      omega
    · have hk0 : ¬ (0 : Int) < (k : Int) := by omega
      go_wp2_with fail
      refine (l1Once_any g _ _ hc (by omega)).mono ?_
      rintro e w3 ⟨b, rfl, hc3, hch3⟩
      have hchw := hch.trans hch3
      have hlt3 := hc3.lt
      cases b
      · go_wp2
        go_returns
        exact ⟨q, rfl, by omega, hc3, hchw⟩
      · have al := (Below.refl w3.heap.size w3).alloc (Nat.le_refl _) (.cells (pthC.map Value.string).toArray 9)
        go_wp2_with fail
        refine (l1Pick_any g _ 8 _ pthC _ (hc3.keep al) (strs_new _ _ pthC) (by omega) (by omega) (blk_ne hlt3)).mono ?_
        rintro e w4 ⟨i, hi, rfl, hc4, hch4⟩
        have hs4 := pthC_le i
        go_wp2
        go_returns
        exact ⟨_, rfl, by omega, hc4, (hchw.trans (Ch.of_below al)).trans hch4⟩
end Go.Proofs.Ytbijkdpifnncmaa
/- A region that draws its order, walked by an invariant over what has been done: no listing of orders. -/
namespace Go.Proofs.Ytbijkdpifnncmaa
section
variable {P : Program} {ops : Array Oper} {Q : Exit → Act → World → Prop}

/-- every edge leads to an operation ahead -/
def dagB (ops : Array Oper) : Bool := (List.range ops.size).all fun i => ((ops[i]?).map fun (o : Oper) => o.after.all fun e => decide (e.on < i) || !Region.binds .any e).getD true
/-- operation i waits for operation j -/
def depB (ops : Array Oper) (i j : Nat) : Bool := ((ops[i]?).map fun (o : Oper) => o.after.any fun e => Region.binds .any e && decide (e.on = j)).getD false

theorem getD_of {L : Array Bool} {i : Nat} (hi : i < L.size) (b : Bool) : L.getD i b = L[i] := by simp [Array.getD, hi]
theorem dag_none (hB : dagB ops = true) {L : Array Bool} (hL : L.size = ops.size) (h : Region.ready .any ops L = []) : ∀ i, i < ops.size → L.getD i false = true := by
  intro i
  induction i using Nat.strongRecOn with
  | _ i ih =>
    intro hi
    have hb := List.all_eq_true.1 hB i (List.mem_range.2 hi)
    have ho : ops[i]? = some ops[i] := Array.getElem?_eq_getElem hi
    rw [ho] at hb
    simp only [Option.map_some, Option.getD_some, Array.all_eq_true'] at hb
    cases hc : L.getD i false with
    | true => rfl
    | false =>
      have hm : i ∈ Region.ready .any ops L := by
        rw [mem_ready]
        refine ⟨by rw [getD_of (by omega)] at hc ⊢; exact hc, _, ho, fun e he hbi => ?_⟩
        have := hb e he
        simp only [hbi, Bool.not_true, Bool.or_false, decide_eq_true_eq] at this
        exact ih e.on this (by omega)
      rw [h] at hm; cases hm
theorem dag_set {L : Array Bool} {i : Nat} (hi : i < L.size) : (fun k => (L.setIfInBounds i true).getD k false) = fun k => k == i || L.getD k false := by
  funext k
  by_cases e : k = i
  · subst e; simp [Array.getD, hi]
  · have : (k == i) = false := by simp [e]
    rw [this, Bool.false_or]
    simp only [Array.getD, Array.size_setIfInBounds]
    split
    · rename_i hk
      rw [Array.getInternal_eq_getElem, Array.getInternal_eq_getElem, Array.getElem_setIfInBounds hk]; simp [Ne.symm e]
    · rfl
theorem dag_count {L : Array Bool} {i : Nat} (h : L.getD i true = false) : (L.setIfInBounds i true).toList.countP (!·) + 1 ≤ L.toList.countP (!·) := by
  have hi : i < L.size := by
    rcases Nat.lt_or_ge i L.size with h' | h'
    · exact h'
    · rw [Array.getD, dif_neg (by omega)] at h; cases h
  rw [getD_of hi] at h
  rw [Array.toList_setIfInBounds, List.countP_set (by simpa using hi)]
  have hp : 0 < L.toList.countP (!·) := List.countP_pos_iff.2 ⟨L[i], by simp, by simp [h]⟩
  have e1 : L.toList[i]'(by simpa using hi) = false := by simpa using h
  rw [e1]
  simp only [Bool.not_false, Bool.not_true, if_true, Bool.false_eq_true, if_false]
  omega
theorem dag_any (hB : dagB ops = true) (I : (Nat → Bool) → Act → World → Prop)
    (st : ∀ i D a w, i < ops.size → D i = false → (∀ j, depB ops i j = true → D j = true) → I D a w → wpOp P ops Q i (I (fun k => k == i || D k)) a w)
    (hend : ∀ D a w, (∀ i, i < ops.size → D i = true) → I D a w → Q .normal a w) :
    ∀ (fuel : Nat) (L : Array Bool) (a : Act) (w : World), L.size = ops.size → L.toList.countP (!·) ≤ fuel → I (fun k => L.getD k false) a w → wpAny P .any ops Q fuel L a w := by
  intro fuel
  induction fuel with
  | zero =>
    intro L a w hL hc hI
    have hr : Region.ready .any ops L = [] := by
      rw [List.eq_nil_iff_forall_not_mem]
      intro i hi
      have := dag_count (mem_ready.1 hi).1
      omega
    exact ⟨hr, hend _ a w (dag_none hB hL hr) hI⟩
  | succ fuel ih =>
    intro L a w hL hc hI
    refine ⟨fun hr => hend _ a w (dag_none hB hL hr) hI, fun i hi => ?_⟩
    obtain ⟨h0, o, ho, hall⟩ := mem_ready.1 hi
    have hin : i < ops.size := (Array.getElem?_eq_some_iff.1 ho).1
    have hci := dag_count h0
    refine wpOp_mono (fun a' w' h => ih _ a' w' (by simpa using hL) (by omega) (by rw [dag_set (by omega)]; exact h)) (st i _ a w hin ?_ ?_ hI)
    · rw [getD_of (by omega)] at h0 ⊢; exact h0
    · intro j hj
      unfold depB at hj
      rw [ho] at hj
      simp only [Option.map_some, Option.getD_some, Array.any_eq_true', Bool.and_eq_true, decide_eq_true_eq] at hj
      obtain ⟨e, he, hb, rfl⟩ := hj
      exact hall e he hb
theorem wp_region_dag {id : Nat} {a : Act} {w : World} (hm : P.follows .mixedOrders = true) (hB : dagB ops = true) (I : (Nat → Bool) → Act → World → Prop) (h0 : I (fun _ => false) a w.drew)
    (st : ∀ i D a w, i < ops.size → D i = false → (∀ j, depB ops i j = true → D j = true) → I D a w → wpOp P ops Q i (I (fun k => k == i || D k)) a w)
    (hend : ∀ D a w, (∀ i, i < ops.size → D i = true) → I D a w → Q .normal a w) : (Code.region id ops true).wp P Q a w := by
  refine wp_region_any hm (dag_any hB I st hend _ _ _ _ (by simp) ?_ ?_)
  · refine Nat.le_trans (List.countP_le_length) ?_
    simp
  · have : (fun k => (Array.replicate ops.size false).getD k false) = fun _ => false := by
      funext k
      simp only [Array.getD, Array.size_replicate]
      split
      · rw [Array.getInternal_eq_getElem, Array.getElem_replicate]
      · rfl
    rw [this]
    exact h0
end
end Go.Proofs.Ytbijkdpifnncmaa
/- A region that draws its order, walked by an invariant over what has been done; the slots that it writes are given by their numbers alone. -/
namespace Go.Proofs.Ytbijkdpifnncmaa
/-- slots set, one by one -/
def putAll (a : Act) : List Nat → List Value → Act
  | i :: is, v :: vs => putAll { a with tmps := a.tmps.setIfInBounds i v } is vs
  | _, _ => a
theorem putAll_self (a : Act) : ∀ ss : List Nat, putAll a ss (ss.map fun i => a.tmps.getD i undef) = a
  | [] => rfl
  | i :: is => by
    have h : ({ a with tmps := a.tmps.setIfInBounds i (a.tmps.getD i undef) } : Act) = a := by
      have : a.tmps.setIfInBounds i (a.tmps.getD i undef) = a.tmps := by
        apply Array.ext
        · simp
        · intro k h1 h2
          rw [Array.getElem_setIfInBounds]
          split
          · rename_i e; subst e; simp [Array.getD, h2]
          · rfl
      rw [this]
    show putAll { a with tmps := a.tmps.setIfInBounds i (a.tmps.getD i undef) } is (is.map fun i => a.tmps.getD i undef) = a
    rw [h]; exact putAll_self a is
section
variable {P : Program} {ops : Array Oper} {Q : Exit → Act → World → Prop}
theorem wp_region_dagb {id : Nat} {a : Act} {w : World} (ss : List Nat) (hm : P.follows .mixedOrders = true) (hB : dagB ops = true) (J : (Nat → Bool) → List Value → World → Prop)
    (h0 : J (fun _ => false) (ss.map fun i => a.tmps.getD i undef) w.drew)
    (st : ∀ i D vs w, i < ops.size → D i = false → (∀ j, depB ops i j = true → D j = true) → (∀ i j, D i = true → depB ops i j = true → D j = true) → J D vs w →
      wpOp P ops Q i (fun a' w' => ∃ vs', a' = putAll a ss vs' ∧ J (fun k => k == i || D k) vs' w') (putAll a ss vs) w)
    (hend : ∀ D vs w, (∀ i, i < ops.size → D i = true) → J D vs w → Q .normal (putAll a ss vs) w) : (Code.region id ops true).wp P Q a w :=
  wp_region_dag hm hB (fun D a' w' => (∀ i j, D i = true → depB ops i j = true → D j = true) ∧ ∃ vs', a' = putAll a ss vs' ∧ J D vs' w') ⟨(fun _ _ h => by cases h), _, (putAll_self a ss).symm, h0⟩
    (fun i D a' w' hi hD hdep hI => by
      obtain ⟨hcl, vs, rfl, hJ⟩ := hI
      refine wpOp_mono (fun a' w' h => ⟨fun k j hk hj => ?_, h⟩) (st i D vs w' hi hD hdep hcl hJ)
      simp only [Bool.or_eq_true] at hk ⊢
      rcases hk with hk | hk
      · have : k = i := by simpa using hk
        subst this; exact .inr (hdep j hj)
      · exact .inr (hcl k j hk hj))
    (fun D a' w' hD hI => by obtain ⟨_, vs, rfl, hJ⟩ := hI; exact hend D vs w' hD hJ)
end
end Go.Proofs.Ytbijkdpifnncmaa
