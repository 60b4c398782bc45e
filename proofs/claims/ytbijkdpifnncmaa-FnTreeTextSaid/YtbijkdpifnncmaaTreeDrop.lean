/- Contracts of TreeDrop, both sides. -/
import Derived.Test.YtbijkdpifnncmaaDelEnts
import Derived.Test.YtbijkdpifnncmaaCopyEntsS
import Derived.Test.YtbijkdpifnncmaaTreeOkS
namespace Go.Proofs.Ytbijkdpifnncmaa
open Go.RowKit
attribute [local irreducible] StrsAt treeOkB underB beginsB

/-- is a path dropped with q? -/
def dropB (q x : ByteArray) : Bool := decide (x = q) || underB x q
def dropL (l : List Ent) (q : ByteArray) : List Ent := if treeOkB l = true then l.filter (fun x => !dropB q x.p) else []
def dropN (l : List Ent) (q : ByteArray) : Int := if treeOkB l = true then (l.length : Int) - ((dropL l q).length : Int) else 0
theorem entsSz_cons (x : Ent) (l : List Ent) : entsSz (x :: l) = 1 + entSz x + entsSz l := by simp [entsSz]; omega
theorem entsSz_filter (p : Ent → Bool) (l : List Ent) : entsSz (l.filter p) ≤ entsSz l := by
  induction l with
  | nil => simp
  | cons x l ih =>
    rw [List.filter_cons]
    split
    · rw [entsSz_cons, entsSz_cons]; omega
    · rw [entsSz_cons]; omega
theorem dropL_sz (l : List Ent) (q : ByteArray) {m : Nat} (h : entsSz l ≤ m) : entsSz (dropL l q) ≤ m := by
  unfold dropL
  split
  · exact Nat.le_trans (entsSz_filter _ _) h
  · simp [entsSz]

theorem drop_fn (B : Nat) (q : ByteArray) (hq : q.size ≤ 1048576) : TestFn 50 B q (dropB q) := by
  intro x A n c w hx hB
  have hlt := cell_lt hB
  have hne : B ≠ w.heap.size := by omega
  by_cases he : x = q
  · have hd : (x.toList == q.toList) = true := by rw [str_beq]; simpa using he
    have HR := Lib.hid (show dropB q x = true by unfold dropB; simp [he])
    go_enter Try.func50, Try.ntmps50
    go_wp2
    go_returns
    exact ⟨by rw [HR.out]; rfl, by go_grown⟩
  · have hd : (x.toList == q.toList) = false := by rw [str_beq]; simpa using he
    have HR := Lib.hid (show dropB q x = underB x q by unfold dropB; simp [he])
    have HS := Lib.hid (slash_size q)
    have HB := Lib.hid (begins_slash x q)
    have q1 : ¬ 9223372036854775807 < q.size + 1 := by omega
    go_enter Try.func50, Try.ntmps50
    go_wp2_with fail
    refine (begins_any x (slash q) _ (by omega) (by have := HS.out; omega)).mono ?_
    rintro r w' ⟨rfl, rfl⟩
    go_wp2
    go_returns
    exact ⟨by rw [HR.out, HB.out]; rfl, by go_grown⟩

attribute [local irreducible] dropB
/-- entries and a number, the entries in memory of the call's own -/
def EntsNR (l : List Ent) (x : Int) (w : World) (e : Ending) (w' : World) : Prop :=
  ∃ A n c, e = .returned (.tuple #[.slice A n c, .int .i64 x]) ∧ EntsIn w.heap.size w'.heap.size w' A n c l ∧ Below w.heap.size w w'

set_option maxRecDepth 4000 in
set_option maxHeartbeats 400000 in
theorem treeDrop_impl (A : Option Addr) (n c : Nat) (l : List Ent) (q : ByteArray) (w : World) (h : EntsAt w A n l) (hs : entsSz l ≤ 1048576) (hq : q.size ≤ 1048576) :
    Calls Try.prog 18 #[.slice A n c, .string q] w (EntsNR (dropL l q) (dropN l q) w) := by
  have HL := Lib.hid h.1
  have hn := ents_n h hs
  have al := fun o => (Below.refl w.heap.size w).alloc (Nat.le_refl _) o
  obtain ⟨t, ht⟩ : ∃ t, treeOkB l = t := ⟨_, rfl⟩
  have HQ := Lib.hid ht
  cases t
  · have HR := Lib.hid (show dropL l q = [] by simp [dropL, ht])
    have HN := Lib.hid (show dropN l q = 0 by simp [dropN, ht])
    clear ht
    rw [HR.out, HN.out]
    go_enter Try.func18, Try.ntmps18
    go_wp2_with fail
    refine (treeOk_impl _ _ _ l _ (h.keep (al _)) hs).mono ?_
    rintro e w1 ⟨rfl, hb1⟩; rw [HQ.out]
    go_wp2
    go_returns
    exact ⟨none, 0, 0, rfl, EntsIn.nil, bthen (al _) hb1⟩
  · have HR := Lib.hid (show dropL l q = l.filter (fun x => !dropB q x.p) by simp [dropL, ht])
    have HN := Lib.hid (show dropN l q = (l.length : Int) - ((dropL l q).length : Int) by simp [dropN, ht])
    clear ht
    go_enter Try.func18, Try.ntmps18
    go_wp2_with fail
    refine (treeOk_impl _ _ _ l _ (h.keep (al _)) hs).mono ?_
    rintro e w1 ⟨rfl, hb1⟩; rw [HQ.out]
    have hb1w := bthen (al _) hb1
    have hB1 := keep_cell hb1 (show (w.alloc (.cells #[.string q] 9)).cell? ⟨w.heap.size, 0, none⟩ = some (.string q) by simp [go_sem])
    go_wp2_with fail
    refine (copyEntries_impl _ _ _ l _ (h.keep hb1w) hs).mono ?_
    rintro e w2 ⟨A2, n2, c2, rfl, hin2, hb2⟩
    have hb2w := bthen hb1w hb2
    have hB2 := keep_cell hb2 hB1
    have hlt := cell_lt hB1
    go_wp2_with fail
    refine (del_any 50 w.heap.size q (dropB q) (drop_fn _ q hq) (fun _ _ => rfl) _ _ _ l _ _ _ hin2 hs hB2 (fun hi => by unfold Iv at hi; omega) (Nat.le_refl _)).mono ?_
    rintro e w3 ⟨n3, rfl, hin3, hch3⟩
    have HN3 := Lib.hid hin3.len
    have hn3b : n3 ≤ n := by rw [HN3.out, HL.out]; exact List.length_filter_le _ _
    have hz1 := hb1w.size
    go_wp2
    go_returns
    have hb3 : Below w.heap.size w w3 := hb2w.trans (hch3.below (fun k hk => by unfold Iv at hk; omega) hb2w.size)
    refine ⟨A2, n3, c2, ?_, by rw [HR.out]; exact (hin3.wide hz1 hch3.size), hb3⟩
    show Ending.returned (.tuple #[.slice A2 n3 c2, .int .i64 ((n : Int) - (n3 : Int))]) = _
    rw [HN.out, HR.out, ← HL.out, ← HN3.out]

/-- a row's cells read as entries -/
def EntCells (w : World) (xs : List Value) (l : List Ent) : Prop :=
  ∀ i, i < l.length → xs[i * 2]? = some (.string (enAt l i).p) ∧ ∃ A n c, xs[i * 2 + 1]? = some (.slice A n c) ∧ StrsAt w A n (enAt l i).ch ∧ (A = none → c = 0)
theorem EntCells.keep {w w' : World} {xs : List Value} {l : List Ent} (h : EntCells w xs l) (hb : Below w.heap.size w w') : EntCells w' xs l := fun i hi => by
  obtain ⟨h0, A, n, c, h1, h2, h3⟩ := h i hi
  exact ⟨h0, A, n, c, h1, h2.keep hb, h3⟩
theorem EntsAt.of_cells {w : World} {base e : Nat} {A : Option Addr} {n c : Nat} {xs : List Value} {l : List Ent} (h : w.ownsRow base e 2 (.slice A n c) n xs) (hl : n = l.length) (hx : EntCells w xs l) : EntsAt w A n l := by
  refine ⟨hl, fun hn => ?_⟩
  obtain ⟨b, off, rfl, hc⟩ := (own_cells h).2 hn
  have h0 := (hx 0 (by omega)).1
  refine ⟨b, off, rfl, cell_lt (hc _ _ h0), fun i hi => ?_⟩
  obtain ⟨g0, A', n', c', g1, g2, g3⟩ := hx i (by omega)
  exact ⟨hc _ _ g0, A', n', c', hc _ _ g1, g2, g3⟩
theorem EntCells.snoc {w : World} {xs : List Value} {l : List Ent} {x : Ent} {A : Option Addr} {n c : Nat} (h : EntCells w xs l) (hl : xs.length = l.length * 2) (h1 : StrsAt w A n x.ch) (h2 : A = none → c = 0) :
    EntCells w (xs ++ [.string x.p, .slice A n c]) (l ++ [x]) := by
  intro i hi
  rcases Nat.lt_or_ge i l.length with hlt | hge
  · obtain ⟨g0, A', n', c', g1, g2, g3⟩ := h i hlt
    have e1 : enAt (l ++ [x]) i = enAt l i := by simp [enAt, List.getElem?_append_left hlt]
    rw [e1, List.getElem?_append_left (by omega), List.getElem?_append_left (by omega)]
    exact ⟨g0, A', n', c', g1, g2, g3⟩
  · have hi2 : i = l.length := by simp at hi; omega
    subst hi2
    have e1 : enAt (l ++ [x]) l.length = x := by simp [enAt]
    rw [e1, List.getElem?_append_right (by omega), List.getElem?_append_right (by omega), hl]
    exact ⟨by simp, A, n, c, by simp, h1, h2⟩
theorem filter_take {p : Ent → Bool} {l : List Ent} {k : Nat} (hk : k < l.length) : (l.take (k + 1)).filter p = (l.take k).filter p ++ (if p (enAt l k) then [enAt l k] else []) := by
  rw [take_snoc2 l k hk, List.filter_append, enAt_get hk]
  by_cases hp : p l[k] = true <;> simp [hp]

end Go.Proofs.Ytbijkdpifnncmaa
