/- The laws' helpers on lists of events in one shape: copy, marks. -/
import Derived.Test.YtjhkeknbbeckgaaLawEvents
import Derived.Test.YtjhkeknbbeckgaaStrRow
import Derived.Test.YtjhkeknbbeckgaaNest
namespace Go.Proofs.Ytjhkeknbbeckgaa
open Go.RowKit

def evL (e : Ev) : List Value := [.int .i64 e.t, .int .i64 e.c, .int .i64 e.n, .string e.x]
def evsL (l : List Ev) : List Value := (l.map evL).flatten
theorem evL_len (l : List Ev) : ∀ cs ∈ l.map evL, cs.length = 4 := fun cs h => by obtain ⟨x, _, rfl⟩ := List.mem_map.1 h; rfl
theorem evsL_len (l : List Ev) : (evsL l).length = l.length * 4 := by unfold evsL; rw [flat_len (evL_len l), List.length_map]
theorem evsL_get (l : List Ev) {i j : Nat} (hi : i < l.length) (hj : j < 4) : (evsL l)[i * 4 + j]? = (evL (eAt l i))[j]? := by
  unfold evsL
  exact flat_get (evL_len l) (i := i) (cs := evL (eAt l i)) (by rw [eAt_get hi]; simp [hi]) hj
theorem evsL_cells (l : List Ev) : evCells (evsL l) l l.length := fun j hj =>
  ⟨evsL_get l hj (j := 0) (by omega), evsL_get l hj (j := 1) (by omega), evsL_get l hj (j := 2) (by omega), evsL_get l hj (j := 3) (by omega)⟩
theorem evsL_of {xs : List Value} {l : List Ev} (hl : xs.length = l.length * 4) (h : evCells xs l l.length) : xs = evsL l := by
  apply List.ext_getElem?
  intro j
  rcases Nat.lt_or_ge j (l.length * 4) with hj | hj
  · have hi : j / 4 < l.length := by omega
    obtain ⟨h0, h1, h2, h3⟩ := h _ hi
    obtain ⟨g0, g1, g2, g3⟩ := evsL_cells l _ hi
    rcases (show j = j / 4 * 4 ∨ j = j / 4 * 4 + 1 ∨ j = j / 4 * 4 + 2 ∨ j = j / 4 * 4 + 3 by omega) with e | e | e | e
    · rw [e, h0, g0]
    · rw [e, h1, g1]
    · rw [e, h2, g2]
    · rw [e, h3, g3]
  · rw [List.getElem?_eq_none (by omega), List.getElem?_eq_none (by rw [evsL_len]; omega)]
theorem evsL_snoc (l : List Ev) (e : Ev) : evsL (l ++ [e]) = evsL l ++ evL e := by simp [evsL]

structure EvsOk (w : World) (A : Option Addr) (n : Nat) (l : List Ev) : Prop where
  at_ : EvsAt w A n l
  bn : n ≤ 9223372036854775807
  bs : ∀ i, i < n → (eAt l i).x.size ≤ 9223372036854775807
theorem EvsOk.keep {w w' : World} {A : Option Addr} {n : Nat} {l : List Ev} (h : EvsOk w A n l) (hb : Below w.heap.size w w') : EvsOk w' A n l := ⟨h.at_.keep hb, h.bn, h.bs⟩
structure EvsIn (lo hi : Nat) (w : World) (A : Option Addr) (n c : Nat) (l : List Ev) : Prop where
  row : RowIn 89 4 lo hi w A n c (evsL l)
section
variable {lo hi lo' hi' n c : Nat} {w w' : World} {A : Option Addr} {l : List Ev}
theorem EvsIn.keep (h : EvsIn lo hi w A n c l) (hb : Below w.heap.size w w') : EvsIn lo hi w' A n c l := ⟨h.row.keep hb⟩
theorem EvsIn.ch {S : Nat → Prop} (h : EvsIn lo hi w A n c l) (hc : Ch S w w') (hS : ∀ k, Iv lo hi k → ¬ S k) : EvsIn lo hi w' A n c l := ⟨h.row.ch hc hS⟩
theorem EvsIn.wide (h : EvsIn lo hi w A n c l) (h1 : lo' ≤ lo) (h2 : hi ≤ hi') : EvsIn lo' hi' w A n c l := ⟨h.row.wide h1 h2⟩
theorem EvsIn.len (h : EvsIn lo hi w A n c l) : n = l.length := by have := h.row.len; rw [evsL_len] at this; omega
theorem EvsIn.at_ (h : EvsIn lo hi w A n c l) : EvsAt w A n l := EvsAt.of_own h.row.own h.len (by rw [h.len]; exact evsL_cells l)
theorem EvsIn.of_own (h : w.ownsRow lo 89 4 (.slice A n c) n (evsL l)) : EvsIn lo w.heap.size w A n c l := ⟨RowIn.of_own h⟩
theorem EvsIn.nil : EvsIn lo hi w none 0 0 [] := ⟨RowIn.nil⟩
end
/-- the answer is events in memory of the call's own -/
def EvsR (l : List Ev) (w : World) (e : Ending) (w' : World) : Prop :=
  ∃ A n c, e = .returned (.slice A n c) ∧ EvsIn w.heap.size w'.heap.size w' A n c l ∧ Below w.heap.size w w'
theorem evs_n {w : World} {A : Option Addr} {n : Nat} {l : List Ev} {m : Nat} (h : EvsAt w A n l) (hs : evsSz l ≤ m) : n ≤ m := by
  have := h.1; unfold evsSz at hs; omega
theorem evs_sz (A : Option Addr) (n c : Nat) (l : List Ev) (left : Int) (w : World) (h : EvsOk w A n l) (hl0 : 0 ≤ left) (hl1 : left ≤ 4611686018427387904) :
    Calls Try.prog 49 #[.slice A n c, .int .i64 left] w fun e w' => e = .returned (.int .i64 (szR left (evsSz l))) ∧ Below w.heap.size w w' :=
  szEvents_any A n c l left w h.at_ h.bn hl0 hl1 h.bs
theorem evs_to (A : Option Addr) (n c : Nat) (l : List Ev) (w : World) (h : EvsAt w A n l) (hs : evsSz l ≤ 1048576) :
    Calls Try.prog 51 #[.slice A n c] w fun e w' => ∃ A' n' c', e = .returned (.slice A' n' c') ∧ EvsIn w.heap.size w'.heap.size w' A' n' c' l ∧ Below w.heap.size w w' :=
  (toEvents_any A n c l w h (by have := evs_n h hs; omega)).mono fun e w' ⟨g, xs, he, ho, hx, hb⟩ => ⟨_, _, _, he, EvsIn.of_own (by
    have hl := h.1
    subst hl
    rw [← evsL_of ho.1 hx]; exact ho), hb⟩
theorem evs_eq (A : Option Addr) (n c : Nat) (A' : Option Addr) (n' c' : Nat) (l : List Ev) (w : World) (h : EvsAt w A n l) (h' : EvsAt w A' n' l) (hs : evsSz l ≤ 16777216) :
    Calls Try.prog 53 #[.slice A n c, .slice A' n' c'] w fun e w' => e = .returned (.bool true) ∧ Below w.heap.size w w' := by
  obtain rfl : n = n' := h.1.trans h'.1.symm
  exact eqEvents_same A A' n c c' l w h h' (by have := evs_n h hs; omega)
def mkEv (k : Int) (j : Nat) : Ev := ⟨k + 4 * (j : Int), k + 4 * (j : Int) + 1, k + 4 * (j : Int) + 1 + 1, mtx (k + 4 * (j : Int) + 1 + 1 + 1)⟩
def evsMk (k : Int) (l : List Ev) : List Ev := (List.range l.length).map (mkEv k)
def evsCnt (l : List Ev) : Nat := 4 * l.length
theorem evs_cnt (l : List Ev) : evsCnt l ≤ 4 * evsSz l := by unfold evsCnt evsSz; omega
theorem eAt_mk {k : Int} {l : List Ev} {j : Nat} (h : j < l.length) : eAt (evsMk k l) j = mkEv k j := by simp [eAt, evsMk, h]

set_option maxHeartbeats 400000 in
theorem evs_mark (A : Option Addr) (n c : Nat) (l : List Ev) (k : Int) (lo hi : Nat) (w : World) (h : EvsIn lo hi w A n c l) (hs : evsSz l ≤ 16777216) (hk0 : 0 < k) (hk1 : k ≤ 288230376151711744) :
    Calls Try.prog 54 #[.slice A n c, .int .i64 k] w fun e w' => e = .returned (.int .i64 (k + (evsCnt l : Nat))) ∧ EvsIn lo hi w' A n c (evsMk k l) ∧ Ch (Iv lo hi) w w' := by
  have hn := evs_n h.at_ hs
  have HL := Lib.hid h.len
  go_enter Try.func54, Try.ntmps54
  go_wp2
  go_loopw [1, 5] (fun u i wr => ∃ (q : Nat) (xs : List Value), q ≤ n ∧ i = .int .i64 q ∧ u = .int .i64 (k + 4 * (q : Int)) ∧ RowIn 89 4 lo hi wr A n c xs ∧ evCells xs (evsMk k l) q ∧ Ch (Iv lo hi) w wr) (fun _ i _ => n - (intOf i).toNat)
  case atStart => exact ⟨0, _, Nat.zero_le _, rfl, by simp, h.row, fun j hj => absurd hj (by omega), Ch.refl _⟩
  case round =>
    obtain ⟨q, xs, hq, rfl, rfl, hown, hx, hb⟩ := hrel
    have HX := Lib.hid hx; clear hx
    by_cases hlt : q < n
    · obtain ⟨g, rfl⟩ := hown.head (by omega)
      have hig := (hown.blk (g := g) (by simp [BlkOf])).1
      obtain ⟨o0, ho0⟩ := own_cell hown.own (j := q * 4) (by omega)
      obtain ⟨o1, ho1⟩ := own_cell hown.own (j := q * 4 + 1) (by omega)
      obtain ⟨o2, ho2⟩ := own_cell hown.own (j := q * 4 + 2) (by omega)
      have hf0 := hown.own.frozenAt (q * 4)
      have hf1 := hown.own.frozenAt (q * 4 + 1)
      have hf2 := hown.own.frozenAt (q * 4 + 2)
      obtain ⟨r1, k1⟩ := hown.store (q * 4) (.int .i64 (k + 4 * (q : Int)))
      obtain ⟨r2, k2⟩ := r1.store (q * 4 + 1) (.int .i64 (k + 4 * (q : Int) + 1))
      obtain ⟨r3, k3⟩ := r2.store (q * 4 + 2) (.int .i64 (k + 4 * (q : Int) + 1 + 1))
      have hC3 := ((hb.trans k1).trans k2).trans k3
      clear k1 k2 k3
      go_wp2_with fail
      refine (markText_any _ _ (by omega) (by omega)).mono ?_
      rintro e w1 ⟨rfl, hb1⟩
      have r4 := r3.keep hb1
      have hC4 := hC3.trans (Ch.of_below hb1)
      obtain ⟨o3, ho3⟩ := own_cell r4.own (j := q * 4 + 3) (by omega)
      have hf3 := r4.own.frozenAt (q * 4 + 3)
      obtain ⟨r5, k5⟩ := r4.store (q * 4 + 3) (.string (mtx (k + 4 * (q : Int) + 1 + 1 + 1)))
      clear ho0 ho1 ho2 hf0 hf1 hf2
      go_wp2
      refine ⟨⟨q + 1, _, by omega, by go_num, by congr 1; push_cast; omega, r5, evCells_set HX.out hown.len hlt (e := mkEv k q) (by rw [eAt_mk (by have := HL.out; omega)]), hC4.trans k5⟩, by simp [intOf]; omega⟩
    · go_wp2
      go_returns
      have : q = l.length := by have := HL.out; omega
      subst this
      refine ⟨ret_int (by unfold evsCnt; push_cast; rfl), ⟨?_⟩, hb⟩
      have hml : (evsMk k l).length = l.length := by simp [evsMk]
      have hnl := HL.out
      subst hnl
      rw [← evsL_of (by rw [hml]; exact hown.len) (by rw [hml]; exact HX.out)]
      exact hown

set_option maxHeartbeats 400000 in
theorem evs_held (A : Option Addr) (n c : Nat) (l : List Ev) (k : Int) (w : World) (h : EvsAt w A n (evsMk k l)) (hs : evsSz l ≤ 16777216) (hk0 : 0 < k) (hk1 : k ≤ 288230376151711744) :
    Calls Try.prog 55 #[.slice A n c, .int .i64 k] w fun e w' => e = .returned (.int .i64 (k + (evsCnt l : Nat))) ∧ Below w.heap.size w w' := by
  have HL := Lib.hid (show n = l.length by have := h.1; simpa [evsMk] using this)
  have hn : n ≤ 16777216 := by have := HL.out; unfold evsSz at hs; omega
  go_enter Try.func55, Try.ntmps55
  go_wp2
  go_loopw [1, 5] (fun u i wr => ∃ (q : Nat), q ≤ n ∧ i = .int .i64 q ∧ u = .int .i64 (k + 4 * (q : Int)) ∧ Below w.heap.size w wr) (fun _ i _ => n - (intOf i).toNat)
  case atStart => exact ⟨0, Nat.zero_le _, rfl, by simp, Below.refl _ _⟩
  case round =>
    obtain ⟨q, hq, rfl, rfl, hb⟩ := hrel
    by_cases hlt : q < n
    · obtain ⟨b, off, rfl, hbl, hc⟩ := h.at_ hlt
      have hcq := hc q hlt
      rw [eAt_mk (by have := HL.out; omega)] at hcq
      have hc0 := (hb.cell (p := ⟨b, off + q * 4, none⟩) hbl).trans hcq.1
      have hc1 := (hb.cell (p := ⟨b, off + q * 4 + 1, none⟩) hbl).trans hcq.2.1
      have hc2 := (hb.cell (p := ⟨b, off + q * 4 + 2, none⟩) hbl).trans hcq.2.2.1
      have hc3 := (hb.cell (p := ⟨b, off + q * 4 + 3, none⟩) hbl).trans hcq.2.2.2
      clear hc hcq
      unfold mkEv at hc0 hc1 hc2 hc3
      go_wp2
      go_region_held3 (fun w' => w'.cell? ⟨b, off + q * 4 + 3, none⟩ = some (.string (mtx (k + 4 * (q : Int) + 1 + 1 + 1))) ∧ Below w.heap.size w w') (first | (have hh := ‹_ ∧ _›; exact ⟨keep_cell hbw hh.1, bthen hh.2 hbw⟩) | (have hh := ‹_ ∧ _›; exact ⟨hh.1, hh.2.drew⟩) | exact ⟨hc3, hb.drew⟩ | exact ⟨hc3, hb⟩) (first | (go_at_call 79; refine (markText_any _ _ (by omega) (by omega)).mono ?_; rintro e w1 ⟨rfl, hbw⟩))
      have hbr := (by have hh := ‹_ ∧ _›; exact hh.2 : Below w.heap.size w _)
      clear hc0 hc1 hc2 hc3
      go_wp2
      exact ⟨⟨q + 1, by omega, by go_num, by congr 1; push_cast; omega, hbr⟩, by simp [intOf]; omega⟩
    · go_wp2
      go_returns
      have : q = l.length := by have := HL.out; omega
      subst this
      exact ⟨ret_int (by unfold evsCnt; push_cast; rfl), hb⟩
end Go.Proofs.Ytjhkeknbbeckgaa
