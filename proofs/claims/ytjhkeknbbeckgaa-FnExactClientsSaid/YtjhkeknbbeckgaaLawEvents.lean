/- Contracts of the laws' helpers on lists of events: size, copy, comparison; opening an argument. -/
import Derived.Test.YtjhkeknbbeckgaaEvents
import Derived.Test.YtjhkeknbbeckgaaFrame
import Derived.Test.YtjhkeknbbeckgaaRowAt
import Derived.StillTailTactics
namespace Go.Proofs.Ytjhkeknbbeckgaa
open Go.RowKit

def evSz (e : Ev) : Nat := e.x.size
def evsSz (l : List Ev) : Nat := l.length + (l.map evSz).sum

theorem szEvent_any (t c n : Int) (x : ByteArray) (left : Int) (w : World) (hl0 : 0 ≤ left) (hl1 : left ≤ 4611686018427387904) (hx : x.size ≤ 9223372036854775807) :
    Calls Try.prog 80 #[.agg #[.int .i64 t, .int .i64 c, .int .i64 n, .string x], .int .i64 left] w fun e w' => e = .returned (.int .i64 (szR left x.size)) ∧ Below w.heap.size w w' := by
  by_cases h : left - x.size < 0
  · have HF := Lib.hid (szR_no (left := left) (s := x.size) (by omega))
    go_enter Try.func80, Try.ntmps80
    go_wp2
    go_returns
    exact ⟨by rw [HF.out]; rfl, by go_grown⟩
  · have HF := Lib.hid (szR_yes (left := left) (s := x.size) (by omega))
    go_enter Try.func80, Try.ntmps80
    go_wp2
    go_returns
    exact ⟨by rw [HF.out]; rfl, by go_grown⟩

theorem szEvents_any (A : Option Addr) (n c : Nat) (l : List Ev) (left : Int) (w : World) (h : EvsAt w A n l) (hn : n ≤ 9223372036854775807) (hl0 : 0 ≤ left) (hl1 : left ≤ 4611686018427387904)
    (hs : ∀ i, i < n → (eAt l i).x.size ≤ 9223372036854775807) :
    Calls Try.prog 49 #[.slice A n c, .int .i64 left] w fun e w' => e = .returned (.int .i64 (szR left (evsSz l))) ∧ Below w.heap.size w w' := by
  have hL : l.length = n := h.1.symm
  have HL := Lib.hid hL; clear hL
  by_cases h0 : left - n < 0
  · go_enter Try.func49, Try.ntmps49
    go_wp2
    go_returns
    refine ⟨ret_int (szR_no ?_).symm, Below.refl _ _⟩
    have := HL.out; unfold evsSz; omega
  · go_enter Try.func49, Try.ntmps49
    go_wp2
    have E0 := Lib.hid (sumTo_zero evSz l)
    go_loopw [1, 5] (fun u i wr => ∃ k : Nat, k ≤ n ∧ i = .int .i64 k ∧ u = .int .i64 (left - n - (sumTo evSz l k : Nat)) ∧ 0 ≤ left - n - (sumTo evSz l k : Nat) ∧ Below w.heap.size w wr) (fun _ i _ => n - (intOf i).toNat)
    case atStart => exact ⟨0, Nat.zero_le _, rfl, by rw [E0.out]; simp, by rw [E0.out]; omega, Below.refl _ _⟩
    case round =>
      obtain ⟨k, hk, rfl, rfl, hge, hb⟩ := hrel
      by_cases hlt : k < n
      · obtain ⟨b, off, rfl, hbl, hc⟩ := h.at_ hlt
        have hc0 := (hb.cell (p := ⟨b, off + k * 4, none⟩) hbl).trans (hc k hlt).1
        have hc1 := (hb.cell (p := ⟨b, off + k * 4 + 1, none⟩) hbl).trans (hc k hlt).2.1
        have hc2 := (hb.cell (p := ⟨b, off + k * 4 + 2, none⟩) hbl).trans (hc k hlt).2.2.1
        have hc3 := (hb.cell (p := ⟨b, off + k * 4 + 3, none⟩) hbl).trans (hc k hlt).2.2.2
        clear hc
        have hsk := hs k hlt
        have HSU := Lib.hid (show sumTo evSz l (k + 1) = sumTo evSz l k + (eAt l k).x.size by
          rw [sumTo_succ _ _ _ (by have := HL.out; omega), eAt_get (by have := HL.out; omega)]; rfl)
        have HLE := Lib.hid (sumTo_le evSz l (k + 1))
        by_cases hq : left - n - (sumTo evSz l k : Nat) - ((eAt l k).x.size : Nat) < 0
        · have HR := Lib.hid (szR_no (left := left - n - (sumTo evSz l k : Nat)) (s := (eAt l k).x.size) (by omega))
          go_wp2_with fail
          refine (szEvent_any _ _ _ _ _ _ (by omega) (by omega) hsk).mono ?_
          rintro e w1 ⟨rfl, hb1⟩
          rw [HR.out]
          go_wp2
          go_returns
          refine ⟨ret_int (szR_no ?_).symm, bthen hb hb1⟩
          have := HL.out; have := HSU.out; have := HLE.out; unfold evsSz; omega
        · have HR := Lib.hid (szR_yes (left := left - n - (sumTo evSz l k : Nat)) (s := (eAt l k).x.size) (by omega))
          go_wp2_with fail
          refine (szEvent_any _ _ _ _ _ _ (by omega) (by omega) hsk).mono ?_
          rintro e w1 ⟨rfl, hb1⟩
          rw [HR.out]
          go_wp2
          refine ⟨⟨k + 1, by omega, by go_num, ?_, ?_, bthen hb hb1⟩, by simp [intOf]; omega⟩
          · rw [HSU.out]; congr 1; push_cast; omega
          · rw [HSU.out]; push_cast; omega
      · go_wp2
        go_returns
        refine ⟨ret_int ?_, hb⟩
        have h3 := sumTo_all evSz l k (by have := HL.out; omega)
        have := HL.out
        rw [szR_yes (by unfold evsSz; omega)]; unfold evsSz; push_cast; omega

theorem toEvent_any (t c n : Int) (x : ByteArray) (w : World) :
    Calls Try.prog 82 #[.agg #[.int .i64 t, .int .i64 c, .int .i64 n, .string x]] w fun e w' => e = .returned (.agg #[.int .i64 t, .int .i64 c, .int .i64 n, .string x]) ∧ Below w.heap.size w w' := by
  go_enter Try.func82, Try.ntmps82
  go_wp2
  all_goals go_returns
  all_goals exact ⟨rfl, by go_grown⟩

theorem infoEvent : (Try.prog.info? 89).map (fun i => (i.zero, i.size, i.bytes)) = some (some (.agg #[.int .i64 0, .int .i64 0, .int .i64 0, .string ByteArray.empty]), 4, 40) := by kernel_rfl

/-- a row's cells of events up to k -/
def evCells (xs : List Value) (l : List Ev) (k : Nat) : Prop := ∀ j, j < k → xs[j * 4]? = some (.int .i64 (eAt l j).t) ∧ xs[j * 4 + 1]? = some (.int .i64 (eAt l j).c) ∧ xs[j * 4 + 2]? = some (.int .i64 (eAt l j).n) ∧ xs[j * 4 + 3]? = some (.string (eAt l j).x)
theorem EvsAt.of_own {w : World} {base e : Nat} {A : Option Addr} {n c : Nat} {xs : List Value} {l : List Ev} (h : w.ownsRow base e 4 (.slice A n c) n xs) (hl : n = l.length) (hx : evCells xs l n) : EvsAt w A n l := by
  refine ⟨hl, fun hn => ?_⟩
  obtain ⟨b, off, rfl, hc⟩ := (own_cells h).2 hn
  have h0 := hx 0 hn
  refine ⟨b, off, rfl, cell_lt (hc _ _ h0.1), fun i hi => ?_⟩
  have hi' := hx i hi
  exact ⟨hc _ _ hi'.1, hc _ _ hi'.2.1, hc _ _ hi'.2.2.1, hc _ _ hi'.2.2.2⟩
theorem own_keep {w w' : World} {base e sz n : Nat} {v : Value} {xs : List Value} (h : w.ownsRow base e sz v n xs) (hb : Below w.heap.size w w') : w'.ownsRow base e sz v n xs := by
  refine ⟨h.1, ?_⟩
  rcases h.2 with hn | ⟨g, cap, cur, rfl, hbb, hgg, rest⟩
  · exact .inl hn
  · exact .inr ⟨g, cap, cur, rfl, hbb, by rw [hb.block g (Array.getElem?_eq_some_iff.1 hgg).1]; exact hgg, rest⟩
theorem evCells_set {xs : List Value} {l : List Ev} {k n : Nat} (h : evCells xs l k) (hl : xs.length = n * 4) (hk : k < n) {e : Ev} (he : e = eAt l k) :
    evCells ((((xs.set (k * 4) (.int .i64 e.t)).set (k * 4 + 1) (.int .i64 e.c)).set (k * 4 + 2) (.int .i64 e.n)).set (k * 4 + 3) (.string e.x)) l (k + 1) := by
  subst he
  intro j hj
  simp only [List.getElem?_set, List.length_set]
  by_cases e : j = k
  · subst e
    refine ⟨?_, ?_, ?_, ?_⟩ <;> simp <;> omega
  · obtain ⟨h0, h1, h2, h3⟩ := h j (by omega)
    refine ⟨?_, ?_, ?_, ?_⟩ <;> (repeat rw [if_neg (by omega)]) <;> assumption

theorem toEvents_any (A : Option Addr) (n c : Nat) (l : List Ev) (w : World) (h : EvsAt w A n l) (hn : n ≤ 16777216) :
    Calls Try.prog 51 #[.slice A n c] w fun e w' => ∃ g xs, e = .returned (.slice (some ⟨g, 0, none⟩) n n) ∧ w'.ownsRow w.heap.size 89 4 (.slice (some ⟨g, 0, none⟩) n n) n xs ∧ evCells xs l n ∧ Below w.heap.size w w' := by
  have hL : l.length = n := h.1.symm
  have HL := Lib.hid hL; clear hL
  go_enter Try.func51, Try.ntmps51
  go_wp2_with (refine wpList_mk (P := Try.prog) _ rfl _ _ 60 rfl w.heap.size 89 _ 4 40 Try.underlying60 infoEvent _ _ _ _ n rfl rfl rfl rfl (by omega) (by unfold maxLen; omega) (Nat.le_refl _) ?_; intro w1 hown1 hg1 hb1)
  clear hg1
  go_loopw [4] (fun i wr => ∃ (k : Nat) (xs : List Value), k ≤ n ∧ i = .int .i64 k ∧ wr.ownsRow w.heap.size 89 4 (.slice (some ⟨w.heap.size, 0, none⟩) n n) n xs ∧ evCells xs l k ∧ Below w.heap.size w wr) (fun i _ => n - (intOf i).toNat)
  case atStart => exact ⟨0, _, Nat.zero_le _, rfl, hown1, fun j hj => absurd hj (by omega), hb1⟩
  case round =>
    obtain ⟨k, xs, hk, rfl, hown, hx, hb⟩ := hrel
    have HX := Lib.hid hx; clear hx
    by_cases hlt : k < n
    · obtain ⟨b, off, rfl, hbl, hc⟩ := h.at_ hlt
      have hc0 := (hb.cell (p := ⟨b, off + k * 4, none⟩) hbl).trans (hc k hlt).1
      have hc1 := (hb.cell (p := ⟨b, off + k * 4 + 1, none⟩) hbl).trans (hc k hlt).2.1
      have hc2 := (hb.cell (p := ⟨b, off + k * 4 + 2, none⟩) hbl).trans (hc k hlt).2.2.1
      have hc3 := (hb.cell (p := ⟨b, off + k * 4 + 3, none⟩) hbl).trans (hc k hlt).2.2.2
      clear hc
      go_wp2_with fail
      refine (toEvent_any _ _ _ _ _).mono ?_
      rintro e w2 ⟨rfl, hb2⟩
      have hown2 := own_keep hown hb2
      have hbb := bthen hb hb2
      clear hown hc0 hc1 hc2 hc3
      obtain ⟨o0, ho0⟩ := own_cell hown2 (j := k * 4) (by omega)
      obtain ⟨o1, ho1⟩ := own_cell hown2 (j := k * 4 + 1) (by omega)
      obtain ⟨o2, ho2⟩ := own_cell hown2 (j := k * 4 + 2) (by omega)
      obtain ⟨o3, ho3⟩ := own_cell hown2 (j := k * 4 + 3) (by omega)
      have hf0 := hown2.frozenAt (k * 4)
      have hf1 := hown2.frozenAt (k * 4 + 1)
      have hf2 := hown2.frozenAt (k * 4 + 2)
      have hf3 := hown2.frozenAt (k * 4 + 3)
      go_wp2
      obtain ⟨q1, r1⟩ := hown2.stored (k * 4) (.int .i64 (eAt l k).t)
      obtain ⟨q2, r2⟩ := q1.stored (k * 4 + 1) (.int .i64 (eAt l k).c)
      obtain ⟨q3, r3⟩ := q2.stored (k * 4 + 2) (.int .i64 (eAt l k).n)
      obtain ⟨q4, r4⟩ := q3.stored (k * 4 + 3) (.string (eAt l k).x)
      exact ⟨⟨k + 1, _, by omega, by go_num, q4, evCells_set HX.out hown2.1 hlt rfl, (((hbb.setCell (Nat.le_refl _) _).setCell (Nat.le_refl _) _).setCell (Nat.le_refl _) _).setCell (Nat.le_refl _) _⟩, by simp [intOf]; omega⟩
    · go_wp2
      go_returns
      have : k = n := by omega
      subst this
      exact ⟨_, xs, rfl, hown, HX.out, hb⟩

theorem eqEvent_same (t c n : Int) (x : ByteArray) (w : World) :
    Calls Try.prog 86 #[.agg #[.int .i64 t, .int .i64 c, .int .i64 n, .string x], .agg #[.int .i64 t, .int .i64 c, .int .i64 n, .string x]] w fun e w' => e = .returned (.bool true) ∧ Below w.heap.size w w' := by
  go_enter Try.func86, Try.ntmps86
  go_wp2
  all_goals go_returns
  exact ⟨rfl, by go_grown⟩

set_option maxRecDepth 8000 in
theorem eqEvents_same (A A' : Option Addr) (n c c' : Nat) (l : List Ev) (w : World) (h : EvsAt w A n l) (h' : EvsAt w A' n l) (hn : n ≤ 1152921504606846975) :
    Calls Try.prog 53 #[.slice A n c, .slice A' n c'] w fun e w' => e = .returned (.bool true) ∧ Below w.heap.size w w' := by
  go_enter Try.func53, Try.ntmps53
  go_wp2
  go_loopw [5] (fun i wr => ∃ (k : Nat), k ≤ n ∧ i = .int .i64 k ∧ Below w.heap.size w wr) (fun i _ => n - (intOf i).toNat)
  case atStart => exact ⟨0, Nat.zero_le _, rfl, Below.refl _ _⟩
  case round =>
    obtain ⟨k, hk, rfl, hb⟩ := hrel
    by_cases hlt : k < n
    · obtain ⟨b, off, rfl, hbl, hc⟩ := h.at_ hlt
      have hc0 := (hb.cell (p := ⟨b, off + k * 4, none⟩) hbl).trans (hc k hlt).1
      have hc1 := (hb.cell (p := ⟨b, off + k * 4 + 1, none⟩) hbl).trans (hc k hlt).2.1
      have hc2 := (hb.cell (p := ⟨b, off + k * 4 + 2, none⟩) hbl).trans (hc k hlt).2.2.1
      have hc3 := (hb.cell (p := ⟨b, off + k * 4 + 3, none⟩) hbl).trans (hc k hlt).2.2.2
      clear hc
      obtain ⟨b', off', rfl, hbl', hc⟩ := h'.at_ hlt
      have hd0 := (hb.cell (p := ⟨b', off' + k * 4, none⟩) hbl').trans (hc k hlt).1
      have hd1 := (hb.cell (p := ⟨b', off' + k * 4 + 1, none⟩) hbl').trans (hc k hlt).2.1
      have hd2 := (hb.cell (p := ⟨b', off' + k * 4 + 2, none⟩) hbl').trans (hc k hlt).2.2.1
      have hd3 := (hb.cell (p := ⟨b', off' + k * 4 + 3, none⟩) hbl').trans (hc k hlt).2.2.2
      clear hc
      have hn63 : (k : Int) < n := by omega
      go_wp2
      go_still_tail 8, (by kernel_rfl)
      change wpList _ _ _ _ _ wr.drew
      have hbd : Below w.heap.size w wr.drew := hb.drew
      generalize wr.drew = w2 at *
      go_wp2_with fail
      refine (eqEvent_same _ _ _ _ _).mono ?_
      rintro e w3 ⟨rfl, hb3⟩
      go_wp2
      exact ⟨⟨k + 1, by omega, by go_num, bthen hbd hb3⟩, by simp [intOf]; omega⟩
    · go_wp2
      go_returns
      exact ⟨rfl, hb⟩

/-- an event's cells -/
def evC (_ : World) (cs : List Value) (e : Ev) : Prop :=
  cs = [.int .i64 e.t, .int .i64 e.c, .int .i64 e.n, .string e.x] ∧ (-9223372036854775808 ≤ e.t ∧ e.t ≤ 9223372036854775807) ∧ (-9223372036854775808 ≤ e.c ∧ e.c ≤ 9223372036854775807) ∧ (-9223372036854775808 ≤ e.n ∧ e.n ≤ 9223372036854775807) ∧ e.x.size ≤ 9223372036854775807
theorem four_of {cs : List Value} (h : cs.length = 4) : ∃ a b c d, cs = [a, b, c, d] := by
  match cs, h with
  | [a, b, c, d], _ => exact ⟨a, b, c, d, rfl⟩
section
open Go.ChangeShapes Go.WideShapes Go.ChangeAt Go.Deep
variable {H : Type} {enc : TypeId × Value → H} {w : World} {base : Nat} {spare : Nat → Bool} {held : Bool}
theorem cellsEvent : Try.prog.cellsOf 87 = 4 := by kernel_rfl
theorem cellsInt : Try.prog.cellsOf 3 = 1 := by kernel_rfl
theorem cellsString : Try.prog.cellsOf 9 = 1 := by kernel_rfl
set_option maxRecDepth 8000 in
theorem trod_event {fu : Nat} {cs : List Value} {y : DataW H × List MemPlace} (h : DataW.trod enc Try.prog w base spare held fu 87 cs = some y) : ∃ e, evC w cs e := by
  obtain ⟨a, b, c, d, rfl⟩ := four_of (trod_len Try.underlying87 cellsEvent h)
  obtain ⟨_, _, h0⟩ := trod_fieldAt Try.underlying87 0 rfl cellsInt h
  obtain ⟨_, _, h1⟩ := trod_fieldAt Try.underlying87 1 rfl cellsInt h
  obtain ⟨_, _, h2⟩ := trod_fieldAt Try.underlying87 2 rfl cellsInt h
  obtain ⟨_, _, h3⟩ := trod_fieldAt Try.underlying87 3 rfl cellsString h
  obtain ⟨t, e0, wt⟩ := trod_int1 Try.underlying3 h0
  obtain ⟨k, e1, wc⟩ := trod_int1 Try.underlying3 h1
  obtain ⟨m, e2, wn⟩ := trod_int1 Try.underlying3 h2
  obtain ⟨x, e3, wx⟩ := trod_str1 Try.underlying9 h3
  simp at e0 e1 e2 e3
  subst e0 e1 e2 e3
  exact ⟨⟨t, k, m, x⟩, rfl, wt, wc, wn, wx⟩
set_option maxRecDepth 8000 in
theorem open_events {r : Reach} {b0 : Nat} {v : Value} {d : DataW H} {p : List MemPlace}
    (hv : Value.okWide Try.prog w r b0 58 v) (h : DataW.Trod enc Try.prog w base spare held 58 v d p) :
    ∃ (A : Option Addr) (n c : Nat) (l : List Ev), v = .slice A n c ∧ RowAt evC 4 w A n l ∧ n ≤ 9223372036854775807 :=
  open_rows Try.underlying58 cellsEvent (by omega) (fun _ _ _ h => trod_event h) hv h
end
theorem EvsAt.of_row {w : World} {A : Option Addr} {n : Nat} {l : List Ev} (h : RowAt evC 4 w A n l) : EvsAt w A n l := by
  refine ⟨h.1, fun hn => ?_⟩
  obtain ⟨b, off, rfl, hlt, hc⟩ := h.2 hn
  refine ⟨b, off, rfl, hlt, fun i hi => ?_⟩
  have hl := h.1
  obtain ⟨cs, ⟨rfl, _⟩, _, hcell⟩ := hc i (eAt l i) (by rw [eAt_get (by omega)]; exact List.getElem?_eq_getElem (by omega))
  exact ⟨hcell 0 _ rfl, hcell 1 _ rfl, hcell 2 _ rfl, hcell 3 _ rfl⟩
theorem evs_bound {w : World} {A : Option Addr} {n : Nat} {l : List Ev} (h : RowAt evC 4 w A n l) : ∀ i, i < n → (eAt l i).x.size ≤ 9223372036854775807 := by
  intro i hi
  obtain ⟨b, off, rfl, hlt, hc⟩ := h.2 (by omega)
  have hl := h.1
  obtain ⟨cs, hC, _⟩ := hc i (eAt l i) (by rw [eAt_get (by omega)]; exact List.getElem?_eq_getElem (by omega))
  exact hC.2.2.2.2
end Go.Proofs.Ytjhkeknbbeckgaa
