/- Contracts of LastOf and l36Most. -/
import Derived.Test.YtmichbgiaoopgaaEvents
namespace Go.Proofs.Ytmichbgiaoopgaa
open Go.RowKit

/-- the place of the last event of a client with the greatest number among the first k -/
def lastTo (l : List Ev) (c : Int) : Nat → Option Nat
  | 0 => none
  | k + 1 => match lastTo l c k with
    | none => if (eAt l k).c = c then some k else none
    | some i => if (eAt l k).c = c ∧ (eAt l i).n ≤ (eAt l k).n then some k else some i
def LastIs (l : List Ev) (c : Int) (k : Nat) : Option Nat → Prop
  | none => ∀ j, j < k → (eAt l j).c ≠ c
  | some i => i < k ∧ (eAt l i).c = c ∧ (∀ j, j < k → (eAt l j).c = c → (eAt l j).n ≤ (eAt l i).n) ∧ (∀ j, j < k → i < j → (eAt l j).c = c → (eAt l j).n < (eAt l i).n)
theorem lastTo_is (l : List Ev) (c : Int) (k : Nat) : LastIs l c k (lastTo l c k) := by
  induction k with
  | zero => intro j hj; omega
  | succ k ih =>
    rw [lastTo]
    cases h : lastTo l c k with
    | none =>
      rw [h] at ih
      dsimp only
      split
      · rename_i hc
        refine ⟨by omega, hc, fun j hj hjc => ?_, fun j hj hkj => by omega⟩
        by_cases e : j = k
        · subst e; omega
        · exact absurd hjc (ih j (by omega))
      · rename_i hc
        intro j hj
        by_cases e : j = k
        · subst e; exact hc
        · exact ih j (by omega)
    | some i =>
      rw [h] at ih
      obtain ⟨h1, h2, h3, h4⟩ := ih
      dsimp only
      split
      · rename_i hc
        refine ⟨by omega, hc.1, fun j hj hjc => ?_, fun j hj hkj => by omega⟩
        by_cases e : j = k
        · subst e; omega
        · have := h3 j (by omega) hjc; omega
      · rename_i hc
        refine ⟨by omega, h2, fun j hj hjc => ?_, fun j hj hij hjc => ?_⟩
        · by_cases e : j = k
          · subst e
            rcases Int.lt_or_le (eAt l j).n (eAt l i).n with h' | h'
            · omega
            · exact absurd ⟨hjc, h'⟩ hc
          · exact h3 j (by omega) hjc
        · by_cases e : j = k
          · subst e
            rcases Int.lt_or_le (eAt l j).n (eAt l i).n with h' | h'
            · exact h'
            · exact absurd ⟨hjc, h'⟩ hc
          · exact h4 j (by omega) hij hjc
theorem last_unique {l : List Ev} {c : Int} {k : Nat} {a b : Option Nat} (ha : LastIs l c k a) (hb : LastIs l c k b) : a = b := by
  cases a with
  | none =>
    cases b with
    | none => rfl
    | some j => exact absurd hb.2.1 (ha j hb.1)
  | some i =>
    cases b with
    | none => exact absurd ha.2.1 (hb i ha.1)
    | some j =>
      obtain ⟨a1, a2, a3, a4⟩ := ha
      obtain ⟨b1, b2, b3, b4⟩ := hb
      rcases Nat.lt_trichotomy i j with h | h | h
      · have := a4 j b1 h b2; have := b3 i a1 a2; omega
      · rw [h]
      · have := b4 i a1 h a2; have := a3 j b1 b2; omega
theorem lastTo_eq {l : List Ev} {c : Int} {k : Nat} {r : Option Nat} (h : LastIs l c k r) : lastTo l c k = r := last_unique (lastTo_is l c k) h
theorem lastTo_lt {l : List Ev} {c : Int} {k i : Nat} (h : lastTo l c k = some i) : i < k ∧ (eAt l i).c = c := by
  have := lastTo_is l c k
  rw [h] at this
  exact ⟨this.1, this.2.1⟩

def bestOf (l : List Ev) : Option Nat → Ev
  | none => evNil
  | some i => eAt l i
def evV (e : Ev) : Value := .agg #[.int .i64 e.t, .int .i64 e.c, .int .i64 e.n, .string e.x]
def lastOf (l : List Ev) (c : Int) : Option Nat := if evsOkB l = true then lastTo l c l.length else none

/-- block g holds the event e, and may be written -/
def EvBox (w : World) (g : Nat) (e : Ev) : Prop :=
  (w.cell? ⟨g, 0, none⟩ = some (.int .i64 e.t) ∧ w.cell? ⟨g, 1, none⟩ = some (.int .i64 e.c) ∧ w.cell? ⟨g, 2, none⟩ = some (.int .i64 e.n) ∧ w.cell? ⟨g, 3, none⟩ = some (.string e.x)) ∧
  (w.frozen? ⟨g, 0, none⟩ = false ∧ w.frozen? ⟨g, 1, none⟩ = false ∧ w.frozen? ⟨g, 2, none⟩ = false ∧ w.frozen? ⟨g, 3, none⟩ = false)
theorem EvBox.keep {w w' : World} {g : Nat} {e : Ev} (h : EvBox w g e) (hb : Below w.heap.size w w') : EvBox w' g e := by
  have hlt := cell_lt h.1.1
  exact ⟨⟨keep_cell hb h.1.1, keep_cell hb h.1.2.1, keep_cell hb h.1.2.2.1, keep_cell hb h.1.2.2.2⟩, (hb.frozen hlt).trans h.2.1, (hb.frozen hlt).trans h.2.2.1, (hb.frozen hlt).trans h.2.2.2.1, (hb.frozen hlt).trans h.2.2.2.2⟩

theorem EvBox.alloc {w : World} {g : Nat} {e : Ev} (h : EvBox w g e) (o : Obj) : EvBox (w.alloc o) g e := h.keep ((Below.refl _ _).alloc (Nat.le_refl _) _)
theorem set_here {w : World} {g j : Nat} {v u : Value} (h : w.cell? ⟨g, j, none⟩ = some v) : (w.setCell ⟨g, j, none⟩ u).cell? ⟨g, j, none⟩ = some u := by
  unfold World.cell? at h ⊢
  cases hh : w.heap[g]? with
  | none => rw [hh] at h; simp at h
  | some o =>
    cases o <;> rw [hh] at h <;> simp at h
    rename_i c t fr
    have : g < w.heap.size := (Array.getElem?_eq_some_iff.1 hh).1
    simp [World.setCell, Array.getElem?_modify, hh]
    obtain ⟨hj, _⟩ := Array.getElem?_eq_some_iff.1 h
    simp [hj]
theorem set_off {w : World} {g j b o : Nat} {v u : Value} (h : w.cell? ⟨b, o, none⟩ = some v) (hne : g ≠ b ∨ j ≠ o) : (w.setCell ⟨g, j, none⟩ u).cell? ⟨b, o, none⟩ = some v :=
  (World.cell?_setCell_other w ⟨g, j, none⟩ ⟨b, o, none⟩ u (fun e => by injection e with e1 e2; rcases hne with h | h <;> contradiction)).trans h
theorem set_frozen {w : World} {p a : Addr} {u : Value} : (w.setCell p u).frozen? a = w.frozen? a := World.frozen?_setCell w p a u
def evSet (w : World) (g : Nat) (e : Ev) : World := (((w.setCell ⟨g, 0, none⟩ (.int .i64 e.t)).setCell ⟨g, 1, none⟩ (.int .i64 e.c)).setCell ⟨g, 2, none⟩ (.int .i64 e.n)).setCell ⟨g, 3, none⟩ (.string e.x)
theorem EvBox.set {w : World} {g : Nat} {e : Ev} (h : EvBox w g e) (e' : Ev) : EvBox (evSet w g e') g e' := by
  obtain ⟨⟨h0, h1, h2, h3⟩, f⟩ := h
  refine ⟨⟨?_, ?_, ?_, ?_⟩, by simpa only [evSet, set_frozen] using f⟩
  · exact set_off (set_off (set_off (set_here h0) (.inr (by omega))) (.inr (by omega))) (.inr (by omega))
  · exact set_off (set_off (set_here (set_off h1 (.inr (by omega)))) (.inr (by omega))) (.inr (by omega))
  · exact set_off (set_here (set_off (set_off h2 (.inr (by omega))) (.inr (by omega)))) (.inr (by omega))
  · exact set_here (set_off (set_off (set_off h3 (.inr (by omega))) (.inr (by omega))) (.inr (by omega)))
theorem EvBox.far {w : World} {g b : Nat} {e : Ev} (h : EvBox w b e) (hne : g ≠ b) (e' : Ev) : EvBox (evSet w g e') b e := by
  obtain ⟨⟨h0, h1, h2, h3⟩, f⟩ := h
  refine ⟨⟨?_, ?_, ?_, ?_⟩, by simpa only [evSet, set_frozen] using f⟩ <;>
    exact set_off (set_off (set_off (set_off (by assumption) (.inl hne)) (.inl hne)) (.inl hne)) (.inl hne)
theorem below_evSet {B : Nat} {w0 w : World} (h : Below B w0 w) {g : Nat} (hg : B ≤ g) (e : Ev) : Below B w0 (evSet w g e) :=
  (((h.setCell hg _).setCell hg _).setCell hg _).setCell hg _
theorem evSet_size (w : World) (g : Nat) (e : Ev) : (evSet w g e).heap.size = w.heap.size := by simp [evSet]
theorem EvBox.new (w : World) (t : Nat) (e : Ev) : EvBox (w.alloc (.cells #[.int .i64 e.t, .int .i64 e.c, .int .i64 e.n, .string e.x] t)) w.heap.size e := by
  refine ⟨⟨?_, ?_, ?_, ?_⟩, ?_, ?_, ?_, ?_⟩ <;> simp [go_sem]

set_option maxHeartbeats 1000000 in
theorem lastOf_impl (A : Option Addr) (n c : Nat) (l : List Ev) (cl : Int) (w : World) (h : EvsAt w A n l) (hn : n ≤ 1152921504606846975) :
    Calls Try.prog 49 #[.slice A n c, .int .i64 cl] w fun e w' => e = .returned (.tuple #[evV (bestOf l (lastOf l cl)), .bool (lastOf l cl).isSome]) ∧ Below w.heap.size w w' := by
  have HL := Lib.hid h.1.symm
  by_cases hok : evsOkB l = true
  · go_enter Try.func49, Try.ntmps49
    go_wp2_with fail
    refine (eventsOk_impl A n c l _ (h.keep (by go_grown)) hn).mono ?_
    rintro e w1 ⟨rfl, hb1⟩
    obtain ⟨hc1, hf1, hn1⟩ := bcell3 hb1
    have hB1 : Below w.heap.size w w1 := bthen (by go_grown) hb1
    have hz1 : w.heap.size < w1.heap.size := by have := hb1.size; simp at this; omega
    have hR : EvBox w1 w.heap.size evNil := (EvBox.new w 63 evNil).keep hb1
    clear hc1 hf1 hn1
    go_wp2
    go_loopw [7, 17] (fun f i wr => ∃ k : Nat, k ≤ n ∧ i = .int .i64 k ∧ f = .bool (lastTo l cl k).isSome ∧ EvBox wr w1.heap.size (bestOf l (lastTo l cl k)) ∧ EvBox wr w.heap.size evNil ∧ Below w.heap.size w wr ∧ w1.heap.size < wr.heap.size) (fun _ i _ => n - (intOf i).toNat)
    case atStart => exact ⟨0, Nat.zero_le _, rfl, rfl, EvBox.new w1 _ evNil, hR.alloc _, hB1.alloc (by omega) _, by simp⟩
    case round =>
      obtain ⟨k, hk, rfl, rfl, hX, hRr, hb, hzr⟩ := hrel
      have hzr0 : w.heap.size < wr.heap.size := by omega
      obtain ⟨⟨x0, x1, x2, x3⟩, y0, y1, y2, y3⟩ := id hX
      by_cases hlt : k < n
      · obtain ⟨b, off, rfl, hbl, hc⟩ := h.at_ hlt
        have hc0 := (hb.cell (p := ⟨b, off + k * 4, none⟩) hbl).trans (hc k hlt).1
        have hc1 := (hb.cell (p := ⟨b, off + k * 4 + 1, none⟩) hbl).trans (hc k hlt).2.1
        have hc2 := (hb.cell (p := ⟨b, off + k * 4 + 2, none⟩) hbl).trans (hc k hlt).2.2.1
        have hc3 := (hb.cell (p := ⟨b, off + k * 4 + 3, none⟩) hbl).trans (hc k hlt).2.2.2
        clear hc
        by_cases hcl : (eAt l k).c = cl
        · have g1 : ((eAt l k).c == cl) = true := by simpa using hcl
          cases hT : lastTo l cl k with
          | none =>
            have HT := Lib.hid (show lastTo l cl (k + 1) = some k by rw [lastTo, hT]; simp [hcl])
            rw [hT] at x0 x1 x2 x3 hX
            simp only [bestOf] at x0 x1 x2 x3
            clear hcl hT
            go_wp2
            exact ⟨⟨k + 1, by omega, by go_num, by rw [HT.out]; rfl, by rw [HT.out]; exact (hX.set (eAt l k)).alloc _, (hRr.far (by omega) (eAt l k)).alloc _, (below_evSet hb (by omega) (eAt l k)).alloc (by rw [evSet_size]; omega) _, by simp; omega⟩, by simp [intOf]; omega⟩
          | some i =>
            rw [hT] at x0 x1 x2 x3 hX
            simp only [bestOf] at x0 x1 x2 x3
            by_cases hle : (eAt l i).n ≤ (eAt l k).n
            · have HT := Lib.hid (show lastTo l cl (k + 1) = some k by rw [lastTo, hT]; simp [hcl, hle])
              clear hcl hT
              go_wp2
              exact ⟨⟨k + 1, by omega, by go_num, by rw [HT.out]; rfl, by rw [HT.out]; exact (hX.set (eAt l k)).alloc _, (hRr.far (by omega) (eAt l k)).alloc _, (below_evSet hb (by omega) (eAt l k)).alloc (by rw [evSet_size]; omega) _, by simp; omega⟩, by simp [intOf]; omega⟩
            · have HT := Lib.hid (show lastTo l cl (k + 1) = some i by rw [lastTo, hT]; simp [hle])
              clear hcl hT
              go_wp2
              exact ⟨⟨k + 1, by omega, by go_num, by rw [HT.out], by rw [HT.out]; exact hX.alloc _, hRr.alloc _, hb.alloc hb.size _, by simp; omega⟩, by simp [intOf]; omega⟩
        · have g1 : ((eAt l k).c == cl) = false := by simpa using hcl
          have HT := Lib.hid (show lastTo l cl (k + 1) = lastTo l cl k by
            rw [lastTo]; cases lastTo l cl k <;> simp [hcl])
          clear hcl
          go_wp2
          exact ⟨⟨k + 1, by omega, by go_num, by rw [HT.out], by rw [HT.out]; exact hX.alloc _, hRr.alloc _, hb.alloc hb.size _, by simp; omega⟩, by simp [intOf]; omega⟩
      · have : k = n := by omega
        subst this
        obtain ⟨⟨z0, z1, z2, z3⟩, f0, f1, f2, f3⟩ := id hRr
        go_wp2
        have hE := (hRr.set (bestOf l (lastTo l cl k)))
        obtain ⟨⟨e0, e1, e2, e3⟩, _⟩ := hE
        unfold evSet at e0 e1 e2 e3
        refine bodyPost_ret (v := .tuple #[evV (bestOf l (lastTo l cl k)), .bool (lastTo l cl k).isSome]) (by simp [results, Try.results49, go_sem, e0, e1, e2, e3, evV]) rfl ⟨by rw [lastOf, if_pos hok, HL.out], below_evSet hb (Nat.le_refl _) _⟩
  · have HF := Lib.hid (show lastOf l cl = none by rw [lastOf, if_neg hok])
    go_enter Try.func49, Try.ntmps49
    go_wp2_with fail
    refine (eventsOk_impl A n c l _ (h.keep (by go_grown)) hn).mono ?_
    rintro e w1 ⟨rfl, hb1⟩
    have hR := (EvBox.new w 63 evNil).keep hb1
    have hB1 : Below w.heap.size w w1 := bthen (by go_grown) hb1
    obtain ⟨⟨z0, z1, z2, z3⟩, f0, f1, f2, f3⟩ := id hR
    go_wp2
    obtain ⟨⟨e0, e1, e2, e3⟩, _⟩ := hR.set evNil
    simp only [evSet, evNil] at e0 e1 e2 e3 z0 z1 z2 z3
    refine bodyPost_ret (v := .tuple #[evV evNil, .bool false]) (by simp [results, Try.results49, go_sem, evNil, evV, z0, z1, z2, z3]; try rfl) rfl ⟨by rw [HF.out]; rfl, below_evSet hB1 (Nat.le_refl _) evNil⟩
end Go.Proofs.Ytmichbgiaoopgaa
