/- Contracts of the laws' helpers on Beat: size, copy, comparison; opening an argument. -/
import Derived.Test.YtjhkeknbbeckgaaBeats
import Derived.Test.YtjhkeknbbeckgaaFrame
import Derived.Test.YtjhkeknbbeckgaaRowAt
import Derived.Lib.SmallJoins
namespace Go.Proofs.Ytjhkeknbbeckgaa
open Go.RowKit

theorem szBeat_any (A1 : Option Addr) (n1 c1 : Nat) (A2 : Option Addr) (n2 c2 : Nat) (A3 : Option Addr) (n3 c3 : Nat) (left : Int) (w : World)
    (h1 : n1 ≤ 9223372036854775807) (h2 : n2 ≤ 9223372036854775807) (h3 : n3 ≤ 9223372036854775807) (hl0 : 0 ≤ left) (hl1 : left ≤ 4611686018427387904) :
    Calls Try.prog 31 #[.agg #[.slice A1 n1 c1, .slice A2 n2 c2, .slice A3 n3 c3], .int .i64 left] w fun e w' => e = .returned (.int .i64 (szR left (n1 + n2 + n3))) ∧ Below w.heap.size w w' := by
  by_cases q1 : (n1 : Int) ≤ left
  · have R1 := Lib.hid (szR_yes (left := left) (s := n1) q1)
    by_cases q2 : (n2 : Int) ≤ left - n1
    · have R2 := Lib.hid (szR_yes (left := left - n1) (s := n2) q2)
      by_cases q3 : (n3 : Int) ≤ left - n1 - n2
      · have R3 := Lib.hid (szR_yes (left := left - n1 - n2) (s := n3) q3)
        have R := Lib.hid (szR_yes (left := left) (s := n1 + n2 + n3) (by push_cast; omega))
        go_enter Try.func31, Try.ntmps31
        go_wp2_with fail
        refine (szInts_any _ _ _ _ _ h1 hl0 hl1).mono ?_
        rintro e w1 ⟨rfl, rfl⟩
        rw [R1.out]
        go_wp2_with fail
        refine (szInts_any _ _ _ _ _ h2 (by omega) (by omega)).mono ?_
        rintro e w1 ⟨rfl, rfl⟩
        rw [R2.out]
        go_wp2_with fail
        refine (szBools_any _ _ _ _ _ h3 (by omega) (by omega)).mono ?_
        rintro e w1 ⟨rfl, rfl⟩
        rw [R3.out]
        go_wp2
        go_returns
        exact ⟨ret_int (by rw [R.out]; push_cast; omega), by go_grown⟩
      · have R3 := Lib.hid (szR_no (left := left - n1 - n2) (s := n3) (by omega))
        have R := Lib.hid (szR_no (left := left) (s := n1 + n2 + n3) (by push_cast; omega))
        go_enter Try.func31, Try.ntmps31
        go_wp2_with fail
        refine (szInts_any _ _ _ _ _ h1 hl0 hl1).mono ?_
        rintro e w1 ⟨rfl, rfl⟩
        rw [R1.out]
        go_wp2_with fail
        refine (szInts_any _ _ _ _ _ h2 (by omega) (by omega)).mono ?_
        rintro e w1 ⟨rfl, rfl⟩
        rw [R2.out]
        go_wp2_with fail
        refine (szBools_any _ _ _ _ _ h3 (by omega) (by omega)).mono ?_
        rintro e w1 ⟨rfl, rfl⟩
        rw [R3.out]
        go_wp2
        go_returns
        exact ⟨ret_int R.out.symm, by go_grown⟩
    · have R2 := Lib.hid (szR_no (left := left - n1) (s := n2) (by omega))
      have R := Lib.hid (szR_no (left := left) (s := n1 + n2 + n3) (by push_cast; omega))
      go_enter Try.func31, Try.ntmps31
      go_wp2_with fail
      refine (szInts_any _ _ _ _ _ h1 hl0 hl1).mono ?_
      rintro e w1 ⟨rfl, rfl⟩
      rw [R1.out]
      go_wp2_with fail
      refine (szInts_any _ _ _ _ _ h2 (by omega) (by omega)).mono ?_
      rintro e w1 ⟨rfl, rfl⟩
      rw [R2.out]
      go_wp2
      go_returns
      exact ⟨ret_int R.out.symm, by go_grown⟩
  · have R1 := Lib.hid (szR_no (left := left) (s := n1) (by omega))
    have R := Lib.hid (szR_no (left := left) (s := n1 + n2 + n3) (by push_cast; omega))
    go_enter Try.func31, Try.ntmps31
    go_wp2_with fail
    refine (szInts_any _ _ _ _ _ h1 hl0 hl1).mono ?_
    rintro e w1 ⟨rfl, rfl⟩
    rw [R1.out]
    go_wp2
    go_returns
    exact ⟨ret_int R.out.symm, by go_grown⟩

/-- a row of the call's own, one cell for each element, given by the place -/
def OwnV (w : World) (base e : Nat) (v : Value) (n : Nat) (f : Nat → Value) : Prop := ∃ xs, w.ownsRow base e 1 v n xs ∧ ∀ j, j < n → xs[j]? = some (f j)
theorem OwnV.ch {S : Nat → Prop} {w w' : World} {base e n : Nat} {v : Value} {f : Nat → Value} (h : OwnV w base e v n f) (hb : Ch S w w') (hS : ∀ k, v.ownBlock = some k → ¬ S k) : OwnV w' base e v n f := by
  obtain ⟨xs, ho, hx⟩ := h
  exact ⟨xs, own_ch ho hb hS, hx⟩
theorem OwnV.up {w : World} {base base' e n : Nat} {v : Value} {f : Nat → Value} (h : OwnV w base e v n f) (hb : base' ≤ base) : OwnV w base' e v n f := by
  obtain ⟨xs, ho, hx⟩ := h
  exact ⟨xs, own_up ho hb, hx⟩
theorem OwnV.vals {w : World} {base e n c : Nat} {A : Option Addr} {f : Nat → Value} (h : OwnV w base e (.slice A n c) n f) : ValsAt w A n f := by
  obtain ⟨xs, ho, hx⟩ := h
  exact ValsAt.of_own ho hx
theorem OwnV.lt {w : World} {base e n c g : Nat} {f : Nat → Value} (h : OwnV w base e (.slice (some ⟨g, 0, none⟩) n c) n f) : base ≤ g ∧ g < w.heap.size := by
  obtain ⟨xs, ho, hx⟩ := h
  rcases own_form ho with ⟨h0, _⟩ | ⟨g', hA, hb, hl⟩
  · cases h0
  · injection hA with hA; injection hA with hg _ _; subst hg; exact ⟨hb, hl⟩

/-- a Beat of the call's own -/
def BtOwn (w : World) (base g1 n1 : Nat) (f1 : Nat → Int) (g2 n2 : Nat) (f2 : Nat → Int) (g3 n3 : Nat) (f3 : Nat → Bool) : Prop :=
  OwnV w base 3 (.slice (some ⟨g1, 0, none⟩) n1 n1) n1 (intV f1) ∧ OwnV w base 3 (.slice (some ⟨g2, 0, none⟩) n2 n2) n2 (intV f2) ∧ OwnV w base 4 (.slice (some ⟨g3, 0, none⟩) n3 n3) n3 (boolV f3) ∧ g1 < g2 ∧ g2 < g3
theorem BtOwn.at_ {w : World} {base g1 n1 : Nat} {f1 : Nat → Int} {g2 n2 : Nat} {f2 : Nat → Int} {g3 n3 : Nat} {f3 : Nat → Bool} (h : BtOwn w base g1 n1 f1 g2 n2 f2 g3 n3 f3) :
    BtAt w (some ⟨g1, 0, none⟩) n1 f1 (some ⟨g2, 0, none⟩) n2 f2 (some ⟨g3, 0, none⟩) n3 f3 := ⟨h.1.vals, h.2.1.vals, h.2.2.1.vals⟩

theorem eqBeat_same (A1 : Option Addr) (n1 c1 : Nat) (f1 : Nat → Int) (A2 : Option Addr) (n2 c2 : Nat) (f2 : Nat → Int) (A3 : Option Addr) (n3 c3 : Nat) (f3 : Nat → Bool)
    (B1 : Option Addr) (d1 : Nat) (B2 : Option Addr) (d2 : Nat) (B3 : Option Addr) (d3 : Nat) (w : World)
    (h : BtAt w A1 n1 f1 A2 n2 f2 A3 n3 f3) (h' : BtAt w B1 n1 f1 B2 n2 f2 B3 n3 f3) (h1 : n1 ≤ 1152921504606846975) (h2 : n2 ≤ 1152921504606846975) (h3 : n3 ≤ 1152921504606846975) :
    Calls Try.prog 34 #[.agg #[.slice A1 n1 c1, .slice A2 n2 c2, .slice A3 n3 c3], .agg #[.slice B1 n1 d1, .slice B2 n2 d2, .slice B3 n3 d3]] w fun e w' => e = .returned (.bool true) ∧ Below w.heap.size w w' := by
  go_enter Try.func34, Try.ntmps34
  go_wp2_with fail
  refine (eqInts_same _ _ _ _ _ f1 _ (h.1.keep (by go_grown)) (h'.1.keep (by go_grown)) h1).mono ?_
  rintro e w1 ⟨rfl, hb1⟩
  obtain ⟨hc_w1, hf_w1⟩ := bcell hb1
  have hz_w1 := hb1.size
  try simp at hz_w1
  have hB_w1 : Below w.heap.size w w1 := bthen (by go_grown) hb1
  have hz_w1_w_0 : w.heap.size < w1.heap.size := by omega
  have hz_w1_w_1 : w.heap.size + 1 < w1.heap.size := by omega
  go_wp2_with fail
  refine (eqInts_same _ _ _ _ _ f2 _ (h.2.1.keep hB_w1) (h'.2.1.keep hB_w1) h2).mono ?_
  rintro e w2 ⟨rfl, hb2⟩
  obtain ⟨hc_w2, hf_w2⟩ := bcell hb2
  have hz_w2 := hb2.size
  try simp at hz_w2
  have hB_w2 : Below w.heap.size w w2 := bthen (by go_grown) hb2
  have hz_w2_w_0 : w.heap.size < w2.heap.size := by omega
  have hz_w2_w_1 : w.heap.size + 1 < w2.heap.size := by omega
  go_wp2_with fail
  refine (eqBools_same _ _ _ _ _ f3 _ (h.2.2.keep hB_w2) (h'.2.2.keep hB_w2) h3).mono ?_
  rintro e w3 ⟨rfl, hb3⟩
  obtain ⟨hc_w3, hf_w3⟩ := bcell hb3
  have hz_w3 := hb3.size
  try simp at hz_w3
  have hB_w3 : Below w.heap.size w w3 := bthen (by go_grown) hb3
  have hz_w3_w_0 : w.heap.size < w3.heap.size := by omega
  have hz_w3_w_1 : w.heap.size + 1 < w3.heap.size := by omega
  go_wp2
  go_returns
  exact ⟨rfl, hB_w3⟩

theorem toBeat_any (A1 : Option Addr) (n1 c1 : Nat) (f1 : Nat → Int) (A2 : Option Addr) (n2 c2 : Nat) (f2 : Nat → Int) (A3 : Option Addr) (n3 c3 : Nat) (f3 : Nat → Bool) (w : World)
    (h : BtAt w A1 n1 f1 A2 n2 f2 A3 n3 f3) (h1 : n1 ≤ 16777216) (h2 : n2 ≤ 16777216) (h3 : n3 ≤ 16777216) :
    Calls Try.prog 32 #[.agg #[.slice A1 n1 c1, .slice A2 n2 c2, .slice A3 n3 c3]] w fun e w' => ∃ g1 g2 g3, e = .returned (.agg #[.slice (some ⟨g1, 0, none⟩) n1 n1, .slice (some ⟨g2, 0, none⟩) n2 n2, .slice (some ⟨g3, 0, none⟩) n3 n3]) ∧
      BtOwn w' w.heap.size g1 n1 f1 g2 n2 f2 g3 n3 f3 ∧ Below w.heap.size w w' := by
  go_enter Try.func32, Try.ntmps32
  go_wp2_with fail
  refine (toInts_any _ _ _ f1 _ (h.1.keep (by go_grown)) h1).mono ?_
  rintro e w1 ⟨g1, x1, rfl, ho1, hx1, hb1⟩
  obtain ⟨hc_w1, hf_w1⟩ := bcell hb1
  have hz_w1 := hb1.size
  try simp at hz_w1
  have hB_w1 : Below w.heap.size w w1 := bthen (by go_grown) hb1
  have hz_w1_w_0 : w.heap.size < w1.heap.size := by omega
  have hz_w1_w_1 : w.heap.size + 1 < w1.heap.size := by omega
  have hz_w1_w_2 : w.heap.size + 1 + 1 < w1.heap.size := by omega
  have V1 : OwnV w1 (w.heap.size + 3) _ _ n1 (intV f1) := ⟨x1, by simpa using ho1, hx1⟩
  clear ho1 hx1
  go_wp2_with fail
  refine (toInts_any _ _ _ f2 _ (h.2.1.keep (by go_grown)) h2).mono ?_
  rintro e w2 ⟨g2, x2, rfl, ho2, hx2, hb2⟩
  obtain ⟨hc_w2, hf_w2⟩ := bcell hb2
  have hz_w2 := hb2.size
  try simp at hz_w2
  have hB_w2 : Below w.heap.size w w2 := bthen (by go_grown) hb2
  have hz_w2_w_0 : w.heap.size < w2.heap.size := by omega
  have hz_w2_w_1 : w.heap.size + 1 < w2.heap.size := by omega
  have hz_w2_w_2 : w.heap.size + 1 + 1 < w2.heap.size := by omega
  have V2 : OwnV w2 w1.heap.size _ _ n2 (intV f2) := ⟨x2, by simpa using ho2, hx2⟩
  clear ho2 hx2
  go_wp2_with fail
  refine (toBools_any _ _ _ f3 _ (h.2.2.keep (by go_grown)) h3).mono ?_
  rintro e w3 ⟨g3, x3, rfl, ho3, hx3, hb3⟩
  obtain ⟨hc_w3, hf_w3⟩ := bcell hb3
  have hz_w3 := hb3.size
  try simp at hz_w3
  have hB_w3 : Below w.heap.size w w3 := bthen (by go_grown) hb3
  have hz_w3_w_0 : w.heap.size < w3.heap.size := by omega
  have hz_w3_w_1 : w.heap.size + 1 < w3.heap.size := by omega
  have hz_w3_w_2 : w.heap.size + 1 + 1 < w3.heap.size := by omega
  have V3 : OwnV w3 w2.heap.size _ _ n3 (boolV f3) := ⟨x3, by simpa using ho3, hx3⟩
  clear ho3 hx3
  go_wp2
  have k0 := keep_cell hb3 (setoff (keep_cell hb2 (setoff (keep_cell hb1 (b := w.heap.size + 1) (o := 0) (v := .slice none 0 0) (by simp [go_sem])) (.inl (by omega)))) (.inl (by omega)))
  have k1 := keep_cell hb3 (setoff (keep_cell hb2 (setoff (keep_cell hb1 (b := w.heap.size + 1) (o := 1) (v := .slice none 0 0) (by simp [go_sem])) (.inl (by omega)))) (.inl (by omega)))
  have k2 := keep_cell hb3 (setoff (keep_cell hb2 (setoff (keep_cell hb1 (b := w.heap.size + 1) (o := 2) (v := .slice none 0 0) (by simp [go_sem])) (.inl (by omega)))) (.inl (by omega)))
  obtain ⟨WF, hWF, r0, r1, r2⟩ := set3 (W := w3.setCell ⟨w.heap.size + 1 + 1, 2, none⟩ (.slice (some ⟨g3, 0, none⟩) n3 n3)) (u := .slice (some ⟨g1, 0, none⟩) n1 n1) (v := .slice (some ⟨g2, 0, none⟩) n2 n2) (x := .slice (some ⟨g3, 0, none⟩) n3 n3)
    (setoff k0 (.inl (by omega))) (setoff k1 (.inl (by omega))) (setoff k2 (.inl (by omega)))
  rw [← hWF]
  have C3 : Ch (fun k => k = w.heap.size + 1 ∨ k = w.heap.size + 1 + 1) w3 WF := by
    rw [hWF]; exact ((((Ch.refl w3).setCell (.inr rfl) _).setCell (.inl rfl) _).setCell (.inl rfl) _).setCell (.inl rfl) _
  have C2 : Ch (fun k => k = w.heap.size + 1 ∨ k = w.heap.size + 1 + 1) w2 w3 := ((Ch.refl w2).setCell (.inr rfl) _).trans (Ch.of_below hb3)
  have C1 : Ch (fun k => k = w.heap.size + 1 ∨ k = w.heap.size + 1 + 1) w1 w2 := ((Ch.refl w1).setCell (.inr rfl) _).trans (Ch.of_below hb2)
  have L1 := V1.lt; have L2 := V2.lt; have L3 := V3.lt
  have hBF : Below w.heap.size w WF := hB_w3.trans (C3.below (fun k hk => by rcases hk with h | h <;> omega) (by omega))
  refine bodyPost_ret (v := .agg #[.slice (some ⟨g1, 0, none⟩) n1 n1, .slice (some ⟨g2, 0, none⟩) n2 n2, .slice (some ⟨g3, 0, none⟩) n3 n3]) (by simp [results, Try.results32, go_sem, r0, r1, r2]) rfl ⟨g1, g2, g3, rfl, ⟨?_, ?_, ?_, by omega, by omega⟩, hBF⟩
  · exact (V1.ch (C1.trans (C2.trans C3)) (fun k hk => by simp [Value.ownBlock] at hk; omega)).up (by omega)
  · exact (V2.ch (C2.trans C3) (fun k hk => by simp [Value.ownBlock] at hk; omega)).up (by omega)
  · exact (V3.ch C3 (fun k hk => by simp [Value.ownBlock] at hk; omega)).up (by omega)

section
open Go.ChangeShapes Go.WideShapes Go.ChangeAt Go.Deep Go.Joins
variable {H : Type} {enc : TypeId × Value → H} {w : World} {base : Nat} {spare : Nat → Bool} {held : Bool}
theorem cellsInt : Try.prog.cellsOf 3 = 1 := by kernel_rfl
theorem cellsBool : Try.prog.cellsOf 4 = 1 := by kernel_rfl
theorem trod_bool1 {fu : Nat} {cs : List Value} {y : DataW H × List MemPlace} (h : DataW.trod enc Try.prog w base spare held fu 4 cs = some y) : ∃ b : Bool, cs = [.bool b] := by
  obtain ⟨n, h1, _⟩ := DataW.trod_bool Try.underlying4 h
  exact ⟨n, h1⟩
theorem ValsAt.of_row {α : Type} [Inhabited α] {V : α → Value} {C : World → List Value → α → Prop} (hC : ∀ w cs x, C w cs x → cs = [V x]) {w : World} {A : Option Addr} {n : Nat} {l : List α} (h : RowAt C 1 w A n l) : ValsAt w A n (fun i => V (l.getD i default)) := fun hn => by
  obtain ⟨b, off, rfl, hlt, hc⟩ := h.2 hn
  have hl := h.1
  refine ⟨b, off, rfl, hlt, fun i hi => ?_⟩
  obtain ⟨cs, hx, _, hcell⟩ := hc i (l.getD i default) (by simp [show i < l.length by omega])
  obtain rfl := hC _ _ _ hx
  simpa using hcell 0 _ rfl
theorem open_ints {fuel : Nat} {cs : List Value} {x : DataW H × List MemPlace} (h : DataW.trod enc Try.prog w base spare held fuel 24 cs = some x) :
    ∃ (A : Option Addr) (n c : Nat) (f : Nat → Int), cs = [.slice A n c] ∧ ValsAt w A n (intV f) ∧ n ≤ 9223372036854775807 := by
  obtain ⟨A, n, c, l, hcs, hr, hn, _⟩ := open_rows_cs (C := fun _ cs (x : Int) => cs = [.int .i64 x]) Try.underlying24 cellsInt (by omega) (fun fu cs y h => by obtain ⟨m, hm, _⟩ := trod_int1 Try.underlying3 h; exact ⟨m, hm⟩) h
  exact ⟨A, n, c, fun i => l.getD i default, hcs, ValsAt.of_row (V := fun x => .int .i64 x) (fun _ _ _ h => h) hr, hn⟩
theorem open_bools {fuel : Nat} {cs : List Value} {x : DataW H × List MemPlace} (h : DataW.trod enc Try.prog w base spare held fuel 25 cs = some x) :
    ∃ (A : Option Addr) (n c : Nat) (f : Nat → Bool), cs = [.slice A n c] ∧ ValsAt w A n (boolV f) ∧ n ≤ 9223372036854775807 := by
  obtain ⟨A, n, c, l, hcs, hr, hn, _⟩ := open_rows_cs (C := fun _ cs (x : Bool) => cs = [.bool x]) Try.underlying25 cellsBool (by omega) (fun fu cs y h => by obtain ⟨m, hm⟩ := trod_bool1 h; exact ⟨m, hm⟩) h
  exact ⟨A, n, c, fun i => l.getD i default, hcs, ValsAt.of_row (V := fun x => .bool x) (fun _ _ _ h => h) hr, hn⟩
theorem cellsBeat : Try.prog.cellsOf 44 = 3 := by kernel_rfl
set_option maxRecDepth 8000 in
theorem open_beat {r : Reach} {b0 : Nat} {v : Value} {d : DataW H} {p : List MemPlace}
    (hv : Value.okWide Try.prog w r b0 44 v) (h : DataW.Trod enc Try.prog w base spare held 44 v d p) :
    ∃ (A1 : Option Addr) (n1 c1 : Nat) (f1 : Nat → Int) (A2 : Option Addr) (n2 c2 : Nat) (f2 : Nat → Int) (A3 : Option Addr) (n3 c3 : Nat) (f3 : Nat → Bool), v = .agg #[.slice A1 n1 c1, .slice A2 n2 c2, .slice A3 n3 c3] ∧
      BtAt w A1 n1 f1 A2 n2 f2 A3 n3 f3 ∧ n1 ≤ 9223372036854775807 ∧ n2 ≤ 9223372036854775807 ∧ n3 ≤ 9223372036854775807 := by
  have hop := open_agg3 Try.underlying44 (by kernel_rfl) cellsBeat hv h
  obtain ⟨v0, v1, v2, y0, y1, y2, m, rfl, _, _, hy0, hy1, hy2⟩ := hop
  obtain ⟨A1, n1, c1, f1, e1, h1, b1⟩ := open_ints hy0
  obtain ⟨A2, n2, c2, f2, e2, h2, b2⟩ := open_ints hy1
  obtain ⟨A3, n3, c3, f3, e3, h3, b3⟩ := open_bools hy2
  simp at e1 e2 e3
  subst e1 e2 e3
  exact ⟨A1, n1, c1, f1, A2, n2, c2, f2, A3, n3, c3, f3, rfl, ⟨h1, h2, h3⟩, b1, b2, b3⟩
end
end Go.Proofs.Ytjhkeknbbeckgaa
