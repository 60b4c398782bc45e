/- Contracts and lemmas: KIntss, WCmd, OpnB, OCmd. -/
import Derived.Test.YtdphdnllhmnelaaGreatJ13
import Derived.Deep.RegionHeld3
import Derived.StillTailTactics
import Derived.BigQuiet
import Derived.Deep.QuietTactic
import Derived.Test.YtdphdnllhmnelaaGreatJ14
import Derived.Test.YtdphdnllhmnelaaGreatJ9
/- [][]int: how it lies in memory, the laws' helpers on it. -/
namespace Go.Proofs.YtdphdnllhmnelaaGreat
open Go.RowKit
def intR (w : World) (cs : List Value) (x : List Int) : Prop := ∃ (A1 : Option Addr) (n1 c1 : Nat), cs = [.slice A1 n1 c1] ∧ IntR w A1 n1 c1 x
def intF (fp : List Nat) (w : World) (cs : List Value) (x : List Int) : Prop := ∃ (A1 : Option Addr) (n1 c1 : Nat), cs = [.slice A1 n1 c1] ∧ IntO fp w A1 n1 c1 x
theorem intK : KindOk intR intF 1 where
  rlen := fun h => by obtain ⟨A1, n1, c1, rfl, h1⟩ := h; rfl
  rkeep := fun h hb => by obtain ⟨A1, n1, c1, rfl, h1⟩ := h; exact ⟨A1, n1, c1, rfl, h1.keep hb⟩
  flt := fun h b hb => by obtain ⟨A1, n1, c1, rfl, h1⟩ := h; exact h1.lt b hb
  fch := fun h hc hS => by obtain ⟨A1, n1, c1, rfl, h1⟩ := h; exact ⟨A1, n1, c1, rfl, h1.ch hc hS⟩
  fr := fun h => by obtain ⟨A1, n1, c1, rfl, h1⟩ := h; exact ⟨A1, n1, c1, rfl, h1.at_⟩
  one := fun h v hv => by
    obtain ⟨A1, n1, c1, rfl, h1⟩ := h
    simp only [List.mem_cons, List.not_mem_nil, or_false] at hv
    subst hv; rfl
def intssB (l : List (List Int)) : Prop := l.length ≤ 9223372036854775807 ∧ ∀ y ∈ l, intB y
def intssSz (l : List (List Int)) : Nat := l.length + (l.map intsSz).sum
theorem intss_el {l : List (List Int)} {i : Nat} {x : List Int} (hx : l[i]? = some x) : intsSz x ≤ intssSz l := by have := (sum_el intsSz hx).1; unfold intssSz; omega
def intssCnt (l : List (List Int)) : Nat := (l.map intsCnt).sum
theorem intss_cnt (l : List (List Int)) : intssCnt l ≤ intssSz l := by
  have : (l.map intsCnt).sum = (l.map intsSz).sum := rfl
  unfold intssCnt intssSz; omega
def intssMk (k : Int) : List (List Int) → List (List Int)
  | [] => []
  | x :: l => intsMk k x :: intssMk (k + (intsCnt x : Nat)) l
theorem intssMk_len (k : Int) : ∀ l : List (List Int), (intssMk k l).length = l.length
  | [] => rfl
  | x :: l => by simp [intssMk, intssMk_len]
theorem intssMk_snoc (k : Int) (x : List Int) : ∀ l : List (List Int), intssMk k (l ++ [x]) = intssMk k l ++ [intsMk (k + (intssCnt l : Nat)) x]
  | [] => by simp [intssMk, intssCnt]
  | y :: l => by
    have := intssMk_snoc (k + (intsCnt y : Nat)) x l
    have e : k + (intsCnt y : Nat) + ((intssCnt l : Nat) : Int) = k + ((intssCnt (y :: l) : Nat) : Int) := by simp only [intssCnt, List.map_cons, List.sum_cons]; push_cast; omega
    simp only [List.cons_append, intssMk, this, e]
theorem intssMk_at (k : Int) : ∀ (l : List (List Int)) (i : Nat) (x : List Int), l[i]? = some x → (intssMk k l)[i]? = some (intsMk (k + (sumTo intsCnt l i : Nat)) x)
  | [], i, x, h => by simp at h
  | y :: l, 0, x, h => by simp at h; subst h; simp [intssMk, sumTo]
  | y :: l, i + 1, x, h => by
    have := intssMk_at (k + (intsCnt y : Nat)) l i x (by simpa using h)
    have e : k + (intsCnt y : Nat) + ((sumTo intsCnt l i : Nat) : Int) = k + ((sumTo intsCnt (y :: l) (i + 1) : Nat) : Int) := by simp only [sumTo, List.take_succ_cons, List.map_cons, List.sum_cons]; push_cast; omega
    simp only [intssMk, List.getElem?_cons_succ, this, e]
attribute [local irreducible] StrR IntR StrO IntO RowR RowO StrsAt IntsAt
theorem infoIntS : (Tryz.prog.info? 23).map (fun i => (i.zero, i.size, i.bytes)) = some (some (.slice none 0 0), 1, 24) := by kernel_rfl
end Go.Proofs.YtdphdnllhmnelaaGreat
/- Rows of Cmd and of []int in the shape of the exact laws; []laws.Cmd opened. -/
namespace Go.Proofs.YtdphdnllhmnelaaGreat
open Go.RowKit

def CmsAt (w : World) (A : Option Addr) (n c : Nat) (l : List (Cm)) : Prop := RowR cmR 8 w A n c l
theorem CmsAt.keep {w w' : World} {A : Option Addr} {n c : Nat} {l : List (Cm)} (h : CmsAt w A n c l) (hb : Below w.heap.size w w') : CmsAt w' A n c l := RowR.keep cmK h hb
structure CmsOk (w : World) (A : Option Addr) (n c : Nat) (l : List (Cm)) : Prop where
  at_ : CmsAt w A n c l
  bd : cmsB l
theorem CmsOk.keep {w w' : World} {A : Option Addr} {n c : Nat} {l : List (Cm)} (h : CmsOk w A n c l) (hb : Below w.heap.size w w') : CmsOk w' A n c l := ⟨h.at_.keep hb, h.bd⟩
structure CmsIn (lo hi : Nat) (w : World) (A : Option Addr) (n c : Nat) (l : List (Cm)) : Prop where
  row : RowI cmF 48 8 lo hi w A n c l
section
variable {lo hi : Nat} {w w' : World} {A : Option Addr} {n c : Nat} {l : List (Cm)}
theorem CmsIn.keep (h : CmsIn lo hi w A n c l) (hb : Below w.heap.size w w') : CmsIn lo hi w' A n c l := ⟨h.row.keep cmK hb⟩
theorem CmsIn.ch {S : Nat → Prop} (h : CmsIn lo hi w A n c l) (hc : Ch S w w') (hS : ∀ k, Iv lo hi k → ¬ S k) : CmsIn lo hi w' A n c l := ⟨h.row.ch cmK hc hS⟩
theorem CmsIn.at_ (h : CmsIn lo hi w A n c l) : CmsAt w A n c l := h.row.at_ cmK (by omega)
theorem CmsIn.cap (h : CmsIn lo hi w A n c l) : n ≤ c := by obtain ⟨fp, _, _, h⟩ := h.row.ex; obtain ⟨_, _, _, ho, _⟩ := h.ex; exact (own_le ho).1
end
theorem cmsW_cnt (l : List (Cm)) : cmsCnt l ≤ 7 * cmsSz l := cms_cnt l
theorem cmsW_sz (l : List (Cm)) (A : Option Addr) (n c : Nat) (left : Int) (w : World) (h : CmsOk w A n c l) (hl0 : 0 ≤ left) (hl1 : left ≤ 4611686018427387904) :
    Calls Tryz.prog 5 #[.slice A n c, .int .i64 left] w fun e w' => e = .returned (.int .i64 (szR left (cmsSz l))) ∧ Below w.heap.size w w' := cms_sz l A n c left w h.at_ h.bd hl0 hl1
theorem cmsW_eq (l : List (Cm)) (A : Option Addr) (n c : Nat) (A' : Option Addr) (n' c' : Nat) (w : World) (h : CmsAt w A n c l) (h' : CmsAt w A' n' c' l) (hs : cmsSz l ≤ 16777216) :
    Calls Tryz.prog 11 #[.slice A n c, .slice A' n' c'] w fun e w' => e = .returned (.bool true) ∧ Below w.heap.size w w' := cms_eq l A n c A' n' c' w h h' hs
theorem cmsW_to (l : List (Cm)) (A : Option Addr) (n c : Nat) (w : World) (h : CmsAt w A n c l) (hs : cmsSz l ≤ 1048576) :
    Calls Tryz.prog 7 #[.slice A n c] w fun e w' => ∃ A' n' c', e = .returned (.slice A' n' c') ∧ CmsIn w.heap.size w'.heap.size w' A' n' c' l ∧ Below w.heap.size w w' := by
  refine (cms_to l A n c w h hs).mono ?_
  rintro e w' ⟨A', n', c', rfl, h1, h2⟩
  exact ⟨A', n', c', rfl, ⟨⟨h1⟩⟩, h2⟩
theorem cmsW_mark (lo hi : Nat) (l : List (Cm)) (A : Option Addr) (n c : Nat) (k : Int) (w : World) (h : CmsIn lo hi w A n c l) (hs : cmsSz l ≤ 16777216) (hk0 : 0 < k) (hk1 : k ≤ 288230376151711744) :
    Calls Tryz.prog 13 #[.slice A n c, .int .i64 k] w fun e w' => e = .returned (.int .i64 (k + (cmsCnt l : Nat))) ∧ CmsIn lo hi w' A n c (cmsMk k l) ∧ Ch (Iv lo hi) w w' := by
  obtain ⟨fp, hN, hB, hO⟩ := h.row.ex
  refine (cms_mark l fp A n c k w hO hN hs hk0 hk1).mono ?_
  rintro e w' ⟨rfl, h1, h2⟩
  exact ⟨rfl, ⟨⟨fp, hN, hB, h1⟩⟩, h2.mono (fun b hb => hB b hb)⟩

def IntzsAt (w : World) (A : Option Addr) (n c : Nat) (l : List (List Int)) : Prop := RowR intR 1 w A n c l
theorem IntzsAt.keep {w w' : World} {A : Option Addr} {n c : Nat} {l : List (List Int)} (h : IntzsAt w A n c l) (hb : Below w.heap.size w w') : IntzsAt w' A n c l := RowR.keep intK h hb
structure IntzsOk (w : World) (A : Option Addr) (n c : Nat) (l : List (List Int)) : Prop where
  at_ : IntzsAt w A n c l
  bd : intssB l
theorem IntzsOk.keep {w w' : World} {A : Option Addr} {n c : Nat} {l : List (List Int)} (h : IntzsOk w A n c l) (hb : Below w.heap.size w w') : IntzsOk w' A n c l := ⟨h.at_.keep hb, h.bd⟩
structure IntzsIn (lo hi : Nat) (w : World) (A : Option Addr) (n c : Nat) (l : List (List Int)) : Prop where
  row : RowI intF 23 1 lo hi w A n c l
section
variable {lo hi : Nat} {w w' : World} {A : Option Addr} {n c : Nat} {l : List (List Int)}
theorem IntzsIn.keep (h : IntzsIn lo hi w A n c l) (hb : Below w.heap.size w w') : IntzsIn lo hi w' A n c l := ⟨h.row.keep intK hb⟩
theorem IntzsIn.ch {S : Nat → Prop} (h : IntzsIn lo hi w A n c l) (hc : Ch S w w') (hS : ∀ k, Iv lo hi k → ¬ S k) : IntzsIn lo hi w' A n c l := ⟨h.row.ch intK hc hS⟩
theorem IntzsIn.at_ (h : IntzsIn lo hi w A n c l) : IntzsAt w A n c l := h.row.at_ intK (by omega)
theorem IntzsIn.cap (h : IntzsIn lo hi w A n c l) : n ≤ c := by obtain ⟨fp, _, _, h⟩ := h.row.ex; obtain ⟨_, _, _, ho, _⟩ := h.ex; exact (own_le ho).1
end
theorem intzs_cnt (l : List (List Int)) : intssCnt l ≤ intssSz l := intss_cnt l

section
open Go.ChangeShapes Go.WideShapes Go.ChangeAt Go.Deep Go.Joins
variable {H : Type} {enc : TypeId × Value → H} {w : World} {base : Nat} {spare : Nat → Bool} {held : Bool}
theorem eight_of {cs : List Value} (h : cs.length = 8) : ∃ a b c d e f g i, cs = [a, b, c, d, e, f, g, i] := by
  match cs, h with
  | [a, b, c, d, e, f, g, i], _ => exact ⟨a, b, c, d, e, f, g, i, rfl⟩
theorem cellsCmdW : Tryz.prog.cellsOf 69 = 8 := by kernel_rfl
theorem cellsIntL : Tryz.prog.cellsOf 3 = 1 := by kernel_rfl
theorem cellsStringL : Tryz.prog.cellsOf 9 = 1 := by kernel_rfl
theorem cellsStrsL : Tryz.prog.cellsOf 46 = 1 := by kernel_rfl
set_option maxRecDepth 8000 in
theorem trod_strs {fu : Nat} {cs : List Value} {y : DataW H × List MemPlace} (h : DataW.trod enc Tryz.prog w base spare held fu 46 cs = some y) :
    ∃ A n c l, cs = [.slice A n c] ∧ StrsAt w A n l ∧ (A = none → c = 0) ∧ n ≤ 9223372036854775807 ∧ ∀ i, i < n → (sAt l i).size ≤ 9223372036854775807 := by
  obtain ⟨A, n, c, l, hcs, hr, hn, _, hc⟩ := open_rows_cs (C := fun _ cs (x : ByteArray) => cs = [.string x] ∧ x.size ≤ 9223372036854775807) Tryz.underlying46 cellsStringL (by omega) (fun fu cs y h => by obtain ⟨m, hm, hw⟩ := trod_str1 Tryz.underlying9 h; exact ⟨m, hm, hw⟩) h
  have hl := hr.1
  refine ⟨A, n, c, l, hcs, ?_, hc, hn, fun i hi => ?_⟩
  · unfold StrsAt
    refine ⟨hl, fun h0 => ?_⟩
    obtain ⟨b, off, rfl, hlt, hcell⟩ := hr.2 h0
    refine ⟨b, off, rfl, hlt, fun i hi => ?_⟩
    obtain ⟨cs', ⟨hx, _⟩, _, hc'⟩ := hcell i (sAt l i) (by rw [sAt_get (by omega)]; exact List.getElem?_eq_getElem (by omega))
    subst hx
    simpa using hc' 0 _ rfl
  · obtain ⟨b, off, rfl, hlt, hcell⟩ := hr.2 (by omega)
    obtain ⟨cs', ⟨_, hw⟩, _⟩ := hcell i (sAt l i) (by rw [sAt_get (by omega)]; exact List.getElem?_eq_getElem (by omega))
    exact hw
set_option maxRecDepth 8000 in
theorem trod_strR {fu : Nat} {cs : List Value} {y : DataW H × List MemPlace} (h : DataW.trod enc Tryz.prog w base spare held fu 46 cs = some y) :
    ∃ A n c l, cs = [.slice A n c] ∧ StrR w A n c l ∧ strB l := by
  obtain ⟨A, n, c, l, e, h1, h2, h3, h4⟩ := trod_strs h
  refine ⟨A, n, c, l, e, ⟨h1, h2⟩, by have := h1.1; omega, fun y hy => ?_⟩
  obtain ⟨i, hi, rfl⟩ := List.getElem_of_mem hy
  have hil : i < n := by have := h1.1; omega
  have := h4 i hil
  rwa [sAt_get hi] at this
set_option maxRecDepth 8000 in
theorem trod_cmd {fu : Nat} {cs : List Value} {y : DataW H × List MemPlace} (h : DataW.trod enc Tryz.prog w base spare held fu 69 cs = some y) : ∃ x, cmR w cs x ∧ cmB x := by
  obtain ⟨c0, c1, c2, c3, c4, c5, c6, c7, rfl⟩ := eight_of (trod_len Tryz.underlying69 cellsCmdW h)
  obtain ⟨_, _, h0⟩ := trod_fieldAt Tryz.underlying69 0 rfl cellsIntL h
  obtain ⟨_, _, h1⟩ := trod_fieldAt Tryz.underlying69 1 rfl cellsIntL h
  obtain ⟨_, _, h2⟩ := trod_fieldAt Tryz.underlying69 2 rfl cellsIntL h
  obtain ⟨_, _, h3⟩ := trod_fieldAt Tryz.underlying69 3 rfl cellsStringL h
  obtain ⟨_, _, h4⟩ := trod_fieldAt Tryz.underlying69 4 rfl cellsStringL h
  obtain ⟨_, _, h5⟩ := trod_fieldAt Tryz.underlying69 5 rfl cellsStringL h
  obtain ⟨_, _, h6⟩ := trod_fieldAt Tryz.underlying69 6 rfl cellsIntL h
  obtain ⟨_, _, h7⟩ := trod_fieldAt Tryz.underlying69 7 rfl cellsStrsL h
  obtain ⟨x0, e0, _⟩ := trod_int1 Tryz.underlying3 h0
  obtain ⟨x1, e1, _⟩ := trod_int1 Tryz.underlying3 h1
  obtain ⟨x2, e2, _⟩ := trod_int1 Tryz.underlying3 h2
  obtain ⟨x3, e3, b3⟩ := trod_str1 Tryz.underlying9 h3
  obtain ⟨x4, e4, b4⟩ := trod_str1 Tryz.underlying9 h4
  obtain ⟨x5, e5, b5⟩ := trod_str1 Tryz.underlying9 h5
  obtain ⟨x6, e6, _⟩ := trod_int1 Tryz.underlying3 h6
  obtain ⟨A, n, c, l, e7, q1, q2⟩ := trod_strR h7
  simp at e0 e1 e2 e3 e4 e5 e6 e7
  subst e0 e1 e2 e3 e4 e5 e6 e7
  exact ⟨⟨x0, x1, x2, x3, x4, x5, x6, l⟩, ⟨A, n, c, rfl, q1⟩, b3, b4, b5, q2⟩
/-- rows whose elements are read and bounded -/
theorem rowAt_and {α : Type} {R : World → List Value → α → Prop} {B : α → Prop} {sz n : Nat} {A : Option Addr} {l : List α} (h : RowAt (fun w cs x => R w cs x ∧ B x) sz w A n l) : RowAt R sz w A n l ∧ ∀ y ∈ l, B y := by
  refine ⟨⟨h.1, fun h0 => ?_⟩, fun y hy => ?_⟩
  · obtain ⟨b, off, e, hl, hc⟩ := h.2 h0
    refine ⟨b, off, e, hl, fun i x hx => ?_⟩
    obtain ⟨cs, ⟨h1, _⟩, h2⟩ := hc i x hx
    exact ⟨cs, h1, h2⟩
  · obtain ⟨i, hi, rfl⟩ := List.getElem_of_mem hy
    obtain ⟨b, off, e, hl, hc⟩ := h.2 (by have := h.1; omega)
    obtain ⟨cs, ⟨_, h1⟩, _⟩ := hc i l[i] (List.getElem?_eq_getElem hi)
    exact h1
set_option maxRecDepth 8000 in
theorem open_cms {r : Reach} {b0 : Nat} {v : Value} {d : DataW H} {p : List MemPlace}
    (hv : Value.okWide Tryz.prog w r b0 22 v) (h : DataW.Trod enc Tryz.prog w base spare held 22 v d p) :
    ∃ (A : Option Addr) (n c : Nat) (l : List Cm), v = .slice A n c ∧ CmsOk w A n c l := by
  obtain ⟨A, n, c, rfl⟩ := okWide_slice Tryz.underlying22 hv
  obtain ⟨fuel, hf⟩ := h
  obtain ⟨A', n', c', l, hcs, hr, hn, _, hc⟩ := open_rows_cs (C := fun w cs x => cmR w cs x ∧ cmB x) Tryz.underlying22 cellsCmdW (by omega) (fun _ _ _ h => trod_cmd h) hf
  simp [Value.cells] at hcs
  obtain ⟨rfl, rfl, rfl⟩ := hcs
  obtain ⟨h1, h2⟩ := rowAt_and hr
  exact ⟨_, _, _, l, rfl, ⟨h1, hc⟩, by have := h1.1; omega, h2⟩
end
end Go.Proofs.YtdphdnllhmnelaaGreat
/- Values of the laws' types opened: the base. -/
namespace Go.Proofs.YtdphdnllhmnelaaGreat
open Go.RowKit Go.ChangeShapes Go.WideShapes Go.ChangeAt Go.Deep Go.Joins
section
variable {H : Type} {enc : TypeId × Value → H} {w : World} {base : Nat} {spare : Nat → Bool} {held : Bool}
theorem cellsIntO : Tryz.prog.cellsOf 3 = 1 := by kernel_rfl
theorem cellsBoolO : Tryz.prog.cellsOf 4 = 1 := by kernel_rfl
theorem cellsStringO : Tryz.prog.cellsOf 9 = 1 := by kernel_rfl
theorem cellsStrsO : Tryz.prog.cellsOf 46 = 1 := by kernel_rfl
theorem cellsIntsO : Tryz.prog.cellsOf 23 = 1 := by kernel_rfl
theorem tr_bool {fu : Nat} {cs : List Value} {y : DataW H × List MemPlace} (h : DataW.trod enc Tryz.prog w base spare held fu 4 cs = some y) : ∃ b : Bool, cs = [.bool b] := by
  obtain ⟨n, h1, _⟩ := DataW.trod_bool Tryz.underlying4 h
  exact ⟨n, h1⟩
set_option maxRecDepth 8000 in
theorem tr_strs {fu : Nat} {cs : List Value} {y : DataW H × List MemPlace} (h : DataW.trod enc Tryz.prog w base spare held fu 46 cs = some y) :
    ∃ l, (∃ A n c, cs = [.slice A n c] ∧ StrR w A n c l) ∧ strB l := by
  obtain ⟨A, n, c, l, hcs, hr, hn, _, hc⟩ := open_rows_cs (C := fun _ cs (x : ByteArray) => cs = [.string x] ∧ x.size ≤ 9223372036854775807) Tryz.underlying46 cellsStringO (by omega) (fun fu cs y h => by obtain ⟨m, hm, hw⟩ := trod_str1 Tryz.underlying9 h; exact ⟨m, hm, hw⟩) h
  have hl := hr.1
  have key : ∀ i, i < n → (sAt l i).size ≤ 9223372036854775807 := fun i hi => by
    obtain ⟨b, off, rfl, hlt, hcell⟩ := hr.2 (by omega)
    obtain ⟨cs', ⟨_, hw⟩, _⟩ := hcell i (sAt l i) (by rw [sAt_get (by omega)]; exact List.getElem?_eq_getElem (by omega))
    exact hw
  refine ⟨l, ⟨A, n, c, hcs, ⟨?_, hc⟩⟩, by omega, fun y hy => ?_⟩
  · unfold StrsAt
    refine ⟨hl, fun h0 => ?_⟩
    obtain ⟨b, off, rfl, hlt, hcell⟩ := hr.2 h0
    refine ⟨b, off, rfl, hlt, fun i hi => ?_⟩
    obtain ⟨cs', ⟨hx, _⟩, _, hc'⟩ := hcell i (sAt l i) (by rw [sAt_get (by omega)]; exact List.getElem?_eq_getElem (by omega))
    subst hx
    simpa using hc' 0 _ rfl
  · obtain ⟨i, hi, rfl⟩ := List.getElem_of_mem hy
    have := key i (by omega)
    rwa [sAt_get hi] at this
set_option maxRecDepth 8000 in
theorem tr_ints {fuel : Nat} {cs : List Value} {x : DataW H × List MemPlace} (h : DataW.trod enc Tryz.prog w base spare held fuel 23 cs = some x) :
    ∃ l, (∃ A n c, cs = [.slice A n c] ∧ IntR w A n c l) ∧ intB l := by
  obtain ⟨A, n, c, l, hcs, hr, hn, _, hc⟩ := open_rows_cs (C := fun _ cs (x : Int) => cs = [.int .i64 x]) Tryz.underlying23 cellsIntO (by omega) (fun fu cs y h => by obtain ⟨m, hm, _⟩ := trod_int1 Tryz.underlying3 h; exact ⟨m, hm⟩) h
  refine ⟨l, ⟨A, n, c, hcs, ⟨?_, hc⟩⟩, by unfold intB; have := hr.1; omega⟩
  unfold IntsAt
  refine ⟨hr.1, fun h0 => ?_⟩
  obtain ⟨b, off, rfl, hlt, hcell⟩ := hr.2 h0
  refine ⟨b, off, rfl, hlt, fun i hi => ?_⟩
  have hl := hr.1
  obtain ⟨cs', hx, _, hc'⟩ := hcell i (iAt l i) (by rw [iAt_get (by omega)]; exact List.getElem?_eq_getElem (by omega))
  subst hx
  simpa [intV] using hc' 0 _ rfl
/-- rows whose elements are read and bounded -/
theorem rowAt_both {α : Type} {R : World → List Value → α → Prop} {B : α → Prop} {sz n : Nat} {A : Option Addr} {l : List α} (h : RowAt (fun w cs x => R w cs x ∧ B x) sz w A n l) : RowAt R sz w A n l ∧ ∀ y ∈ l, B y := by
  refine ⟨⟨h.1, fun h0 => ?_⟩, fun y hy => ?_⟩
  · obtain ⟨b, off, e, hl, hc⟩ := h.2 h0
    refine ⟨b, off, e, hl, fun i x hx => ?_⟩
    obtain ⟨cs, ⟨h1, _⟩, h2⟩ := hc i x hx
    exact ⟨cs, h1, h2⟩
  · obtain ⟨i, hi, rfl⟩ := List.getElem_of_mem hy
    obtain ⟨b, off, e, hl, hc⟩ := h.2 (by have := h.1; omega)
    obtain ⟨cs, ⟨_, h1⟩, _⟩ := hc i l[i] (List.getElem?_eq_getElem hi)
    exact h1
end
end Go.Proofs.YtdphdnllhmnelaaGreat
/- Values of laws.Cmd opened. -/
namespace Go.Proofs.YtdphdnllhmnelaaGreat
open Go.RowKit Go.ChangeShapes Go.WideShapes Go.ChangeAt Go.Deep Go.Joins
section
variable {H : Type} {enc : TypeId × Value → H} {w : World} {base : Nat} {spare : Nat → Bool} {held : Bool}
theorem cellsCmdL : Tryz.prog.cellsOf 69 = 8 := by kernel_rfl
theorem cm_of {cs : List Value} (h : cs.length = 8) : ∃ c0 c1 c2 c3 c4 c5 c6 c7, cs = [c0, c1, c2, c3, c4, c5, c6, c7] := by
  match cs, h with
  | [c0, c1, c2, c3, c4, c5, c6, c7], _ => exact ⟨c0, c1, c2, c3, c4, c5, c6, c7, rfl⟩
set_option maxRecDepth 8000 in
theorem tr_cm {fu : Nat} {cs : List Value} {y : DataW H × List MemPlace} (h : DataW.trod enc Tryz.prog w base spare held fu 69 cs = some y) : ∃ x, cmR w cs x ∧ cmB x := by
  obtain ⟨c0, c1, c2, c3, c4, c5, c6, c7, rfl⟩ := cm_of (trod_len Tryz.underlying69 cellsCmdL h)
  obtain ⟨_, _, h0⟩ := trod_fieldAt Tryz.underlying69 0 rfl cellsIntO h
  obtain ⟨x0, e0, _⟩ := trod_int1 Tryz.underlying3 h0
  simp at e0
  subst e0
  obtain ⟨_, _, h1⟩ := trod_fieldAt Tryz.underlying69 1 rfl cellsIntO h
  obtain ⟨x1, e1, _⟩ := trod_int1 Tryz.underlying3 h1
  simp at e1
  subst e1
  obtain ⟨_, _, h2⟩ := trod_fieldAt Tryz.underlying69 2 rfl cellsIntO h
  obtain ⟨x2, e2, _⟩ := trod_int1 Tryz.underlying3 h2
  simp at e2
  subst e2
  obtain ⟨_, _, h3⟩ := trod_fieldAt Tryz.underlying69 3 rfl cellsStringO h
  obtain ⟨x3, e3, b3⟩ := trod_str1 Tryz.underlying9 h3
  simp at e3
  subst e3
  obtain ⟨_, _, h4⟩ := trod_fieldAt Tryz.underlying69 4 rfl cellsStringO h
  obtain ⟨x4, e4, b4⟩ := trod_str1 Tryz.underlying9 h4
  simp at e4
  subst e4
  obtain ⟨_, _, h5⟩ := trod_fieldAt Tryz.underlying69 5 rfl cellsStringO h
  obtain ⟨x5, e5, b5⟩ := trod_str1 Tryz.underlying9 h5
  simp at e5
  subst e5
  obtain ⟨_, _, h6⟩ := trod_fieldAt Tryz.underlying69 6 rfl cellsIntO h
  obtain ⟨x6, e6, _⟩ := trod_int1 Tryz.underlying3 h6
  simp at e6
  subst e6
  obtain ⟨_, _, h7⟩ := trod_fieldAt Tryz.underlying69 7 rfl cellsStrsO h
  obtain ⟨x7, ⟨A7, n7, m7, e7, g7⟩, b7⟩ := tr_strs h7
  simp at e7
  subst e7
  exact ⟨⟨x0, x1, x2, x3, x4, x5, x6, x7⟩, ⟨A7, n7, m7, rfl, g7⟩, b3, b4, b5, b7⟩
theorem cellsCmdSO : Tryz.prog.cellsOf 22 = 1 := by kernel_rfl
set_option maxRecDepth 8000 in
theorem tr_cms {fu : Nat} {cs : List Value} {y : DataW H × List MemPlace} (h : DataW.trod enc Tryz.prog w base spare held fu 22 cs = some y) : ∃ l, (∃ A n c, cs = [.slice A n c] ∧ RowR cmR 8 w A n c l) ∧ cmsB l := by
  obtain ⟨A, n, c, l, hcs, hr, hn, _, hc⟩ := open_rows_cs (C := fun w cs x => cmR w cs x ∧ cmB x) Tryz.underlying22 cellsCmdL (by omega) (fun _ _ _ h => tr_cm h) h
  obtain ⟨h1, h2⟩ := rowAt_both hr
  exact ⟨l, ⟨A, n, c, hcs, h1, hc⟩, by have := h1.1; omega, h2⟩
set_option maxRecDepth 8000 in
theorem opn_cms {r : Reach} {b0 : Nat} {v : Value} {d : DataW H} {p : List MemPlace} (hv : Value.okWide Tryz.prog w r b0 22 v) (h : DataW.Trod enc Tryz.prog w base spare held 22 v d p) : ∃ (A : Option Addr) (n c : Nat) (l : List Cm), v = .slice A n c ∧ RowR cmR 8 w A n c l ∧ cmsB l := by
  obtain ⟨A, n, c, rfl⟩ := okWide_slice Tryz.underlying22 hv
  obtain ⟨fuel, hf⟩ := h
  obtain ⟨l, ⟨A', n', c', hcs, hr⟩, hb⟩ := tr_cms hf
  simp [Value.cells] at hcs
  obtain ⟨rfl, rfl, rfl⟩ := hcs
  exact ⟨_, _, _, l, rfl, hr, hb⟩
set_option maxRecDepth 8000 in
theorem opn_cm {r : Reach} {b0 : Nat} {v : Value} {d : DataW H} {p : List MemPlace} (hv : Value.okWide Tryz.prog w r b0 69 v) (h : DataW.Trod enc Tryz.prog w base spare held 69 v d p) : ∃ (x : Cm) (A1 : Option Addr) (n1 c1 : Nat), v = cmV x (.slice A1 n1 c1) ∧ StrR w A1 n1 c1 x.ch ∧ cmB x := by
  obtain ⟨arr, rfl, hsz⟩ := okWide_struct Tryz.underlying69 hv
  obtain ⟨fuel, hf⟩ := h
  obtain ⟨x, hR, hB⟩ := tr_cm hf
  obtain ⟨A1, n1, c1, hcs, k1⟩ := hR
  have ha : arr = (cmL x (.slice A1 n1 c1)).toArray := Array.toList_inj.1 (by simpa [Value.cells] using hcs)
  subst ha
  exact ⟨x, A1, n1, c1, rfl, k1, hB⟩
end
end Go.Proofs.YtdphdnllhmnelaaGreat
