/- Contracts and lemmas: OpnB, OCmd, OId, OInst, NumA, Split, SameCmd, ByteRow, Var, VarLaw, Grow, ReadVar. -/
import Derived.Test.YtdphdnllhmnelaaJ1
import Derived.Test.YtdphdnllhmnelaaJ0
import Derived.Test.YtdphdnllhmnelaaJ2
import Derived.Test.YtdphdnllhmnelaaJ3
import Derived.Test.YtdphdnllhmnelaaRows
import Derived.WalkKit
import Derived.WalkLawsBesides
import Derived.WalkSpells
import Derived.Lib.Hide
import Derived.Handy
import Derived.Laws.Bits128
import Derived.Deep.Quiet
import Derived.BigQuiet
import Derived.Deep.QuietTactic
/- Values of the laws' types opened: the base. -/
namespace Go.Proofs.Ytdphdnllhmnelaa
open Go.RowKit Go.ChangeShapes Go.WideShapes Go.ChangeAt Go.Deep Go.Joins
section
variable {H : Type} {enc : TypeId × Value → H} {w : World} {base : Nat} {spare : Nat → Bool} {held : Bool}
theorem cellsIntO : Try.prog.cellsOf 3 = 1 := by kernel_rfl
theorem cellsBoolO : Try.prog.cellsOf 4 = 1 := by kernel_rfl
theorem cellsStringO : Try.prog.cellsOf 9 = 1 := by kernel_rfl
theorem cellsStrsO : Try.prog.cellsOf 38 = 1 := by kernel_rfl
theorem cellsIntsO : Try.prog.cellsOf 78 = 1 := by kernel_rfl
theorem tr_bool {fu : Nat} {cs : List Value} {y : DataW H × List MemPlace} (h : DataW.trod enc Try.prog w base spare held fu 4 cs = some y) : ∃ b : Bool, cs = [.bool b] := by
  obtain ⟨n, h1, _⟩ := DataW.trod_bool Try.underlying4 h
  exact ⟨n, h1⟩
set_option maxRecDepth 8000 in
theorem tr_strs {fu : Nat} {cs : List Value} {y : DataW H × List MemPlace} (h : DataW.trod enc Try.prog w base spare held fu 38 cs = some y) :
    ∃ l, (∃ A n c, cs = [.slice A n c] ∧ StrR w A n c l) ∧ strB l := by
  obtain ⟨A, n, c, l, hcs, hr, hn, _, hc⟩ := open_rows_cs (C := fun _ cs (x : ByteArray) => cs = [.string x] ∧ x.size ≤ 9223372036854775807) Try.underlying38 cellsStringO (by omega) (fun fu cs y h => by obtain ⟨m, hm, hw⟩ := trod_str1 Try.underlying9 h; exact ⟨m, hm, hw⟩) h
  have hl := hr.1
  have key : ∀ i, i < n → (sAt l i).size ≤ 9223372036854775807 := fun i hi => by
    obtain ⟨b, off, rfl, hlt, hcell⟩ := hr.2 (by omega)
    obtain ⟨cs', ⟨_, hw⟩, _⟩ := hcell i (sAt l i) (by rw [sAt_get (by omega)]; exact List.getElem?_eq_getElem (by omega))
    exact hw
  refine ⟨l, ⟨A, n, c, hcs, ⟨?_, hc⟩⟩, by omega, fun y hy => ?_⟩
  · unfold StrsAt
    refine ⟨hl, fun h0 => ?_⟩
    obtain ⟨b, off, rfl, hlt, hcell⟩ := hr.2 h0
    refine ⟨b, off, rfl, hlt, fun i hi => ?_⟩
    obtain ⟨cs', ⟨hx, _⟩, _, hc'⟩ := hcell i (sAt l i) (by rw [sAt_get (by omega)]; exact List.getElem?_eq_getElem (by omega))
    subst hx
    simpa using hc' 0 _ rfl
  · obtain ⟨i, hi, rfl⟩ := List.getElem_of_mem hy
    have := key i (by omega)
    rwa [sAt_get hi] at this
set_option maxRecDepth 8000 in
theorem tr_ints {fuel : Nat} {cs : List Value} {x : DataW H × List MemPlace} (h : DataW.trod enc Try.prog w base spare held fuel 78 cs = some x) :
    ∃ l, (∃ A n c, cs = [.slice A n c] ∧ IntR w A n c l) ∧ intB l := by
  obtain ⟨A, n, c, l, hcs, hr, hn, _, hc⟩ := open_rows_cs (C := fun _ cs (x : Int) => cs = [.int .i64 x]) Try.underlying78 cellsIntO (by omega) (fun fu cs y h => by obtain ⟨m, hm, _⟩ := trod_int1 Try.underlying3 h; exact ⟨m, hm⟩) h
  refine ⟨l, ⟨A, n, c, hcs, ⟨?_, hc⟩⟩, by unfold intB; have := hr.1; omega⟩
  unfold IntsAt
  refine ⟨hr.1, fun h0 => ?_⟩
  obtain ⟨b, off, rfl, hlt, hcell⟩ := hr.2 h0
  refine ⟨b, off, rfl, hlt, fun i hi => ?_⟩
  have hl := hr.1
  obtain ⟨cs', hx, _, hc'⟩ := hcell i (iAt l i) (by rw [iAt_get (by omega)]; exact List.getElem?_eq_getElem (by omega))
  subst hx
  simpa [intV] using hc' 0 _ rfl
/-- rows whose elements are read and bounded -/
theorem rowAt_both {α : Type} {R : World → List Value → α → Prop} {B : α → Prop} {sz n : Nat} {A : Option Addr} {l : List α} (h : RowAt (fun w cs x => R w cs x ∧ B x) sz w A n l) : RowAt R sz w A n l ∧ ∀ y ∈ l, B y := by
  refine ⟨⟨h.1, fun h0 => ?_⟩, fun y hy => ?_⟩
  · obtain ⟨b, off, e, hl, hc⟩ := h.2 h0
    refine ⟨b, off, e, hl, fun i x hx => ?_⟩
    obtain ⟨cs, ⟨h1, _⟩, h2⟩ := hc i x hx
    exact ⟨cs, h1, h2⟩
  · obtain ⟨i, hi, rfl⟩ := List.getElem_of_mem hy
    obtain ⟨b, off, e, hl, hc⟩ := h.2 (by have := h.1; omega)
    obtain ⟨cs, ⟨_, h1⟩, _⟩ := hc i l[i] (List.getElem?_eq_getElem hi)
    exact h1
end
end Go.Proofs.Ytdphdnllhmnelaa
/- Values of laws.Cmd opened. -/
namespace Go.Proofs.Ytdphdnllhmnelaa
open Go.RowKit Go.ChangeShapes Go.WideShapes Go.ChangeAt Go.Deep Go.Joins
section
variable {H : Type} {enc : TypeId × Value → H} {w : World} {base : Nat} {spare : Nat → Bool} {held : Bool}
theorem cellsCmdL : Try.prog.cellsOf 40 = 8 := by kernel_rfl
theorem cm_of {cs : List Value} (h : cs.length = 8) : ∃ c0 c1 c2 c3 c4 c5 c6 c7, cs = [c0, c1, c2, c3, c4, c5, c6, c7] := by
  match cs, h with
  | [c0, c1, c2, c3, c4, c5, c6, c7], _ => exact ⟨c0, c1, c2, c3, c4, c5, c6, c7, rfl⟩
set_option maxRecDepth 8000 in
theorem tr_cm {fu : Nat} {cs : List Value} {y : DataW H × List MemPlace} (h : DataW.trod enc Try.prog w base spare held fu 40 cs = some y) : ∃ x, cmR w cs x ∧ cmB x := by
  obtain ⟨c0, c1, c2, c3, c4, c5, c6, c7, rfl⟩ := cm_of (trod_len Try.underlying40 cellsCmdL h)
  obtain ⟨_, _, h0⟩ := trod_fieldAt Try.underlying40 0 rfl cellsIntO h
  obtain ⟨x0, e0, _⟩ := trod_int1 Try.underlying3 h0
  simp at e0
  subst e0
  obtain ⟨_, _, h1⟩ := trod_fieldAt Try.underlying40 1 rfl cellsIntO h
  obtain ⟨x1, e1, _⟩ := trod_int1 Try.underlying3 h1
  simp at e1
  subst e1
  obtain ⟨_, _, h2⟩ := trod_fieldAt Try.underlying40 2 rfl cellsIntO h
  obtain ⟨x2, e2, _⟩ := trod_int1 Try.underlying3 h2
  simp at e2
  subst e2
  obtain ⟨_, _, h3⟩ := trod_fieldAt Try.underlying40 3 rfl cellsStringO h
  obtain ⟨x3, e3, b3⟩ := trod_str1 Try.underlying9 h3
  simp at e3
  subst e3
  obtain ⟨_, _, h4⟩ := trod_fieldAt Try.underlying40 4 rfl cellsStringO h
  obtain ⟨x4, e4, b4⟩ := trod_str1 Try.underlying9 h4
  simp at e4
  subst e4
  obtain ⟨_, _, h5⟩ := trod_fieldAt Try.underlying40 5 rfl cellsStringO h
  obtain ⟨x5, e5, b5⟩ := trod_str1 Try.underlying9 h5
  simp at e5
  subst e5
  obtain ⟨_, _, h6⟩ := trod_fieldAt Try.underlying40 6 rfl cellsIntO h
  obtain ⟨x6, e6, _⟩ := trod_int1 Try.underlying3 h6
  simp at e6
  subst e6
  obtain ⟨_, _, h7⟩ := trod_fieldAt Try.underlying40 7 rfl cellsStrsO h
  obtain ⟨x7, ⟨A7, n7, m7, e7, g7⟩, b7⟩ := tr_strs h7
  simp at e7
  subst e7
  exact ⟨⟨x0, x1, x2, x3, x4, x5, x6, x7⟩, ⟨A7, n7, m7, rfl, g7⟩, b3, b4, b5, b7⟩
theorem cellsCmdSO : Try.prog.cellsOf 22 = 1 := by kernel_rfl
set_option maxRecDepth 8000 in
theorem tr_cms {fu : Nat} {cs : List Value} {y : DataW H × List MemPlace} (h : DataW.trod enc Try.prog w base spare held fu 22 cs = some y) : ∃ l, (∃ A n c, cs = [.slice A n c] ∧ RowR cmR 8 w A n c l) ∧ cmsB l := by
  obtain ⟨A, n, c, l, hcs, hr, hn, _, hc⟩ := open_rows_cs (C := fun w cs x => cmR w cs x ∧ cmB x) Try.underlying22 cellsCmdL (by omega) (fun _ _ _ h => tr_cm h) h
  obtain ⟨h1, h2⟩ := rowAt_both hr
  exact ⟨l, ⟨A, n, c, hcs, h1, hc⟩, by have := h1.1; omega, h2⟩
set_option maxRecDepth 8000 in
theorem opn_cms {r : Reach} {b0 : Nat} {v : Value} {d : DataW H} {p : List MemPlace} (hv : Value.okWide Try.prog w r b0 22 v) (h : DataW.Trod enc Try.prog w base spare held 22 v d p) : ∃ (A : Option Addr) (n c : Nat) (l : List Cm), v = .slice A n c ∧ RowR cmR 8 w A n c l ∧ cmsB l := by
  obtain ⟨A, n, c, rfl⟩ := okWide_slice Try.underlying22 hv
  obtain ⟨fuel, hf⟩ := h
  obtain ⟨l, ⟨A', n', c', hcs, hr⟩, hb⟩ := tr_cms hf
  simp [Value.cells] at hcs
  obtain ⟨rfl, rfl, rfl⟩ := hcs
  exact ⟨_, _, _, l, rfl, hr, hb⟩
set_option maxRecDepth 8000 in
theorem opn_cm {r : Reach} {b0 : Nat} {v : Value} {d : DataW H} {p : List MemPlace} (hv : Value.okWide Try.prog w r b0 40 v) (h : DataW.Trod enc Try.prog w base spare held 40 v d p) : ∃ (x : Cm) (A1 : Option Addr) (n1 c1 : Nat), v = cmV x (.slice A1 n1 c1) ∧ StrR w A1 n1 c1 x.ch ∧ cmB x := by
  obtain ⟨arr, rfl, hsz⟩ := okWide_struct Try.underlying40 hv
  obtain ⟨fuel, hf⟩ := h
  obtain ⟨x, hR, hB⟩ := tr_cm hf
  obtain ⟨A1, n1, c1, hcs, k1⟩ := hR
  have ha : arr = (cmL x (.slice A1 n1 c1)).toArray := Array.toList_inj.1 (by simpa [Value.cells] using hcs)
  subst ha
  exact ⟨x, A1, n1, c1, rfl, k1, hB⟩
end
end Go.Proofs.Ytdphdnllhmnelaa
/- Values of laws.Id opened. -/
namespace Go.Proofs.Ytdphdnllhmnelaa
open Go.RowKit Go.ChangeShapes Go.WideShapes Go.ChangeAt Go.Deep Go.Joins
section
variable {H : Type} {enc : TypeId × Value → H} {w : World} {base : Nat} {spare : Nat → Bool} {held : Bool}
theorem cellsIdL : Try.prog.cellsOf 37 = 2 := by kernel_rfl
theorem idd_of {cs : List Value} (h : cs.length = 2) : ∃ c0 c1, cs = [c0, c1] := by
  match cs, h with
  | [c0, c1], _ => exact ⟨c0, c1, rfl⟩
set_option maxRecDepth 8000 in
theorem tr_idd {fu : Nat} {cs : List Value} {y : DataW H × List MemPlace} (h : DataW.trod enc Try.prog w base spare held fu 37 cs = some y) : ∃ x, iddR w cs x := by
  obtain ⟨c0, c1, rfl⟩ := idd_of (trod_len Try.underlying37 cellsIdL h)
  obtain ⟨_, _, h0⟩ := trod_fieldAt Try.underlying37 0 rfl cellsIntO h
  obtain ⟨x0, e0, _⟩ := trod_int1 Try.underlying3 h0
  simp at e0
  subst e0
  obtain ⟨_, _, h1⟩ := trod_fieldAt Try.underlying37 1 rfl cellsIntO h
  obtain ⟨x1, e1, _⟩ := trod_int1 Try.underlying3 h1
  simp at e1
  subst e1
  exact ⟨⟨x0, x1⟩, rfl⟩
theorem cellsIdSO : Try.prog.cellsOf 41 = 1 := by kernel_rfl
set_option maxRecDepth 8000 in
theorem tr_idds {fu : Nat} {cs : List Value} {y : DataW H × List MemPlace} (h : DataW.trod enc Try.prog w base spare held fu 41 cs = some y) : ∃ l, (∃ A n c, cs = [.slice A n c] ∧ RowR iddR 2 w A n c l) ∧ iddsB l := by
  obtain ⟨A, n, c, l, hcs, hr, hn, _, hc⟩ := open_rows_cs (C := fun w cs x => iddR w cs x) Try.underlying41 cellsIdL (by omega) (fun _ _ _ h => tr_idd h) h
  exact ⟨l, ⟨A, n, c, hcs, hr, hc⟩, by unfold iddsB; have := hr.1; omega⟩
set_option maxRecDepth 8000 in
theorem opn_idds {r : Reach} {b0 : Nat} {v : Value} {d : DataW H} {p : List MemPlace} (hv : Value.okWide Try.prog w r b0 41 v) (h : DataW.Trod enc Try.prog w base spare held 41 v d p) : ∃ (A : Option Addr) (n c : Nat) (l : List Idd), v = .slice A n c ∧ RowR iddR 2 w A n c l ∧ iddsB l := by
  obtain ⟨A, n, c, rfl⟩ := okWide_slice Try.underlying41 hv
  obtain ⟨fuel, hf⟩ := h
  obtain ⟨l, ⟨A', n', c', hcs, hr⟩, hb⟩ := tr_idds hf
  simp [Value.cells] at hcs
  obtain ⟨rfl, rfl, rfl⟩ := hcs
  exact ⟨_, _, _, l, rfl, hr, hb⟩
set_option maxRecDepth 8000 in
theorem opn_idd {r : Reach} {b0 : Nat} {v : Value} {d : DataW H} {p : List MemPlace} (hv : Value.okWide Try.prog w r b0 37 v) (h : DataW.Trod enc Try.prog w base spare held 37 v d p) : ∃ (x : Idd), v = iddV x := by
  obtain ⟨arr, rfl, hsz⟩ := okWide_struct Try.underlying37 hv
  obtain ⟨fuel, hf⟩ := h
  obtain ⟨x, hR⟩ := tr_idd hf
  have hcs := hR; unfold iddR at hcs
  have ha : arr = (iddL x).toArray := Array.toList_inj.1 (by simpa [Value.cells] using hcs)
  subst ha
  exact ⟨x, rfl⟩
end
end Go.Proofs.Ytdphdnllhmnelaa
/- Values of laws.Inst opened. -/
namespace Go.Proofs.Ytdphdnllhmnelaa
open Go.RowKit Go.ChangeShapes Go.WideShapes Go.ChangeAt Go.Deep Go.Joins
section
variable {H : Type} {enc : TypeId × Value → H} {w : World} {base : Nat} {spare : Nat → Bool} {held : Bool}
theorem cellsInstL : Try.prog.cellsOf 43 = 16 := by kernel_rfl
theorem ins_of {cs : List Value} (h : cs.length = 16) : ∃ c0 c1 c2 c3 c4 c5 c6 c7 c8 c9 c10 c11 c12 c13 c14 c15, cs = [c0, c1, c2, c3, c4, c5, c6, c7, c8, c9, c10, c11, c12, c13, c14, c15] := by
  match cs, h with
  | [c0, c1, c2, c3, c4, c5, c6, c7, c8, c9, c10, c11, c12, c13, c14, c15], _ => exact ⟨c0, c1, c2, c3, c4, c5, c6, c7, c8, c9, c10, c11, c12, c13, c14, c15, rfl⟩
set_option maxRecDepth 8000 in
theorem tr_ins {fu : Nat} {cs : List Value} {y : DataW H × List MemPlace} (h : DataW.trod enc Try.prog w base spare held fu 43 cs = some y) : ∃ x, insR w cs x ∧ insB x := by
  obtain ⟨c0, c1, c2, c3, c4, c5, c6, c7, c8, c9, c10, c11, c12, c13, c14, c15, rfl⟩ := ins_of (trod_len Try.underlying43 cellsInstL h)
  obtain ⟨_, _, h0⟩ := trod_fieldAt Try.underlying43 0 rfl cellsIdL h
  obtain ⟨x0, r0⟩ := tr_idd h0
  have e0 := r0; unfold iddR at e0
  unfold iddL at e0
  simp at e0
  obtain ⟨rfl, rfl⟩ := e0
  obtain ⟨_, _, h1⟩ := trod_fieldAt Try.underlying43 1 rfl cellsIntO h
  obtain ⟨x1, e1, _⟩ := trod_int1 Try.underlying3 h1
  simp at e1
  subst e1
  obtain ⟨_, _, h2⟩ := trod_fieldAt Try.underlying43 2 rfl cellsIntO h
  obtain ⟨x2, e2, _⟩ := trod_int1 Try.underlying3 h2
  simp at e2
  subst e2
  obtain ⟨_, _, h3⟩ := trod_fieldAt Try.underlying43 3 rfl cellsIntO h
  obtain ⟨x3, e3, _⟩ := trod_int1 Try.underlying3 h3
  simp at e3
  subst e3
  obtain ⟨_, _, h4⟩ := trod_fieldAt Try.underlying43 4 rfl cellsCmdL h
  obtain ⟨x4, r4, b4⟩ := tr_cm h4
  obtain ⟨A4_0, n4_0, m4_0, e4, g4_0⟩ := r4
  unfold cmL at e4
  simp at e4
  obtain ⟨rfl, rfl, rfl, rfl, rfl, rfl, rfl, rfl⟩ := e4
  obtain ⟨_, _, h5⟩ := trod_fieldAt Try.underlying43 5 rfl cellsIntO h
  obtain ⟨x5, e5, _⟩ := trod_int1 Try.underlying3 h5
  simp at e5
  subst e5
  obtain ⟨_, _, h6⟩ := trod_fieldAt Try.underlying43 6 rfl cellsIdSO h
  obtain ⟨x6, ⟨A6, n6, m6, e6, g6⟩, b6⟩ := tr_idds h6
  simp at e6
  subst e6
  obtain ⟨_, _, h7⟩ := trod_fieldAt Try.underlying43 7 rfl cellsBoolO h
  obtain ⟨x7, e7⟩ := tr_bool h7
  simp at e7
  subst e7
  exact ⟨⟨x0, x1, x2, x3, x4, x5, x6, x7⟩, ⟨A4_0, n4_0, m4_0, A6, n6, m6, rfl, g4_0, g6⟩, b4, b6⟩
theorem cellsInstSO : Try.prog.cellsOf 58 = 1 := by kernel_rfl
set_option maxRecDepth 8000 in
theorem tr_inss {fu : Nat} {cs : List Value} {y : DataW H × List MemPlace} (h : DataW.trod enc Try.prog w base spare held fu 58 cs = some y) : ∃ l, (∃ A n c, cs = [.slice A n c] ∧ RowR insR 16 w A n c l) ∧ inssB l := by
  obtain ⟨A, n, c, l, hcs, hr, hn, _, hc⟩ := open_rows_cs (C := fun w cs x => insR w cs x ∧ insB x) Try.underlying58 cellsInstL (by omega) (fun _ _ _ h => tr_ins h) h
  obtain ⟨h1, h2⟩ := rowAt_both hr
  exact ⟨l, ⟨A, n, c, hcs, h1, hc⟩, by have := h1.1; omega, h2⟩
set_option maxRecDepth 8000 in
theorem opn_inss {r : Reach} {b0 : Nat} {v : Value} {d : DataW H} {p : List MemPlace} (hv : Value.okWide Try.prog w r b0 58 v) (h : DataW.Trod enc Try.prog w base spare held 58 v d p) : ∃ (A : Option Addr) (n c : Nat) (l : List Ins), v = .slice A n c ∧ RowR insR 16 w A n c l ∧ inssB l := by
  obtain ⟨A, n, c, rfl⟩ := okWide_slice Try.underlying58 hv
  obtain ⟨fuel, hf⟩ := h
  obtain ⟨l, ⟨A', n', c', hcs, hr⟩, hb⟩ := tr_inss hf
  simp [Value.cells] at hcs
  obtain ⟨rfl, rfl, rfl⟩ := hcs
  exact ⟨_, _, _, l, rfl, hr, hb⟩
set_option maxRecDepth 8000 in
theorem opn_ins {r : Reach} {b0 : Nat} {v : Value} {d : DataW H} {p : List MemPlace} (hv : Value.okWide Try.prog w r b0 43 v) (h : DataW.Trod enc Try.prog w base spare held 43 v d p) : ∃ (x : Ins) (A1 : Option Addr) (n1 c1 : Nat) (A2 : Option Addr) (n2 c2 : Nat), v = insV x (.slice A1 n1 c1) (.slice A2 n2 c2) ∧ StrR w A1 n1 c1 x.cmd.ch ∧ RowR iddR 2 w A2 n2 c2 x.deps ∧ insB x := by
  obtain ⟨arr, rfl, hsz⟩ := okWide_struct Try.underlying43 hv
  obtain ⟨fuel, hf⟩ := h
  obtain ⟨x, hR, hB⟩ := tr_ins hf
  obtain ⟨A1, n1, c1, A2, n2, c2, hcs, k1, k2⟩ := hR
  have ha : arr = (insL x (.slice A1 n1 c1) (.slice A2 n2 c2)).toArray := Array.toList_inj.1 (by simpa [Value.cells] using hcs)
  subst ha
  exact ⟨x, A1, n1, c1, A2, n2, c2, rfl, k1, k2, hB⟩
end
end Go.Proofs.Ytdphdnllhmnelaa
/- Contracts of small leaf functions: ranges and stamps. -/
namespace Go.Proofs.Ytdphdnllhmnelaa
open Go.RowKit

/-- x lies between lo and hi -/
def inB (x lo hi : Int) : Bool := decide (lo ≤ x) && decide (x ≤ hi)

theorem within_any (x lo hi : Int) (w : World) :
    Calls Try.prog 113 #[.int .i64 x, .int .i64 lo, .int .i64 hi] w fun e w' => e = .returned (.bool (inB x lo hi)) ∧ w = w' := by
  go_enter Try.func113, Try.ntmps113
  go_wp2
  all_goals go_ret
  all_goals exact ⟨ret_bool (beq_bool (by simp [inB]; try omega)), rfl⟩

theorem l1In_any (x lo hi : Int) (w : World) :
    Calls Try.prog 125 #[.int .i64 x, .int .i64 lo, .int .i64 hi] w fun e w' => e = .returned (.bool (inB x lo hi)) ∧ w = w' := by
  go_enter Try.func125, Try.ntmps125
  go_wp2
  all_goals go_ret
  all_goals exact ⟨ret_bool (beq_bool (by simp [inB]; try omega)), rfl⟩
theorem isRep_any (x : Int) (w : World) :
    Calls Try.prog 142 #[.int .i64 x] w fun e w' => e = .returned (.bool (inB x 0 2)) ∧ w = w' := by
  go_enter Try.func142, Try.ntmps142
  go_wp2
  all_goals go_ret
  all_goals exact ⟨ret_bool (beq_bool (by simp [inB]; try omega)), rfl⟩

theorem l9Node_any (x : Int) (w : World) :
    Calls Try.prog 135 #[.int .i64 x] w fun e w' => e = .returned (.bool (inB x 0 2)) ∧ w = w' := by
  go_enter Try.func135, Try.ntmps135
  go_wp2
  all_goals go_ret
  all_goals exact ⟨ret_bool (beq_bool (by simp [inB]; try omega)), rfl⟩

end Go.Proofs.Ytdphdnllhmnelaa
/- Contracts of split and of the reference's l30Cut; words; paths. -/
namespace Go.Proofs.Ytdphdnllhmnelaa
open Go.RowKit

/-- behind i bytes: where the part begins, and the parts before it -/
def splitTo (s : ByteArray) (c : Nat) : Nat → Nat × List ByteArray
  | 0 => (0, [])
  | i + 1 => if bAt s i = c then (i + 1, (splitTo s c i).2 ++ [s.extract (splitTo s c i).1 i]) else splitTo s c i
def splitS (s : ByteArray) (c : Nat) : List ByteArray := (splitTo s c s.size).2 ++ [s.extract (splitTo s c s.size).1 s.size]
theorem splitTo_le (s : ByteArray) (c i : Nat) : (splitTo s c i).1 ≤ i ∧ (splitTo s c i).2.length ≤ i := by
  induction i with
  | zero => simp [splitTo]
  | succ i ih =>
    rw [splitTo]
    split
    · simp; omega
    · omega
theorem splitS_len (s : ByteArray) (c : Nat) : 1 ≤ (splitS s c).length ∧ (splitS s c).length ≤ s.size + 1 := by
  have := splitTo_le s c s.size
  simp [splitS]; omega

/-- one to eight letters -/
def wordB (s : ByteArray) : Bool := inB s.size 1 8 && (List.range s.size).all (fun i => inB (bAt s i) 97 122)
theorem wordB_no {s : ByteArray} {k : Nat} (hk : k < s.size) (h : inB (bAt s k) 97 122 = false) : wordB s = false := by
  unfold wordB; rw [all_no hk h, Bool.and_false]
theorem wordB_all {s : ByteArray} (h : ∀ j, j < s.size → inB (bAt s j) 97 122 = true) : wordB s = inB s.size 1 8 := by
  unfold wordB; rw [all_yes h, Bool.and_true]
theorem inB_no {x lo hi : Int} (h : x < lo ∨ hi < x) : inB x lo hi = false := by simp [inB]; omega
theorem inB_yes {x lo hi : Int} (h1 : lo ≤ x) (h2 : x ≤ hi) : inB x lo hi = true := by simp [inB, h1, h2]

theorem isWord_impl (s : ByteArray) (w : World) (hs : s.size ≤ 9223372036854775807) :
    Calls Try.prog 182 #[.string s] w fun e w' => e = .returned (.bool (wordB s)) ∧ w = w' := by
  go_enter Try.func182, Try.ntmps182
  go_wp2
  go_loop [3] (fun i => ∃ k : Nat, k ≤ s.size ∧ i = .int .i64 k ∧ ∀ j, j < k → inB (bAt s j) 97 122 = true) (fun i => s.size - (intOf i).toNat)
  case atStart => exact ⟨0, Nat.zero_le _, rfl, fun j hj => absurd hj (by omega)⟩
  case round =>
    obtain ⟨k, hk, rfl, hall⟩ := hrel
    have HA := Lib.hid hall; clear hall
    by_cases hlt : k < s.size
    · have hbt := bAt_get hlt
      have hbl := bAt_lt s k
      by_cases h1 : bAt s k < 97
      · go_wp2
        go_returns
        exact ⟨ret_bool (wordB_no hlt (inB_no (by omega))).symm, rfl⟩
      · by_cases h2 : 122 < bAt s k
        · go_wp2
          go_returns
          exact ⟨ret_bool (wordB_no hlt (inB_no (by omega))).symm, rfl⟩
        · go_wp2
          exact ⟨⟨k + 1, by omega, by go_num, upto_succ HA.out (inB_yes (by omega) (by omega))⟩, by simp [intOf]; omega⟩
    · go_wp2_with (go_at_call 113; refine (within_any _ _ _ _).mono ?_; rintro e w' ⟨rfl, rfl⟩)
      go_returns
      exact ⟨ret_bool (by rw [wordB_all (fun j hj => HA.out j (by omega))]), rfl⟩

theorem l4Word_spec (s : ByteArray) (w : World) (hs : s.size ≤ 9223372036854775807) :
    Calls Try.prog 177 #[.string s] w fun e w' => e = .returned (.bool (wordB s)) ∧ w = w' := by
  by_cases h0 : inB s.size 1 8 = true
  · go_enter Try.func177, Try.ntmps177
    go_wp2_with (first | (go_at_call 125; refine (l1In_any _ _ _ _).mono ?_; rintro e w' ⟨rfl, rfl⟩))
    go_loop [3] (fun i => ∃ k : Nat, k ≤ s.size ∧ i = .int .i64 k ∧ ∀ j, j < k → inB (bAt s j) 97 122 = true) (fun i => s.size - (intOf i).toNat)
    case atStart => exact ⟨0, Nat.zero_le _, rfl, fun j hj => absurd hj (by omega)⟩
    case round =>
      obtain ⟨k, hk, rfl, hall⟩ := hrel
      have HA := Lib.hid hall; clear hall
      by_cases hlt : k < s.size
      · have hbt := bAt_get hlt
        have hbl := bAt_lt s k
        by_cases h1 : bAt s k < 97
        · go_wp2
          go_returns
          exact ⟨ret_bool (wordB_no hlt (inB_no (by omega))).symm, rfl⟩
        · by_cases h2 : 122 < bAt s k
          · go_wp2
            go_returns
            exact ⟨ret_bool (wordB_no hlt (inB_no (by omega))).symm, rfl⟩
          · go_wp2
            exact ⟨⟨k + 1, by omega, by go_num, upto_succ HA.out (inB_yes (by omega) (by omega))⟩, by simp [intOf]; omega⟩
      · go_wp2
        go_returns
        exact ⟨ret_bool (by rw [wordB_all (fun j hj => HA.out j (by omega)), h0]), rfl⟩
  · go_enter Try.func177, Try.ntmps177
    go_wp2_with (first | (go_at_call 125; refine (l1In_any _ _ _ _).mono ?_; rintro e w' ⟨rfl, rfl⟩))
    go_returns
    refine ⟨ret_bool ?_, rfl⟩
    unfold wordB; simp [h0]

def pathOkB (p : ByteArray) : Bool := (List.range (splitS p 47).length).all (fun i => wordB (sAt (splitS p 47) i)) && decide ((splitS p 47).length ≤ 3)
theorem pathOkB_no {p : ByteArray} {k : Nat} (hk : k < (splitS p 47).length) (h : wordB (sAt (splitS p 47) k) = false) : pathOkB p = false := by
  unfold pathOkB; rw [all_no hk h, Bool.false_and]
theorem pathOkB_all {p : ByteArray} (h : ∀ j, j < (splitS p 47).length → wordB (sAt (splitS p 47) j) = true) : pathOkB p = decide ((splitS p 47).length ≤ 3) := by
  unfold pathOkB; rw [all_yes h, Bool.true_and]
theorem sAt_splitS_size (s : ByteArray) (c k : Nat) : (sAt (splitS s c) k).size ≤ s.size := by
  have h : ∀ x ∈ splitS s c, x.size ≤ s.size := by
    have h2 : ∀ i, i ≤ s.size → ∀ x ∈ (splitTo s c i).2, x.size ≤ s.size := by
      intro i
      induction i with
      | zero => simp [splitTo]
      | succ i ih =>
        intro hi x hx
        rw [splitTo] at hx
        split at hx
        · rcases List.mem_append.1 hx with h | h
          · exact ih (by omega) x h
          · simp at h; subst h; simp [ByteArray.size_extract]; omega
        · exact ih (by omega) x hx
    intro x hx
    rcases List.mem_append.1 hx with h | h
    · exact h2 _ (Nat.le_refl _) x h
    · simp at h; subst h; simp [ByteArray.size_extract]
  rcases Nat.lt_or_ge k (splitS s c).length with hk | hk
  · rw [sAt_get hk]; exact h _ (List.getElem_mem hk)
  · simp [sAt, hk]

end Go.Proofs.Ytdphdnllhmnelaa
/- Contracts of SameCmd, CmdOk and Clash, of both sides. -/
namespace Go.Proofs.Ytdphdnllhmnelaa
open Go.RowKit
theorem strsLenA {w : World} {A : Option Addr} {n : Nat} {l : List ByteArray} (h : StrsAt w A n l) : n = l.length := h.1
attribute [local irreducible] StrsAt

/-! ### texts -/
def eqS (l l' : List ByteArray) : Bool := decide (l = l')
theorem eq_ext {l l' : List ByteArray} {n : Nat} (h : n = l.length) (h' : n = l'.length) (hj : ∀ j, j < n → sAt l j = sAt l' j) : l = l' := by
  apply List.ext_getElem (by omega)
  intro i h1 h2
  have := hj i (by omega)
  simpa [sAt, h1, h2] using this
theorem slicesEqual_strs (A : Option Addr) (n c : Nat) (A' : Option Addr) (n' c' : Nat) (l l' : List ByteArray) (w : World) (h : StrsAt w A n l) (h' : StrsAt w A' n' l') (hn : n ≤ 9223372036854775807) (hn' : n' ≤ 9223372036854775807) :
    Calls Try.prog 181 #[.slice A n c, .slice A' n' c'] w fun e w' => e = .returned (.bool (eqS l l')) ∧ Below w.heap.size w w' := by
  have HL := Lib.hid (strsLenA h)
  have HL' := Lib.hid (strsLenA h')
  by_cases hne : n = n'
  · subst hne
    go_enter Try.func181, Try.ntmps181
    go_wp2
    go_loopw [5, 13] (fun _ i wr => ∃ (k : Nat), k ≤ n ∧ i = .int .i64 k ∧ (∀ j, j < k → sAt l j = sAt l' j) ∧ Below w.heap.size w wr) (fun _ i _ => n - (intOf i).toNat)
    case atStart => exact ⟨0, Nat.zero_le _, rfl, fun j hj => absurd hj (by omega), Below.refl _ _⟩
    case round =>
      obtain ⟨k, hk, rfl, hj, hb⟩ := hrel
      have HJ := Lib.hid hj; clear hj
      by_cases hlt : k < n
      · obtain ⟨b, off, rfl, hbl, hc⟩ := h.at_ (by omega)
        have hck := (hb.cell (p := ⟨b, off + k, none⟩) hbl).trans (hc k hlt)
        clear hc
        obtain ⟨b', off', rfl, hbl', hc'⟩ := h'.at_ (by omega)
        have hck' := (hb.cell (p := ⟨b', off' + k, none⟩) hbl').trans (hc' k hlt)
        clear hc'
        by_cases hs : sAt l k = sAt l' k
        · have hd : ((sAt l k).toList == (sAt l' k).toList) = true := by rw [str_beq]; simpa using hs
          have HS := Lib.hid hs
          clear hs
          go_wp2
          go_quiet (fail)
          go_wp2
          refine ⟨⟨k + 1, by omega, by go_num, fun j hj => ?_, below_drewN hb _⟩, by simp [intOf]; omega⟩
          rcases Nat.lt_or_ge j k with h1 | h1
          · exact HJ.out j h1
          · have : j = k := by omega
            subst this; exact HS.out
        · have hd : ((sAt l k).toList == (sAt l' k).toList) = false := by rw [str_beq]; simpa using hs
          have HS := Lib.hid hs
          clear hs
          go_wp2
          go_quiet (fail)
          go_wp2
          go_returns
          exact ⟨ret_bool (by unfold eqS; symm; simp only [decide_eq_false_iff_not]; intro e; exact HS.out (by rw [e])), below_drewN hb _⟩
      · go_wp2
        go_returns
        exact ⟨ret_bool (by unfold eqS; symm; simp only [decide_eq_true_eq]; exact eq_ext HL.out HL'.out (fun j hj => HJ.out j (by omega))), hb⟩
  · have hni : ¬ ((n : Int) = (n' : Int)) := by omega
    have HE := Lib.hid (show l ≠ l' from fun e => hne (by rw [HL.out, HL'.out, e]))
    go_enter Try.func181, Try.ntmps181
    go_wp2
    go_returns
    exact ⟨ret_bool (by unfold eqS; simp [HE.out]), Below.refl _ _⟩
theorem l4Texts_spec (A : Option Addr) (n c : Nat) (A' : Option Addr) (n' c' : Nat) (l l' : List ByteArray) (w : World) (h : StrsAt w A n l) (h' : StrsAt w A' n' l') (hn : n ≤ 9223372036854775807) (hn' : n' ≤ 9223372036854775807) :
    Calls Try.prog 180 #[.slice A n c, .slice A' n' c'] w fun e w' => e = .returned (.bool (eqS l l')) ∧ Below w.heap.size w w' := by
  have HL := Lib.hid (strsLenA h)
  have HL' := Lib.hid (strsLenA h')
  by_cases hne : n = n'
  · subst hne
    go_enter Try.func180, Try.ntmps180
    go_wp2
    go_loopw [5] (fun i wr => ∃ (k : Nat), k ≤ n ∧ i = .int .i64 k ∧ (∀ j, j < k → sAt l j = sAt l' j) ∧ Below w.heap.size w wr) (fun i _ => n - (intOf i).toNat)
    case atStart => exact ⟨0, Nat.zero_le _, rfl, fun j hj => absurd hj (by omega), Below.refl _ _⟩
    case round =>
      obtain ⟨k, hk, rfl, hj, hb⟩ := hrel
      have HJ := Lib.hid hj; clear hj
      by_cases hlt : k < n
      · obtain ⟨b, off, rfl, hbl, hc⟩ := h.at_ (by omega)
        have hck := (hb.cell (p := ⟨b, off + k, none⟩) hbl).trans (hc k hlt)
        clear hc
        obtain ⟨b', off', rfl, hbl', hc'⟩ := h'.at_ (by omega)
        have hck' := (hb.cell (p := ⟨b', off' + k, none⟩) hbl').trans (hc' k hlt)
        clear hc'
        by_cases hs : sAt l k = sAt l' k
        · have hd : ((sAt l k).toList == (sAt l' k).toList) = true := by rw [str_beq]; simpa using hs
          have HS := Lib.hid hs
          clear hs
          go_wp2
          go_quiet (fail)
          go_wp2
          refine ⟨⟨k + 1, by omega, by go_num, fun j hj => ?_, below_drewN hb _⟩, by simp [intOf]; omega⟩
          rcases Nat.lt_or_ge j k with h1 | h1
          · exact HJ.out j h1
          · have : j = k := by omega
            subst this; exact HS.out
        · have hd : ((sAt l k).toList == (sAt l' k).toList) = false := by rw [str_beq]; simpa using hs
          have HS := Lib.hid hs
          clear hs
          go_wp2
          go_quiet (fail)
          go_wp2
          go_returns
          exact ⟨ret_bool (by unfold eqS; symm; simp only [decide_eq_false_iff_not]; intro e; exact HS.out (by rw [e])), below_drewN hb _⟩
      · go_wp2
        go_returns
        exact ⟨ret_bool (by unfold eqS; symm; simp only [decide_eq_true_eq]; exact eq_ext HL.out HL'.out (fun j hj => HJ.out j (by omega))), hb⟩
  · have hni : ¬ ((n : Int) = (n' : Int)) := by omega
    have HE := Lib.hid (show l ≠ l' from fun e => hne (by rw [HL.out, HL'.out, e]))
    go_enter Try.func180, Try.ntmps180
    go_wp2
    go_returns
    exact ⟨ret_bool (by unfold eqS; simp [HE.out]), Below.refl _ _⟩

def ok8 (l : List ByteArray) : Bool := (List.range l.length).all (fun i => decide ((sAt l i).size = 8))
theorem ok8_no {l : List ByteArray} {k : Nat} (hk : k < l.length) (h : ¬ (sAt l k).size = 8) : ok8 l = false := all_no hk (by simpa using h)
theorem ok8_yes {l : List ByteArray} (h : ∀ j, j < l.length → (sAt l j).size = 8) : ok8 l = true := all_yes (fun j hj => by simpa using h j hj)
theorem areChunks_ok (A : Option Addr) (n c : Nat) (l : List ByteArray) (w : World) (h : StrsAt w A n l) (hn : n ≤ 9223372036854775807) :
    Calls Try.prog 161 #[.slice A n c] w fun e w' => e = .returned (.bool (ok8 l)) ∧ w = w' := by
  have HL := Lib.hid (strsLenA h)
  go_enter Try.func161, Try.ntmps161
  go_wp2
  go_loop [7] (fun i => ∃ k : Nat, k ≤ n ∧ i = .int .i64 k ∧ ∀ j, j < k → (sAt l j).size = 8) (fun i => n - (intOf i).toNat)
  case atStart => exact ⟨0, Nat.zero_le _, rfl, fun j hj => absurd hj (by omega)⟩
  case round =>
    obtain ⟨k, hk, rfl, hx⟩ := hrel
    have HX := Lib.hid hx; clear hx
    by_cases hlt : k < n
    · obtain ⟨b, off, rfl, hbl, hc⟩ := h.at_ (by omega)
      have hck := hc k hlt
      clear hc
      by_cases h8 : (sAt l k).size = 8
      · have g1 : ((((sAt l k).size : Nat) : Int) != 8) = false := by simp [h8]
        have H8 := Lib.hid h8; clear h8
        go_wp2
        refine ⟨⟨k + 1, by omega, by go_num, ?_⟩, by simp [intOf]; omega⟩
        intro j hj
        by_cases e : j = k
        · subst e; exact H8.out
        · exact HX.out j (by omega)
      · have g1 : ((((sAt l k).size : Nat) : Int) != 8) = true := by simp; omega
        have H8 := Lib.hid h8; clear h8
        go_wp2
        go_returns
        exact ⟨ret_bool (ok8_no (by have := HL.out; omega) H8.out).symm, rfl⟩
    · go_wp2
      go_returns
      exact ⟨ret_bool (ok8_yes (fun j hj => HX.out j (by have := HL.out; omega))).symm, rfl⟩

/-! ### two commands -/
def sameB (x y : Cm) : Bool := decide (x.kd = y.kd) && decide (x.cl = y.cl) && decide (x.no = y.no) && decide (x.s = y.s) && decide (x.nm = y.nm) && decide (x.tg = y.tg) && decide (x.n = y.n) && eqS x.ch y.ch
theorem sbeq (a b : ByteArray) : (a.toList == b.toList) = decide (a = b) := str_beq a b

set_option maxRecDepth 8000 in
set_option maxHeartbeats 1000000 in
theorem sameCmd_impl (x y : Cm) (A1 : Option Addr) (n1 c1 : Nat) (A2 : Option Addr) (n2 c2 : Nat) (w : World) (h1 : StrR w A1 n1 c1 x.ch) (h2 : StrR w A2 n2 c2 y.ch) (hn1 : n1 ≤ 9223372036854775807) (hn2 : n2 ≤ 9223372036854775807) :
    Calls Try.prog 159 #[cmV x (.slice A1 n1 c1), cmV y (.slice A2 n2 c2)] w fun e w' => e = .returned (.bool (sameB x y)) ∧ Below w.heap.size w w' := by
  unfold cmV
  by_cases g0 : x.kd = y.kd
  · skip
    by_cases g1 : x.cl = y.cl
    · skip
      by_cases g2 : x.no = y.no
      · skip
        by_cases g3 : x.s = y.s
        · skip
          by_cases g4 : x.nm = y.nm
          · skip
            by_cases g5 : x.tg = y.tg
            · skip
              by_cases g6 : x.n = y.n
              · skip
                have HS := Lib.hid (show sameB x y = eqS x.ch y.ch by unfold sameB; simp [g0, g1, g2, g3, g4, g5, g6])
                have d0 : (x.kd == y.kd) = true := by simpa using g0
                clear g0
                have d1 : (x.cl == y.cl) = true := by simpa using g1
                clear g1
                have d2 : (x.no == y.no) = true := by simpa using g2
                clear g2
                have d3 : (x.s.toList == y.s.toList) = true := by rw [sbeq]; simpa using g3
                clear g3
                have d4 : (x.nm.toList == y.nm.toList) = true := by rw [sbeq]; simpa using g4
                clear g4
                have d5 : (x.tg.toList == y.tg.toList) = true := by rw [sbeq]; simpa using g5
                clear g5
                have d6 : (x.n == y.n) = true := by simpa using g6
                clear g6
                go_enter Try.func159, Try.ntmps159
                go_wp2_with fail
                refine (slicesEqual_strs _ _ _ _ _ _ x.ch y.ch _ (h1.1.keep (by go_grown)) (h2.1.keep (by go_grown)) hn1 hn2).mono ?_
                rintro e w1 ⟨rfl, hb1⟩
                go_wp2
                go_returns
                exact ⟨ret_bool (by rw [HS.out]), bthen (by go_grown) hb1⟩
              · have HS := Lib.hid (show sameB x y = false by unfold sameB; simp [g6])
                have d0 : (x.kd == y.kd) = true := by simpa using g0
                clear g0
                have d1 : (x.cl == y.cl) = true := by simpa using g1
                clear g1
                have d2 : (x.no == y.no) = true := by simpa using g2
                clear g2
                have d3 : (x.s.toList == y.s.toList) = true := by rw [sbeq]; simpa using g3
                clear g3
                have d4 : (x.nm.toList == y.nm.toList) = true := by rw [sbeq]; simpa using g4
                clear g4
                have d5 : (x.tg.toList == y.tg.toList) = true := by rw [sbeq]; simpa using g5
                clear g5
                have d6 : (x.n == y.n) = false := by simpa using g6
                clear g6
                go_enter Try.func159, Try.ntmps159
                go_wp2
                go_returns
                exact ⟨ret_bool (by rw [HS.out]), by go_grown⟩
            · have HS := Lib.hid (show sameB x y = false by unfold sameB; simp [g5])
              have d0 : (x.kd == y.kd) = true := by simpa using g0
              clear g0
              have d1 : (x.cl == y.cl) = true := by simpa using g1
              clear g1
              have d2 : (x.no == y.no) = true := by simpa using g2
              clear g2
              have d3 : (x.s.toList == y.s.toList) = true := by rw [sbeq]; simpa using g3
              clear g3
              have d4 : (x.nm.toList == y.nm.toList) = true := by rw [sbeq]; simpa using g4
              clear g4
              have d5 : (x.tg.toList == y.tg.toList) = false := by rw [sbeq]; simpa using g5
              clear g5
              go_enter Try.func159, Try.ntmps159
              go_wp2
              go_returns
              exact ⟨ret_bool (by rw [HS.out]), by go_grown⟩
          · have HS := Lib.hid (show sameB x y = false by unfold sameB; simp [g4])
            have d0 : (x.kd == y.kd) = true := by simpa using g0
            clear g0
            have d1 : (x.cl == y.cl) = true := by simpa using g1
            clear g1
            have d2 : (x.no == y.no) = true := by simpa using g2
            clear g2
            have d3 : (x.s.toList == y.s.toList) = true := by rw [sbeq]; simpa using g3
            clear g3
            have d4 : (x.nm.toList == y.nm.toList) = false := by rw [sbeq]; simpa using g4
            clear g4
            go_enter Try.func159, Try.ntmps159
            go_wp2
            go_returns
            exact ⟨ret_bool (by rw [HS.out]), by go_grown⟩
        · have HS := Lib.hid (show sameB x y = false by unfold sameB; simp [g3])
          have d0 : (x.kd == y.kd) = true := by simpa using g0
          clear g0
          have d1 : (x.cl == y.cl) = true := by simpa using g1
          clear g1
          have d2 : (x.no == y.no) = true := by simpa using g2
          clear g2
          have d3 : (x.s.toList == y.s.toList) = false := by rw [sbeq]; simpa using g3
          clear g3
          go_enter Try.func159, Try.ntmps159
          go_wp2
          go_returns
          exact ⟨ret_bool (by rw [HS.out]), by go_grown⟩
      · have HS := Lib.hid (show sameB x y = false by unfold sameB; simp [g2])
        have d0 : (x.kd == y.kd) = true := by simpa using g0
        clear g0
        have d1 : (x.cl == y.cl) = true := by simpa using g1
        clear g1
        have d2 : (x.no == y.no) = false := by simpa using g2
        clear g2
        go_enter Try.func159, Try.ntmps159
        go_wp2
        go_returns
        exact ⟨ret_bool (by rw [HS.out]), by go_grown⟩
    · have HS := Lib.hid (show sameB x y = false by unfold sameB; simp [g1])
      have d0 : (x.kd == y.kd) = true := by simpa using g0
      clear g0
      have d1 : (x.cl == y.cl) = false := by simpa using g1
      clear g1
      go_enter Try.func159, Try.ntmps159
      go_wp2
      go_returns
      exact ⟨ret_bool (by rw [HS.out]), by go_grown⟩
  · have HS := Lib.hid (show sameB x y = false by unfold sameB; simp [g0])
    have d0 : (x.kd == y.kd) = false := by simpa using g0
    clear g0
    go_enter Try.func159, Try.ntmps159
    go_wp2
    go_returns
    exact ⟨ret_bool (by rw [HS.out]), by go_grown⟩
set_option maxRecDepth 8000 in
set_option maxHeartbeats 1000000 in
theorem sameCmd_spec (x y : Cm) (A1 : Option Addr) (n1 c1 : Nat) (A2 : Option Addr) (n2 c2 : Nat) (w : World) (h1 : StrR w A1 n1 c1 x.ch) (h2 : StrR w A2 n2 c2 y.ch) (hn1 : n1 ≤ 9223372036854775807) (hn2 : n2 ≤ 9223372036854775807) :
    Calls Try.prog 157 #[cmV x (.slice A1 n1 c1), cmV y (.slice A2 n2 c2)] w fun e w' => e = .returned (.bool (sameB x y)) ∧ Below w.heap.size w w' := by
  unfold cmV
  by_cases g0 : x.kd = y.kd
  · skip
    by_cases g1 : x.cl = y.cl
    · skip
      by_cases g2 : x.no = y.no
      · skip
        by_cases g3 : x.s = y.s
        · skip
          by_cases g4 : x.nm = y.nm
          · skip
            by_cases g5 : x.tg = y.tg
            · skip
              by_cases g6 : x.n = y.n
              · skip
                have HS := Lib.hid (show sameB x y = eqS x.ch y.ch by unfold sameB; simp [g0, g1, g2, g3, g4, g5, g6])
                have d0 : (x.kd == y.kd) = true := by simpa using g0
                clear g0
                have d1 : (x.cl == y.cl) = true := by simpa using g1
                clear g1
                have d2 : (x.no == y.no) = true := by simpa using g2
                clear g2
                have d3 : (x.s.toList == y.s.toList) = true := by rw [sbeq]; simpa using g3
                clear g3
                have d4 : (x.nm.toList == y.nm.toList) = true := by rw [sbeq]; simpa using g4
                clear g4
                have d5 : (x.tg.toList == y.tg.toList) = true := by rw [sbeq]; simpa using g5
                clear g5
                have d6 : (x.n == y.n) = true := by simpa using g6
                clear g6
                go_enter Try.func157, Try.ntmps157
                go_wp2_with fail
                refine (l4Texts_spec _ _ _ _ _ _ x.ch y.ch _ (h1.1.keep (by go_grown)) (h2.1.keep (by go_grown)) hn1 hn2).mono ?_
                rintro e w1 ⟨rfl, hb1⟩
                go_wp2
                go_returns
                exact ⟨ret_bool (by rw [HS.out]), bthen (by go_grown) hb1⟩
              · have HS := Lib.hid (show sameB x y = false by unfold sameB; simp [g6])
                have d0 : (x.kd == y.kd) = true := by simpa using g0
                clear g0
                have d1 : (x.cl == y.cl) = true := by simpa using g1
                clear g1
                have d2 : (x.no == y.no) = true := by simpa using g2
                clear g2
                have d3 : (x.s.toList == y.s.toList) = true := by rw [sbeq]; simpa using g3
                clear g3
                have d4 : (x.nm.toList == y.nm.toList) = true := by rw [sbeq]; simpa using g4
                clear g4
                have d5 : (x.tg.toList == y.tg.toList) = true := by rw [sbeq]; simpa using g5
                clear g5
                have d6 : (x.n == y.n) = false := by simpa using g6
                clear g6
                go_enter Try.func157, Try.ntmps157
                go_wp2
                go_returns
                exact ⟨ret_bool (by rw [HS.out]), by go_grown⟩
            · have HS := Lib.hid (show sameB x y = false by unfold sameB; simp [g5])
              have d0 : (x.kd == y.kd) = true := by simpa using g0
              clear g0
              have d1 : (x.cl == y.cl) = true := by simpa using g1
              clear g1
              have d2 : (x.no == y.no) = true := by simpa using g2
              clear g2
              have d3 : (x.s.toList == y.s.toList) = true := by rw [sbeq]; simpa using g3
              clear g3
              have d4 : (x.nm.toList == y.nm.toList) = true := by rw [sbeq]; simpa using g4
              clear g4
              have d5 : (x.tg.toList == y.tg.toList) = false := by rw [sbeq]; simpa using g5
              clear g5
              go_enter Try.func157, Try.ntmps157
              go_wp2
              go_returns
              exact ⟨ret_bool (by rw [HS.out]), by go_grown⟩
          · have HS := Lib.hid (show sameB x y = false by unfold sameB; simp [g4])
            have d0 : (x.kd == y.kd) = true := by simpa using g0
            clear g0
            have d1 : (x.cl == y.cl) = true := by simpa using g1
            clear g1
            have d2 : (x.no == y.no) = true := by simpa using g2
            clear g2
            have d3 : (x.s.toList == y.s.toList) = true := by rw [sbeq]; simpa using g3
            clear g3
            have d4 : (x.nm.toList == y.nm.toList) = false := by rw [sbeq]; simpa using g4
            clear g4
            go_enter Try.func157, Try.ntmps157
            go_wp2
            go_returns
            exact ⟨ret_bool (by rw [HS.out]), by go_grown⟩
        · have HS := Lib.hid (show sameB x y = false by unfold sameB; simp [g3])
          have d0 : (x.kd == y.kd) = true := by simpa using g0
          clear g0
          have d1 : (x.cl == y.cl) = true := by simpa using g1
          clear g1
          have d2 : (x.no == y.no) = true := by simpa using g2
          clear g2
          have d3 : (x.s.toList == y.s.toList) = false := by rw [sbeq]; simpa using g3
          clear g3
          go_enter Try.func157, Try.ntmps157
          go_wp2
          go_returns
          exact ⟨ret_bool (by rw [HS.out]), by go_grown⟩
      · have HS := Lib.hid (show sameB x y = false by unfold sameB; simp [g2])
        have d0 : (x.kd == y.kd) = true := by simpa using g0
        clear g0
        have d1 : (x.cl == y.cl) = true := by simpa using g1
        clear g1
        have d2 : (x.no == y.no) = false := by simpa using g2
        clear g2
        go_enter Try.func157, Try.ntmps157
        go_wp2
        go_returns
        exact ⟨ret_bool (by rw [HS.out]), by go_grown⟩
    · have HS := Lib.hid (show sameB x y = false by unfold sameB; simp [g1])
      have d0 : (x.kd == y.kd) = true := by simpa using g0
      clear g0
      have d1 : (x.cl == y.cl) = false := by simpa using g1
      clear g1
      go_enter Try.func157, Try.ntmps157
      go_wp2
      go_returns
      exact ⟨ret_bool (by rw [HS.out]), by go_grown⟩
  · have HS := Lib.hid (show sameB x y = false by unfold sameB; simp [g0])
    have d0 : (x.kd == y.kd) = false := by simpa using g0
    clear g0
    go_enter Try.func157, Try.ntmps157
    go_wp2
    go_returns
    exact ⟨ret_bool (by rw [HS.out]), by go_grown⟩

def wifB (s : ByteArray) (b : Bool) : Bool := if b then wordB s else decide (s = ByteArray.empty)
theorem ebeq (s : ByteArray) : s.toList.isEmpty = decide (s = ByteArray.empty) := by
  have h0 : ByteArray.empty.toList = [] := by rw [Lib.toList_data]; rfl
  by_cases h : s = ByteArray.empty
  · rw [decide_eq_true h, h, h0]; rfl
  · rw [decide_eq_false h]
    cases hl : s.toList with
    | nil => exact absurd (by apply str_ext; rw [hl, h0]) h
    | cons a b => rfl

theorem wordIf_impl (s : ByteArray) (b : Bool) (w : World) (hs : s.size ≤ 9223372036854775807) :
    Calls Try.prog 160 #[.string s, .bool b] w fun e w' => e = .returned (.bool (wifB s b)) ∧ w = w' := by
  cases b
  · have HE := Lib.hid (ebeq s)
    go_enter Try.func160, Try.ntmps160
    go_wp2
    go_returns
    exact ⟨ret_bool (by rw [HE.out]; rfl), rfl⟩
  · go_enter Try.func160, Try.ntmps160
    go_wp2_with (go_at_call 182; refine (isWord_impl s _ hs).mono ?_; rintro e w1 ⟨rfl, rfl⟩)
    go_returns
    exact ⟨ret_bool (by unfold wifB; rfl), rfl⟩
theorem l4May_spec (s : ByteArray) (b : Bool) (w : World) (hs : s.size ≤ 9223372036854775807) :
    Calls Try.prog 158 #[.string s, .bool b] w fun e w' => e = .returned (.bool (wifB s b)) ∧ w = w' := by
  cases b
  · have HE := Lib.hid (ebeq s)
    go_enter Try.func158, Try.ntmps158
    go_wp2
    go_returns
    exact ⟨ret_bool (by rw [HE.out]; rfl), rfl⟩
  · go_enter Try.func158, Try.ntmps158
    go_wp2_with (go_at_call 177; refine (l4Word_spec s _ hs).mono ?_; rintro e w1 ⟨rfl, rfl⟩)
    go_returns
    exact ⟨ret_bool (by unfold wifB; rfl), rfl⟩

/-- a command as it must be -/
def cmOkB (x : Cm) : Bool := if x.kd = 0 then sameB x cmNil else
  inB x.kd 1 7 && inB x.cl 1 9 && inB x.no 1 1000 && wifB x.s (decide (x.kd ≠ 7)) && wifB x.nm (decide (x.kd = 3) || decide (x.kd = 4)) && wifB x.tg (decide (x.kd = 4)) && (decide (x.n = 0) || (decide (x.kd = 5) && inB x.n 0 9)) &&
  (if x.kd = 3 then inB (x.ch.length : Int) 1 4 && ok8 x.ch else decide (x.ch.length = 0))
theorem cmNil_R (w : World) : StrR w none 0 0 cmNil.ch := StrO.nil.at_
/-- a general contract, its answer told -/
theorem told {P : Program} {f : FuncId} {args : Array Value} {w : World} {x y : Bool} (hx : x = y) (h : Calls P f args w fun e w' => e = .returned (.bool x) ∧ w = w') : Calls P f args w fun e w' => e = .returned (.bool y) ∧ w = w' := by
  subst hx; exact h
attribute [local irreducible] wifB ok8 inB

end Go.Proofs.Ytdphdnllhmnelaa
/- Rows of bytes of the call's own, and the text made of one. -/
namespace Go.Proofs.Ytdphdnllhmnelaa
open Go.RowKit
theorem var_byte (n : Nat) (h : n < 256) : ((UInt8.ofNat n).toNat : Int) = n := by simp; omega
def byteV (b : UInt8) : Value := .int .u8 (b.toNat : Int)
theorem byteV_of {n : Nat} (h : n < 256) : byteV (UInt8.ofNat n) = .int .u8 (n : Int) := by unfold byteV; rw [var_byte n h]
theorem infoByteV : (Try.prog.info? 5).map (fun i => (i.zero, i.size, i.bytes)) = some (some (.int .u8 0), 1, 1) := by kernel_rfl
theorem conv_own {w : World} {base n c : Nat} {A : Option Addr} {xs : List UInt8} (h : w.ownsRow base 5 1 (.slice A n c) n (xs.map byteV)) (hn : 0 < n) :
    ∃ g, A = some ⟨g, 0, none⟩ ∧ (convert 74 9 (.slice (some ⟨g, 0, none⟩) n c)).run Try.prog w = .ok (.string ⟨xs.toArray⟩) w := by
  rcases own_form h with ⟨_, h0, _⟩ | ⟨g, rfl, _⟩
  · omega
  · have hl : xs.length = n := by have := h.1; simpa using this
    subst hl
    have hcv := run_convert_bytes_back (P := Try.prog) w 74 9 5 ⟨g, 0, none⟩ c xs Try.underlying74 Try.underlying5 Try.underlying9 (by
      intro t ht
      rw [Addr.add_lit, Nat.zero_add, h.cellAt t (by simpa using ht)]
      simp only [List.getElem?_map, List.getElem?_eq_getElem ht]
      rfl)
    exact ⟨g, rfl, hcv⟩
end Go.Proofs.Ytdphdnllhmnelaa
/- Contracts of Var, sized, l4Piece. -/
namespace Go.Proofs.Ytdphdnllhmnelaa
open Go.RowKit

/-- the bytes of Var -/
def varL (n : Nat) : List UInt8 := if n < 128 then [UInt8.ofNat n] else UInt8.ofNat (128 + n % 128) :: varL (n / 128)
termination_by n
decreasing_by omega
def varS (n : Nat) : ByteArray := ⟨(varL n).toArray⟩
theorem varL_small {n : Nat} (h : n < 128) : varL n = [UInt8.ofNat n] := by rw [varL, if_pos h]
theorem varL_big {n : Nat} (h : ¬ n < 128) : varL n = UInt8.ofNat (128 + n % 128) :: varL (n / 128) := by rw [varL, if_neg h]
theorem var_le {j m n : Nat} (h : m * 128 ^ j ≤ n) {b : Nat} (hn : n ≤ b) : m ≤ b := by
  have : m * 1 ≤ m * 128 ^ j := Nat.mul_le_mul_left m (Nat.pow_pos (by decide))
  omega
theorem var_step {j m n : Nat} (h6 : j ≤ 6) (h : m * 128 ^ j ≤ n) (hn : n ≤ 562949953421311) (hm : ¬ m < 128) : j + 1 ≤ 6 ∧ m / 128 * 128 ^ (j + 1) ≤ n := by
  rcases (show j = 0 ∨ j = 1 ∨ j = 2 ∨ j = 3 ∨ j = 4 ∨ j = 5 ∨ j = 6 by omega) with rfl | rfl | rfl | rfl | rfl | rfl | rfl <;> simp only [Nat.reducePow, Nat.reduceAdd, Nat.mul_one] at h ⊢ <;> omega
theorem i64_or128 {y : Int} (h0 : 0 ≤ y) (h1 : y < 128) : bits .or .i64 y 128 = y + 128 := by
  obtain ⟨a, rfl⟩ := Int.eq_ofNat_of_zero_le h0
  have e1 : (BitVec.ofInt 64 (a : Int)).toNat = a := by rw [BitVec.ofInt_natCast, BitVec.toNat_ofNat]; exact Nat.mod_eq_of_lt (by omega)
  have e2 : (BitVec.ofInt 64 128).toNat = 128 := by decide
  have hx : a ||| 128 = a + 128 := by
    have := Nat.two_pow_add_eq_or_of_lt (i := 7) (b := a) (by omega) 1
    rw [Nat.or_comm] at this
    simp at this
    omega
  show IntKind.i64.wrap ((BitVec.ofInt 64 (a : Int) ||| BitVec.ofInt 64 128).toNat : Int) = _
  rw [BitVec.toNat_or, e1, e2, hx, IntKind.wrap_i64]
  omega

theorem var_impl (n : Nat) (w : World) (hn : n ≤ 562949953421311) :
    Calls Try.prog 76 #[.int .i64 n] w fun e w' => e = .returned (.string (varS n)) ∧ Below w.heap.size w w' := by
  have hin : inB (n : Int) 0 562949953421311 = true := by simp [inB]; omega
  have HI := Lib.hid hin; clear hin
  go_enter Try.func76, Try.ntmps76
  go_wp2_with fail
  refine (within_any _ _ _ _).mono ?_
  rintro e w1 ⟨rfl, rfl⟩
  rw [HI.out]
  go_wp2
  go_loopw [0, 3] (fun x o wr => ∃ (m : Nat) (A : Option Addr) (cap : Nat) (xs : List UInt8), x = .int .i64 m ∧ o = .slice A xs.length cap ∧ wr.ownsRow w.heap.size 5 1 (.slice A xs.length cap) xs.length (xs.map byteV) ∧ varL n = xs ++ varL m ∧ xs.length ≤ 6 ∧ m * 128 ^ xs.length ≤ n ∧ Below w.heap.size w wr) (fun x _ _ => (intOf x).toNat)
  case atStart => exact ⟨n, _, 0, [], rfl, rfl, by simpa using own_empty w 5 1 (base := w.heap.size) (Nat.le_refl _), rfl, by simp, by simp, (Below.refl _ _).alloc (Nat.le_refl _) _⟩
  case round =>
    obtain ⟨m, A, cap, xs, rfl, rfl, hown, hv, hle, hmul, hb⟩ := hrel
    have HM := Lib.hid hmul; clear hmul
    have hmn : m ≤ 562949953421311 := var_le HM.out hn
    have HV := Lib.hid hv; clear hv
    have hzr := hb.size
    by_cases hm : m < 128
    · have H8 : byteV (UInt8.ofNat m) = .int .u8 (m : Int) := byteV_of (by omega)
      have HB := Lib.hid H8; clear H8
      have HS := Lib.hid (varL_small hm)
      go_wp2_with (first | (at_builtin; refine wpList_app1g (P := Try.prog) _ rfl (.tmp 19) (.tmp 22) 74 rfl w.heap.size 5 _ 1 1 Try.underlying74 infoByteV rfl (by omega) (.slice A _ cap) _ _ rfl hown #[.int .u8 (m : Int)] _ rfl (by simp) rfl (by simp [Value.oneCell']) (by unfold maxLen; omega) (by omega) hzr ?_; intro A' c' w4 hown4 hg4 hb4 _; rw [show xs.map byteV ++ #[Value.int .u8 (m : Int)].toList = (xs ++ [UInt8.ofNat m]).map byteV by rw [List.map_append]; simp [HB.out]] at hown4; obtain ⟨g4, hA4, hcv⟩ := conv_own hown4 (by omega); subst hA4))
      go_wp2
      go_returns
      exact ⟨by unfold varS; rw [HV.out, HS.out]; rfl, hb.trans hb4⟩
    · have H8 : byteV (UInt8.ofNat (128 + m % 128)) = .int .u8 ((m : Int) % 128 + 128) := (byteV_of (by omega)).trans (by congr 1; omega)
      have HB := Lib.hid H8; clear H8
      have HS := Lib.hid (varL_big hm)
      have ha := i64_and127 (m : Int)
      have ho := i64_or128 (y := (m : Int) % 128) (by omega) (by omega)
      go_wp2_with (at_builtin; refine wpList_app1g (P := Try.prog) _ rfl (.tmp 10) (.tmp 15) 74 rfl w.heap.size 5 _ 1 1 Try.underlying74 infoByteV rfl (by omega) (.slice A _ cap) _ _ rfl hown #[.int .u8 ((m : Int) % 128 + 128)] _ rfl (by simp) rfl (by simp [Value.oneCell']) (by unfold maxLen; omega) (by omega) hzr ?_; intro A' c' w4 hown4 hg4 hb4 _)
      refine ⟨⟨m / 128, A', c', xs ++ [UInt8.ofNat (128 + m % 128)], by simp, by simp, ?_, by rw [HV.out, HS.out]; simp, by rw [List.length_append]; exact (var_step hle HM.out hn hm).1, by rw [List.length_append]; exact (var_step hle HM.out hn hm).2, hb.trans hb4⟩, by simp [intOf]; omega⟩
      rw [List.map_append, List.map_cons, List.map_nil, HB.out, List.length_append]
      exact hown4

set_option maxRecDepth 4000 in
theorem var_spec (n : Nat) (w : World) (hn : n ≤ 562949953421311) :
    Calls Try.prog 70 #[.int .i64 n] w fun e w' => e = .returned (.string (varS n)) ∧ Below w.heap.size w w' := by
  have hin : inB (n : Int) 0 562949953421311 = true := by simp [inB]; omega
  have HI := Lib.hid hin; clear hin
  go_enter Try.func70, Try.ntmps70
  go_wp2_with fail
  refine (l1In_any _ _ _ _).mono ?_
  rintro e w1 ⟨rfl, rfl⟩
  rw [HI.out]
  go_wp2
  go_loopw [0, 3] (fun x o wr => ∃ (m : Nat) (A : Option Addr) (cap : Nat) (xs : List UInt8), x = .int .i64 m ∧ o = .slice A xs.length cap ∧ wr.ownsRow w.heap.size 5 1 (.slice A xs.length cap) xs.length (xs.map byteV) ∧ varL n = xs ++ varL m ∧ xs.length ≤ 6 ∧ m * 128 ^ xs.length ≤ n ∧ Below w.heap.size w wr) (fun x _ _ => (intOf x).toNat)
  case atStart => exact ⟨n, _, 0, [], rfl, rfl, by simpa using own_empty w 5 1 (base := w.heap.size) (Nat.le_refl _), rfl, by simp, by simp, (Below.refl _ _).alloc (Nat.le_refl _) _⟩
  case round =>
    obtain ⟨m, A, cap, xs, rfl, rfl, hown, hv, hle, hmul, hb⟩ := hrel
    have HM := Lib.hid hmul; clear hmul
    have hmn : m ≤ 562949953421311 := var_le HM.out hn
    have HV := Lib.hid hv; clear hv
    have hzr := hb.size
    by_cases hm : m < 128
    · have H8 : byteV (UInt8.ofNat m) = .int .u8 (m : Int) := byteV_of (by omega)
      have HB := Lib.hid H8; clear H8
      have HS := Lib.hid (varL_small hm)
      go_wp2_with (first | (at_builtin; refine wpList_app1g (P := Try.prog) _ rfl (.tmp 19) (.tmp 22) 74 rfl w.heap.size 5 _ 1 1 Try.underlying74 infoByteV rfl (by omega) (.slice A _ cap) _ _ rfl hown #[.int .u8 (m : Int)] _ rfl (by simp) rfl (by simp [Value.oneCell']) (by unfold maxLen; omega) (by omega) hzr ?_; intro A' c' w4 hown4 hg4 hb4 _; rw [show xs.map byteV ++ #[Value.int .u8 (m : Int)].toList = (xs ++ [UInt8.ofNat m]).map byteV by rw [List.map_append]; simp [HB.out]] at hown4; obtain ⟨g4, hA4, hcv⟩ := conv_own hown4 (by omega); subst hA4))
      go_wp2
      go_returns
      exact ⟨by unfold varS; rw [HV.out, HS.out]; rfl, hb.trans hb4⟩
    · have H8 : byteV (UInt8.ofNat (128 + m % 128)) = .int .u8 (128 + (m : Int) % 128) := (byteV_of (by omega)).trans (by congr 1)
      have HB := Lib.hid H8; clear H8
      have HS := Lib.hid (varL_big hm)
      go_wp2_with (at_builtin; refine wpList_app1g (P := Try.prog) _ rfl (.tmp 10) (.tmp 15) 74 rfl w.heap.size 5 _ 1 1 Try.underlying74 infoByteV rfl (by omega) (.slice A _ cap) _ _ rfl hown #[.int .u8 (128 + (m : Int) % 128)] _ rfl (by simp) rfl (by simp [Value.oneCell']) (by unfold maxLen; omega) (by omega) hzr ?_; intro A' c' w4 hown4 hg4 hb4 _)
      refine ⟨⟨m / 128, A', c', xs ++ [UInt8.ofNat (128 + m % 128)], by simp, by simp, ?_, by rw [HV.out, HS.out]; simp, by rw [List.length_append]; exact (var_step hle HM.out hn hm).1, by rw [List.length_append]; exact (var_step hle HM.out hn hm).2, hb.trans hb4⟩, by simp [intOf]; omega⟩
      rw [List.map_append, List.map_cons, List.map_nil, HB.out, List.length_append]
      exact hown4
end Go.Proofs.Ytdphdnllhmnelaa
/- Numbers as bytes (varints): read back from a text that begins with them, and nothing else is one. -/
namespace Go.Proofs.Ytdphdnllhmnelaa

def bVal (s : ByteArray) : Nat → Nat
  | 0 => 0
  | k + 1 => bVal s k + bAt s k % 128 * 128 ^ k
theorem bVal_lt (s : ByteArray) (k : Nat) : bVal s k < 128 ^ k := by
  induction k with
  | zero => simp [bVal]
  | succ k ih =>
    unfold bVal
    have h : bAt s k % 128 * 128 ^ k ≤ 127 * 128 ^ k := Nat.mul_le_mul_right _ (by omega)
    rw [Nat.pow_succ]
    omega
/-- the value of a list of bytes, the least first -/
def lVal : List UInt8 → Nat
  | [] => 0
  | b :: l => b.toNat % 128 + 128 * lVal l
theorem varL_ne (n : Nat) : varL n ≠ [] := by
  by_cases h : n < 128
  · rw [varL_small h]; simp
  · rw [varL_big h]; simp
theorem varL_val (n : Nat) : lVal (varL n) = n := by
  induction n using Nat.strongRecOn with
  | _ n ih =>
    by_cases h : n < 128
    · rw [varL_small h]; simp [lVal]; omega
    · rw [varL_big h]
      show (UInt8.ofNat (128 + n % 128)).toNat % 128 + 128 * lVal (varL (n / 128)) = n
      rw [ih (n / 128) (by omega)]
      simp; omega
theorem varL_cons {n : Nat} {b : UInt8} {l : List UInt8} (h : varL n = b :: l) : (l = [] ∧ b.toNat < 128) ∨ (l = varL (n / 128) ∧ 128 ≤ b.toNat ∧ 128 ≤ n) := by
  by_cases hn : n < 128
  · rw [varL_small hn] at h
    injection h with h1 h2
    subst h1
    exact .inl ⟨h2.symm, by simp; omega⟩
  · rw [varL_big hn] at h
    injection h with h1 h2
    subst h1
    exact .inr ⟨h2.symm, by simp; omega, by omega⟩
/-- but the last, all bytes are from 128 on -/
theorem varL_hi (n : Nat) : ∀ i, i + 1 < (varL n).length → ∃ b, (varL n)[i]? = some b ∧ 128 ≤ b.toNat := by
  induction n using Nat.strongRecOn with
  | _ n ih =>
    intro i hi
    cases hl : varL n with
    | nil => exact absurd hl (varL_ne n)
    | cons b l =>
      rcases varL_cons hl with ⟨rfl, _⟩ | ⟨rfl, hb, hn⟩
      · rw [hl] at hi; simp at hi
      · cases i with
        | zero => exact ⟨b, rfl, hb⟩
        | succ i =>
          rw [hl] at hi
          simp only [List.length_cons] at hi
          obtain ⟨c, h1, h2⟩ := ih (n / 128) (by omega) i (by omega)
          exact ⟨c, by simpa using h1, h2⟩
theorem varL_lo (n : Nat) : ∃ b, (varL n)[(varL n).length - 1]? = some b ∧ b.toNat < 128 := by
  induction n using Nat.strongRecOn with
  | _ n ih =>
    cases hl : varL n with
    | nil => exact absurd hl (varL_ne n)
    | cons b l =>
      rcases varL_cons hl with ⟨rfl, hb⟩ | ⟨rfl, hb, hn⟩
      · exact ⟨b, rfl, hb⟩
      · obtain ⟨c, h1, h2⟩ := ih (n / 128) (by omega)
        refine ⟨c, ?_, h2⟩
        have hp : 0 < (varL (n / 128)).length := List.length_pos_iff.2 (varL_ne _)
        rw [List.length_cons, show (varL (n / 128)).length + 1 - 1 = ((varL (n / 128)).length - 1) + 1 by omega, List.getElem?_cons_succ]
        exact h1
/-- at most seven bytes, up to MaxVar -/
theorem varL_lenk {n : Nat} (k : Nat) (h : n < 128 ^ (k + 1)) : (varL n).length ≤ k + 1 := by
  induction k generalizing n with
  | zero => rw [varL_small (by simpa using h)]; simp
  | succ k ih =>
    by_cases hn : n < 128
    · rw [varL_small hn]; simp
    · rw [varL_big hn, List.length_cons]
      have : n / 128 < 128 ^ (k + 1) := by
        rw [Nat.div_lt_iff_lt_mul (by decide)]
        rwa [Nat.pow_succ] at h
      have := ih this
      omega
theorem varL_len7 {n : Nat} (h : n ≤ 562949953421311) : (varL n).length ≤ 7 := varL_lenk 6 (by omega)

/-! ### a text that begins with a varint -/
/-- the first k bytes of s are those of l -/
def Begins (s : ByteArray) (l : List UInt8) : Prop := l.length ≤ s.size ∧ ∀ i (h : i < l.length), bAt s i = l[i].toNat
theorem lVal_bVal {s : ByteArray} : ∀ {l : List UInt8}, Begins s l → bVal s l.length = lVal l := by
  -- by the sum from the least on
  have key : ∀ (l : List UInt8) (k : Nat), (∀ i (h : i < l.length), bAt s (k + i) = l[i].toNat) → bVal s (k + l.length) = bVal s k + 128 ^ k * lVal l := by
    intro l
    induction l with
    | nil => intro k _; simp [lVal]
    | cons b l ih =>
      intro k h
      have h0 := h 0 (by simp)
      have h1 := ih (k + 1) (fun i hi => by have := h (i + 1) (by simpa using hi); simpa [Nat.add_assoc, Nat.add_comm 1 i] using this)
      rw [List.length_cons, show k + (l.length + 1) = k + 1 + l.length by omega, h1]
      simp only [bVal, lVal]
      simp only [Nat.add_zero, List.getElem_cons_zero] at h0
      rw [h0, Nat.pow_succ, Nat.mul_add, ← Nat.mul_assoc, Nat.mul_comm (b.toNat % 128)]
      omega
  intro l hb
  have := key l 0 (fun i hi => by rw [Nat.zero_add]; exact hb.2 i hi)
  simpa [bVal] using this
theorem begins_val {s : ByteArray} {n : Nat} (h : Begins s (varL n)) : bVal s (varL n).length = n := by rw [lVal_bVal h, varL_val]
theorem begins_hi {s : ByteArray} {n i : Nat} (h : Begins s (varL n)) (hi : i + 1 < (varL n).length) : 128 ≤ bAt s i := by
  obtain ⟨b, h1, h2⟩ := varL_hi n i hi
  obtain ⟨hl, h3⟩ := List.getElem?_eq_some_iff.1 h1
  rw [h.2 i hl, h3]; exact h2
theorem begins_lo {s : ByteArray} {n : Nat} (h : Begins s (varL n)) : bAt s ((varL n).length - 1) < 128 := by
  obtain ⟨b, h1, h2⟩ := varL_lo n
  obtain ⟨hl, h3⟩ := List.getElem?_eq_some_iff.1 h1
  rw [h.2 _ hl, h3]; exact h2
theorem begins_uniq {s : ByteArray} {n m : Nat} (h : Begins s (varL n)) (k : Begins s (varL m)) : n = m := by
  have h1 : (varL n).length = (varL m).length := by
    rcases Nat.lt_trichotomy (varL n).length (varL m).length with hlt | he | hgt
    · have hp : 0 < (varL n).length := List.length_pos_iff.2 (varL_ne _)
      have := begins_hi k (i := (varL n).length - 1) (by omega)
      have := begins_lo h
      omega
    · exact he
    · have hp : 0 < (varL m).length := List.length_pos_iff.2 (varL_ne _)
      have := begins_hi h (i := (varL m).length - 1) (by omega)
      have := begins_lo k
      omega
  rw [← begins_val h, ← begins_val k, h1]

open Classical in
/-- the varint that a text begins with, and its size; (0, 0) where there is none -/
noncomputable def rvF (s : ByteArray) : Nat × Nat := if h : ∃ n, n ≤ 562949953421311 ∧ Begins s (varL n) then (Classical.choose h, (varL (Classical.choose h)).length) else (0, 0)
theorem rvF_yes {s : ByteArray} {n : Nat} (hn : n ≤ 562949953421311) (h : Begins s (varL n)) : rvF s = (n, (varL n).length) := by
  have hex : ∃ n, n ≤ 562949953421311 ∧ Begins s (varL n) := ⟨n, hn, h⟩
  unfold rvF
  rw [dif_pos hex]
  rw [begins_uniq (Classical.choose_spec hex).2 h]
theorem rvF_no {s : ByteArray} (h : ∀ n, n ≤ 562949953421311 → ¬ Begins s (varL n)) : rvF s = (0, 0) := by
  unfold rvF
  rw [dif_neg (fun ⟨n, h1, h2⟩ => h n h1 h2)]
theorem rvF_size (s : ByteArray) : (rvF s).2 ≤ 7 ∧ (rvF s).2 ≤ s.size ∧ (rvF s).1 ≤ 562949953421311 := by
  by_cases h : ∃ n, n ≤ 562949953421311 ∧ Begins s (varL n)
  · obtain ⟨n, hn, hb⟩ := h
    rw [rvF_yes hn hb]
    exact ⟨varL_len7 hn, hb.1, hn⟩
  · rw [rvF_no (fun n h1 h2 => h ⟨n, h1, h2⟩)]
    exact ⟨by omega, by omega, by omega⟩
/-- the check by the encoder -/
theorem begins_of_extract {s : ByteArray} {n k : Nat} (hk : k ≤ s.size) (h : varS n = s.extract 0 k) : Begins s (varL n) ∧ (varL n).length = k := by
  have hl : (varL n).length = k := by
    have := congrArg ByteArray.size h
    rw [ByteArray.size_extract] at this
    have e : (varS n).size = (varL n).length := by show (varL n).toArray.size = _; simp
    omega
  refine ⟨⟨by omega, fun i hi => ?_⟩, hl⟩
  have e1 : bAt (varS n) i = (varL n)[i].toNat := by
    unfold bAt
    rw [dif_pos (by show i < (varL n).toArray.size; simpa using hi)]
    rfl
  have e2 : bAt (s.extract 0 k) i = bAt s i := by
    unfold bAt
    rw [dif_pos (by rw [ByteArray.size_extract]; omega), dif_pos (by omega), ByteArray.getElem_extract]
    simp
  rw [← e2, ← h, e1]
theorem extract_of_begins {s : ByteArray} {n : Nat} (h : Begins s (varL n)) : varS n = s.extract 0 (varL n).length := by
  apply str_ext
  rw [Lib.toList_data, Lib.toList_data]
  apply List.ext_getElem?
  intro i
  by_cases hi : i < (varL n).length
  · have e2 : bAt (s.extract 0 (varL n).length) i = bAt s i := by
      unfold bAt
      rw [dif_pos (by rw [ByteArray.size_extract]; have := h.1; omega), dif_pos (by have := h.1; omega), ByteArray.getElem_extract]
      simp
    have hs : i < (s.extract 0 (varL n).length).data.toList.length := by
      rw [Array.length_toList]
      show i < (s.extract 0 (varL n).length).size
      rw [ByteArray.size_extract]; have := h.1; omega
    rw [List.getElem?_eq_getElem hs]
    show (varL n).toArray.toList[i]? = _
    rw [List.getElem?_eq_getElem (by simpa using hi)]
    congr 1
    apply UInt8.toNat.inj
    have h3 := h.2 i hi
    rw [← e2] at h3
    unfold bAt at h3
    rw [dif_pos (by simpa using hs)] at h3
    have h4 : (s.extract 0 (varL n).length).data.toList[i]'hs = (s.extract 0 (varL n).length)[i]'(by simpa using hs) := by rw [Array.getElem_toList]; rfl
    rw [h4]
    exact h3.symm
  · rw [List.getElem?_eq_none (by show (varL n).toArray.toList.length ≤ i; simp; omega), List.getElem?_eq_none]
    rw [Array.length_toList]
    show (s.extract 0 (varL n).length).size ≤ i
    rw [ByteArray.size_extract]; omega
end Go.Proofs.Ytdphdnllhmnelaa
/- A region that draws its order and holds loads of old cells and calls that make memory: one walk in the order of the text, over the class of worlds in which all that lay lies. -/
namespace Go.Proofs.Ytdphdnllhmnelaa
open Go.RowKit

/-- a world in which all that lay in w lies -/
def Grow (w : World) : Type := { X : World // Below w.heap.size w X }
instance {w : World} : Nonempty (Grow w) := ⟨⟨w, Below.refl _ _⟩⟩
def Grow.at_ {w : World} (X : Grow w) : World := X.1
theorem Grow.below {w : World} (X : Grow w) : Below w.heap.size w X.at_ := X.2
theorem Grow.cell {w : World} (X : Grow w) {b o : Nat} (h : b < w.heap.size) : X.at_.cell? ⟨b, o, none⟩ = w.cell? ⟨b, o, none⟩ := X.2.cell h
theorem Grow.frozen {w : World} (X : Grow w) {b o : Nat} (h : b < w.heap.size) : X.at_.frozen? ⟨b, o, none⟩ = w.frozen? ⟨b, o, none⟩ := X.2.frozen h
theorem Grow.cell_of {w : World} (X : Grow w) {b o : Nat} {v : Value} (h : b < w.heap.size) (hc : w.cell? ⟨b, o, none⟩ = some v) : X.at_.cell? ⟨b, o, none⟩ = some v := (X.cell h).trans hc
def Grow.mk' {w W : World} (h : Below w.heap.size w W) : Grow w := ⟨W, h⟩
theorem wp_region_grow {P : Program} {id : Nat} {Q : Exit → Act → World → Prop} {a : Act} {w : World} {l : List Oper} (hm : P.follows .mixedOrders = true) (hB : Region.lexB .any l.toArray = true)
    (h : wpQuiet P l.toArray (fun w' => ∃ X : Grow w, w' = X.at_) (fun a' => ∀ w', (∃ X : Grow w, w' = X.at_) → Q .normal a' w') l a) : (Code.region id l.toArray true).wp P Q a w :=
  wp_region_quiet (C := fun w' => ∃ X : Grow w, w' = X.at_) hm hB ⟨⟨w.drew, (Below.refl _ _).drew⟩, rfl⟩ (by simpa using h)
theorem grow_of {P : Program} {f : FuncId} {args : Array Value} {w : World} {X : Grow w} {v : Value} (h : Calls P f args X.at_ fun e w' => e = .returned v ∧ Below X.at_.heap.size X.at_ w') :
    Calls P f args X.at_ fun e w'' => e = .returned v ∧ ∃ Y : Grow w, w'' = Y.at_ :=
  h.mono fun _ w' ⟨he, hb⟩ => ⟨he, Grow.mk' (bthen X.below hb), rfl⟩
theorem grow_same {P : Program} {f : FuncId} {args : Array Value} {w : World} {X : Grow w} {v : Value} (h : Calls P f args X.at_ fun e w' => e = .returned v ∧ X.at_ = w') :
    Calls P f args X.at_ fun e w'' => e = .returned v ∧ ∃ Y : Grow w, w'' = Y.at_ :=
  h.mono fun _ w' ⟨he, hb⟩ => ⟨he, X, hb.symm⟩
/-- an answer that is known -/
theorem known {P : Program} {f : FuncId} {args : Array Value} {w : World} {T : World → Prop} {x y : Bool} (hx : x = y) (h : Calls P f args w fun e w' => e = .returned (.bool x) ∧ T w') : Calls P f args w fun e w' => e = .returned (.bool y) ∧ T w' := by
  subst hx; exact h
end Go.Proofs.Ytdphdnllhmnelaa
/- Contracts of ReadVar, the program's and the reference's. -/
namespace Go.Proofs.Ytdphdnllhmnelaa
open Go.RowKit
attribute [local irreducible] rvF

theorem and127 {b : Nat} (h : b < 256) : bits .and .u8 (b : Int) 127 = ((b % 128 : Nat) : Int) := by
  have e1 : (BitVec.ofInt 8 (b : Int)).toNat = b := by rw [BitVec.ofInt_natCast, BitVec.toNat_ofNat]; exact Nat.mod_eq_of_lt (by omega)
  have e2 : (BitVec.ofInt 8 127).toNat = 127 := by decide
  have hx : b &&& 127 = b % 128 := Nat.and_two_pow_sub_one_eq_mod b 7
  show IntKind.u8.wrap ((BitVec.ofInt 8 (b : Int) &&& BitVec.ofInt 8 127).toNat : Int) = _
  rw [BitVec.toNat_and, e1, e2, hx]
  have : b % 128 < 256 := by omega
  simp [IntKind.wrap, IntKind.bits, IntKind.signed]
  omega
theorem or_put {n x k : Nat} (hn : n < 128 ^ k) (hx : x < 128) (hk : k ≤ 6) : bits .or .i64 (n : Int) ((x * 128 ^ k : Nat) : Int) = ((n + x * 128 ^ k : Nat) : Int) := by
  have hp : 128 ^ k ≤ 128 ^ 6 := Nat.pow_le_pow_right (by decide) hk
  have h1 : x * 128 ^ k ≤ 127 * 128 ^ k := Nat.mul_le_mul_right _ (by omega)
  have e : (128 : Nat) ^ k = 2 ^ (7 * k) := by rw [Nat.pow_mul]
  have a1 : (BitVec.ofInt 64 (n : Int)).toNat = n := by rw [BitVec.ofInt_natCast, BitVec.toNat_ofNat]; exact Nat.mod_eq_of_lt (by omega)
  have a2 : (BitVec.ofInt 64 ((x * 128 ^ k : Nat) : Int)).toNat = x * 128 ^ k := by rw [BitVec.ofInt_natCast, BitVec.toNat_ofNat]; exact Nat.mod_eq_of_lt (by omega)
  have ho : n ||| x * 128 ^ k = n + x * 128 ^ k := by
    rw [e] at hn ⊢
    have := Nat.two_pow_add_eq_or_of_lt (i := 7 * k) (b := n) hn x
    rw [Nat.or_comm, Nat.mul_comm x, ← this]; omega
  show IntKind.i64.wrap ((BitVec.ofInt 64 (n : Int) ||| BitVec.ofInt 64 ((x * 128 ^ k : Nat) : Int)).toNat : Int) = _
  rw [BitVec.toNat_or, a1, a2, ho, IntKind.wrap_i64]
  omega

set_option maxRecDepth 4000 in
set_option maxHeartbeats 1000000 in
theorem readVar_impl (s : ByteArray) (w : World) (hs : s.size ≤ 9223372036854775807) :
    Calls Try.prog 132 #[.string s] w fun e w' => e = .returned (.tuple #[.int .i64 ((rvF s).1 : Int), .int .i64 ((rvF s).2 : Int)]) ∧ Below w.heap.size w w' := by
  go_enter Try.func132, Try.ntmps132
  go_wp2
  go_loop [4, 5] (fun n i => ∃ k : Nat, k ≤ 7 ∧ k ≤ s.size ∧ i = .int .i64 k ∧ n = .int .i64 ((bVal s k : Nat) : Int) ∧ ∀ j, j < k → 128 ≤ bAt s j) (fun _ i => 7 - (intOf i).toNat)
  case atStart => exact ⟨0, by omega, by omega, rfl, rfl, fun j hj => absurd hj (by omega)⟩
  case round =>
    obtain ⟨k, hk7, hks, rfl, rfl, hhi⟩ := hrel
    have HH := Lib.hid hhi; clear hhi
    have hlt := bVal_lt s k
    have HL := Lib.hid hlt; clear hlt
    by_cases hin : k < s.size
    · by_cases hk : k < 7
      · have ik : (k : Int) < (s.size : Int) := by omega
        have ik7 : (k : Int) < 7 := by omega
        have b0 := bAt_get hin
        have l0 := bAt_lt s k
        have HS := Lib.hid (show bVal s (k + 1) = bVal s k + bAt s k % 128 * 128 ^ k from rfl)
        have ha := and127 l0
        have h7 : IntKind.i64.wrap (7 * (k : Int)) = 7 * (k : Int) := by rw [IntKind.wrap_i64]; omega
        have h7p : (0 : Int) ≤ 7 * (k : Int) := by omega
        have hor : bits .or .i64 ((bVal s k : Nat) : Int) (wrap64 ((bAt s k : Int) % 128 * 2 ^ (7 * k))) = ((bVal s (k + 1) : Nat) : Int) := by
          have e : ((bAt s k : Int) % 128 * 2 ^ (7 * k)) = ((bAt s k % 128 * 128 ^ k : Nat) : Int) := by
            rw [Int.natCast_mul, Int.natCast_pow, show (2 : Int) ^ (7 * k) = ((128 : Nat) : Int) ^ k by rw [Int.pow_mul]; rfl]
            rfl
          have hm : bAt s k % 128 * 128 ^ k ≤ 127 * 128 ^ 6 := Nat.mul_le_mul (by omega) (Nat.pow_le_pow_right (by decide) (by omega))
          rw [e, show wrap64 ((bAt s k % 128 * 128 ^ k : Nat) : Int) = ((bAt s k % 128 * 128 ^ k : Nat) : Int) by unfold wrap64; omega, or_put HL.out (by omega) (by omega), HS.out]
        have hnn : bVal s (k + 1) ≤ 562949953421311 := by
          have h1 := bVal_lt s (k + 1)
          have h2 : 128 ^ (k + 1) ≤ 128 ^ 7 := Nat.pow_le_pow_right (by decide) (by omega)
          omega
        have HOR := Lib.hid hor; clear hor
        by_cases hlo : bAt s k < 128
        · -- the last byte
          have HLO := Lib.hid hlo
          have hk1 : (k : Int) + 1 ≤ (s.size : Int) := by omega
          have hk1n : ((k : Int) + 1).toNat = k + 1 := by omega
          have hbi : ((bAt s k : Nat) : Int) < 128 := by omega
          generalize hb : bAt s k = b at *
          have HB := Lib.hid hb; clear hb
          clear hlo
          generalize hnv : bVal s (k + 1) = n at *
          have HNN := Lib.hid hnv; clear hnv
          go_wp2
          rw [HOR.out]
          refine wp_region_grow (by kernel_rfl) (by kernel_rfl) ?_
          repeat (first | go_big_quiet_step ((go_at_call 76; exact grow_of (var_impl _ _ (by omega)))))
          refine wpQuiet_nil ?_
          intro _ hw'
          obtain ⟨⟨w2, hb2⟩, hw''⟩ := hw'
          change _ = w2 at hw''
          subst hw''
          by_cases he : varS n = s.extract 0 (k + 1)
          · obtain ⟨g1, g2⟩ := begins_of_extract (by omega) he
            have HR := Lib.hid (rvF_yes hnn g1)
            rw [g2] at HR
            clear g1 g2
            have g1 : (!((varS n).toList == (s.extract 0 (k + 1)).toList)) = false := by rw [str_beq]; simpa using he
            clear he
            rw [g1]
            go_wp2
            go_returns
            rw [HR.out]
            exact ⟨by rfl, hb2⟩
          · have HR := Lib.hid (show rvF s = (0, 0) from rvF_no (fun m hm hbm => by
              have hp : 0 < (varL m).length := List.length_pos_iff.2 (varL_ne m)
              have hlen : (varL m).length = k + 1 := by
                rcases Nat.lt_trichotomy (varL m).length (k + 1) with h | h | h
                · have h1 := begins_lo hbm
                  have h2 := HH.out ((varL m).length - 1) (by omega)
                  omega
                · exact h
                · have h1 := begins_hi hbm (i := k) (by omega)
                  have := HLO.out
                  rw [HB.out] at h1
                  omega
              have hv := begins_val hbm
              rw [hlen] at hv
              apply he
              have := extract_of_begins hbm
              rw [hlen] at this
              rw [← this]
              exact congrArg varS (by rw [← hv]; exact HNN.out.symm)))
            have g1 : (!((varS n).toList == (s.extract 0 (k + 1)).toList)) = true := by rw [str_beq]; simpa using he
            clear he
            rw [g1]
            go_wp2
            go_returns
            rw [HR.out]
            exact ⟨by rfl, hb2⟩
        · have hbi : ¬ ((bAt s k : Nat) : Int) < 128 := by omega
          have HLO := Lib.hid hlo
          generalize hb : bAt s k = b at *
          have HB := Lib.hid hb; clear hb
          clear hlo
          go_wp2
          rw [HOR.out]
          refine ⟨⟨k + 1, by omega, by omega, by go_num, rfl, fun j hj => ?_⟩, by simp [intOf]; omega⟩
          by_cases e : j = k
          · subst e; have := HLO.out; have := HB.out; omega
          · exact HH.out j (by omega)
      · have hk0 : k = 7 := by omega
        subst hk0
        have ik : ((7 : Nat) : Int) < (s.size : Int) := by omega
        have HR := Lib.hid (show rvF s = (0, 0) from rvF_no (fun m hm hbm => by
          have hp : 0 < (varL m).length := List.length_pos_iff.2 (varL_ne m)
          have h7 := varL_len7 hm
          have h1 := begins_lo hbm
          have h2 := HH.out ((varL m).length - 1) (by omega)
          omega))
        go_wp2
        go_returns
        rw [HR.out]
        exact ⟨by rfl, Below.refl _ _⟩
    · have hk0 : k = s.size := by omega
      have ik : ¬ (k : Int) < (s.size : Int) := by omega
      have HR := Lib.hid (show rvF s = (0, 0) from rvF_no (fun m hm hbm => by
        have hp : 0 < (varL m).length := List.length_pos_iff.2 (varL_ne m)
        have h7 := hbm.1
        have h1 := begins_lo hbm
        have h2 := HH.out ((varL m).length - 1) (by omega)
        omega))
      clear hk0
      go_wp2
      go_returns
      rw [HR.out]
      exact ⟨by rfl, Below.refl _ _⟩

/-- the value of the bytes from j up to k, the least first -/
def dF (s : ByteArray) (j : Nat) : Nat → Nat
  | 0 => 0
  | d + 1 => bAt s j % 128 + 128 * dF s (j + 1) d
def dV (s : ByteArray) (j k : Nat) : Nat := dF s j (k - j)
theorem dV_top (s : ByteArray) (k : Nat) : dV s k k = 0 := by simp [dV, dF]
theorem dV_step (s : ByteArray) (q k : Nat) (h : q < k) : dV s q k = bAt s q % 128 + 128 * dV s (q + 1) k := by
  unfold dV
  rw [show k - q = (k - (q + 1)) + 1 by omega]
  rfl
theorem dF_lt (s : ByteArray) : ∀ (d j : Nat), dF s j d < 128 ^ d
  | 0, _ => by simp [dF]
  | d + 1, j => by
    have h := dF_lt s d (j + 1)
    unfold dF
    rw [Nat.pow_succ]
    omega
theorem dV_lt (s : ByteArray) (j k : Nat) (h : k ≤ 6 + j) : dV s j k ≤ 4398046511103 := by
  have h1 := dF_lt s (k - j) j
  have h2 : 128 ^ (k - j) ≤ 128 ^ 6 := Nat.pow_le_pow_right (by decide) (by omega)
  unfold dV
  omega
theorem bVal_dF (s : ByteArray) : ∀ (d k : Nat), bVal s (k + d) = bVal s k + 128 ^ k * dF s k d
  | 0, k => by simp [dF]
  | d + 1, k => by
    rw [show k + (d + 1) = k + 1 + d by omega, bVal_dF s d (k + 1)]
    simp only [bVal, dF]
    rw [Nat.pow_succ, Nat.mul_add, ← Nat.mul_assoc, Nat.mul_comm (bAt s k % 128)]
    omega
theorem dV_zero (s : ByteArray) (k : Nat) : dV s 0 k = bVal s k := by
  have := bVal_dF s k 0
  simp only [Nat.zero_add, bVal, Nat.pow_zero, Nat.one_mul] at this
  rw [this]
  rfl
set_option maxRecDepth 4000 in
set_option maxHeartbeats 1000000 in
theorem readVar_spec (s : ByteArray) (w : World) (hs : s.size ≤ 9223372036854775807) :
    Calls Try.prog 131 #[.string s] w fun e w' => e = .returned (.tuple #[.int .i64 ((rvF s).1 : Int), .int .i64 ((rvF s).2 : Int)]) ∧ Below w.heap.size w w' := by
  go_enter Try.func131, Try.ntmps131
  go_wp2
  go_loopw [4] (fun i wr => ∃ k : Nat, 1 ≤ k ∧ k ≤ 8 ∧ i = .int .i64 k ∧ (∀ j, 1 ≤ j → j < k → ¬ (j ≤ s.size ∧ varS (bVal s j) = s.extract 0 j)) ∧ Below w.heap.size w wr) (fun i _ => 8 - (intOf i).toNat)
  case atStart => exact ⟨1, by omega, by omega, rfl, fun j hj hj2 => absurd hj2 (by omega), Below.refl _ _⟩
  case round =>
    obtain ⟨k, hk1, hk8, rfl, hno, hb⟩ := hrel
    have HN := Lib.hid hno; clear hno
    have HR0 : k ≤ 7 ∧ k ≤ s.size ∨ rvF s = (0, 0) := by
      by_cases h : k ≤ 7 ∧ k ≤ s.size
      · exact .inl h
      · refine .inr (rvF_no fun m hm hbm => ?_)
        have hp : 0 < (varL m).length := List.length_pos_iff.2 (varL_ne m)
        have h7 := varL_len7 hm
        have h1 := hbm.1
        have hv := begins_val hbm
        exact HN.out _ hp (by omega) ⟨h1, by rw [hv]; exact extract_of_begins hbm⟩
    have HRN := Lib.hid HR0; clear HR0
    by_cases hk7 : k ≤ 7
    · have ik7 : (k : Int) ≤ 7 := by omega
      by_cases hin : k ≤ s.size
      · have ikn : (k : Int) ≤ (s.size : Int) := by omega
        go_wp2
        go_loopw [6, 5] (fun i n w2 => ∃ j : Nat, j ≤ k ∧ i = .int .i64 ((j : Int) - 1) ∧ n = .int .i64 ((dV s j k : Nat) : Int) ∧ w2 = wr) (fun i _ _ => (intOf i + 1).toNat)
        case atStart => exact ⟨k, Nat.le_refl _, rfl, by rw [dV_top]; rfl, rfl⟩
        case round =>
          obtain ⟨j, hj, rfl, rfl, rfl⟩ := hrel
          by_cases hj0 : 0 < j
          · obtain ⟨q, rfl⟩ : ∃ q, j = q + 1 := ⟨j - 1, by omega⟩
            have hqs : q < s.size := by omega
            have iq : (q : Int) < (s.size : Int) := by omega
            have iq0 : (0 : Int) ≤ (q : Int) := by omega
            have b0 := bAt_get hqs
            have l0 := bAt_lt s q
            have hd := dV_lt s (q + 1) k (by omega)
            have HS := Lib.hid (dV_step s q k (by omega))
            have ei : (((q + 1 : Nat) : Int) - 1) = (q : Int) := by omega
            rw [ei]
            generalize dV s (q + 1) k = n at *
            generalize hb' : bAt s q = b at *
            clear hb'
            have hw1 : IntKind.i64.wrap ((n : Int) * 128) = (n : Int) * 128 := by rw [IntKind.wrap_i64]; omega
            have hw2 : IntKind.i64.wrap ((n : Int) * 128 + (b : Int) % 128) = (n : Int) * 128 + (b : Int) % 128 := by rw [IntKind.wrap_i64]; omega
            go_wp2
            refine ⟨⟨q, by omega, rfl, ?_, trivial⟩, by simp [intOf]⟩
            rw [HS.out]
            go_num
          · have hj1 : j = 0 := by omega
            subst hj1
            rw [dV_zero]
            have hnn : bVal s k ≤ 562949953421311 := by
              have h1 := bVal_lt s k
              have h2 : 128 ^ k ≤ 128 ^ 7 := Nat.pow_le_pow_right (by decide) (by omega)
              omega
            have HNN := Lib.hid (rfl : bVal s k = bVal s k)
            revert HNN
            generalize hnv : bVal s k = n at hnn ⊢
            intro _
            have HNV := Lib.hid hnv; clear hnv
            have ik0 : (0 : Int) ≤ (k : Int) := by omega
            go_wp2
            refine wp_region_grow (by kernel_rfl) (by kernel_rfl) ?_
            repeat (first | go_big_quiet_step ((go_at_call 70; exact grow_of (var_spec _ _ (by omega)))))
            refine wpQuiet_nil ?_
            intro _ hw'
            obtain ⟨⟨w2, hb2⟩, hw''⟩ := hw'
            change _ = w2 at hw''
            subst hw''
            by_cases he : varS n = s.extract 0 k
            · obtain ⟨g1, g2⟩ := begins_of_extract (by omega) he
              have HR := Lib.hid (rvF_yes hnn g1)
              rw [g2] at HR
              clear g1 g2
              have g1 : ((varS n).toList == (s.extract 0 k).toList) = true := by rw [str_beq]; simpa using he
              clear he
              rw [g1]
              go_wp2
              go_returns
              rw [HR.out]
              exact ⟨by rfl, hb.trans (hb2.mono hb.size)⟩
            · have g1 : ((varS n).toList == (s.extract 0 k).toList) = false := by rw [str_beq]; simpa using he
              have HE := Lib.hid he; clear he
              rw [g1]
              go_wp2
              refine ⟨⟨k + 1, by omega, by omega, by go_num, fun j hj1 hj2 => ?_, hb.trans (hb2.mono hb.size)⟩, by simp [intOf]; omega⟩
              by_cases e : j = k
              · subst e
                rw [HNV.out]
                exact fun h => HE.out h.2
              · exact HN.out j hj1 (by omega)
      · have ikn : ¬ (k : Int) ≤ (s.size : Int) := by omega
        have HR := Lib.hid (show rvF s = (0, 0) from (HRN.out).resolve_left (by omega))
        go_wp2
        go_returns
        rw [HR.out]
        exact ⟨by rfl, hb⟩
    · have ik7 : ¬ (k : Int) ≤ 7 := by omega
      have HR := Lib.hid (show rvF s = (0, 0) from (HRN.out).resolve_left (by omega))
      go_wp2
      go_returns
      rw [HR.out]
      exact ⟨by rfl, hb⟩
end Go.Proofs.Ytdphdnllhmnelaa
