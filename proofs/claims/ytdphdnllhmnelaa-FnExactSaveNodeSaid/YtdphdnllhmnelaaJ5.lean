/- Contracts and lemmas: OId, OInst, OLead, OENode, NumA, Split, SameCmd. -/
import Derived.Test.YtdphdnllhmnelaaJ2
import Derived.Test.YtdphdnllhmnelaaJ4
import Derived.Test.YtdphdnllhmnelaaJ3
import Derived.Test.YtdphdnllhmnelaaRows
import Derived.Test.YtdphdnllhmnelaaJ0
import Derived.WalkKit
import Derived.WalkLawsBesides
import Derived.WalkSpells
import Derived.Lib.Hide
import Derived.Handy
/- Values of laws.Id opened. -/
namespace Go.Proofs.Ytdphdnllhmnelaa
open Go.RowKit Go.ChangeShapes Go.WideShapes Go.ChangeAt Go.Deep Go.Joins
section
variable {H : Type} {enc : TypeId × Value → H} {w : World} {base : Nat} {spare : Nat → Bool} {held : Bool}
theorem cellsIdL : Try.prog.cellsOf 37 = 2 := by kernel_rfl
theorem idd_of {cs : List Value} (h : cs.length = 2) : ∃ c0 c1, cs = [c0, c1] := by
  match cs, h with
  | [c0, c1], _ => exact ⟨c0, c1, rfl⟩
set_option maxRecDepth 8000 in
theorem tr_idd {fu : Nat} {cs : List Value} {y : DataW H × List MemPlace} (h : DataW.trod enc Try.prog w base spare held fu 37 cs = some y) : ∃ x, iddR w cs x := by
  obtain ⟨c0, c1, rfl⟩ := idd_of (trod_len Try.underlying37 cellsIdL h)
  obtain ⟨_, _, h0⟩ := trod_fieldAt Try.underlying37 0 rfl cellsIntO h
  obtain ⟨x0, e0, _⟩ := trod_int1 Try.underlying3 h0
  simp at e0
  subst e0
  obtain ⟨_, _, h1⟩ := trod_fieldAt Try.underlying37 1 rfl cellsIntO h
  obtain ⟨x1, e1, _⟩ := trod_int1 Try.underlying3 h1
  simp at e1
  subst e1
  exact ⟨⟨x0, x1⟩, rfl⟩
theorem cellsIdSO : Try.prog.cellsOf 41 = 1 := by kernel_rfl
set_option maxRecDepth 8000 in
theorem tr_idds {fu : Nat} {cs : List Value} {y : DataW H × List MemPlace} (h : DataW.trod enc Try.prog w base spare held fu 41 cs = some y) : ∃ l, (∃ A n c, cs = [.slice A n c] ∧ RowR iddR 2 w A n c l) ∧ iddsB l := by
  obtain ⟨A, n, c, l, hcs, hr, hn, _, hc⟩ := open_rows_cs (C := fun w cs x => iddR w cs x) Try.underlying41 cellsIdL (by omega) (fun _ _ _ h => tr_idd h) h
  exact ⟨l, ⟨A, n, c, hcs, hr, hc⟩, by unfold iddsB; have := hr.1; omega⟩
set_option maxRecDepth 8000 in
theorem opn_idds {r : Reach} {b0 : Nat} {v : Value} {d : DataW H} {p : List MemPlace} (hv : Value.okWide Try.prog w r b0 41 v) (h : DataW.Trod enc Try.prog w base spare held 41 v d p) : ∃ (A : Option Addr) (n c : Nat) (l : List Idd), v = .slice A n c ∧ RowR iddR 2 w A n c l ∧ iddsB l := by
  obtain ⟨A, n, c, rfl⟩ := okWide_slice Try.underlying41 hv
  obtain ⟨fuel, hf⟩ := h
  obtain ⟨l, ⟨A', n', c', hcs, hr⟩, hb⟩ := tr_idds hf
  simp [Value.cells] at hcs
  obtain ⟨rfl, rfl, rfl⟩ := hcs
  exact ⟨_, _, _, l, rfl, hr, hb⟩
set_option maxRecDepth 8000 in
theorem opn_idd {r : Reach} {b0 : Nat} {v : Value} {d : DataW H} {p : List MemPlace} (hv : Value.okWide Try.prog w r b0 37 v) (h : DataW.Trod enc Try.prog w base spare held 37 v d p) : ∃ (x : Idd), v = iddV x := by
  obtain ⟨arr, rfl, hsz⟩ := okWide_struct Try.underlying37 hv
  obtain ⟨fuel, hf⟩ := h
  obtain ⟨x, hR⟩ := tr_idd hf
  have hcs := hR; unfold iddR at hcs
  have ha : arr = (iddL x).toArray := Array.toList_inj.1 (by simpa [Value.cells] using hcs)
  subst ha
  exact ⟨x, rfl⟩
end
end Go.Proofs.Ytdphdnllhmnelaa
/- Values of laws.Inst opened. -/
namespace Go.Proofs.Ytdphdnllhmnelaa
open Go.RowKit Go.ChangeShapes Go.WideShapes Go.ChangeAt Go.Deep Go.Joins
section
variable {H : Type} {enc : TypeId × Value → H} {w : World} {base : Nat} {spare : Nat → Bool} {held : Bool}
theorem cellsInstL : Try.prog.cellsOf 43 = 16 := by kernel_rfl
theorem ins_of {cs : List Value} (h : cs.length = 16) : ∃ c0 c1 c2 c3 c4 c5 c6 c7 c8 c9 c10 c11 c12 c13 c14 c15, cs = [c0, c1, c2, c3, c4, c5, c6, c7, c8, c9, c10, c11, c12, c13, c14, c15] := by
  match cs, h with
  | [c0, c1, c2, c3, c4, c5, c6, c7, c8, c9, c10, c11, c12, c13, c14, c15], _ => exact ⟨c0, c1, c2, c3, c4, c5, c6, c7, c8, c9, c10, c11, c12, c13, c14, c15, rfl⟩
set_option maxRecDepth 8000 in
theorem tr_ins {fu : Nat} {cs : List Value} {y : DataW H × List MemPlace} (h : DataW.trod enc Try.prog w base spare held fu 43 cs = some y) : ∃ x, insR w cs x ∧ insB x := by
  obtain ⟨c0, c1, c2, c3, c4, c5, c6, c7, c8, c9, c10, c11, c12, c13, c14, c15, rfl⟩ := ins_of (trod_len Try.underlying43 cellsInstL h)
  obtain ⟨_, _, h0⟩ := trod_fieldAt Try.underlying43 0 rfl cellsIdL h
  obtain ⟨x0, r0⟩ := tr_idd h0
  have e0 := r0; unfold iddR at e0
  unfold iddL at e0
  simp at e0
  obtain ⟨rfl, rfl⟩ := e0
  obtain ⟨_, _, h1⟩ := trod_fieldAt Try.underlying43 1 rfl cellsIntO h
  obtain ⟨x1, e1, _⟩ := trod_int1 Try.underlying3 h1
  simp at e1
  subst e1
  obtain ⟨_, _, h2⟩ := trod_fieldAt Try.underlying43 2 rfl cellsIntO h
  obtain ⟨x2, e2, _⟩ := trod_int1 Try.underlying3 h2
  simp at e2
  subst e2
  obtain ⟨_, _, h3⟩ := trod_fieldAt Try.underlying43 3 rfl cellsIntO h
  obtain ⟨x3, e3, _⟩ := trod_int1 Try.underlying3 h3
  simp at e3
  subst e3
  obtain ⟨_, _, h4⟩ := trod_fieldAt Try.underlying43 4 rfl cellsCmdL h
  obtain ⟨x4, r4, b4⟩ := tr_cm h4
  obtain ⟨A4_0, n4_0, m4_0, e4, g4_0⟩ := r4
  unfold cmL at e4
  simp at e4
  obtain ⟨rfl, rfl, rfl, rfl, rfl, rfl, rfl, rfl⟩ := e4
  obtain ⟨_, _, h5⟩ := trod_fieldAt Try.underlying43 5 rfl cellsIntO h
  obtain ⟨x5, e5, _⟩ := trod_int1 Try.underlying3 h5
  simp at e5
  subst e5
  obtain ⟨_, _, h6⟩ := trod_fieldAt Try.underlying43 6 rfl cellsIdSO h
  obtain ⟨x6, ⟨A6, n6, m6, e6, g6⟩, b6⟩ := tr_idds h6
  simp at e6
  subst e6
  obtain ⟨_, _, h7⟩ := trod_fieldAt Try.underlying43 7 rfl cellsBoolO h
  obtain ⟨x7, e7⟩ := tr_bool h7
  simp at e7
  subst e7
  exact ⟨⟨x0, x1, x2, x3, x4, x5, x6, x7⟩, ⟨A4_0, n4_0, m4_0, A6, n6, m6, rfl, g4_0, g6⟩, b4, b6⟩
theorem cellsInstSO : Try.prog.cellsOf 58 = 1 := by kernel_rfl
set_option maxRecDepth 8000 in
theorem tr_inss {fu : Nat} {cs : List Value} {y : DataW H × List MemPlace} (h : DataW.trod enc Try.prog w base spare held fu 58 cs = some y) : ∃ l, (∃ A n c, cs = [.slice A n c] ∧ RowR insR 16 w A n c l) ∧ inssB l := by
  obtain ⟨A, n, c, l, hcs, hr, hn, _, hc⟩ := open_rows_cs (C := fun w cs x => insR w cs x ∧ insB x) Try.underlying58 cellsInstL (by omega) (fun _ _ _ h => tr_ins h) h
  obtain ⟨h1, h2⟩ := rowAt_both hr
  exact ⟨l, ⟨A, n, c, hcs, h1, hc⟩, by have := h1.1; omega, h2⟩
set_option maxRecDepth 8000 in
theorem opn_inss {r : Reach} {b0 : Nat} {v : Value} {d : DataW H} {p : List MemPlace} (hv : Value.okWide Try.prog w r b0 58 v) (h : DataW.Trod enc Try.prog w base spare held 58 v d p) : ∃ (A : Option Addr) (n c : Nat) (l : List Ins), v = .slice A n c ∧ RowR insR 16 w A n c l ∧ inssB l := by
  obtain ⟨A, n, c, rfl⟩ := okWide_slice Try.underlying58 hv
  obtain ⟨fuel, hf⟩ := h
  obtain ⟨l, ⟨A', n', c', hcs, hr⟩, hb⟩ := tr_inss hf
  simp [Value.cells] at hcs
  obtain ⟨rfl, rfl, rfl⟩ := hcs
  exact ⟨_, _, _, l, rfl, hr, hb⟩
set_option maxRecDepth 8000 in
theorem opn_ins {r : Reach} {b0 : Nat} {v : Value} {d : DataW H} {p : List MemPlace} (hv : Value.okWide Try.prog w r b0 43 v) (h : DataW.Trod enc Try.prog w base spare held 43 v d p) : ∃ (x : Ins) (A1 : Option Addr) (n1 c1 : Nat) (A2 : Option Addr) (n2 c2 : Nat), v = insV x (.slice A1 n1 c1) (.slice A2 n2 c2) ∧ StrR w A1 n1 c1 x.cmd.ch ∧ RowR iddR 2 w A2 n2 c2 x.deps ∧ insB x := by
  obtain ⟨arr, rfl, hsz⟩ := okWide_struct Try.underlying43 hv
  obtain ⟨fuel, hf⟩ := h
  obtain ⟨x, hR, hB⟩ := tr_ins hf
  obtain ⟨A1, n1, c1, A2, n2, c2, hcs, k1, k2⟩ := hR
  have ha : arr = (insL x (.slice A1 n1 c1) (.slice A2 n2 c2)).toArray := Array.toList_inj.1 (by simpa [Value.cells] using hcs)
  subst ha
  exact ⟨x, A1, n1, c1, A2, n2, c2, rfl, k1, k2, hB⟩
end
end Go.Proofs.Ytdphdnllhmnelaa
/- Values of laws.Lead opened. -/
namespace Go.Proofs.Ytdphdnllhmnelaa
open Go.RowKit Go.ChangeShapes Go.WideShapes Go.ChangeAt Go.Deep Go.Joins
section
variable {H : Type} {enc : TypeId × Value → H} {w : World} {base : Nat} {spare : Nat → Bool} {held : Bool}
theorem cellsLeadL : Try.prog.cellsOf 165 = 8 := by kernel_rfl
theorem lea_of {cs : List Value} (h : cs.length = 8) : ∃ c0 c1 c2 c3 c4 c5 c6 c7, cs = [c0, c1, c2, c3, c4, c5, c6, c7] := by
  match cs, h with
  | [c0, c1, c2, c3, c4, c5, c6, c7], _ => exact ⟨c0, c1, c2, c3, c4, c5, c6, c7, rfl⟩
set_option maxRecDepth 8000 in
theorem tr_lea {fu : Nat} {cs : List Value} {y : DataW H × List MemPlace} (h : DataW.trod enc Try.prog w base spare held fu 165 cs = some y) : ∃ x, leaR w cs x ∧ leaB x := by
  obtain ⟨c0, c1, c2, c3, c4, c5, c6, c7, rfl⟩ := lea_of (trod_len Try.underlying165 cellsLeadL h)
  obtain ⟨_, _, h0⟩ := trod_fieldAt Try.underlying165 0 rfl cellsIdL h
  obtain ⟨x0, r0⟩ := tr_idd h0
  have e0 := r0; unfold iddR at e0
  unfold iddL at e0
  simp at e0
  obtain ⟨rfl, rfl⟩ := e0
  obtain ⟨_, _, h1⟩ := trod_fieldAt Try.underlying165 1 rfl cellsIntO h
  obtain ⟨x1, e1, _⟩ := trod_int1 Try.underlying3 h1
  simp at e1
  subst e1
  obtain ⟨_, _, h2⟩ := trod_fieldAt Try.underlying165 2 rfl cellsIntO h
  obtain ⟨x2, e2, _⟩ := trod_int1 Try.underlying3 h2
  simp at e2
  subst e2
  obtain ⟨_, _, h3⟩ := trod_fieldAt Try.underlying165 3 rfl cellsIntO h
  obtain ⟨x3, e3, _⟩ := trod_int1 Try.underlying3 h3
  simp at e3
  subst e3
  obtain ⟨_, _, h4⟩ := trod_fieldAt Try.underlying165 4 rfl cellsIdSO h
  obtain ⟨x4, ⟨A4, n4, m4, e4, g4⟩, b4⟩ := tr_idds h4
  simp at e4
  subst e4
  obtain ⟨_, _, h5⟩ := trod_fieldAt Try.underlying165 5 rfl cellsIntsO h
  obtain ⟨x5, ⟨A5, n5, m5, e5, g5⟩, b5⟩ := tr_ints h5
  simp at e5
  subst e5
  obtain ⟨_, _, h6⟩ := trod_fieldAt Try.underlying165 6 rfl cellsBoolO h
  obtain ⟨x6, e6⟩ := tr_bool h6
  simp at e6
  subst e6
  exact ⟨⟨x0, x1, x2, x3, x4, x5, x6⟩, ⟨A4, n4, m4, A5, n5, m5, rfl, g4, g5⟩, b4, b5⟩
theorem cellsLeadSO : Try.prog.cellsOf 59 = 1 := by kernel_rfl
set_option maxRecDepth 8000 in
theorem tr_leas {fu : Nat} {cs : List Value} {y : DataW H × List MemPlace} (h : DataW.trod enc Try.prog w base spare held fu 59 cs = some y) : ∃ l, (∃ A n c, cs = [.slice A n c] ∧ RowR leaR 8 w A n c l) ∧ leasB l := by
  obtain ⟨A, n, c, l, hcs, hr, hn, _, hc⟩ := open_rows_cs (C := fun w cs x => leaR w cs x ∧ leaB x) Try.underlying59 cellsLeadL (by omega) (fun _ _ _ h => tr_lea h) h
  obtain ⟨h1, h2⟩ := rowAt_both hr
  exact ⟨l, ⟨A, n, c, hcs, h1, hc⟩, by have := h1.1; omega, h2⟩
set_option maxRecDepth 8000 in
theorem opn_leas {r : Reach} {b0 : Nat} {v : Value} {d : DataW H} {p : List MemPlace} (hv : Value.okWide Try.prog w r b0 59 v) (h : DataW.Trod enc Try.prog w base spare held 59 v d p) : ∃ (A : Option Addr) (n c : Nat) (l : List Lea), v = .slice A n c ∧ RowR leaR 8 w A n c l ∧ leasB l := by
  obtain ⟨A, n, c, rfl⟩ := okWide_slice Try.underlying59 hv
  obtain ⟨fuel, hf⟩ := h
  obtain ⟨l, ⟨A', n', c', hcs, hr⟩, hb⟩ := tr_leas hf
  simp [Value.cells] at hcs
  obtain ⟨rfl, rfl, rfl⟩ := hcs
  exact ⟨_, _, _, l, rfl, hr, hb⟩
set_option maxRecDepth 8000 in
theorem opn_lea {r : Reach} {b0 : Nat} {v : Value} {d : DataW H} {p : List MemPlace} (hv : Value.okWide Try.prog w r b0 165 v) (h : DataW.Trod enc Try.prog w base spare held 165 v d p) : ∃ (x : Lea) (A1 : Option Addr) (n1 c1 : Nat) (A2 : Option Addr) (n2 c2 : Nat), v = leaV x (.slice A1 n1 c1) (.slice A2 n2 c2) ∧ RowR iddR 2 w A1 n1 c1 x.deps ∧ IntR w A2 n2 c2 x.fr ∧ leaB x := by
  obtain ⟨arr, rfl, hsz⟩ := okWide_struct Try.underlying165 hv
  obtain ⟨fuel, hf⟩ := h
  obtain ⟨x, hR, hB⟩ := tr_lea hf
  obtain ⟨A1, n1, c1, A2, n2, c2, hcs, k1, k2⟩ := hR
  have ha : arr = (leaL x (.slice A1 n1 c1) (.slice A2 n2 c2)).toArray := Array.toList_inj.1 (by simpa [Value.cells] using hcs)
  subst ha
  exact ⟨x, A1, n1, c1, A2, n2, c2, rfl, k1, k2, hB⟩
end
end Go.Proofs.Ytdphdnllhmnelaa
/- Values of laws.ENode opened. -/
namespace Go.Proofs.Ytdphdnllhmnelaa
open Go.RowKit Go.ChangeShapes Go.WideShapes Go.ChangeAt Go.Deep Go.Joins
section
variable {H : Type} {enc : TypeId × Value → H} {w : World} {base : Nat} {spare : Nat → Bool} {held : Bool}
theorem cellsENodeL : Try.prog.cellsOf 61 = 4 := by kernel_rfl
theorem nod_of {cs : List Value} (h : cs.length = 4) : ∃ c0 c1 c2 c3, cs = [c0, c1, c2, c3] := by
  match cs, h with
  | [c0, c1, c2, c3], _ => exact ⟨c0, c1, c2, c3, rfl⟩
set_option maxRecDepth 8000 in
theorem tr_nod {fu : Nat} {cs : List Value} {y : DataW H × List MemPlace} (h : DataW.trod enc Try.prog w base spare held fu 61 cs = some y) : ∃ x, nodR w cs x ∧ nodB x := by
  obtain ⟨c0, c1, c2, c3, rfl⟩ := nod_of (trod_len Try.underlying61 cellsENodeL h)
  obtain ⟨_, _, h0⟩ := trod_fieldAt Try.underlying61 0 rfl cellsIntO h
  obtain ⟨x0, e0, _⟩ := trod_int1 Try.underlying3 h0
  simp at e0
  subst e0
  obtain ⟨_, _, h1⟩ := trod_fieldAt Try.underlying61 1 rfl cellsIntO h
  obtain ⟨x1, e1, _⟩ := trod_int1 Try.underlying3 h1
  simp at e1
  subst e1
  obtain ⟨_, _, h2⟩ := trod_fieldAt Try.underlying61 2 rfl cellsInstSO h
  obtain ⟨x2, ⟨A2, n2, m2, e2, g2⟩, b2⟩ := tr_inss h2
  simp at e2
  subst e2
  obtain ⟨_, _, h3⟩ := trod_fieldAt Try.underlying61 3 rfl cellsLeadSO h
  obtain ⟨x3, ⟨A3, n3, m3, e3, g3⟩, b3⟩ := tr_leas h3
  simp at e3
  subst e3
  exact ⟨⟨x0, x1, x2, x3⟩, ⟨A2, n2, m2, A3, n3, m3, rfl, g2, g3⟩, b2, b3⟩
set_option maxRecDepth 8000 in
theorem opn_nod {r : Reach} {b0 : Nat} {v : Value} {d : DataW H} {p : List MemPlace} (hv : Value.okWide Try.prog w r b0 61 v) (h : DataW.Trod enc Try.prog w base spare held 61 v d p) : ∃ (x : Nod) (A1 : Option Addr) (n1 c1 : Nat) (A2 : Option Addr) (n2 c2 : Nat), v = nodV x (.slice A1 n1 c1) (.slice A2 n2 c2) ∧ RowR insR 16 w A1 n1 c1 x.insts ∧ RowR leaR 8 w A2 n2 c2 x.leads ∧ nodB x := by
  obtain ⟨arr, rfl, hsz⟩ := okWide_struct Try.underlying61 hv
  obtain ⟨fuel, hf⟩ := h
  obtain ⟨x, hR, hB⟩ := tr_nod hf
  obtain ⟨A1, n1, c1, A2, n2, c2, hcs, k1, k2⟩ := hR
  have ha : arr = (nodL x (.slice A1 n1 c1) (.slice A2 n2 c2)).toArray := Array.toList_inj.1 (by simpa [Value.cells] using hcs)
  subst ha
  exact ⟨x, A1, n1, c1, A2, n2, c2, rfl, k1, k2, hB⟩
end
end Go.Proofs.Ytdphdnllhmnelaa
/- Contracts of small leaf functions: ranges and stamps. -/
namespace Go.Proofs.Ytdphdnllhmnelaa
open Go.RowKit

/-- x lies between lo and hi -/
def inB (x lo hi : Int) : Bool := decide (lo ≤ x) && decide (x ≤ hi)

theorem within_any (x lo hi : Int) (w : World) :
    Calls Try.prog 113 #[.int .i64 x, .int .i64 lo, .int .i64 hi] w fun e w' => e = .returned (.bool (inB x lo hi)) ∧ w = w' := by
  go_enter Try.func113, Try.ntmps113
  go_wp2
  all_goals go_ret
  all_goals exact ⟨ret_bool (beq_bool (by simp [inB]; try omega)), rfl⟩

theorem l1In_any (x lo hi : Int) (w : World) :
    Calls Try.prog 125 #[.int .i64 x, .int .i64 lo, .int .i64 hi] w fun e w' => e = .returned (.bool (inB x lo hi)) ∧ w = w' := by
  go_enter Try.func125, Try.ntmps125
  go_wp2
  all_goals go_ret
  all_goals exact ⟨ret_bool (beq_bool (by simp [inB]; try omega)), rfl⟩
theorem isRep_any (x : Int) (w : World) :
    Calls Try.prog 142 #[.int .i64 x] w fun e w' => e = .returned (.bool (inB x 0 2)) ∧ w = w' := by
  go_enter Try.func142, Try.ntmps142
  go_wp2
  all_goals go_ret
  all_goals exact ⟨ret_bool (beq_bool (by simp [inB]; try omega)), rfl⟩

theorem l9Node_any (x : Int) (w : World) :
    Calls Try.prog 135 #[.int .i64 x] w fun e w' => e = .returned (.bool (inB x 0 2)) ∧ w = w' := by
  go_enter Try.func135, Try.ntmps135
  go_wp2
  all_goals go_ret
  all_goals exact ⟨ret_bool (beq_bool (by simp [inB]; try omega)), rfl⟩

end Go.Proofs.Ytdphdnllhmnelaa
/- Contracts of split and of the reference's l30Cut; words; paths. -/
namespace Go.Proofs.Ytdphdnllhmnelaa
open Go.RowKit

/-- behind i bytes: where the part begins, and the parts before it -/
def splitTo (s : ByteArray) (c : Nat) : Nat → Nat × List ByteArray
  | 0 => (0, [])
  | i + 1 => if bAt s i = c then (i + 1, (splitTo s c i).2 ++ [s.extract (splitTo s c i).1 i]) else splitTo s c i
def splitS (s : ByteArray) (c : Nat) : List ByteArray := (splitTo s c s.size).2 ++ [s.extract (splitTo s c s.size).1 s.size]
theorem splitTo_le (s : ByteArray) (c i : Nat) : (splitTo s c i).1 ≤ i ∧ (splitTo s c i).2.length ≤ i := by
  induction i with
  | zero => simp [splitTo]
  | succ i ih =>
    rw [splitTo]
    split
    · simp; omega
    · omega
theorem splitS_len (s : ByteArray) (c : Nat) : 1 ≤ (splitS s c).length ∧ (splitS s c).length ≤ s.size + 1 := by
  have := splitTo_le s c s.size
  simp [splitS]; omega

/-- one to eight letters -/
def wordB (s : ByteArray) : Bool := inB s.size 1 8 && (List.range s.size).all (fun i => inB (bAt s i) 97 122)
theorem wordB_no {s : ByteArray} {k : Nat} (hk : k < s.size) (h : inB (bAt s k) 97 122 = false) : wordB s = false := by
  unfold wordB; rw [all_no hk h, Bool.and_false]
theorem wordB_all {s : ByteArray} (h : ∀ j, j < s.size → inB (bAt s j) 97 122 = true) : wordB s = inB s.size 1 8 := by
  unfold wordB; rw [all_yes h, Bool.and_true]
theorem inB_no {x lo hi : Int} (h : x < lo ∨ hi < x) : inB x lo hi = false := by simp [inB]; omega
theorem inB_yes {x lo hi : Int} (h1 : lo ≤ x) (h2 : x ≤ hi) : inB x lo hi = true := by simp [inB, h1, h2]

theorem isWord_impl (s : ByteArray) (w : World) (hs : s.size ≤ 9223372036854775807) :
    Calls Try.prog 182 #[.string s] w fun e w' => e = .returned (.bool (wordB s)) ∧ w = w' := by
  go_enter Try.func182, Try.ntmps182
  go_wp2
  go_loop [3] (fun i => ∃ k : Nat, k ≤ s.size ∧ i = .int .i64 k ∧ ∀ j, j < k → inB (bAt s j) 97 122 = true) (fun i => s.size - (intOf i).toNat)
  case atStart => exact ⟨0, Nat.zero_le _, rfl, fun j hj => absurd hj (by omega)⟩
  case round =>
    obtain ⟨k, hk, rfl, hall⟩ := hrel
    have HA := Lib.hid hall; clear hall
    by_cases hlt : k < s.size
    · have hbt := bAt_get hlt
      have hbl := bAt_lt s k
      by_cases h1 : bAt s k < 97
      · go_wp2
        go_returns
        exact ⟨ret_bool (wordB_no hlt (inB_no (by omega))).symm, rfl⟩
      · by_cases h2 : 122 < bAt s k
        · go_wp2
          go_returns
          exact ⟨ret_bool (wordB_no hlt (inB_no (by omega))).symm, rfl⟩
        · go_wp2
          exact ⟨⟨k + 1, by omega, by go_num, upto_succ HA.out (inB_yes (by omega) (by omega))⟩, by simp [intOf]; omega⟩
    · go_wp2_with (go_at_call 113; refine (within_any _ _ _ _).mono ?_; rintro e w' ⟨rfl, rfl⟩)
      go_returns
      exact ⟨ret_bool (by rw [wordB_all (fun j hj => HA.out j (by omega))]), rfl⟩

theorem l4Word_spec (s : ByteArray) (w : World) (hs : s.size ≤ 9223372036854775807) :
    Calls Try.prog 177 #[.string s] w fun e w' => e = .returned (.bool (wordB s)) ∧ w = w' := by
  by_cases h0 : inB s.size 1 8 = true
  · go_enter Try.func177, Try.ntmps177
    go_wp2_with (first | (go_at_call 125; refine (l1In_any _ _ _ _).mono ?_; rintro e w' ⟨rfl, rfl⟩))
    go_loop [3] (fun i => ∃ k : Nat, k ≤ s.size ∧ i = .int .i64 k ∧ ∀ j, j < k → inB (bAt s j) 97 122 = true) (fun i => s.size - (intOf i).toNat)
    case atStart => exact ⟨0, Nat.zero_le _, rfl, fun j hj => absurd hj (by omega)⟩
    case round =>
      obtain ⟨k, hk, rfl, hall⟩ := hrel
      have HA := Lib.hid hall; clear hall
      by_cases hlt : k < s.size
      · have hbt := bAt_get hlt
        have hbl := bAt_lt s k
        by_cases h1 : bAt s k < 97
        · go_wp2
          go_returns
          exact ⟨ret_bool (wordB_no hlt (inB_no (by omega))).symm, rfl⟩
        · by_cases h2 : 122 < bAt s k
          · go_wp2
            go_returns
            exact ⟨ret_bool (wordB_no hlt (inB_no (by omega))).symm, rfl⟩
          · go_wp2
            exact ⟨⟨k + 1, by omega, by go_num, upto_succ HA.out (inB_yes (by omega) (by omega))⟩, by simp [intOf]; omega⟩
      · go_wp2
        go_returns
        exact ⟨ret_bool (by rw [wordB_all (fun j hj => HA.out j (by omega)), h0]), rfl⟩
  · go_enter Try.func177, Try.ntmps177
    go_wp2_with (first | (go_at_call 125; refine (l1In_any _ _ _ _).mono ?_; rintro e w' ⟨rfl, rfl⟩))
    go_returns
    refine ⟨ret_bool ?_, rfl⟩
    unfold wordB; simp [h0]

def pathOkB (p : ByteArray) : Bool := (List.range (splitS p 47).length).all (fun i => wordB (sAt (splitS p 47) i)) && decide ((splitS p 47).length ≤ 3)
theorem pathOkB_no {p : ByteArray} {k : Nat} (hk : k < (splitS p 47).length) (h : wordB (sAt (splitS p 47) k) = false) : pathOkB p = false := by
  unfold pathOkB; rw [all_no hk h, Bool.false_and]
theorem pathOkB_all {p : ByteArray} (h : ∀ j, j < (splitS p 47).length → wordB (sAt (splitS p 47) j) = true) : pathOkB p = decide ((splitS p 47).length ≤ 3) := by
  unfold pathOkB; rw [all_yes h, Bool.true_and]
theorem sAt_splitS_size (s : ByteArray) (c k : Nat) : (sAt (splitS s c) k).size ≤ s.size := by
  have h : ∀ x ∈ splitS s c, x.size ≤ s.size := by
    have h2 : ∀ i, i ≤ s.size → ∀ x ∈ (splitTo s c i).2, x.size ≤ s.size := by
      intro i
      induction i with
      | zero => simp [splitTo]
      | succ i ih =>
        intro hi x hx
        rw [splitTo] at hx
        split at hx
        · rcases List.mem_append.1 hx with h | h
          · exact ih (by omega) x h
          · simp at h; subst h; simp [ByteArray.size_extract]; omega
        · exact ih (by omega) x hx
    intro x hx
    rcases List.mem_append.1 hx with h | h
    · exact h2 _ (Nat.le_refl _) x h
    · simp at h; subst h; simp [ByteArray.size_extract]
  rcases Nat.lt_or_ge k (splitS s c).length with hk | hk
  · rw [sAt_get hk]; exact h _ (List.getElem_mem hk)
  · simp [sAt, hk]

end Go.Proofs.Ytdphdnllhmnelaa
/- Contracts of SameCmd, CmdOk and Clash, of both sides. -/
namespace Go.Proofs.Ytdphdnllhmnelaa
open Go.RowKit
theorem strsLenA {w : World} {A : Option Addr} {n : Nat} {l : List ByteArray} (h : StrsAt w A n l) : n = l.length := h.1
attribute [local irreducible] StrsAt

/-! ### texts -/
def eqS (l l' : List ByteArray) : Bool := decide (l = l')
theorem eq_ext {l l' : List ByteArray} {n : Nat} (h : n = l.length) (h' : n = l'.length) (hj : ∀ j, j < n → sAt l j = sAt l' j) : l = l' := by
  apply List.ext_getElem (by omega)
  intro i h1 h2
  have := hj i (by omega)
  simpa [sAt, h1, h2] using this
theorem slicesEqual_strs (A : Option Addr) (n c : Nat) (A' : Option Addr) (n' c' : Nat) (l l' : List ByteArray) (w : World) (h : StrsAt w A n l) (h' : StrsAt w A' n' l') (hn : n ≤ 9223372036854775807) (hn' : n' ≤ 9223372036854775807) :
    Calls Try.prog 181 #[.slice A n c, .slice A' n' c'] w fun e w' => e = .returned (.bool (eqS l l')) ∧ Below w.heap.size w w' := by
  have HL := Lib.hid (strsLenA h)
  have HL' := Lib.hid (strsLenA h')
  by_cases hne : n = n'
  · subst hne
    go_enter Try.func181, Try.ntmps181
    go_wp2
    go_loopw [5, 13] (fun _ i wr => ∃ (k : Nat), k ≤ n ∧ i = .int .i64 k ∧ (∀ j, j < k → sAt l j = sAt l' j) ∧ Below w.heap.size w wr) (fun _ i _ => n - (intOf i).toNat)
    case atStart => exact ⟨0, Nat.zero_le _, rfl, fun j hj => absurd hj (by omega), Below.refl _ _⟩
    case round =>
      obtain ⟨k, hk, rfl, hj, hb⟩ := hrel
      have HJ := Lib.hid hj; clear hj
      by_cases hlt : k < n
      · obtain ⟨b, off, rfl, hbl, hc⟩ := h.at_ (by omega)
        have hck := (hb.cell (p := ⟨b, off + k, none⟩) hbl).trans (hc k hlt)
        clear hc
        obtain ⟨b', off', rfl, hbl', hc'⟩ := h'.at_ (by omega)
        have hck' := (hb.cell (p := ⟨b', off' + k, none⟩) hbl').trans (hc' k hlt)
        clear hc'
        by_cases hs : sAt l k = sAt l' k
        · have hd : ((sAt l k).toList == (sAt l' k).toList) = true := by rw [str_beq]; simpa using hs
          have HS := Lib.hid hs
          clear hs
          go_wp2
          go_quiet (fail)
          go_wp2
          refine ⟨⟨k + 1, by omega, by go_num, fun j hj => ?_, below_drewN hb _⟩, by simp [intOf]; omega⟩
          rcases Nat.lt_or_ge j k with h1 | h1
          · exact HJ.out j h1
          · have : j = k := by omega
            subst this; exact HS.out
        · have hd : ((sAt l k).toList == (sAt l' k).toList) = false := by rw [str_beq]; simpa using hs
          have HS := Lib.hid hs
          clear hs
          go_wp2
          go_quiet (fail)
          go_wp2
          go_returns
          exact ⟨ret_bool (by unfold eqS; symm; simp only [decide_eq_false_iff_not]; intro e; exact HS.out (by rw [e])), below_drewN hb _⟩
      · go_wp2
        go_returns
        exact ⟨ret_bool (by unfold eqS; symm; simp only [decide_eq_true_eq]; exact eq_ext HL.out HL'.out (fun j hj => HJ.out j (by omega))), hb⟩
  · have hni : ¬ ((n : Int) = (n' : Int)) := by omega
    have HE := Lib.hid (show l ≠ l' from fun e => hne (by rw [HL.out, HL'.out, e]))
    go_enter Try.func181, Try.ntmps181
    go_wp2
    go_returns
    exact ⟨ret_bool (by unfold eqS; simp [HE.out]), Below.refl _ _⟩
theorem l4Texts_spec (A : Option Addr) (n c : Nat) (A' : Option Addr) (n' c' : Nat) (l l' : List ByteArray) (w : World) (h : StrsAt w A n l) (h' : StrsAt w A' n' l') (hn : n ≤ 9223372036854775807) (hn' : n' ≤ 9223372036854775807) :
    Calls Try.prog 180 #[.slice A n c, .slice A' n' c'] w fun e w' => e = .returned (.bool (eqS l l')) ∧ Below w.heap.size w w' := by
  have HL := Lib.hid (strsLenA h)
  have HL' := Lib.hid (strsLenA h')
  by_cases hne : n = n'
  · subst hne
    go_enter Try.func180, Try.ntmps180
    go_wp2
    go_loopw [5] (fun i wr => ∃ (k : Nat), k ≤ n ∧ i = .int .i64 k ∧ (∀ j, j < k → sAt l j = sAt l' j) ∧ Below w.heap.size w wr) (fun i _ => n - (intOf i).toNat)
    case atStart => exact ⟨0, Nat.zero_le _, rfl, fun j hj => absurd hj (by omega), Below.refl _ _⟩
    case round =>
      obtain ⟨k, hk, rfl, hj, hb⟩ := hrel
      have HJ := Lib.hid hj; clear hj
      by_cases hlt : k < n
      · obtain ⟨b, off, rfl, hbl, hc⟩ := h.at_ (by omega)
        have hck := (hb.cell (p := ⟨b, off + k, none⟩) hbl).trans (hc k hlt)
        clear hc
        obtain ⟨b', off', rfl, hbl', hc'⟩ := h'.at_ (by omega)
        have hck' := (hb.cell (p := ⟨b', off' + k, none⟩) hbl').trans (hc' k hlt)
        clear hc'
        by_cases hs : sAt l k = sAt l' k
        · have hd : ((sAt l k).toList == (sAt l' k).toList) = true := by rw [str_beq]; simpa using hs
          have HS := Lib.hid hs
          clear hs
          go_wp2
          go_quiet (fail)
          go_wp2
          refine ⟨⟨k + 1, by omega, by go_num, fun j hj => ?_, below_drewN hb _⟩, by simp [intOf]; omega⟩
          rcases Nat.lt_or_ge j k with h1 | h1
          · exact HJ.out j h1
          · have : j = k := by omega
            subst this; exact HS.out
        · have hd : ((sAt l k).toList == (sAt l' k).toList) = false := by rw [str_beq]; simpa using hs
          have HS := Lib.hid hs
          clear hs
          go_wp2
          go_quiet (fail)
          go_wp2
          go_returns
          exact ⟨ret_bool (by unfold eqS; symm; simp only [decide_eq_false_iff_not]; intro e; exact HS.out (by rw [e])), below_drewN hb _⟩
      · go_wp2
        go_returns
        exact ⟨ret_bool (by unfold eqS; symm; simp only [decide_eq_true_eq]; exact eq_ext HL.out HL'.out (fun j hj => HJ.out j (by omega))), hb⟩
  · have hni : ¬ ((n : Int) = (n' : Int)) := by omega
    have HE := Lib.hid (show l ≠ l' from fun e => hne (by rw [HL.out, HL'.out, e]))
    go_enter Try.func180, Try.ntmps180
    go_wp2
    go_returns
    exact ⟨ret_bool (by unfold eqS; simp [HE.out]), Below.refl _ _⟩

def ok8 (l : List ByteArray) : Bool := (List.range l.length).all (fun i => decide ((sAt l i).size = 8))
theorem ok8_no {l : List ByteArray} {k : Nat} (hk : k < l.length) (h : ¬ (sAt l k).size = 8) : ok8 l = false := all_no hk (by simpa using h)
theorem ok8_yes {l : List ByteArray} (h : ∀ j, j < l.length → (sAt l j).size = 8) : ok8 l = true := all_yes (fun j hj => by simpa using h j hj)
theorem areChunks_ok (A : Option Addr) (n c : Nat) (l : List ByteArray) (w : World) (h : StrsAt w A n l) (hn : n ≤ 9223372036854775807) :
    Calls Try.prog 161 #[.slice A n c] w fun e w' => e = .returned (.bool (ok8 l)) ∧ w = w' := by
  have HL := Lib.hid (strsLenA h)
  go_enter Try.func161, Try.ntmps161
  go_wp2
  go_loop [7] (fun i => ∃ k : Nat, k ≤ n ∧ i = .int .i64 k ∧ ∀ j, j < k → (sAt l j).size = 8) (fun i => n - (intOf i).toNat)
  case atStart => exact ⟨0, Nat.zero_le _, rfl, fun j hj => absurd hj (by omega)⟩
  case round =>
    obtain ⟨k, hk, rfl, hx⟩ := hrel
    have HX := Lib.hid hx; clear hx
    by_cases hlt : k < n
    · obtain ⟨b, off, rfl, hbl, hc⟩ := h.at_ (by omega)
      have hck := hc k hlt
      clear hc
      by_cases h8 : (sAt l k).size = 8
      · have g1 : ((((sAt l k).size : Nat) : Int) != 8) = false := by simp [h8]
        have H8 := Lib.hid h8; clear h8
        go_wp2
        refine ⟨⟨k + 1, by omega, by go_num, ?_⟩, by simp [intOf]; omega⟩
        intro j hj
        by_cases e : j = k
        · subst e; exact H8.out
        · exact HX.out j (by omega)
      · have g1 : ((((sAt l k).size : Nat) : Int) != 8) = true := by simp; omega
        have H8 := Lib.hid h8; clear h8
        go_wp2
        go_returns
        exact ⟨ret_bool (ok8_no (by have := HL.out; omega) H8.out).symm, rfl⟩
    · go_wp2
      go_returns
      exact ⟨ret_bool (ok8_yes (fun j hj => HX.out j (by have := HL.out; omega))).symm, rfl⟩

/-! ### two commands -/
def sameB (x y : Cm) : Bool := decide (x.kd = y.kd) && decide (x.cl = y.cl) && decide (x.no = y.no) && decide (x.s = y.s) && decide (x.nm = y.nm) && decide (x.tg = y.tg) && decide (x.n = y.n) && eqS x.ch y.ch
theorem sbeq (a b : ByteArray) : (a.toList == b.toList) = decide (a = b) := str_beq a b

set_option maxRecDepth 8000 in
set_option maxHeartbeats 1000000 in
theorem sameCmd_impl (x y : Cm) (A1 : Option Addr) (n1 c1 : Nat) (A2 : Option Addr) (n2 c2 : Nat) (w : World) (h1 : StrR w A1 n1 c1 x.ch) (h2 : StrR w A2 n2 c2 y.ch) (hn1 : n1 ≤ 9223372036854775807) (hn2 : n2 ≤ 9223372036854775807) :
    Calls Try.prog 159 #[cmV x (.slice A1 n1 c1), cmV y (.slice A2 n2 c2)] w fun e w' => e = .returned (.bool (sameB x y)) ∧ Below w.heap.size w w' := by
  unfold cmV
  by_cases g0 : x.kd = y.kd
  · skip
    by_cases g1 : x.cl = y.cl
    · skip
      by_cases g2 : x.no = y.no
      · skip
        by_cases g3 : x.s = y.s
        · skip
          by_cases g4 : x.nm = y.nm
          · skip
            by_cases g5 : x.tg = y.tg
            · skip
              by_cases g6 : x.n = y.n
              · skip
                have HS := Lib.hid (show sameB x y = eqS x.ch y.ch by unfold sameB; simp [g0, g1, g2, g3, g4, g5, g6])
                have d0 : (x.kd == y.kd) = true := by simpa using g0
                clear g0
                have d1 : (x.cl == y.cl) = true := by simpa using g1
                clear g1
                have d2 : (x.no == y.no) = true := by simpa using g2
                clear g2
                have d3 : (x.s.toList == y.s.toList) = true := by rw [sbeq]; simpa using g3
                clear g3
                have d4 : (x.nm.toList == y.nm.toList) = true := by rw [sbeq]; simpa using g4
                clear g4
                have d5 : (x.tg.toList == y.tg.toList) = true := by rw [sbeq]; simpa using g5
                clear g5
                have d6 : (x.n == y.n) = true := by simpa using g6
                clear g6
                go_enter Try.func159, Try.ntmps159
                go_wp2_with fail
                refine (slicesEqual_strs _ _ _ _ _ _ x.ch y.ch _ (h1.1.keep (by go_grown)) (h2.1.keep (by go_grown)) hn1 hn2).mono ?_
                rintro e w1 ⟨rfl, hb1⟩
                go_wp2
                go_returns
                exact ⟨ret_bool (by rw [HS.out]), bthen (by go_grown) hb1⟩
              · have HS := Lib.hid (show sameB x y = false by unfold sameB; simp [g6])
                have d0 : (x.kd == y.kd) = true := by simpa using g0
                clear g0
                have d1 : (x.cl == y.cl) = true := by simpa using g1
                clear g1
                have d2 : (x.no == y.no) = true := by simpa using g2
                clear g2
                have d3 : (x.s.toList == y.s.toList) = true := by rw [sbeq]; simpa using g3
                clear g3
                have d4 : (x.nm.toList == y.nm.toList) = true := by rw [sbeq]; simpa using g4
                clear g4
                have d5 : (x.tg.toList == y.tg.toList) = true := by rw [sbeq]; simpa using g5
                clear g5
                have d6 : (x.n == y.n) = false := by simpa using g6
                clear g6
                go_enter Try.func159, Try.ntmps159
                go_wp2
                go_returns
                exact ⟨ret_bool (by rw [HS.out]), by go_grown⟩
            · have HS := Lib.hid (show sameB x y = false by unfold sameB; simp [g5])
              have d0 : (x.kd == y.kd) = true := by simpa using g0
              clear g0
              have d1 : (x.cl == y.cl) = true := by simpa using g1
              clear g1
              have d2 : (x.no == y.no) = true := by simpa using g2
              clear g2
              have d3 : (x.s.toList == y.s.toList) = true := by rw [sbeq]; simpa using g3
              clear g3
              have d4 : (x.nm.toList == y.nm.toList) = true := by rw [sbeq]; simpa using g4
              clear g4
              have d5 : (x.tg.toList == y.tg.toList) = false := by rw [sbeq]; simpa using g5
              clear g5
              go_enter Try.func159, Try.ntmps159
              go_wp2
              go_returns
              exact ⟨ret_bool (by rw [HS.out]), by go_grown⟩
          · have HS := Lib.hid (show sameB x y = false by unfold sameB; simp [g4])
            have d0 : (x.kd == y.kd) = true := by simpa using g0
            clear g0
            have d1 : (x.cl == y.cl) = true := by simpa using g1
            clear g1
            have d2 : (x.no == y.no) = true := by simpa using g2
            clear g2
            have d3 : (x.s.toList == y.s.toList) = true := by rw [sbeq]; simpa using g3
            clear g3
            have d4 : (x.nm.toList == y.nm.toList) = false := by rw [sbeq]; simpa using g4
            clear g4
            go_enter Try.func159, Try.ntmps159
            go_wp2
            go_returns
            exact ⟨ret_bool (by rw [HS.out]), by go_grown⟩
        · have HS := Lib.hid (show sameB x y = false by unfold sameB; simp [g3])
          have d0 : (x.kd == y.kd) = true := by simpa using g0
          clear g0
          have d1 : (x.cl == y.cl) = true := by simpa using g1
          clear g1
          have d2 : (x.no == y.no) = true := by simpa using g2
          clear g2
          have d3 : (x.s.toList == y.s.toList) = false := by rw [sbeq]; simpa using g3
          clear g3
          go_enter Try.func159, Try.ntmps159
          go_wp2
          go_returns
          exact ⟨ret_bool (by rw [HS.out]), by go_grown⟩
      · have HS := Lib.hid (show sameB x y = false by unfold sameB; simp [g2])
        have d0 : (x.kd == y.kd) = true := by simpa using g0
        clear g0
        have d1 : (x.cl == y.cl) = true := by simpa using g1
        clear g1
        have d2 : (x.no == y.no) = false := by simpa using g2
        clear g2
        go_enter Try.func159, Try.ntmps159
        go_wp2
        go_returns
        exact ⟨ret_bool (by rw [HS.out]), by go_grown⟩
    · have HS := Lib.hid (show sameB x y = false by unfold sameB; simp [g1])
      have d0 : (x.kd == y.kd) = true := by simpa using g0
      clear g0
      have d1 : (x.cl == y.cl) = false := by simpa using g1
      clear g1
      go_enter Try.func159, Try.ntmps159
      go_wp2
      go_returns
      exact ⟨ret_bool (by rw [HS.out]), by go_grown⟩
  · have HS := Lib.hid (show sameB x y = false by unfold sameB; simp [g0])
    have d0 : (x.kd == y.kd) = false := by simpa using g0
    clear g0
    go_enter Try.func159, Try.ntmps159
    go_wp2
    go_returns
    exact ⟨ret_bool (by rw [HS.out]), by go_grown⟩
set_option maxRecDepth 8000 in
set_option maxHeartbeats 1000000 in
theorem sameCmd_spec (x y : Cm) (A1 : Option Addr) (n1 c1 : Nat) (A2 : Option Addr) (n2 c2 : Nat) (w : World) (h1 : StrR w A1 n1 c1 x.ch) (h2 : StrR w A2 n2 c2 y.ch) (hn1 : n1 ≤ 9223372036854775807) (hn2 : n2 ≤ 9223372036854775807) :
    Calls Try.prog 157 #[cmV x (.slice A1 n1 c1), cmV y (.slice A2 n2 c2)] w fun e w' => e = .returned (.bool (sameB x y)) ∧ Below w.heap.size w w' := by
  unfold cmV
  by_cases g0 : x.kd = y.kd
  · skip
    by_cases g1 : x.cl = y.cl
    · skip
      by_cases g2 : x.no = y.no
      · skip
        by_cases g3 : x.s = y.s
        · skip
          by_cases g4 : x.nm = y.nm
          · skip
            by_cases g5 : x.tg = y.tg
            · skip
              by_cases g6 : x.n = y.n
              · skip
                have HS := Lib.hid (show sameB x y = eqS x.ch y.ch by unfold sameB; simp [g0, g1, g2, g3, g4, g5, g6])
                have d0 : (x.kd == y.kd) = true := by simpa using g0
                clear g0
                have d1 : (x.cl == y.cl) = true := by simpa using g1
                clear g1
                have d2 : (x.no == y.no) = true := by simpa using g2
                clear g2
                have d3 : (x.s.toList == y.s.toList) = true := by rw [sbeq]; simpa using g3
                clear g3
                have d4 : (x.nm.toList == y.nm.toList) = true := by rw [sbeq]; simpa using g4
                clear g4
                have d5 : (x.tg.toList == y.tg.toList) = true := by rw [sbeq]; simpa using g5
                clear g5
                have d6 : (x.n == y.n) = true := by simpa using g6
                clear g6
                go_enter Try.func157, Try.ntmps157
                go_wp2_with fail
                refine (l4Texts_spec _ _ _ _ _ _ x.ch y.ch _ (h1.1.keep (by go_grown)) (h2.1.keep (by go_grown)) hn1 hn2).mono ?_
                rintro e w1 ⟨rfl, hb1⟩
                go_wp2
                go_returns
                exact ⟨ret_bool (by rw [HS.out]), bthen (by go_grown) hb1⟩
              · have HS := Lib.hid (show sameB x y = false by unfold sameB; simp [g6])
                have d0 : (x.kd == y.kd) = true := by simpa using g0
                clear g0
                have d1 : (x.cl == y.cl) = true := by simpa using g1
                clear g1
                have d2 : (x.no == y.no) = true := by simpa using g2
                clear g2
                have d3 : (x.s.toList == y.s.toList) = true := by rw [sbeq]; simpa using g3
                clear g3
                have d4 : (x.nm.toList == y.nm.toList) = true := by rw [sbeq]; simpa using g4
                clear g4
                have d5 : (x.tg.toList == y.tg.toList) = true := by rw [sbeq]; simpa using g5
                clear g5
                have d6 : (x.n == y.n) = false := by simpa using g6
                clear g6
                go_enter Try.func157, Try.ntmps157
                go_wp2
                go_returns
                exact ⟨ret_bool (by rw [HS.out]), by go_grown⟩
            · have HS := Lib.hid (show sameB x y = false by unfold sameB; simp [g5])
              have d0 : (x.kd == y.kd) = true := by simpa using g0
              clear g0
              have d1 : (x.cl == y.cl) = true := by simpa using g1
              clear g1
              have d2 : (x.no == y.no) = true := by simpa using g2
              clear g2
              have d3 : (x.s.toList == y.s.toList) = true := by rw [sbeq]; simpa using g3
              clear g3
              have d4 : (x.nm.toList == y.nm.toList) = true := by rw [sbeq]; simpa using g4
              clear g4
              have d5 : (x.tg.toList == y.tg.toList) = false := by rw [sbeq]; simpa using g5
              clear g5
              go_enter Try.func157, Try.ntmps157
              go_wp2
              go_returns
              exact ⟨ret_bool (by rw [HS.out]), by go_grown⟩
          · have HS := Lib.hid (show sameB x y = false by unfold sameB; simp [g4])
            have d0 : (x.kd == y.kd) = true := by simpa using g0
            clear g0
            have d1 : (x.cl == y.cl) = true := by simpa using g1
            clear g1
            have d2 : (x.no == y.no) = true := by simpa using g2
            clear g2
            have d3 : (x.s.toList == y.s.toList) = true := by rw [sbeq]; simpa using g3
            clear g3
            have d4 : (x.nm.toList == y.nm.toList) = false := by rw [sbeq]; simpa using g4
            clear g4
            go_enter Try.func157, Try.ntmps157
            go_wp2
            go_returns
            exact ⟨ret_bool (by rw [HS.out]), by go_grown⟩
        · have HS := Lib.hid (show sameB x y = false by unfold sameB; simp [g3])
          have d0 : (x.kd == y.kd) = true := by simpa using g0
          clear g0
          have d1 : (x.cl == y.cl) = true := by simpa using g1
          clear g1
          have d2 : (x.no == y.no) = true := by simpa using g2
          clear g2
          have d3 : (x.s.toList == y.s.toList) = false := by rw [sbeq]; simpa using g3
          clear g3
          go_enter Try.func157, Try.ntmps157
          go_wp2
          go_returns
          exact ⟨ret_bool (by rw [HS.out]), by go_grown⟩
      · have HS := Lib.hid (show sameB x y = false by unfold sameB; simp [g2])
        have d0 : (x.kd == y.kd) = true := by simpa using g0
        clear g0
        have d1 : (x.cl == y.cl) = true := by simpa using g1
        clear g1
        have d2 : (x.no == y.no) = false := by simpa using g2
        clear g2
        go_enter Try.func157, Try.ntmps157
        go_wp2
        go_returns
        exact ⟨ret_bool (by rw [HS.out]), by go_grown⟩
    · have HS := Lib.hid (show sameB x y = false by unfold sameB; simp [g1])
      have d0 : (x.kd == y.kd) = true := by simpa using g0
      clear g0
      have d1 : (x.cl == y.cl) = false := by simpa using g1
      clear g1
      go_enter Try.func157, Try.ntmps157
      go_wp2
      go_returns
      exact ⟨ret_bool (by rw [HS.out]), by go_grown⟩
  · have HS := Lib.hid (show sameB x y = false by unfold sameB; simp [g0])
    have d0 : (x.kd == y.kd) = false := by simpa using g0
    clear g0
    go_enter Try.func157, Try.ntmps157
    go_wp2
    go_returns
    exact ⟨ret_bool (by rw [HS.out]), by go_grown⟩

def wifB (s : ByteArray) (b : Bool) : Bool := if b then wordB s else decide (s = ByteArray.empty)
theorem ebeq (s : ByteArray) : s.toList.isEmpty = decide (s = ByteArray.empty) := by
  have h0 : ByteArray.empty.toList = [] := by rw [Lib.toList_data]; rfl
  by_cases h : s = ByteArray.empty
  · rw [decide_eq_true h, h, h0]; rfl
  · rw [decide_eq_false h]
    cases hl : s.toList with
    | nil => exact absurd (by apply str_ext; rw [hl, h0]) h
    | cons a b => rfl

theorem wordIf_impl (s : ByteArray) (b : Bool) (w : World) (hs : s.size ≤ 9223372036854775807) :
    Calls Try.prog 160 #[.string s, .bool b] w fun e w' => e = .returned (.bool (wifB s b)) ∧ w = w' := by
  cases b
  · have HE := Lib.hid (ebeq s)
    go_enter Try.func160, Try.ntmps160
    go_wp2
    go_returns
    exact ⟨ret_bool (by rw [HE.out]; rfl), rfl⟩
  · go_enter Try.func160, Try.ntmps160
    go_wp2_with (go_at_call 182; refine (isWord_impl s _ hs).mono ?_; rintro e w1 ⟨rfl, rfl⟩)
    go_returns
    exact ⟨ret_bool (by unfold wifB; rfl), rfl⟩
theorem l4May_spec (s : ByteArray) (b : Bool) (w : World) (hs : s.size ≤ 9223372036854775807) :
    Calls Try.prog 158 #[.string s, .bool b] w fun e w' => e = .returned (.bool (wifB s b)) ∧ w = w' := by
  cases b
  · have HE := Lib.hid (ebeq s)
    go_enter Try.func158, Try.ntmps158
    go_wp2
    go_returns
    exact ⟨ret_bool (by rw [HE.out]; rfl), rfl⟩
  · go_enter Try.func158, Try.ntmps158
    go_wp2_with (go_at_call 177; refine (l4Word_spec s _ hs).mono ?_; rintro e w1 ⟨rfl, rfl⟩)
    go_returns
    exact ⟨ret_bool (by unfold wifB; rfl), rfl⟩

/-- a command as it must be -/
def cmOkB (x : Cm) : Bool := if x.kd = 0 then sameB x cmNil else
  inB x.kd 1 7 && inB x.cl 1 9 && inB x.no 1 1000 && wifB x.s (decide (x.kd ≠ 7)) && wifB x.nm (decide (x.kd = 3) || decide (x.kd = 4)) && wifB x.tg (decide (x.kd = 4)) && (decide (x.n = 0) || (decide (x.kd = 5) && inB x.n 0 9)) &&
  (if x.kd = 3 then inB (x.ch.length : Int) 1 4 && ok8 x.ch else decide (x.ch.length = 0))
theorem cmNil_R (w : World) : StrR w none 0 0 cmNil.ch := StrO.nil.at_
/-- a general contract, its answer told -/
theorem told {P : Program} {f : FuncId} {args : Array Value} {w : World} {x y : Bool} (hx : x = y) (h : Calls P f args w fun e w' => e = .returned (.bool x) ∧ w = w') : Calls P f args w fun e w' => e = .returned (.bool y) ∧ w = w' := by
  subst hx; exact h
attribute [local irreducible] wifB ok8 inB

end Go.Proofs.Ytdphdnllhmnelaa
