/- Contracts and lemmas: KLead, KENode, OpnB, OCmd. -/
import Derived.Test.YtdphdnllhmnelaaJ2
import Derived.Deep.RegionHeld3
import Derived.StillTailTactics
import Derived.BigQuiet
import Derived.Deep.QuietTactic
import Derived.Test.YtdphdnllhmnelaaJ3
import Derived.Test.YtdphdnllhmnelaaJ1
import Derived.Test.YtdphdnllhmnelaaJ0
/- Lead: how it lies in memory, the laws' helpers on it. -/
namespace Go.Proofs.Ytdphdnllhmnelaa
open Go.RowKit
structure Lea where
  id : Idd
  bal : Int
  ph : Int
  seq : Int
  deps : List Idd
  fr : List Int
  same : Bool
def leaNil : Lea := ⟨iddNil, 0, 0, 0, [], [], false⟩
def leaAt (l : List Lea) (i : Nat) : Lea := l.getD i leaNil
theorem leaAt_get {l : List Lea} {k : Nat} (h : k < l.length) : leaAt l k = l[k] := by simp [leaAt, h]
theorem leaAt_of {l : List Lea} {k : Nat} {x : Lea} (h : l[k]? = some x) : leaAt l k = x := by simp [leaAt, h]
/-- its cells, its value -/
def leaL (x : Lea) (s1 : Value) (s2 : Value) : List Value := [.int .i64 x.id.r, .int .i64 x.id.s, .int .i64 x.bal, .int .i64 x.ph, .int .i64 x.seq, s1, s2, .bool x.same]
def leaV (x : Lea) (s1 : Value) (s2 : Value) : Value := .agg #[.int .i64 x.id.r, .int .i64 x.id.s, .int .i64 x.bal, .int .i64 x.ph, .int .i64 x.seq, s1, s2, .bool x.same]
def leaR (w : World) (cs : List Value) (x : Lea) : Prop := ∃ (A1 : Option Addr) (n1 c1 : Nat) (A2 : Option Addr) (n2 c2 : Nat), cs = leaL x (.slice A1 n1 c1) (.slice A2 n2 c2) ∧ RowR iddR 2 w A1 n1 c1 x.deps ∧ IntR w A2 n2 c2 x.fr
def leaF (fp : List Nat) (w : World) (cs : List Value) (x : Lea) : Prop := ∃ (A1 : Option Addr) (n1 c1 : Nat) (A2 : Option Addr) (n2 c2 : Nat) (f1 f2 : List Nat), cs = leaL x (.slice A1 n1 c1) (.slice A2 n2 c2) ∧ fp = f1 ++ f2 ∧ RowO iddF 46 2 f1 w A1 n1 c1 x.deps ∧ IntO f2 w A2 n2 c2 x.fr
theorem leaK : KindOk leaR leaF 8 where
  rlen := fun h => by obtain ⟨A1, n1, c1, A2, n2, c2, rfl, h1, h2⟩ := h; rfl
  rkeep := fun h hb => by obtain ⟨A1, n1, c1, A2, n2, c2, rfl, h1, h2⟩ := h; exact ⟨A1, n1, c1, A2, n2, c2, rfl, h1.keep iddK hb, h2.keep hb⟩
  flt := fun h b hb => by
    obtain ⟨A1, n1, c1, A2, n2, c2, f1, f2, rfl, rfl, h1, h2⟩ := h
    simp only [List.mem_append] at hb
    rcases hb with hb | hb
    · exact h1.lt iddK b hb
    · exact h2.lt b hb
  fch := fun h hc hS => by
    obtain ⟨A1, n1, c1, A2, n2, c2, f1, f2, rfl, rfl, h1, h2⟩ := h
    exact ⟨A1, n1, c1, A2, n2, c2, _, _, rfl, rfl, h1.ch iddK hc (fun b hb => hS b (by simp [hb])), h2.ch hc (fun b hb => hS b (by simp [hb]))⟩
  fr := fun h => by obtain ⟨A1, n1, c1, A2, n2, c2, f1, f2, rfl, rfl, h1, h2⟩ := h; exact ⟨A1, n1, c1, A2, n2, c2, rfl, h1.at_ iddK (by omega), h2.at_⟩
  one := fun h v hv => by
    obtain ⟨A1, n1, c1, A2, n2, c2, rfl, h1, h2⟩ := h
    simp only [leaL, List.mem_cons, List.not_mem_nil, or_false] at hv
    rcases hv with rfl | rfl | rfl | rfl | rfl | rfl | rfl | rfl <;> rfl
/-- its bounds -/
def leaB (x : Lea) : Prop := iddsB x.deps ∧ intB x.fr
def leasB (l : List Lea) : Prop := l.length ≤ 9223372036854775807 ∧ ∀ y ∈ l, leaB y
def leaSz (x : Lea) : Nat := iddsSz x.deps + intsSz x.fr
def leasSz (l : List Lea) : Nat := l.length + (l.map leaSz).sum
theorem leas_el {l : List Lea} {i : Nat} {x : Lea} (hx : l[i]? = some x) : leaSz x ≤ leasSz l := by have := (sum_el leaSz hx).1; unfold leasSz; omega
/-- its marks -/
def leaCnt (x : Lea) : Nat := iddCnt x.id + 1 + 1 + 1 + iddsCnt x.deps + intsCnt x.fr + 1
def leaTop (x : Lea) : Nat := iddsCnt x.deps + intsCnt x.fr
def leasCnt (l : List Lea) : Nat := (l.map leaCnt).sum
def leaMk (k : Int) (x : Lea) : Lea := ⟨iddMk k x.id, (k + 1 + 1), (k + 1 + 1 + 1), (k + 1 + 1 + 1 + 1), iddsMk (k + 1 + 1 + 1 + 1 + 1) x.deps, intsMk (k + 1 + 1 + 1 + 1 + 1 + ((iddsCnt x.deps : Nat) : Int)) x.fr, (k + 1 + 1 + 1 + 1 + 1 + ((iddsCnt x.deps : Nat) : Int) + ((intsCnt x.fr : Nat) : Int)) % 3 == 0⟩
def leasMk (k : Int) : List Lea → List Lea
  | [] => []
  | x :: l => leaMk k x :: leasMk (k + (leaCnt x : Nat)) l
def leaTopMk (k : Int) (x : Lea) : Lea := ⟨x.id, x.bal, x.ph, x.seq, iddsMk k x.deps, intsMk (k + ((iddsCnt x.deps : Nat) : Int)) x.fr, x.same⟩
theorem leasMk_len (k : Int) : ∀ l : List Lea, (leasMk k l).length = l.length
  | [] => rfl
  | x :: l => by simp [leasMk, leasMk_len]
theorem leasMk_snoc (k : Int) (x : Lea) : ∀ l : List Lea, leasMk k (l ++ [x]) = leasMk k l ++ [leaMk (k + (leasCnt l : Nat)) x]
  | [] => by simp [leasMk, leasCnt]
  | y :: l => by
    have := leasMk_snoc (k + (leaCnt y : Nat)) x l
    have e : k + (leaCnt y : Nat) + ((leasCnt l : Nat) : Int) = k + ((leasCnt (y :: l) : Nat) : Int) := by simp only [leasCnt, List.map_cons, List.sum_cons]; push_cast; omega
    simp only [List.cons_append, leasMk, this, e]
theorem leasMk_at (k : Int) : ∀ (l : List Lea) (i : Nat) (x : Lea), l[i]? = some x → (leasMk k l)[i]? = some (leaMk (k + (sumTo leaCnt l i : Nat)) x)
  | [], i, x, h => by simp at h
  | y :: l, 0, x, h => by simp at h; subst h; simp [leasMk, sumTo]
  | y :: l, i + 1, x, h => by
    have := leasMk_at (k + (leaCnt y : Nat)) l i x (by simpa using h)
    have e : k + (leaCnt y : Nat) + ((sumTo leaCnt l i : Nat) : Int) = k + ((sumTo leaCnt (y :: l) (i + 1) : Nat) : Int) := by simp only [sumTo, List.take_succ_cons, List.map_cons, List.sum_cons]; push_cast; omega
    simp only [leasMk, List.getElem?_cons_succ, this, e]
theorem lea_cnt (x : Lea) : leaCnt x ≤ 6 * (1 + leaSz x) := by have g0 := idd_cnt x.id; have g1 := idds_cnt x.deps; have g2 := ints_cnt x.fr; unfold leaCnt leaSz; omega
theorem leas_cnt : ∀ l : List Lea, leasCnt l ≤ 6 * leasSz l
  | [] => by simp [leasCnt]
  | x :: l => by have h1 := leas_cnt l; have h2 := lea_cnt x; simp only [leasCnt, leasSz, List.map_cons, List.sum_cons, List.length_cons] at *; omega
theorem lea_top (x : Lea) : leaTop x ≤ 6 * leaSz x := by have t4 := idds_cnt x.deps; have t5 := ints_cnt x.fr; unfold leaTop leaSz; omega
attribute [local irreducible] StrR IntR StrO IntO RowR RowO StrsAt IntsAt
set_option maxRecDepth 8000 in
theorem lea_sz (x : Lea) (A1 : Option Addr) (n1 c1 : Nat) (A2 : Option Addr) (n2 c2 : Nat) (left : Int) (w : World) (h1 : RowR iddR 2 w A1 n1 c1 x.deps) (h2 : IntR w A2 n2 c2 x.fr) (hb : leaB x) (hl0 : 0 ≤ left) (hl1 : left ≤ 4611686018427387904) :
    Calls Try.prog 134 #[(leaV x (.slice A1 n1 c1) (.slice A2 n2 c2)), .int .i64 left] w fun e w' => e = .returned (.int .i64 (szR left (leaSz x))) ∧ Below w.heap.size w w' := by
  obtain ⟨bd0, bd1⟩ := hb
  unfold leaV
  by_cases q0 : ((iddsSz x.deps : Nat) : Int) ≤ left
  · have R0 := Lib.hid (szR_yes (left := left) (s := iddsSz x.deps) q0)
    by_cases q1 : ((intsSz x.fr : Nat) : Int) ≤ left - ((iddsSz x.deps : Nat) : Int)
    · have R1 := Lib.hid (szR_yes (left := left - ((iddsSz x.deps : Nat) : Int)) (s := intsSz x.fr) q1)
      have R := Lib.hid (szR_yes (left := left) (s := leaSz x) (by unfold leaSz; push_cast; omega))
      go_enter Try.func134, Try.ntmps134
      go_wp2_with fail
      refine (idds_sz x.deps _ _ _ _ _ (h1.keep iddK (by go_grown)) bd0 (by omega) (by omega)).mono ?_
      rintro e w1 ⟨rfl, hb1⟩
      obtain ⟨hc_w1, hf_w1⟩ := bcell hb1
      have hz_w1 := hb1.size
      try simp at hz_w1
      have hB_w1 : Below w.heap.size w w1 := bthen (by go_grown) hb1
      have hz_w1_0 : w.heap.size < w1.heap.size := by omega
      rw [R0.out]
      go_wp2_with fail
      refine (intsR_sz x.fr _ _ _ _ _ (h2.keep hB_w1) bd1 (by omega) (by omega)).mono ?_
      rintro e w2 ⟨rfl, hb2⟩
      obtain ⟨hc_w2, hf_w2⟩ := bcell hb2
      have hz_w2 := hb2.size
      try simp at hz_w2
      have hB_w2 : Below w.heap.size w w2 := bthen hB_w1 hb2
      have hz_w2_0 : w.heap.size < w2.heap.size := by omega
      rw [R1.out]
      go_wp2
      go_returns
      exact ⟨ret_int (by rw [R.out]; unfold leaSz; push_cast; omega), hB_w2⟩
    · have R := Lib.hid (szR_no (left := left) (s := leaSz x) (by unfold leaSz; push_cast; omega))
      have R1 := Lib.hid (szR_no (left := left - ((iddsSz x.deps : Nat) : Int)) (s := intsSz x.fr) (by omega))
      go_enter Try.func134, Try.ntmps134
      go_wp2_with fail
      refine (idds_sz x.deps _ _ _ _ _ (h1.keep iddK (by go_grown)) bd0 (by omega) (by omega)).mono ?_
      rintro e w1 ⟨rfl, hb1⟩
      obtain ⟨hc_w1, hf_w1⟩ := bcell hb1
      have hz_w1 := hb1.size
      try simp at hz_w1
      have hB_w1 : Below w.heap.size w w1 := bthen (by go_grown) hb1
      have hz_w1_0 : w.heap.size < w1.heap.size := by omega
      rw [R0.out]
      go_wp2_with fail
      refine (intsR_sz x.fr _ _ _ _ _ (h2.keep hB_w1) bd1 (by omega) (by omega)).mono ?_
      rintro e w2 ⟨rfl, hb2⟩
      obtain ⟨hc_w2, hf_w2⟩ := bcell hb2
      have hz_w2 := hb2.size
      try simp at hz_w2
      have hB_w2 : Below w.heap.size w w2 := bthen hB_w1 hb2
      have hz_w2_0 : w.heap.size < w2.heap.size := by omega
      rw [R1.out]
      go_wp2
      go_returns
      exact ⟨ret_int R.out.symm, hB_w2⟩
  · have R := Lib.hid (szR_no (left := left) (s := leaSz x) (by unfold leaSz; push_cast; omega))
    have R0 := Lib.hid (szR_no (left := left) (s := iddsSz x.deps) (by omega))
    go_enter Try.func134, Try.ntmps134
    go_wp2_with fail
    refine (idds_sz x.deps _ _ _ _ _ (h1.keep iddK (by go_grown)) bd0 (by omega) (by omega)).mono ?_
    rintro e w1 ⟨rfl, hb1⟩
    obtain ⟨hc_w1, hf_w1⟩ := bcell hb1
    have hz_w1 := hb1.size
    try simp at hz_w1
    have hB_w1 : Below w.heap.size w w1 := bthen (by go_grown) hb1
    have hz_w1_0 : w.heap.size < w1.heap.size := by omega
    rw [R0.out]
    go_wp2
    go_returns
    exact ⟨ret_int R.out.symm, hB_w1⟩
set_option maxRecDepth 8000 in
theorem lea_eq (x : Lea) (A1 : Option Addr) (n1 c1 : Nat) (A2 : Option Addr) (n2 c2 : Nat) (A1' : Option Addr) (n1' c1' : Nat) (A2' : Option Addr) (n2' c2' : Nat) (w : World) (h1 : RowR iddR 2 w A1 n1 c1 x.deps) (h2 : IntR w A2 n2 c2 x.fr) (h1' : RowR iddR 2 w A1' n1' c1' x.deps) (h2' : IntR w A2' n2' c2' x.fr) (hs : leaSz x ≤ 16777216) :
    Calls Try.prog 149 #[(leaV x (.slice A1 n1 c1) (.slice A2 n2 c2)), (leaV x (.slice A1' n1' c1') (.slice A2' n2' c2'))] w fun e w' => e = .returned (.bool true) ∧ Below w.heap.size w w' := by
  unfold leaSz at hs
  unfold leaV
  go_enter Try.func149, Try.ntmps149
  go_wp2_with fail
  refine (idd_eq x.id  _ ).mono ?_
  rintro e w1 ⟨rfl, hb1⟩
  obtain ⟨hc_w1, hf_w1⟩ := bcell hb1
  have hz_w1 := hb1.size
  try simp at hz_w1
  have hB_w1 : Below w.heap.size w w1 := bthen (by go_grown) hb1
  have hz_w1_0 : w.heap.size < w1.heap.size := by omega
  have hz_w1_1 : w.heap.size + 1 < w1.heap.size := by omega
  go_wp2_with fail
  refine (idds_eq x.deps _ _ _ _ _ _ _ (h1.keep iddK hB_w1) (h1'.keep iddK hB_w1) (by omega)).mono ?_
  rintro e w2 ⟨rfl, hb2⟩
  obtain ⟨hc_w2, hf_w2⟩ := bcell hb2
  have hz_w2 := hb2.size
  try simp at hz_w2
  have hB_w2 : Below w.heap.size w w2 := bthen hB_w1 hb2
  have hz_w2_0 : w.heap.size < w2.heap.size := by omega
  have hz_w2_1 : w.heap.size + 1 < w2.heap.size := by omega
  go_wp2_with fail
  refine (intsR_eq x.fr _ _ _ _ _ _ _ (h2.keep hB_w2) (h2'.keep hB_w2) (by omega)).mono ?_
  rintro e w3 ⟨rfl, hb3⟩
  obtain ⟨hc_w3, hf_w3⟩ := bcell hb3
  have hz_w3 := hb3.size
  try simp at hz_w3
  have hB_w3 : Below w.heap.size w w3 := bthen hB_w2 hb3
  have hz_w3_0 : w.heap.size < w3.heap.size := by omega
  have hz_w3_1 : w.heap.size + 1 < w3.heap.size := by omega
  go_wp2
  go_returns
  exact ⟨rfl, hB_w3⟩
set_option maxRecDepth 8000 in
set_option maxHeartbeats 1000000 in
theorem lea_to (x : Lea) (A1 : Option Addr) (n1 c1 : Nat) (A2 : Option Addr) (n2 c2 : Nat) (w : World) (h1 : RowR iddR 2 w A1 n1 c1 x.deps) (h2 : IntR w A2 n2 c2 x.fr) (hs : leaSz x ≤ 1048576) :
    Calls Try.prog 141 #[(leaV x (.slice A1 n1 c1) (.slice A2 n2 c2))] w fun e w' => ∃ (A1' : Option Addr) (n1' c1' : Nat) (A2' : Option Addr) (n2' c2' : Nat) (f1' f2' : List Nat), e = .returned (leaV x (.slice A1' n1' c1') (.slice A2' n2' c2')) ∧ (f1' ++ f2').Nodup ∧ (∀ b ∈ f1' ++ f2', w.heap.size ≤ b ∧ b < w'.heap.size) ∧ RowO iddF 46 2 f1' w' A1' n1' c1' x.deps ∧ IntO f2' w' A2' n2' c2' x.fr ∧ Below w.heap.size w w' := by
  unfold leaSz at hs
  unfold leaV
  go_enter Try.func141, Try.ntmps141
  go_wp2_with fail
  refine (idd_to x.id  _ ).mono ?_
  rintro e w1 ⟨rfl, hb1⟩
  unfold iddV
  obtain ⟨hc_w1, hf_w1⟩ := bcell hb1
  have hz_w1 := hb1.size
  try simp at hz_w1
  have hB_w1 : Below w.heap.size w w1 := bthen (by go_grown) hb1
  have hz_w1_0 : w.heap.size < w1.heap.size := by omega
  have hz_w1_1 : w.heap.size + 1 < w1.heap.size := by omega
  have hz_w1_2 : w.heap.size + 1 + 1 < w1.heap.size := by omega
  go_wp2_with fail
  refine (idds_to x.deps _ _ _ _ (h1.keep iddK (((((hB_w1.setCell (by dsimp only; omega) _).setCell (by dsimp only; omega) _).setCell (by dsimp only; omega) _).setCell (by dsimp only; omega) _).setCell (by dsimp only; omega) _)) (by omega)).mono ?_
  rintro e w2 ⟨A1', n1', c1', rfl, ⟨f1', hN2, hF2, o1⟩, hb2⟩
  obtain ⟨hc_w2, hf_w2⟩ := bcell hb2
  have hz_w2 := hb2.size
  try simp at hz_w2
  have hB_w2 : Below w.heap.size w w2 := bthen (((((hB_w1.setCell (by dsimp only; omega) _).setCell (by dsimp only; omega) _).setCell (by dsimp only; omega) _).setCell (by dsimp only; omega) _).setCell (by dsimp only; omega) _) hb2
  have hz_w2_0 : w.heap.size < w2.heap.size := by omega
  have hz_w2_1 : w.heap.size + 1 < w2.heap.size := by omega
  have hz_w2_2 : w.heap.size + 1 + 1 < w2.heap.size := by omega
  have hG2 : ∀ b ∈ f1', w.heap.size + 3 ≤ b ∧ b < w2.heap.size := fun b hb => by have := hF2 b hb; have hzz := hz_w1; simp at this; omega
  go_wp2_with fail
  refine (intsR_to x.fr _ _ _ _ (h2.keep (hB_w2.setCell (by dsimp only; omega) _)) (by omega)).mono ?_
  rintro e w3 ⟨A2', n2', c2', rfl, ⟨f2', hN3, hF3, o2⟩, hb3⟩
  obtain ⟨hc_w3, hf_w3⟩ := bcell hb3
  have hz_w3 := hb3.size
  try simp at hz_w3
  have hB_w3 : Below w.heap.size w w3 := bthen (hB_w2.setCell (by dsimp only; omega) _) hb3
  have hz_w3_0 : w.heap.size < w3.heap.size := by omega
  have hz_w3_1 : w.heap.size + 1 < w3.heap.size := by omega
  have hz_w3_2 : w.heap.size + 1 + 1 < w3.heap.size := by omega
  have hG3 : ∀ b ∈ f2', w.heap.size + 3 ≤ b ∧ b < w3.heap.size := fun b hb => by have := hF3 b hb; have hzz := hz_w2; simp at this; omega
  have k0 : w3.cell? ⟨w.heap.size + 1, 0, none⟩ = some (.int .i64 0) := (keep_cell hb3 (setoff (keep_cell hb2 (setoff (setoff (setoff (setoff (setoff (keep_cell hb1 (by first | (simp [go_sem]; done) | (simp [go_sem]; rfl))) (.inl (by omega))) (.inl (by omega))) (.inl (by omega))) (.inl (by omega))) (.inl (by omega)))) (.inl (by omega))))
  have k1 : w3.cell? ⟨w.heap.size + 1, 1, none⟩ = some (.int .i64 0) := (keep_cell hb3 (setoff (keep_cell hb2 (setoff (setoff (setoff (setoff (setoff (keep_cell hb1 (by first | (simp [go_sem]; done) | (simp [go_sem]; rfl))) (.inl (by omega))) (.inl (by omega))) (.inl (by omega))) (.inl (by omega))) (.inl (by omega)))) (.inl (by omega))))
  have k2 : w3.cell? ⟨w.heap.size + 1, 2, none⟩ = some (.int .i64 0) := (keep_cell hb3 (setoff (keep_cell hb2 (setoff (setoff (setoff (setoff (setoff (keep_cell hb1 (by first | (simp [go_sem]; done) | (simp [go_sem]; rfl))) (.inl (by omega))) (.inl (by omega))) (.inl (by omega))) (.inl (by omega))) (.inl (by omega)))) (.inl (by omega))))
  have k3 : w3.cell? ⟨w.heap.size + 1, 3, none⟩ = some (.int .i64 0) := (keep_cell hb3 (setoff (keep_cell hb2 (setoff (setoff (setoff (setoff (setoff (keep_cell hb1 (by first | (simp [go_sem]; done) | (simp [go_sem]; rfl))) (.inl (by omega))) (.inl (by omega))) (.inl (by omega))) (.inl (by omega))) (.inl (by omega)))) (.inl (by omega))))
  have k4 : w3.cell? ⟨w.heap.size + 1, 4, none⟩ = some (.int .i64 0) := (keep_cell hb3 (setoff (keep_cell hb2 (setoff (setoff (setoff (setoff (setoff (keep_cell hb1 (by first | (simp [go_sem]; done) | (simp [go_sem]; rfl))) (.inl (by omega))) (.inl (by omega))) (.inl (by omega))) (.inl (by omega))) (.inl (by omega)))) (.inl (by omega))))
  have k5 : w3.cell? ⟨w.heap.size + 1, 5, none⟩ = some (.slice none 0 0) := (keep_cell hb3 (setoff (keep_cell hb2 (setoff (setoff (setoff (setoff (setoff (keep_cell hb1 (by first | (simp [go_sem]; done) | (simp [go_sem]; rfl))) (.inl (by omega))) (.inl (by omega))) (.inl (by omega))) (.inl (by omega))) (.inl (by omega)))) (.inl (by omega))))
  have k6 : w3.cell? ⟨w.heap.size + 1, 6, none⟩ = some (.slice none 0 0) := (keep_cell hb3 (setoff (keep_cell hb2 (setoff (setoff (setoff (setoff (setoff (keep_cell hb1 (by first | (simp [go_sem]; done) | (simp [go_sem]; rfl))) (.inl (by omega))) (.inl (by omega))) (.inl (by omega))) (.inl (by omega))) (.inl (by omega)))) (.inl (by omega))))
  have k7 : w3.cell? ⟨w.heap.size + 1, 7, none⟩ = some (.bool false) := (keep_cell hb3 (setoff (keep_cell hb2 (setoff (setoff (setoff (setoff (setoff (keep_cell hb1 (by first | (simp [go_sem]; done) | (simp [go_sem]; rfl))) (.inl (by omega))) (.inl (by omega))) (.inl (by omega))) (.inl (by omega))) (.inl (by omega)))) (.inl (by omega))))
  have l0 : ((w3.setCell ⟨w.heap.size + 1 + 1, 6, none⟩ (.slice A2' n2' c2')).setCell ⟨w.heap.size + 1 + 1, 7, none⟩ (.bool x.same)).cell? ⟨w.heap.size + 1, 0, none⟩ = some (.int .i64 0) := (setoff (setoff k0 (.inl (by omega))) (.inl (by omega)))
  have l1 : ((w3.setCell ⟨w.heap.size + 1 + 1, 6, none⟩ (.slice A2' n2' c2')).setCell ⟨w.heap.size + 1 + 1, 7, none⟩ (.bool x.same)).cell? ⟨w.heap.size + 1, 1, none⟩ = some (.int .i64 0) := (setoff (setoff k1 (.inl (by omega))) (.inl (by omega)))
  have l2 : ((w3.setCell ⟨w.heap.size + 1 + 1, 6, none⟩ (.slice A2' n2' c2')).setCell ⟨w.heap.size + 1 + 1, 7, none⟩ (.bool x.same)).cell? ⟨w.heap.size + 1, 2, none⟩ = some (.int .i64 0) := (setoff (setoff k2 (.inl (by omega))) (.inl (by omega)))
  have l3 : ((w3.setCell ⟨w.heap.size + 1 + 1, 6, none⟩ (.slice A2' n2' c2')).setCell ⟨w.heap.size + 1 + 1, 7, none⟩ (.bool x.same)).cell? ⟨w.heap.size + 1, 3, none⟩ = some (.int .i64 0) := (setoff (setoff k3 (.inl (by omega))) (.inl (by omega)))
  have l4 : ((w3.setCell ⟨w.heap.size + 1 + 1, 6, none⟩ (.slice A2' n2' c2')).setCell ⟨w.heap.size + 1 + 1, 7, none⟩ (.bool x.same)).cell? ⟨w.heap.size + 1, 4, none⟩ = some (.int .i64 0) := (setoff (setoff k4 (.inl (by omega))) (.inl (by omega)))
  have l5 : ((w3.setCell ⟨w.heap.size + 1 + 1, 6, none⟩ (.slice A2' n2' c2')).setCell ⟨w.heap.size + 1 + 1, 7, none⟩ (.bool x.same)).cell? ⟨w.heap.size + 1, 5, none⟩ = some (.slice none 0 0) := (setoff (setoff k5 (.inl (by omega))) (.inl (by omega)))
  have l6 : ((w3.setCell ⟨w.heap.size + 1 + 1, 6, none⟩ (.slice A2' n2' c2')).setCell ⟨w.heap.size + 1 + 1, 7, none⟩ (.bool x.same)).cell? ⟨w.heap.size + 1, 6, none⟩ = some (.slice none 0 0) := (setoff (setoff k6 (.inl (by omega))) (.inl (by omega)))
  have l7 : ((w3.setCell ⟨w.heap.size + 1 + 1, 6, none⟩ (.slice A2' n2' c2')).setCell ⟨w.heap.size + 1 + 1, 7, none⟩ (.bool x.same)).cell? ⟨w.heap.size + 1, 7, none⟩ = some (.bool false) := (setoff (setoff k7 (.inl (by omega))) (.inl (by omega)))
  obtain ⟨WF, hWF⟩ : ∃ WF, WF = setsW ((w3.setCell ⟨w.heap.size + 1 + 1, 6, none⟩ (.slice A2' n2' c2')).setCell ⟨w.heap.size + 1 + 1, 7, none⟩ (.bool x.same)) (w.heap.size + 1) 0 [.int .i64 x.id.r, .int .i64 x.id.s, .int .i64 x.bal, .int .i64 x.ph, .int .i64 x.seq, .slice A1' n1' c1', .slice A2' n2' c2', .bool x.same] := ⟨_, rfl⟩
  have hcs : ∀ j, j < [(.int .i64 x.id.r : Value), (.int .i64 x.id.s : Value), (.int .i64 x.bal : Value), (.int .i64 x.ph : Value), (.int .i64 x.seq : Value), (.slice A1' n1' c1' : Value), (.slice A2' n2' c2' : Value), (.bool x.same : Value)].length → ∃ u, ((w3.setCell ⟨w.heap.size + 1 + 1, 6, none⟩ (.slice A2' n2' c2')).setCell ⟨w.heap.size + 1 + 1, 7, none⟩ (.bool x.same)).cell? ⟨w.heap.size + 1, 0 + j, none⟩ = some u := fun j hj => by
    simp only [List.length_cons, List.length_nil] at hj
    rw [Nat.zero_add]
    rcases (show j = 0 ∨ j = 1 ∨ j = 2 ∨ j = 3 ∨ j = 4 ∨ j = 5 ∨ j = 6 ∨ j = 7 by omega) with rfl | rfl | rfl | rfl | rfl | rfl | rfl | rfl
    · exact ⟨_, l0⟩
    · exact ⟨_, l1⟩
    · exact ⟨_, l2⟩
    · exact ⟨_, l3⟩
    · exact ⟨_, l4⟩
    · exact ⟨_, l5⟩
    · exact ⟨_, l6⟩
    · exact ⟨_, l7⟩
  have r0 : WF.cell? ⟨w.heap.size + 1, 0, none⟩ = some (.int .i64 x.id.r) := by rw [hWF]; have := setsW_cell _ 0 _ hcs 0 _ rfl; simpa using this
  have r1 : WF.cell? ⟨w.heap.size + 1, 1, none⟩ = some (.int .i64 x.id.s) := by rw [hWF]; have := setsW_cell _ 0 _ hcs 1 _ rfl; simpa using this
  have r2 : WF.cell? ⟨w.heap.size + 1, 2, none⟩ = some (.int .i64 x.bal) := by rw [hWF]; have := setsW_cell _ 0 _ hcs 2 _ rfl; simpa using this
  have r3 : WF.cell? ⟨w.heap.size + 1, 3, none⟩ = some (.int .i64 x.ph) := by rw [hWF]; have := setsW_cell _ 0 _ hcs 3 _ rfl; simpa using this
  have r4 : WF.cell? ⟨w.heap.size + 1, 4, none⟩ = some (.int .i64 x.seq) := by rw [hWF]; have := setsW_cell _ 0 _ hcs 4 _ rfl; simpa using this
  have r5 : WF.cell? ⟨w.heap.size + 1, 5, none⟩ = some (.slice A1' n1' c1') := by rw [hWF]; have := setsW_cell _ 0 _ hcs 5 _ rfl; simpa using this
  have r6 : WF.cell? ⟨w.heap.size + 1, 6, none⟩ = some (.slice A2' n2' c2') := by rw [hWF]; have := setsW_cell _ 0 _ hcs 6 _ rfl; simpa using this
  have r7 : WF.cell? ⟨w.heap.size + 1, 7, none⟩ = some (.bool x.same) := by rw [hWF]; have := setsW_cell _ 0 _ hcs 7 _ rfl; simpa using this
  have hCW : Ch (fun b => b = w.heap.size + 1) ((w3.setCell ⟨w.heap.size + 1 + 1, 6, none⟩ (.slice A2' n2' c2')).setCell ⟨w.heap.size + 1 + 1, 7, none⟩ (.bool x.same)) WF := by rw [hWF]; exact ch_setsW _ 0 _
  simp only [setsW, Nat.zero_add, Nat.reduceAdd] at hWF
  go_wp2
  rw [← hWF]
  clear hcs
  have hBF : Below w.heap.size w WF := ((hB_w3.setCell (by dsimp only; omega) _).setCell (by dsimp only; omega) _).trans (hCW.below (fun k hk => by omega) (((hB_w3.setCell (by dsimp only; omega) _).setCell (by dsimp only; omega) _).size))
  have z1 := o1.ch iddK ((((((Ch.refl (S := fun b => b < w.heap.size + 3) w2).setCell (by dsimp only; omega) _).trans (Ch.of_below hb3)).setCell (by dsimp only; omega) _).setCell (by dsimp only; omega) _).trans (hCW.mono (fun b hb => by omega))) (fun b hb => by have := hG2 b (by simp [hb]); omega)
  have z2 := o2.ch ((((Ch.refl (S := fun b => b < w.heap.size + 3) w3).setCell (by dsimp only; omega) _).setCell (by dsimp only; omega) _).trans (hCW.mono (fun b hb => by omega))) (fun b hb => by have := hG3 b (by simp [hb]); omega)
  have hsz : w3.heap.size ≤ WF.heap.size := by have := hCW.size; simpa using this
  have hND : (f1' ++ f2').Nodup := by
    have := (nodup_new (m := w2.heap.size) hN2 hN3 (fun b hb => by have := hG2 b (by simp [hb]); omega) (fun b hb => by have := hF3 b hb; simp at this; omega))
    simpa only [List.append_assoc] using this
  have hBD : ∀ b ∈ f1' ++ f2', w.heap.size ≤ b ∧ b < WF.heap.size := fun b hb => by
    simp only [List.mem_append] at hb
    rcases hb with hb | hb
    · have := hG2 b (by simp [hb]); omega
    · have := hG3 b (by simp [hb]); omega
  exact bodyPost_ret (v := .agg #[.int .i64 x.id.r, .int .i64 x.id.s, .int .i64 x.bal, .int .i64 x.ph, .int .i64 x.seq, .slice A1' n1' c1', .slice A2' n2' c2', .bool x.same]) (by simp [results, Try.results141, go_sem, r0, r1, r2, r3, r4, r5, r6, r7]) rfl ⟨A1', n1', c1', A2', n2', c2', f1', f2', rfl, hND, hBD, z1, z2, hBF⟩
theorem leas_sz (l : List Lea) (A : Option Addr) (n c : Nat) (left : Int) (w : World) (h : RowR leaR 8 w A n c l) (hb : leasB l) (hl0 : 0 ≤ left) (hl1 : left ≤ 4611686018427387904) :
    Calls Try.prog 94 #[.slice A n c, .int .i64 left] w fun e w' => e = .returned (.int .i64 (szR left (leasSz l))) ∧ Below w.heap.size w w' := by
  have HL := Lib.hid h.len.symm
  have hn : n ≤ 9223372036854775807 := by have h1 := HL.out; have h2 := hb.1; omega
  by_cases h0 : left - n < 0
  · go_enter Try.func94, Try.ntmps94
    go_wp2
    go_returns
    refine ⟨ret_int (szR_no ?_).symm, Below.refl _ _⟩
    have := HL.out; unfold leasSz; omega
  · go_enter Try.func94, Try.ntmps94
    go_wp2
    have E0 := Lib.hid (sumTo_zero leaSz l)
    go_loopw [1, 5] (fun u i wr => ∃ k : Nat, k ≤ n ∧ i = .int .i64 k ∧ u = .int .i64 (left - n - (sumTo leaSz l k : Nat)) ∧ 0 ≤ left - n - (sumTo leaSz l k : Nat) ∧ Below w.heap.size w wr) (fun _ i _ => n - (intOf i).toNat)
    case atStart => exact ⟨0, Nat.zero_le _, rfl, by rw [E0.out]; simp, by rw [E0.out]; omega, Below.refl _ _⟩
    case round =>
      obtain ⟨k, hk, rfl, rfl, hge, hbw⟩ := hrel
      by_cases hlt : k < n
      · obtain ⟨b, off, rfl⟩ := h.head (by omega)
        obtain ⟨bl, x, cs, hx, hR, hcell⟩ := h.elem_at hlt
        obtain ⟨A1, n1, c1, A2, n2, c2, rfl, h1, h2⟩ := hR
        have e0 := (hbw.cell (p := ⟨b, off + k * 8, none⟩) bl).trans (show w.cell? ⟨b, off + k * 8, none⟩ = some (.int .i64 x.id.r) from hcell 0 _ rfl)
        have e1 := (hbw.cell (p := ⟨b, off + k * 8 + 1, none⟩) bl).trans (show w.cell? ⟨b, off + k * 8 + 1, none⟩ = some (.int .i64 x.id.s) from hcell 1 _ rfl)
        have e2 := (hbw.cell (p := ⟨b, off + k * 8 + 2, none⟩) bl).trans (show w.cell? ⟨b, off + k * 8 + 2, none⟩ = some (.int .i64 x.bal) from hcell 2 _ rfl)
        have e3 := (hbw.cell (p := ⟨b, off + k * 8 + 3, none⟩) bl).trans (show w.cell? ⟨b, off + k * 8 + 3, none⟩ = some (.int .i64 x.ph) from hcell 3 _ rfl)
        have e4 := (hbw.cell (p := ⟨b, off + k * 8 + 4, none⟩) bl).trans (show w.cell? ⟨b, off + k * 8 + 4, none⟩ = some (.int .i64 x.seq) from hcell 4 _ rfl)
        have e5 := (hbw.cell (p := ⟨b, off + k * 8 + 5, none⟩) bl).trans (show w.cell? ⟨b, off + k * 8 + 5, none⟩ = some (.slice A1 n1 c1) from hcell 5 _ rfl)
        have e6 := (hbw.cell (p := ⟨b, off + k * 8 + 6, none⟩) bl).trans (show w.cell? ⟨b, off + k * 8 + 6, none⟩ = some (.slice A2 n2 c2) from hcell 6 _ rfl)
        have e7 := (hbw.cell (p := ⟨b, off + k * 8 + 7, none⟩) bl).trans (show w.cell? ⟨b, off + k * 8 + 7, none⟩ = some (.bool x.same) from hcell 7 _ rfl)
        clear hcell
        have hbx := bounds_el hb.2 hx
        obtain ⟨HSM, HSS⟩ := sum_el leaSz hx
        have HSU := Lib.hid HSS; clear HSS
        have HLE := Lib.hid (sumTo_le leaSz l (k + 1))
        by_cases hq : left - n - (sumTo leaSz l k : Nat) - ((leaSz x : Nat) : Int) < 0
        · have HR := Lib.hid (szR_no (left := left - n - (sumTo leaSz l k : Nat)) (s := leaSz x) (by omega))
          go_wp2_with fail
          refine (lea_sz x _ _ _ _ _ _ _ _ (h1.keep iddK hbw) (h2.keep hbw) hbx (by omega) (by omega)).mono ?_
          rintro e w1 ⟨rfl, hb1⟩
          rw [HR.out]
          go_wp2
          go_returns
          refine ⟨ret_int (szR_no ?_).symm, bthen hbw hb1⟩
          have := HL.out; have := HSU.out; have := HLE.out; unfold leasSz; omega
        · have HR := Lib.hid (szR_yes (left := left - n - (sumTo leaSz l k : Nat)) (s := leaSz x) (by omega))
          go_wp2_with fail
          refine (lea_sz x _ _ _ _ _ _ _ _ (h1.keep iddK hbw) (h2.keep hbw) hbx (by omega) (by omega)).mono ?_
          rintro e w1 ⟨rfl, hb1⟩
          rw [HR.out]
          go_wp2
          refine ⟨⟨k + 1, by omega, by go_num, ?_, ?_, bthen hbw hb1⟩, by simp [intOf]; omega⟩
          · rw [HSU.out]; congr 1; push_cast; omega
          · rw [HSU.out]; push_cast; omega
      · go_wp2
        go_returns
        refine ⟨ret_int ?_, hbw⟩
        have h3 := sumTo_all leaSz l k (by have := HL.out; omega)
        have := HL.out
        rw [szR_yes (by unfold leasSz; omega)]; unfold leasSz; push_cast; omega
set_option maxRecDepth 8000 in
set_option maxHeartbeats 1000000 in
theorem leas_eq (l : List Lea) (A : Option Addr) (n c : Nat) (A' : Option Addr) (n' c' : Nat) (w : World) (h : RowR leaR 8 w A n c l) (h' : RowR leaR 8 w A' n' c' l) (hs : leasSz l ≤ 16777216) :
    Calls Try.prog 102 #[.slice A n c, .slice A' n' c'] w fun e w' => e = .returned (.bool true) ∧ Below w.heap.size w w' := by
  obtain rfl : n = n' := h.len.trans h'.len.symm
  have hn : n ≤ 16777216 := by have h1 := h.len; unfold leasSz at hs; omega
  go_enter Try.func102, Try.ntmps102
  go_wp2
  go_loopw [5] (fun i wr => ∃ (k : Nat), k ≤ n ∧ i = .int .i64 k ∧ Below w.heap.size w wr) (fun i _ => n - (intOf i).toNat)
  case atStart => exact ⟨0, Nat.zero_le _, rfl, Below.refl _ _⟩
  case round =>
    obtain ⟨k, hk, rfl, hb⟩ := hrel
    by_cases hlt : k < n
    · obtain ⟨b, off, rfl⟩ := h.head (by omega)
      obtain ⟨bl, x, cs, hx, hR, hcell⟩ := h.elem_at hlt
      obtain ⟨A1, n1, c1, A2, n2, c2, rfl, h1, h2⟩ := hR
      have e0 := (hb.cell (p := ⟨b, off + k * 8, none⟩) bl).trans (show w.cell? ⟨b, off + k * 8, none⟩ = some (.int .i64 x.id.r) from hcell 0 _ rfl)
      have e1 := (hb.cell (p := ⟨b, off + k * 8 + 1, none⟩) bl).trans (show w.cell? ⟨b, off + k * 8 + 1, none⟩ = some (.int .i64 x.id.s) from hcell 1 _ rfl)
      have e2 := (hb.cell (p := ⟨b, off + k * 8 + 2, none⟩) bl).trans (show w.cell? ⟨b, off + k * 8 + 2, none⟩ = some (.int .i64 x.bal) from hcell 2 _ rfl)
      have e3 := (hb.cell (p := ⟨b, off + k * 8 + 3, none⟩) bl).trans (show w.cell? ⟨b, off + k * 8 + 3, none⟩ = some (.int .i64 x.ph) from hcell 3 _ rfl)
      have e4 := (hb.cell (p := ⟨b, off + k * 8 + 4, none⟩) bl).trans (show w.cell? ⟨b, off + k * 8 + 4, none⟩ = some (.int .i64 x.seq) from hcell 4 _ rfl)
      have e5 := (hb.cell (p := ⟨b, off + k * 8 + 5, none⟩) bl).trans (show w.cell? ⟨b, off + k * 8 + 5, none⟩ = some (.slice A1 n1 c1) from hcell 5 _ rfl)
      have e6 := (hb.cell (p := ⟨b, off + k * 8 + 6, none⟩) bl).trans (show w.cell? ⟨b, off + k * 8 + 6, none⟩ = some (.slice A2 n2 c2) from hcell 6 _ rfl)
      have e7 := (hb.cell (p := ⟨b, off + k * 8 + 7, none⟩) bl).trans (show w.cell? ⟨b, off + k * 8 + 7, none⟩ = some (.bool x.same) from hcell 7 _ rfl)
      clear hcell
      obtain ⟨b', off', rfl⟩ := h'.head (by omega)
      obtain ⟨b'l, x', cs', hx', hR', hcell'⟩ := h'.elem_at hlt
      obtain rfl : x' = x := Option.some.inj (hx'.symm.trans hx)
      obtain ⟨A1', n1', c1', A2', n2', c2', rfl, h1', h2'⟩ := hR'
      have e0' := (hb.cell (p := ⟨b', off' + k * 8, none⟩) b'l).trans (show w.cell? ⟨b', off' + k * 8, none⟩ = some (.int .i64 x'.id.r) from hcell' 0 _ rfl)
      have e1' := (hb.cell (p := ⟨b', off' + k * 8 + 1, none⟩) b'l).trans (show w.cell? ⟨b', off' + k * 8 + 1, none⟩ = some (.int .i64 x'.id.s) from hcell' 1 _ rfl)
      have e2' := (hb.cell (p := ⟨b', off' + k * 8 + 2, none⟩) b'l).trans (show w.cell? ⟨b', off' + k * 8 + 2, none⟩ = some (.int .i64 x'.bal) from hcell' 2 _ rfl)
      have e3' := (hb.cell (p := ⟨b', off' + k * 8 + 3, none⟩) b'l).trans (show w.cell? ⟨b', off' + k * 8 + 3, none⟩ = some (.int .i64 x'.ph) from hcell' 3 _ rfl)
      have e4' := (hb.cell (p := ⟨b', off' + k * 8 + 4, none⟩) b'l).trans (show w.cell? ⟨b', off' + k * 8 + 4, none⟩ = some (.int .i64 x'.seq) from hcell' 4 _ rfl)
      have e5' := (hb.cell (p := ⟨b', off' + k * 8 + 5, none⟩) b'l).trans (show w.cell? ⟨b', off' + k * 8 + 5, none⟩ = some (.slice A1' n1' c1') from hcell' 5 _ rfl)
      have e6' := (hb.cell (p := ⟨b', off' + k * 8 + 6, none⟩) b'l).trans (show w.cell? ⟨b', off' + k * 8 + 6, none⟩ = some (.slice A2' n2' c2') from hcell' 6 _ rfl)
      have e7' := (hb.cell (p := ⟨b', off' + k * 8 + 7, none⟩) b'l).trans (show w.cell? ⟨b', off' + k * 8 + 7, none⟩ = some (.bool x'.same) from hcell' 7 _ rfl)
      clear hcell' hx'
      have hek := leas_el hx
      have hn63 : (k : Int) < n := by omega
      go_wp2
      go_still_tail 8, (by kernel_rfl)
      change wpList _ _ _ _ _ wr.drew
      have hbd : Below w.heap.size w wr.drew := hb.drew
      generalize wr.drew = w2 at *
      go_wp2_with fail
      refine (lea_eq x' _ _ _ _ _ _ _ _ _ _ _ _ _ (h1.keep iddK hbd) (h2.keep hbd) (h1'.keep iddK hbd) (h2'.keep hbd) (by omega)).mono ?_
      rintro e w3 ⟨rfl, hb3⟩
      go_wp2
      exact ⟨⟨k + 1, by omega, by go_num, bthen hbd hb3⟩, by simp [intOf]; omega⟩
    · go_wp2
      go_returns
      exact ⟨rfl, hb⟩
theorem infoLead : (Try.prog.info? 170).map (fun i => (i.zero, i.size, i.bytes)) = some (some (.agg #[.int .i64 0, .int .i64 0, .int .i64 0, .int .i64 0, .int .i64 0, .slice none 0 0, .slice none 0 0, .bool false]), 8, 96) := by kernel_rfl
set_option maxRecDepth 8000 in
set_option maxHeartbeats 2000000 in
theorem leas_to (l : List Lea) (A : Option Addr) (n c : Nat) (w : World) (h : RowR leaR 8 w A n c l) (hs : leasSz l ≤ 1048576) :
    Calls Try.prog 98 #[.slice A n c] w fun e w' => ∃ A' n' c', e = .returned (.slice A' n' c') ∧ (∃ fp, fp.Nodup ∧ (∀ b ∈ fp, w.heap.size ≤ b ∧ b < w'.heap.size) ∧ RowO leaF 170 8 fp w' A' n' c' l) ∧ Below w.heap.size w w' := by
  have HL := Lib.hid h.len.symm
  have hn : n ≤ 1048576 := by have h1 := HL.out; unfold leasSz at hs; omega
  go_enter Try.func98, Try.ntmps98
  go_wp2_with (refine wpList_mk (P := Try.prog) _ rfl _ _ 65 rfl w.heap.size 170 _ 8 96 Try.underlying65 infoLead _ _ _ _ n rfl rfl rfl rfl (by omega) (by unfold maxLen; omega) (Nat.le_refl _) ?_; intro w1 hown1 hg1 hb1)
  clear hg1
  go_loopw [4] (fun i wr => ∃ (k : Nat) (rest : List Value) (css : List (List Value)) (fps : List (List Nat)), k ≤ n ∧ i = .int .i64 k ∧ wr.ownsRow w.heap.size 170 8 (.slice (some ⟨w.heap.size, 0, none⟩) n n) n (css.flatten ++ rest) ∧ Els leaF wr css fps (l.take k) ∧ fps.flatten.Nodup ∧ (∀ b ∈ fps.flatten, w.heap.size + 1 ≤ b ∧ b < wr.heap.size) ∧ w.heap.size < wr.heap.size ∧ Below w.heap.size w wr) (fun i _ => n - (intOf i).toNat)
  case atStart => exact ⟨0, _, [], [], Nat.zero_le _, rfl, by simpa using hown1, Els.nil, List.nodup_nil, (fun b hb => by cases hb), (own_lo hown1 w.heap.size (by simp [blkL])).2, hb1⟩
  case round =>
    obtain ⟨k, rest, css, fps, hk, rfl, hown, hE, hN, hF, hgw, hb⟩ := hrel
    have hlen : css.flatten.length = k * 8 := by rw [hE.flat leaK, List.length_take]; have := HL.out; rw [Nat.min_eq_left (by omega)]
    have hrl : rest.length = n * 8 - k * 8 := by have h1 := hown.1; rw [List.length_append] at h1; omega
    by_cases hlt : k < n
    · obtain ⟨b, off, rfl⟩ := h.head (by omega)
      obtain ⟨bl, x, cs, hx, hR, hcell⟩ := h.elem_at hlt
      obtain ⟨A1, n1, c1, A2, n2, c2, rfl, h1, h2⟩ := hR
      have e0 := (hb.cell (p := ⟨b, off + k * 8, none⟩) bl).trans (show w.cell? ⟨b, off + k * 8, none⟩ = some (.int .i64 x.id.r) from hcell 0 _ rfl)
      have e1 := (hb.cell (p := ⟨b, off + k * 8 + 1, none⟩) bl).trans (show w.cell? ⟨b, off + k * 8 + 1, none⟩ = some (.int .i64 x.id.s) from hcell 1 _ rfl)
      have e2 := (hb.cell (p := ⟨b, off + k * 8 + 2, none⟩) bl).trans (show w.cell? ⟨b, off + k * 8 + 2, none⟩ = some (.int .i64 x.bal) from hcell 2 _ rfl)
      have e3 := (hb.cell (p := ⟨b, off + k * 8 + 3, none⟩) bl).trans (show w.cell? ⟨b, off + k * 8 + 3, none⟩ = some (.int .i64 x.ph) from hcell 3 _ rfl)
      have e4 := (hb.cell (p := ⟨b, off + k * 8 + 4, none⟩) bl).trans (show w.cell? ⟨b, off + k * 8 + 4, none⟩ = some (.int .i64 x.seq) from hcell 4 _ rfl)
      have e5 := (hb.cell (p := ⟨b, off + k * 8 + 5, none⟩) bl).trans (show w.cell? ⟨b, off + k * 8 + 5, none⟩ = some (.slice A1 n1 c1) from hcell 5 _ rfl)
      have e6 := (hb.cell (p := ⟨b, off + k * 8 + 6, none⟩) bl).trans (show w.cell? ⟨b, off + k * 8 + 6, none⟩ = some (.slice A2 n2 c2) from hcell 6 _ rfl)
      have e7 := (hb.cell (p := ⟨b, off + k * 8 + 7, none⟩) bl).trans (show w.cell? ⟨b, off + k * 8 + 7, none⟩ = some (.bool x.same) from hcell 7 _ rfl)
      clear hcell
      have hek := leas_el hx
      go_wp2_with fail
      refine (lea_to x _ _ _ _ _ _ _ (h1.keep iddK hb) (h2.keep hb) (by omega)).mono ?_
      rintro e w2 ⟨B1, m1, d1, B2, m2, d2, g1, g2, rfl, hN2, hF2, o1, o2, hb2⟩
      unfold leaV
      have hown2 := own_ch hown (Ch.of_below (S := fun _ => False) hb2) (fun _ _ h => h)
      have hz2 := hb2.size
      obtain ⟨o_0, ho_0⟩ := own_cell hown2 (j := k * 8) (by omega)
      have hf_0 := hown2.frozenAt (k * 8)
      obtain ⟨o_1, ho_1⟩ := own_cell hown2 (j := k * 8 + 1) (by omega)
      have hf_1 := hown2.frozenAt (k * 8 + 1)
      obtain ⟨o_2, ho_2⟩ := own_cell hown2 (j := k * 8 + 2) (by omega)
      have hf_2 := hown2.frozenAt (k * 8 + 2)
      obtain ⟨o_3, ho_3⟩ := own_cell hown2 (j := k * 8 + 3) (by omega)
      have hf_3 := hown2.frozenAt (k * 8 + 3)
      obtain ⟨o_4, ho_4⟩ := own_cell hown2 (j := k * 8 + 4) (by omega)
      have hf_4 := hown2.frozenAt (k * 8 + 4)
      obtain ⟨o_5, ho_5⟩ := own_cell hown2 (j := k * 8 + 5) (by omega)
      have hf_5 := hown2.frozenAt (k * 8 + 5)
      obtain ⟨o_6, ho_6⟩ := own_cell hown2 (j := k * 8 + 6) (by omega)
      have hf_6 := hown2.frozenAt (k * 8 + 6)
      obtain ⟨o_7, ho_7⟩ := own_cell hown2 (j := k * 8 + 7) (by omega)
      have hf_7 := hown2.frozenAt (k * 8 + 7)
      go_wp2
      obtain ⟨w3, hw3⟩ : ∃ W, W = ((((((((w2.setCell ⟨w.heap.size, k * 8, none⟩ (.int .i64 x.id.r)).setCell ⟨w.heap.size, k * 8 + 1, none⟩ (.int .i64 x.id.s)).setCell ⟨w.heap.size, k * 8 + 2, none⟩ (.int .i64 x.bal)).setCell ⟨w.heap.size, k * 8 + 3, none⟩ (.int .i64 x.ph)).setCell ⟨w.heap.size, k * 8 + 4, none⟩ (.int .i64 x.seq)).setCell ⟨w.heap.size, k * 8 + 5, none⟩ (.slice B1 m1 d1)).setCell ⟨w.heap.size, k * 8 + 6, none⟩ (.slice B2 m2 d2)).setCell ⟨w.heap.size, k * 8 + 7, none⟩ (.bool x.same)) := ⟨_, rfl⟩
      have hw4 : w3 = setsW w2 w.heap.size (k * 8) [.int .i64 x.id.r, .int .i64 x.id.s, .int .i64 x.bal, .int .i64 x.ph, .int .i64 x.seq, .slice B1 m1 d1, .slice B2 m2 d2, .bool x.same] := hw3
      rw [← hw3]
      clear hw3 ho_0 hf_0 ho_1 hf_1 ho_2 hf_2 ho_3 hf_3 ho_4 hf_4 ho_5 hf_5 ho_6 hf_6 ho_7 hf_7
      have q := own_setsW [.int .i64 x.id.r, .int .i64 x.id.s, .int .i64 x.bal, .int .i64 x.ph, .int .i64 x.seq, .slice B1 m1 d1, .slice B2 m2 d2, .bool x.same] (k * 8) w2 _ hown2
      have hC : Ch (fun b => b = w.heap.size) w2 w3 := by rw [hw4]; exact ch_setsW _ _ _
      rw [← hw4] at q
      have hrd : rest = rest.take 8 ++ rest.drop 8 := (List.take_append_drop _ _).symm
      have htk : (rest.take 8).length = 8 := by rw [List.length_take]; omega
      rw [hrd, setsL_at hlen (by rw [htk]; rfl)] at q
      clear hw4 hrd htk
      have q2 : w3.ownsRow w.heap.size 170 8 (.slice (some ⟨w.heap.size, 0, none⟩) n n) n ((css ++ [([.int .i64 x.id.r, .int .i64 x.id.s, .int .i64 x.bal, .int .i64 x.ph, .int .i64 x.seq, .slice B1 m1 d1, .slice B2 m2 d2, .bool x.same] : List Value)]).flatten ++ rest.drop 8) := by rw [flat_snoc, List.append_assoc]; exact q
      have hE2 := (hE.keep leaK hb2).ch leaK hC (fun b hb e => by have := hF b hb; omega)
      have z1 := o1.ch iddK hC (fun b hb e => by have := hF2 b (by simp [hb]); omega)
      have z2 := o2.ch hC (fun b hb e => by have := hF2 b (by simp [hb]); omega)
      have hE3 := hE2.app (Els.one (⟨B1, m1, d1, B2, m2, d2, g1, g2, rfl, rfl, z1, z2⟩ : leaF (g1 ++ g2) w3 [.int .i64 x.id.r, .int .i64 x.id.s, .int .i64 x.bal, .int .i64 x.ph, .int .i64 x.seq, .slice B1 m1 d1, .slice B2 m2 d2, .bool x.same] x))
      rw [← take_more hx] at hE3
      have hfl : (fps ++ [g1 ++ g2]).flatten = fps.flatten ++ (g1 ++ g2) := by simp
      have hz3 := hC.size
      refine ⟨⟨k + 1, _, _, _, by omega, by go_num, q2, hE3, ?_, ?_, by omega, (bthen hb hb2).trans (hC.below (fun b hb => by omega) (by omega))⟩, by simp [intOf]; omega⟩
      · rw [hfl]; exact nodup_new (m := wr.heap.size) hN hN2 (fun b hb => (hF b hb).2) (fun b hb => (hF2 b hb).1)
      · rw [hfl]; intro b hb
        rcases List.mem_append.1 hb with hb | hb
        · have := hF b hb; omega
        · have := hF2 b hb; omega
    · go_wp2
      go_returns
      have hkn : k = n := by omega
      subst hkn
      have hr0 : rest = [] := List.eq_nil_of_length_eq_zero (by omega)
      subst hr0
      rw [List.append_nil] at hown
      rw [List.take_of_length_le (by have := HL.out; omega)] at hE
      refine ⟨_, _, _, rfl, ⟨blkL (some ⟨w.heap.size, 0, none⟩) ++ fps.flatten, ?_, ?_, RowO.intro (own_up hown (Nat.zero_le _)) HL.out.symm hE⟩, hb⟩
      · exact List.nodup_cons.2 ⟨fun hm => by have := hF _ hm; simp at this; omega, hN⟩
      · intro b hb2
        rcases List.mem_append.1 hb2 with h1 | h1
        · have : b = w.heap.size := by simpa [blkL] using h1
          omega
        · have := hF b h1; omega
set_option maxRecDepth 8000 in
set_option maxHeartbeats 4000000 in
theorem leas_mark (l : List Lea) (fp : List Nat) (A : Option Addr) (n c : Nat) (k : Int) (w : World) (h : RowO leaF 170 8 fp w A n c l) (hN : fp.Nodup) (hs : leasSz l ≤ 16777216) (hk0 : 0 < k) (hk1 : k ≤ 144115188075855872) :
    Calls Try.prog 106 #[.slice A n c, .int .i64 k] w fun e w' => e = .returned (.int .i64 (k + (leasCnt l : Nat))) ∧ RowO leaF 170 8 fp w' A n c (leasMk k l) ∧ Ch (fun b => b ∈ fp) w w' := by
  obtain ⟨css0, fps0, rfl, hown0, hl0, hE0⟩ := h.ex
  have HL := Lib.hid hl0; clear hl0
  have hn : n ≤ 16777216 := by have h1 := HL.out; unfold leasSz at hs; omega
  have hcs := leas_cnt l
  go_enter Try.func106, Try.ntmps106
  go_wp2
  go_loopw [1, 5] (fun u i wr => ∃ (q : Nat) (css1 css2 : List (List Value)) (fps1 fps2 : List (List Nat)), q ≤ n ∧ i = .int .i64 q ∧ u = .int .i64 (k + ((sumTo leaCnt l q : Nat) : Int)) ∧ fps0 = fps1 ++ fps2 ∧ wr.ownsRow 0 170 8 (.slice A n c) n (css1.flatten ++ css2.flatten) ∧ Els leaF wr css1 fps1 (leasMk k (l.take q)) ∧ Els leaF wr css2 fps2 (l.drop q) ∧ Ch (fun b => b ∈ blkL A ++ fps0.flatten) w wr) (fun _ i _ => n - (intOf i).toNat)
  case atStart => exact ⟨0, [], css0, [], fps0, Nat.zero_le _, rfl, by rw [sumTo_zero]; simp, rfl, by simpa using hown0, Els.nil, by simpa using hE0, Ch.refl _⟩
  case round =>
    clear hown0 hE0 h
    obtain ⟨q, css1, css2, fps1, fps2, hq, rfl, rfl, rfl, ho, hE1, hE2, hC⟩ := hrel
    by_cases hlt : q < n
    · obtain ⟨x, hx⟩ : ∃ x, l[q]? = some x := ⟨_, List.getElem?_eq_getElem (by have := HL.out; omega)⟩
      rw [drop_one hx] at hE2
      obtain ⟨cs, css2, f, fps2, rfl, rfl, hF, hE2t⟩ := hE2.cons
      clear hE2
      obtain ⟨A1, n1, c1, A2, n2, c2, f1, f2, rfl, rfl, o1, o2⟩ := hF
      obtain ⟨g, hA, hg0⟩ : ∃ g, A = some ⟨g, 0, none⟩ ∧ g < wr.heap.size := by rcases own_form ho with ⟨_, h0, _⟩ | ⟨g, h1, _, h2⟩ <;> first | omega | exact ⟨g, h1, h2⟩
      subst hA
      have hP : css1.flatten.length = q * 8 := by rw [hE1.flat leaK, leasMk_len, List.length_take]; have := HL.out; rw [Nat.min_eq_left (by omega)]
      rw [List.flatten_cons] at ho
      unfold leaL at ho
      have hek := leas_el hx
      unfold leaSz at hek
      obtain ⟨HSM, HSS⟩ := sum_el leaCnt hx
      have HSU := Lib.hid HSS
      have hle := sumTo_le leaCnt l (q + 1)
      unfold leasCnt at hcs
      have hcb : sumTo leaCnt l q + leaCnt x ≤ 100663296 := by omega
      clear HSM HSS hle
      have hcx : leaCnt x = iddCnt x.id + 1 + 1 + 1 + iddsCnt x.deps + intsCnt x.fr + 1 := rfl
      rw [hcx] at hcb
      have hcx_id : iddCnt x.id = 1 + 1 := rfl
      have hN' := hN
      simp only [blkL, List.flatten_append, List.flatten_cons, List.nodup_append, List.nodup_cons, List.mem_append, List.mem_cons, List.not_mem_nil, or_false, not_or, List.append_assoc, List.cons_append, List.nil_append] at hN'
      have hg1 : ∀ b ∈ f1, ¬ b = g := fun b hb e => by subst e; grind
      have hg2 : ∀ b ∈ f2, ¬ b = g := fun b hb e => by subst e; grind
      have hd12 : ∀ b ∈ f1, ¬ b ∈ f2 := fun b h1 h2 => by grind
      have hd21 : ∀ b ∈ f2, ¬ b ∈ f1 := fun b h1 h2 => by grind
      have hx1 : ∀ b ∈ fps1.flatten, ¬ (b = g ∨ b ∈ f1 ++ f2) := fun b h1 h2 => by (try simp only [List.mem_append] at h2); grind
      have hx2 : ∀ b ∈ fps2.flatten, ¬ (b = g ∨ b ∈ f1 ++ f2) := fun b h1 h2 => by (try simp only [List.mem_append] at h2); grind
      clear hN'
      have hT : Ch (fun b => b = g ∨ b ∈ f1 ++ f2) wr wr := Ch.refl _
      have e0 : wr.cell? ⟨g, q * 8, none⟩ = some (.int .i64 x.id.r) := own_mid ho hP (r := 0) rfl
      have y0 := ho.frozenAt (q * 8)
      have e1 : wr.cell? ⟨g, q * 8 + 1, none⟩ = some (.int .i64 x.id.s) := own_mid ho hP (r := 1) rfl
      have y1 := ho.frozenAt (q * 8 + 1)
      have e2 : wr.cell? ⟨g, q * 8 + 2, none⟩ = some (.int .i64 x.bal) := own_mid ho hP (r := 2) rfl
      have y2 := ho.frozenAt (q * 8 + 2)
      have e3 : wr.cell? ⟨g, q * 8 + 3, none⟩ = some (.int .i64 x.ph) := own_mid ho hP (r := 3) rfl
      have y3 := ho.frozenAt (q * 8 + 3)
      have e4 : wr.cell? ⟨g, q * 8 + 4, none⟩ = some (.int .i64 x.seq) := own_mid ho hP (r := 4) rfl
      have y4 := ho.frozenAt (q * 8 + 4)
      have e5 : wr.cell? ⟨g, q * 8 + 5, none⟩ = some (.slice A1 n1 c1) := own_mid ho hP (r := 5) rfl
      go_wp2_with fail
      obtain ⟨v1, hv1⟩ : ∃ W, W = (((((wr.setCell ⟨g, q * 8, none⟩ (.int .i64 (k + ((sumTo leaCnt l q : Nat) : Int)))).setCell ⟨g, q * 8 + 1, none⟩ (.int .i64 (k + ((sumTo leaCnt l q : Nat) : Int) + 1))).setCell ⟨g, q * 8 + 2, none⟩ (.int .i64 (k + ((sumTo leaCnt l q : Nat) : Int) + 1 + 1))).setCell ⟨g, q * 8 + 3, none⟩ (.int .i64 (k + ((sumTo leaCnt l q : Nat) : Int) + 1 + 1 + 1))).setCell ⟨g, q * 8 + 4, none⟩ (.int .i64 (k + ((sumTo leaCnt l q : Nat) : Int) + 1 + 1 + 1 + 1))) := ⟨_, rfl⟩
      have hs1 : v1 = setsW wr g (q * 8 + 0) ([.int .i64 (k + ((sumTo leaCnt l q : Nat) : Int)), .int .i64 (k + ((sumTo leaCnt l q : Nat) : Int) + 1), .int .i64 (k + ((sumTo leaCnt l q : Nat) : Int) + 1 + 1), .int .i64 (k + ((sumTo leaCnt l q : Nat) : Int) + 1 + 1 + 1), .int .i64 (k + ((sumTo leaCnt l q : Nat) : Int) + 1 + 1 + 1 + 1)] : List Value) := hv1
      rw [← hv1]
      clear hv1
      have hc1 : Ch (fun b => b = g) wr v1 := by rw [hs1]; exact ch_setsW _ _ _
      have ho1 : v1.ownsRow 0 170 8 (.slice (some ⟨g, 0, none⟩) n c) n (css1.flatten ++ (([(.int .i64 (k + ((sumTo leaCnt l q : Nat) : Int))), (.int .i64 (k + ((sumTo leaCnt l q : Nat) : Int) + 1)), (.int .i64 (k + ((sumTo leaCnt l q : Nat) : Int) + 1 + 1)), (.int .i64 (k + ((sumTo leaCnt l q : Nat) : Int) + 1 + 1 + 1)), (.int .i64 (k + ((sumTo leaCnt l q : Nat) : Int) + 1 + 1 + 1 + 1)), (.slice A1 n1 c1), (.slice A2 n2 c2), (.bool x.same)] : List Value) ++ css2.flatten)) := by
        have hh := own_setsW ([.int .i64 (k + ((sumTo leaCnt l q : Nat) : Int)), .int .i64 (k + ((sumTo leaCnt l q : Nat) : Int) + 1), .int .i64 (k + ((sumTo leaCnt l q : Nat) : Int) + 1 + 1), .int .i64 (k + ((sumTo leaCnt l q : Nat) : Int) + 1 + 1 + 1), .int .i64 (k + ((sumTo leaCnt l q : Nat) : Int) + 1 + 1 + 1 + 1)] : List Value) (q * 8 + 0) wr _ ho
        rw [setsL_in hP (r := 0) (vs := ([.int .i64 (k + ((sumTo leaCnt l q : Nat) : Int)), .int .i64 (k + ((sumTo leaCnt l q : Nat) : Int) + 1), .int .i64 (k + ((sumTo leaCnt l q : Nat) : Int) + 1 + 1), .int .i64 (k + ((sumTo leaCnt l q : Nat) : Int) + 1 + 1 + 1), .int .i64 (k + ((sumTo leaCnt l q : Nat) : Int) + 1 + 1 + 1 + 1)] : List Value)) (by simp)] at hh
        rw [hs1]; exact hh
      clear e0 y0
      clear e1 y1
      clear e2 y2
      clear e3 y3
      clear e4 y4
      clear e5
      clear hs1 ho
      have hT1 := hT.trans (hc1.mono (fun b hb => .inl hb)); clear hT; have hT := hT1; clear hT1
      have hgz1 : g < v1.heap.size := Nat.lt_of_lt_of_le hg0 hc1.size; clear hg0; have hg0 := hgz1; clear hgz1
      have o1' := o1.ch iddK hc1 hg1; clear o1; have o1 := o1'; clear o1'
      have o2' := o2.ch hc1 hg2; clear o2; have o2 := o2'; clear o2'
      clear hc1
      refine (idds_mark x.deps f1 _ _ _ _ _ o1 (by grind) (by omega) (by omega) (by omega)).mono ?_
      rintro e v2 ⟨rfl, o1', hc2⟩
      clear o1; have o1 := o1'; clear o1'
      have ho2 := own_ch ho1 hc2 (fun b hb h2 => hg1 b h2 (by simpa [Value.ownBlock, eq_comm] using hb))
      clear ho1
      have hT2 := hT.trans (hc2.mono (fun b hb => .inr (by simp [hb]))); clear hT; have hT := hT2; clear hT2
      have hgz2 : g < v2.heap.size := Nat.lt_of_lt_of_le hg0 hc2.size; clear hg0; have hg0 := hgz2; clear hgz2
      have o2' := o2.ch hc2 hd21; clear o2; have o2 := o2'; clear o2'
      clear hc2
      have e6 : v2.cell? ⟨g, q * 8 + 6, none⟩ = some (.slice A2 n2 c2) := own_mid ho2 hP (r := 6) rfl
      go_wp2_with fail
      refine (intsR_mark x.fr f2 _ _ _ _ _ o2 (by omega) (by omega) (by omega)).mono ?_
      rintro e v3 ⟨rfl, o2', hc3⟩
      clear e6
      clear o2; have o2 := o2'; clear o2'
      have ho3 := own_ch ho2 hc3 (fun b hb h2 => hg2 b h2 (by simpa [Value.ownBlock, eq_comm] using hb))
      clear ho2
      have hT3 := hT.trans (hc3.mono (fun b hb => .inr (by simp [hb]))); clear hT; have hT := hT3; clear hT3
      have hgz3 : g < v3.heap.size := Nat.lt_of_lt_of_le hg0 hc3.size; clear hg0; have hg0 := hgz3; clear hgz3
      have o1' := o1.ch iddK hc3 hd12; clear o1; have o1 := o1'; clear o1'
      clear hc3
      have e7 : v3.cell? ⟨g, q * 8 + 7, none⟩ = some (.bool x.same) := own_mid ho3 hP (r := 7) rfl
      have y7 := ho3.frozenAt (q * 8 + 7)
      go_wp2
      obtain ⟨v4, hv4⟩ : ∃ W, W = (v3.setCell ⟨g, q * 8 + 7, none⟩ (.bool ((k + ((sumTo leaCnt l q : Nat) : Int) + 1 + 1 + 1 + 1 + 1 + ((iddsCnt x.deps : Nat) : Int) + ((intsCnt x.fr : Nat) : Int)) % 3 == 0))) := ⟨_, rfl⟩
      have hs4 : v4 = setsW v3 g (q * 8 + 7) ([.bool ((k + ((sumTo leaCnt l q : Nat) : Int) + 1 + 1 + 1 + 1 + 1 + ((iddsCnt x.deps : Nat) : Int) + ((intsCnt x.fr : Nat) : Int)) % 3 == 0)] : List Value) := hv4
      rw [← hv4]
      clear hv4
      have hc4 : Ch (fun b => b = g) v3 v4 := by rw [hs4]; exact ch_setsW _ _ _
      have ho4 : v4.ownsRow 0 170 8 (.slice (some ⟨g, 0, none⟩) n c) n (css1.flatten ++ (([(.int .i64 (k + ((sumTo leaCnt l q : Nat) : Int))), (.int .i64 (k + ((sumTo leaCnt l q : Nat) : Int) + 1)), (.int .i64 (k + ((sumTo leaCnt l q : Nat) : Int) + 1 + 1)), (.int .i64 (k + ((sumTo leaCnt l q : Nat) : Int) + 1 + 1 + 1)), (.int .i64 (k + ((sumTo leaCnt l q : Nat) : Int) + 1 + 1 + 1 + 1)), (.slice A1 n1 c1), (.slice A2 n2 c2), (.bool ((k + ((sumTo leaCnt l q : Nat) : Int) + 1 + 1 + 1 + 1 + 1 + ((iddsCnt x.deps : Nat) : Int) + ((intsCnt x.fr : Nat) : Int)) % 3 == 0))] : List Value) ++ css2.flatten)) := by
        have hh := own_setsW ([.bool ((k + ((sumTo leaCnt l q : Nat) : Int) + 1 + 1 + 1 + 1 + 1 + ((iddsCnt x.deps : Nat) : Int) + ((intsCnt x.fr : Nat) : Int)) % 3 == 0)] : List Value) (q * 8 + 7) v3 _ ho3
        rw [setsL_in hP (r := 7) (vs := ([.bool ((k + ((sumTo leaCnt l q : Nat) : Int) + 1 + 1 + 1 + 1 + 1 + ((iddsCnt x.deps : Nat) : Int) + ((intsCnt x.fr : Nat) : Int)) % 3 == 0)] : List Value)) (by simp)] at hh
        rw [hs4]; exact hh
      clear e7 y7
      clear hs4 ho3
      have hT4 := hT.trans (hc4.mono (fun b hb => .inl hb)); clear hT; have hT := hT4; clear hT4
      have hgz4 : g < v4.heap.size := Nat.lt_of_lt_of_le hg0 hc4.size; clear hg0; have hg0 := hgz4; clear hgz4
      have o1' := o1.ch iddK hc4 hg1; clear o1; have o1 := o1'; clear o1'
      have o2' := o2.ch hc4 hg2; clear o2; have o2 := o2'; clear o2'
      clear hc4
      have hE1' := hE1.ch leaK hT hx1
      have hE2' := hE2t.ch leaK hT hx2
      have hE3 := hE1'.app (Els.one (⟨A1, n1, c1, A2, n2, c2, f1, f2, rfl, rfl, o1, o2⟩ : leaF (f1 ++ f2) v4 ([(.int .i64 (k + ((sumTo leaCnt l q : Nat) : Int))), (.int .i64 (k + ((sumTo leaCnt l q : Nat) : Int) + 1)), (.int .i64 (k + ((sumTo leaCnt l q : Nat) : Int) + 1 + 1)), (.int .i64 (k + ((sumTo leaCnt l q : Nat) : Int) + 1 + 1 + 1)), (.int .i64 (k + ((sumTo leaCnt l q : Nat) : Int) + 1 + 1 + 1 + 1)), (.slice A1 n1 c1), (.slice A2 n2 c2), (.bool ((k + ((sumTo leaCnt l q : Nat) : Int) + 1 + 1 + 1 + 1 + 1 + ((iddsCnt x.deps : Nat) : Int) + ((intsCnt x.fr : Nat) : Int)) % 3 == 0))] : List Value) (leaMk (k + ((sumTo leaCnt l q : Nat) : Int)) x)))
      have hsm := leasMk_snoc k x (l.take q)
      rw [← take_more hx] at hsm
      have hct : ((leasCnt (l.take q) : Nat) : Int) = ((sumTo leaCnt l q : Nat) : Int) := rfl
      rw [hct] at hsm
      rw [← hsm] at hE3
      refine ⟨⟨q + 1, css1 ++ [([(.int .i64 (k + ((sumTo leaCnt l q : Nat) : Int))), (.int .i64 (k + ((sumTo leaCnt l q : Nat) : Int) + 1)), (.int .i64 (k + ((sumTo leaCnt l q : Nat) : Int) + 1 + 1)), (.int .i64 (k + ((sumTo leaCnt l q : Nat) : Int) + 1 + 1 + 1)), (.int .i64 (k + ((sumTo leaCnt l q : Nat) : Int) + 1 + 1 + 1 + 1)), (.slice A1 n1 c1), (.slice A2 n2 c2), (.bool ((k + ((sumTo leaCnt l q : Nat) : Int) + 1 + 1 + 1 + 1 + 1 + ((iddsCnt x.deps : Nat) : Int) + ((intsCnt x.fr : Nat) : Int)) % 3 == 0))] : List Value)], css2, fps1 ++ [f1 ++ f2], fps2, by omega, by go_num, ?_, by simp, ?_, hE3, hE2', hC.trans (hT.mono (fun b hb => ?_))⟩, by simp [intOf]; omega⟩
      · rw [HSU.out]; congr 1; rw [hcx]; push_cast; omega
      · rw [flat_snoc, List.append_assoc]; exact ho4
      · simp only [blkL, List.flatten_append, List.flatten_cons, List.mem_append, List.mem_cons, List.not_mem_nil, or_false] at hb ⊢
        grind
    · go_wp2
      go_returns
      have hqn : q = n := by omega
      subst hqn
      have hql : l.length ≤ q := by have := HL.out; omega
      rw [List.take_of_length_le hql] at hE1
      rw [List.drop_eq_nil_of_le hql] at hE2
      obtain ⟨rfl, rfl⟩ := hE2.nils
      refine ⟨ret_int ?_, ?_, hC⟩
      · rw [sumTo_all _ _ _ hql]; rfl
      · rw [List.append_nil]; exact RowO.intro (by simpa using ho) (by rw [leasMk_len]; exact HL.out) hE1
set_option maxRecDepth 8000 in
set_option maxHeartbeats 4000000 in
theorem leas_held (l : List Lea) (A : Option Addr) (n c : Nat) (k : Int) (w : World) (h : RowR leaR 8 w A n c (leasMk k l)) (hs : leasSz l ≤ 16777216) (hk0 : 0 < k) (hk1 : k ≤ 144115188075855872) :
    Calls Try.prog 108 #[.slice A n c, .int .i64 k] w fun e w' => e = .returned (.int .i64 (k + (leasCnt l : Nat))) ∧ Below w.heap.size w w' := by
  have HL := Lib.hid (show n = l.length by rw [h.len, leasMk_len])
  have hn : n ≤ 16777216 := by have h1 := HL.out; unfold leasSz at hs; omega
  have hcs := leas_cnt l
  go_enter Try.func108, Try.ntmps108
  go_wp2
  go_loopw [1, 5] (fun u i wr => ∃ (q : Nat), q ≤ n ∧ i = .int .i64 q ∧ u = .int .i64 (k + ((sumTo leaCnt l q : Nat) : Int)) ∧ Below w.heap.size w wr) (fun _ i _ => n - (intOf i).toNat)
  case atStart => exact ⟨0, Nat.zero_le _, rfl, by rw [sumTo_zero]; simp, Below.refl _ _⟩
  case round =>
    obtain ⟨q, hq, rfl, rfl, hb⟩ := hrel
    by_cases hlt : q < n
    · obtain ⟨x, hx⟩ : ∃ x, l[q]? = some x := ⟨_, List.getElem?_eq_getElem (by have := HL.out; omega)⟩
      obtain ⟨b, off, rfl⟩ := h.head (by omega)
      obtain ⟨bl, x', cs, hx', hR, hcell⟩ := h.elem_at hlt
      obtain rfl : x' = leaMk (k + ((sumTo leaCnt l q : Nat) : Int)) x := Option.some.inj (hx'.symm.trans (leasMk_at k l q x hx))
      obtain ⟨A1, n1, c1, A2, n2, c2, rfl, h1, h2⟩ := hR
      have k0 : w.cell? ⟨b, off + q * 8, none⟩ = some (.int .i64 (k + ((sumTo leaCnt l q : Nat) : Int))) := hcell 0 _ rfl
      have k1 : w.cell? ⟨b, off + q * 8 + 1, none⟩ = some (.int .i64 (k + ((sumTo leaCnt l q : Nat) : Int) + 1)) := hcell 1 _ rfl
      have k2 : w.cell? ⟨b, off + q * 8 + 2, none⟩ = some (.int .i64 (k + ((sumTo leaCnt l q : Nat) : Int) + 1 + 1)) := hcell 2 _ rfl
      have k3 : w.cell? ⟨b, off + q * 8 + 3, none⟩ = some (.int .i64 (k + ((sumTo leaCnt l q : Nat) : Int) + 1 + 1 + 1)) := hcell 3 _ rfl
      have k4 : w.cell? ⟨b, off + q * 8 + 4, none⟩ = some (.int .i64 (k + ((sumTo leaCnt l q : Nat) : Int) + 1 + 1 + 1 + 1)) := hcell 4 _ rfl
      have k5 : w.cell? ⟨b, off + q * 8 + 5, none⟩ = some (.slice A1 n1 c1) := hcell 5 _ rfl
      have k6 : w.cell? ⟨b, off + q * 8 + 6, none⟩ = some (.slice A2 n2 c2) := hcell 6 _ rfl
      have k7 : w.cell? ⟨b, off + q * 8 + 7, none⟩ = some (.bool ((k + ((sumTo leaCnt l q : Nat) : Int) + 1 + 1 + 1 + 1 + 1 + ((iddsCnt x.deps : Nat) : Int) + ((intsCnt x.fr : Nat) : Int)) % 3 == 0)) := hcell 7 _ rfl
      clear hcell hx'
      have hek := leas_el hx
      unfold leaSz at hek
      obtain ⟨HSM, HSS⟩ := sum_el leaCnt hx
      have HSU := Lib.hid HSS
      have hle := sumTo_le leaCnt l (q + 1)
      unfold leasCnt at hcs
      have hcb : sumTo leaCnt l q + leaCnt x ≤ 100663296 := by omega
      clear HSM HSS hle
      have hcx : leaCnt x = iddCnt x.id + 1 + 1 + 1 + iddsCnt x.deps + intsCnt x.fr + 1 := rfl
      rw [hcx] at hcb
      have hcx_id : iddCnt x.id = 1 + 1 := rfl
      have e0 := (hb.cell (p := ⟨b, off + q * 8, none⟩) bl).trans k0
      have e1 := (hb.cell (p := ⟨b, off + q * 8 + 1, none⟩) bl).trans k1
      have e2 := (hb.cell (p := ⟨b, off + q * 8 + 2, none⟩) bl).trans k2
      have e3 := (hb.cell (p := ⟨b, off + q * 8 + 3, none⟩) bl).trans k3
      have e4 := (hb.cell (p := ⟨b, off + q * 8 + 4, none⟩) bl).trans k4
      have e5 := (hb.cell (p := ⟨b, off + q * 8 + 5, none⟩) bl).trans k5
      go_wp2_with fail
      refine (idds_held x.deps _ _ _ _ _ (h1.keep iddK hb) (by omega) (by omega) (by omega)).mono ?_
      rintro e w1 ⟨rfl, hb1⟩
      have hr1 := bthen hb hb1
      clear e0 e1 e2 e3 e4 e5
      have e6 := (hr1.cell (p := ⟨b, off + q * 8 + 6, none⟩) bl).trans k6
      go_wp2_with fail
      refine (intsR_held x.fr _ _ _ _ _ (h2.keep hr1) (by omega) (by omega) (by omega)).mono ?_
      rintro e w2 ⟨rfl, hb2⟩
      have hr2 := bthen hr1 hb2
      clear e6
      have e7 := (hr2.cell (p := ⟨b, off + q * 8 + 7, none⟩) bl).trans k7
      go_wp2
      refine ⟨⟨q + 1, by omega, by go_num, ?_, hr2⟩, by simp [intOf]; omega⟩
      rw [HSU.out]; congr 1; rw [hcx]; push_cast; omega
    · go_wp2
      go_returns
      have hql : l.length ≤ q := by have := HL.out; omega
      refine ⟨ret_int ?_, hb⟩
      rw [sumTo_all _ _ _ hql]; rfl
end Go.Proofs.Ytdphdnllhmnelaa
/- ENode: how it lies in memory, the laws' helpers on it. -/
namespace Go.Proofs.Ytdphdnllhmnelaa
open Go.RowKit
structure Nod where
  me : Int
  next : Int
  insts : List Ins
  leads : List Lea
def nodNil : Nod := ⟨0, 0, [], []⟩
def nodAt (l : List Nod) (i : Nat) : Nod := l.getD i nodNil
theorem nodAt_get {l : List Nod} {k : Nat} (h : k < l.length) : nodAt l k = l[k] := by simp [nodAt, h]
theorem nodAt_of {l : List Nod} {k : Nat} {x : Nod} (h : l[k]? = some x) : nodAt l k = x := by simp [nodAt, h]
/-- its cells, its value -/
def nodL (x : Nod) (s1 : Value) (s2 : Value) : List Value := [.int .i64 x.me, .int .i64 x.next, s1, s2]
def nodV (x : Nod) (s1 : Value) (s2 : Value) : Value := .agg #[.int .i64 x.me, .int .i64 x.next, s1, s2]
def nodR (w : World) (cs : List Value) (x : Nod) : Prop := ∃ (A1 : Option Addr) (n1 c1 : Nat) (A2 : Option Addr) (n2 c2 : Nat), cs = nodL x (.slice A1 n1 c1) (.slice A2 n2 c2) ∧ RowR insR 16 w A1 n1 c1 x.insts ∧ RowR leaR 8 w A2 n2 c2 x.leads
def nodF (fp : List Nat) (w : World) (cs : List Value) (x : Nod) : Prop := ∃ (A1 : Option Addr) (n1 c1 : Nat) (A2 : Option Addr) (n2 c2 : Nat) (f1 f2 : List Nat), cs = nodL x (.slice A1 n1 c1) (.slice A2 n2 c2) ∧ fp = f1 ++ f2 ∧ RowO insF 50 16 f1 w A1 n1 c1 x.insts ∧ RowO leaF 170 8 f2 w A2 n2 c2 x.leads
theorem nodK : KindOk nodR nodF 4 where
  rlen := fun h => by obtain ⟨A1, n1, c1, A2, n2, c2, rfl, h1, h2⟩ := h; rfl
  rkeep := fun h hb => by obtain ⟨A1, n1, c1, A2, n2, c2, rfl, h1, h2⟩ := h; exact ⟨A1, n1, c1, A2, n2, c2, rfl, h1.keep insK hb, h2.keep leaK hb⟩
  flt := fun h b hb => by
    obtain ⟨A1, n1, c1, A2, n2, c2, f1, f2, rfl, rfl, h1, h2⟩ := h
    simp only [List.mem_append] at hb
    rcases hb with hb | hb
    · exact h1.lt insK b hb
    · exact h2.lt leaK b hb
  fch := fun h hc hS => by
    obtain ⟨A1, n1, c1, A2, n2, c2, f1, f2, rfl, rfl, h1, h2⟩ := h
    exact ⟨A1, n1, c1, A2, n2, c2, _, _, rfl, rfl, h1.ch insK hc (fun b hb => hS b (by simp [hb])), h2.ch leaK hc (fun b hb => hS b (by simp [hb]))⟩
  fr := fun h => by obtain ⟨A1, n1, c1, A2, n2, c2, f1, f2, rfl, rfl, h1, h2⟩ := h; exact ⟨A1, n1, c1, A2, n2, c2, rfl, h1.at_ insK (by omega), h2.at_ leaK (by omega)⟩
  one := fun h v hv => by
    obtain ⟨A1, n1, c1, A2, n2, c2, rfl, h1, h2⟩ := h
    simp only [nodL, List.mem_cons, List.not_mem_nil, or_false] at hv
    rcases hv with rfl | rfl | rfl | rfl <;> rfl
/-- its bounds -/
def nodB (x : Nod) : Prop := inssB x.insts ∧ leasB x.leads
def nodsB (l : List Nod) : Prop := l.length ≤ 9223372036854775807 ∧ ∀ y ∈ l, nodB y
def nodSz (x : Nod) : Nat := inssSz x.insts + leasSz x.leads
def nodsSz (l : List Nod) : Nat := l.length + (l.map nodSz).sum
theorem nods_el {l : List Nod} {i : Nat} {x : Nod} (hx : l[i]? = some x) : nodSz x ≤ nodsSz l := by have := (sum_el nodSz hx).1; unfold nodsSz; omega
/-- its marks -/
def nodCnt (x : Nod) : Nat := 1 + 1 + inssCnt x.insts + leasCnt x.leads
def nodTop (x : Nod) : Nat := inssCnt x.insts + leasCnt x.leads
def nodsCnt (l : List Nod) : Nat := (l.map nodCnt).sum
def nodMk (k : Int) (x : Nod) : Nod := ⟨k, (k + 1), inssMk (k + 1 + 1) x.insts, leasMk (k + 1 + 1 + ((inssCnt x.insts : Nat) : Int)) x.leads⟩
def nodsMk (k : Int) : List Nod → List Nod
  | [] => []
  | x :: l => nodMk k x :: nodsMk (k + (nodCnt x : Nat)) l
def nodTopMk (k : Int) (x : Nod) : Nod := ⟨x.me, x.next, inssMk k x.insts, leasMk (k + ((inssCnt x.insts : Nat) : Int)) x.leads⟩
theorem nodsMk_len (k : Int) : ∀ l : List Nod, (nodsMk k l).length = l.length
  | [] => rfl
  | x :: l => by simp [nodsMk, nodsMk_len]
theorem nodsMk_snoc (k : Int) (x : Nod) : ∀ l : List Nod, nodsMk k (l ++ [x]) = nodsMk k l ++ [nodMk (k + (nodsCnt l : Nat)) x]
  | [] => by simp [nodsMk, nodsCnt]
  | y :: l => by
    have := nodsMk_snoc (k + (nodCnt y : Nat)) x l
    have e : k + (nodCnt y : Nat) + ((nodsCnt l : Nat) : Int) = k + ((nodsCnt (y :: l) : Nat) : Int) := by simp only [nodsCnt, List.map_cons, List.sum_cons]; push_cast; omega
    simp only [List.cons_append, nodsMk, this, e]
theorem nodsMk_at (k : Int) : ∀ (l : List Nod) (i : Nat) (x : Nod), l[i]? = some x → (nodsMk k l)[i]? = some (nodMk (k + (sumTo nodCnt l i : Nat)) x)
  | [], i, x, h => by simp at h
  | y :: l, 0, x, h => by simp at h; subst h; simp [nodsMk, sumTo]
  | y :: l, i + 1, x, h => by
    have := nodsMk_at (k + (nodCnt y : Nat)) l i x (by simpa using h)
    have e : k + (nodCnt y : Nat) + ((sumTo nodCnt l i : Nat) : Int) = k + ((sumTo nodCnt (y :: l) (i + 1) : Nat) : Int) := by simp only [sumTo, List.take_succ_cons, List.map_cons, List.sum_cons]; push_cast; omega
    simp only [nodsMk, List.getElem?_cons_succ, this, e]
theorem nod_cnt (x : Nod) : nodCnt x ≤ 14 * (1 + nodSz x) := by have g0 := inss_cnt x.insts; have g1 := leas_cnt x.leads; unfold nodCnt nodSz; omega
theorem nods_cnt : ∀ l : List Nod, nodsCnt l ≤ 14 * nodsSz l
  | [] => by simp [nodsCnt]
  | x :: l => by have h1 := nods_cnt l; have h2 := nod_cnt x; simp only [nodsCnt, nodsSz, List.map_cons, List.sum_cons, List.length_cons] at *; omega
theorem nod_top (x : Nod) : nodTop x ≤ 14 * nodSz x := by have t2 := inss_cnt x.insts; have t3 := leas_cnt x.leads; unfold nodTop nodSz; omega
attribute [local irreducible] StrR IntR StrO IntO RowR RowO StrsAt IntsAt
set_option maxRecDepth 8000 in
theorem nod_sz (x : Nod) (A1 : Option Addr) (n1 c1 : Nat) (A2 : Option Addr) (n2 c2 : Nat) (left : Int) (w : World) (h1 : RowR insR 16 w A1 n1 c1 x.insts) (h2 : RowR leaR 8 w A2 n2 c2 x.leads) (hb : nodB x) (hl0 : 0 ≤ left) (hl1 : left ≤ 4611686018427387904) :
    Calls Try.prog 32 #[(nodV x (.slice A1 n1 c1) (.slice A2 n2 c2)), .int .i64 left] w fun e w' => e = .returned (.int .i64 (szR left (nodSz x))) ∧ Below w.heap.size w w' := by
  obtain ⟨bd0, bd1⟩ := hb
  unfold nodV
  by_cases q0 : ((inssSz x.insts : Nat) : Int) ≤ left
  · have R0 := Lib.hid (szR_yes (left := left) (s := inssSz x.insts) q0)
    by_cases q1 : ((leasSz x.leads : Nat) : Int) ≤ left - ((inssSz x.insts : Nat) : Int)
    · have R1 := Lib.hid (szR_yes (left := left - ((inssSz x.insts : Nat) : Int)) (s := leasSz x.leads) q1)
      have R := Lib.hid (szR_yes (left := left) (s := nodSz x) (by unfold nodSz; push_cast; omega))
      go_enter Try.func32, Try.ntmps32
      go_wp2_with fail
      refine (inss_sz x.insts _ _ _ _ _ (h1.keep insK (by go_grown)) bd0 (by omega) (by omega)).mono ?_
      rintro e w1 ⟨rfl, hb1⟩
      obtain ⟨hc_w1, hf_w1⟩ := bcell hb1
      have hz_w1 := hb1.size
      try simp at hz_w1
      have hB_w1 : Below w.heap.size w w1 := bthen (by go_grown) hb1
      have hz_w1_0 : w.heap.size < w1.heap.size := by omega
      rw [R0.out]
      go_wp2_with fail
      refine (leas_sz x.leads _ _ _ _ _ (h2.keep leaK hB_w1) bd1 (by omega) (by omega)).mono ?_
      rintro e w2 ⟨rfl, hb2⟩
      obtain ⟨hc_w2, hf_w2⟩ := bcell hb2
      have hz_w2 := hb2.size
      try simp at hz_w2
      have hB_w2 : Below w.heap.size w w2 := bthen hB_w1 hb2
      have hz_w2_0 : w.heap.size < w2.heap.size := by omega
      rw [R1.out]
      go_wp2
      go_returns
      exact ⟨ret_int (by rw [R.out]; unfold nodSz; push_cast; omega), hB_w2⟩
    · have R := Lib.hid (szR_no (left := left) (s := nodSz x) (by unfold nodSz; push_cast; omega))
      have R1 := Lib.hid (szR_no (left := left - ((inssSz x.insts : Nat) : Int)) (s := leasSz x.leads) (by omega))
      go_enter Try.func32, Try.ntmps32
      go_wp2_with fail
      refine (inss_sz x.insts _ _ _ _ _ (h1.keep insK (by go_grown)) bd0 (by omega) (by omega)).mono ?_
      rintro e w1 ⟨rfl, hb1⟩
      obtain ⟨hc_w1, hf_w1⟩ := bcell hb1
      have hz_w1 := hb1.size
      try simp at hz_w1
      have hB_w1 : Below w.heap.size w w1 := bthen (by go_grown) hb1
      have hz_w1_0 : w.heap.size < w1.heap.size := by omega
      rw [R0.out]
      go_wp2_with fail
      refine (leas_sz x.leads _ _ _ _ _ (h2.keep leaK hB_w1) bd1 (by omega) (by omega)).mono ?_
      rintro e w2 ⟨rfl, hb2⟩
      obtain ⟨hc_w2, hf_w2⟩ := bcell hb2
      have hz_w2 := hb2.size
      try simp at hz_w2
      have hB_w2 : Below w.heap.size w w2 := bthen hB_w1 hb2
      have hz_w2_0 : w.heap.size < w2.heap.size := by omega
      rw [R1.out]
      go_wp2
      go_returns
      exact ⟨ret_int R.out.symm, hB_w2⟩
  · have R := Lib.hid (szR_no (left := left) (s := nodSz x) (by unfold nodSz; push_cast; omega))
    have R0 := Lib.hid (szR_no (left := left) (s := inssSz x.insts) (by omega))
    go_enter Try.func32, Try.ntmps32
    go_wp2_with fail
    refine (inss_sz x.insts _ _ _ _ _ (h1.keep insK (by go_grown)) bd0 (by omega) (by omega)).mono ?_
    rintro e w1 ⟨rfl, hb1⟩
    obtain ⟨hc_w1, hf_w1⟩ := bcell hb1
    have hz_w1 := hb1.size
    try simp at hz_w1
    have hB_w1 : Below w.heap.size w w1 := bthen (by go_grown) hb1
    have hz_w1_0 : w.heap.size < w1.heap.size := by omega
    rw [R0.out]
    go_wp2
    go_returns
    exact ⟨ret_int R.out.symm, hB_w1⟩
set_option maxRecDepth 8000 in
theorem nod_eq (x : Nod) (A1 : Option Addr) (n1 c1 : Nat) (A2 : Option Addr) (n2 c2 : Nat) (A1' : Option Addr) (n1' c1' : Nat) (A2' : Option Addr) (n2' c2' : Nat) (w : World) (h1 : RowR insR 16 w A1 n1 c1 x.insts) (h2 : RowR leaR 8 w A2 n2 c2 x.leads) (h1' : RowR insR 16 w A1' n1' c1' x.insts) (h2' : RowR leaR 8 w A2' n2' c2' x.leads) (hs : nodSz x ≤ 16777216) :
    Calls Try.prog 36 #[(nodV x (.slice A1 n1 c1) (.slice A2 n2 c2)), (nodV x (.slice A1' n1' c1') (.slice A2' n2' c2'))] w fun e w' => e = .returned (.bool true) ∧ Below w.heap.size w w' := by
  unfold nodSz at hs
  unfold nodV
  go_enter Try.func36, Try.ntmps36
  go_wp2_with fail
  refine (inss_eq x.insts _ _ _ _ _ _ _ (h1.keep insK (by go_grown)) (h1'.keep insK (by go_grown)) (by omega)).mono ?_
  rintro e w1 ⟨rfl, hb1⟩
  obtain ⟨hc_w1, hf_w1⟩ := bcell hb1
  have hz_w1 := hb1.size
  try simp at hz_w1
  have hB_w1 : Below w.heap.size w w1 := bthen (by go_grown) hb1
  have hz_w1_0 : w.heap.size < w1.heap.size := by omega
  have hz_w1_1 : w.heap.size + 1 < w1.heap.size := by omega
  go_wp2_with fail
  refine (leas_eq x.leads _ _ _ _ _ _ _ (h2.keep leaK hB_w1) (h2'.keep leaK hB_w1) (by omega)).mono ?_
  rintro e w2 ⟨rfl, hb2⟩
  obtain ⟨hc_w2, hf_w2⟩ := bcell hb2
  have hz_w2 := hb2.size
  try simp at hz_w2
  have hB_w2 : Below w.heap.size w w2 := bthen hB_w1 hb2
  have hz_w2_0 : w.heap.size < w2.heap.size := by omega
  have hz_w2_1 : w.heap.size + 1 < w2.heap.size := by omega
  go_wp2
  go_returns
  exact ⟨rfl, hB_w2⟩
set_option maxRecDepth 8000 in
set_option maxHeartbeats 1000000 in
theorem nod_to (x : Nod) (A1 : Option Addr) (n1 c1 : Nat) (A2 : Option Addr) (n2 c2 : Nat) (w : World) (h1 : RowR insR 16 w A1 n1 c1 x.insts) (h2 : RowR leaR 8 w A2 n2 c2 x.leads) (hs : nodSz x ≤ 1048576) :
    Calls Try.prog 34 #[(nodV x (.slice A1 n1 c1) (.slice A2 n2 c2))] w fun e w' => ∃ (A1' : Option Addr) (n1' c1' : Nat) (A2' : Option Addr) (n2' c2' : Nat) (f1' f2' : List Nat), e = .returned (nodV x (.slice A1' n1' c1') (.slice A2' n2' c2')) ∧ (f1' ++ f2').Nodup ∧ (∀ b ∈ f1' ++ f2', w.heap.size ≤ b ∧ b < w'.heap.size) ∧ RowO insF 50 16 f1' w' A1' n1' c1' x.insts ∧ RowO leaF 170 8 f2' w' A2' n2' c2' x.leads ∧ Below w.heap.size w w' := by
  unfold nodSz at hs
  unfold nodV
  go_enter Try.func34, Try.ntmps34
  go_wp2_with fail
  refine (inss_to x.insts _ _ _ _ (h1.keep insK (by go_grown)) (by omega)).mono ?_
  rintro e w1 ⟨A1', n1', c1', rfl, ⟨f1', hN1, hF1, o1⟩, hb1⟩
  obtain ⟨hc_w1, hf_w1⟩ := bcell hb1
  have hz_w1 := hb1.size
  try simp at hz_w1
  have hB_w1 : Below w.heap.size w w1 := bthen (by go_grown) hb1
  have hz_w1_0 : w.heap.size < w1.heap.size := by omega
  have hz_w1_1 : w.heap.size + 1 < w1.heap.size := by omega
  have hz_w1_2 : w.heap.size + 1 + 1 < w1.heap.size := by omega
  have hG1 : ∀ b ∈ f1', w.heap.size + 3 ≤ b ∧ b < w1.heap.size := fun b hb => by have := hF1 b hb; have hzz := hz_w1; simp at this; omega
  go_wp2_with fail
  refine (leas_to x.leads _ _ _ _ (h2.keep leaK (hB_w1.setCell (by dsimp only; omega) _)) (by omega)).mono ?_
  rintro e w2 ⟨A2', n2', c2', rfl, ⟨f2', hN2, hF2, o2⟩, hb2⟩
  obtain ⟨hc_w2, hf_w2⟩ := bcell hb2
  have hz_w2 := hb2.size
  try simp at hz_w2
  have hB_w2 : Below w.heap.size w w2 := bthen (hB_w1.setCell (by dsimp only; omega) _) hb2
  have hz_w2_0 : w.heap.size < w2.heap.size := by omega
  have hz_w2_1 : w.heap.size + 1 < w2.heap.size := by omega
  have hz_w2_2 : w.heap.size + 1 + 1 < w2.heap.size := by omega
  have hG2 : ∀ b ∈ f2', w.heap.size + 3 ≤ b ∧ b < w2.heap.size := fun b hb => by have := hF2 b hb; have hzz := hz_w1; simp at this; omega
  have k0 : w2.cell? ⟨w.heap.size + 1, 0, none⟩ = some (.int .i64 0) := (keep_cell hb2 (setoff (keep_cell hb1 (by first | (simp [go_sem]; done) | (simp [go_sem]; rfl))) (.inl (by omega))))
  have k1 : w2.cell? ⟨w.heap.size + 1, 1, none⟩ = some (.int .i64 0) := (keep_cell hb2 (setoff (keep_cell hb1 (by first | (simp [go_sem]; done) | (simp [go_sem]; rfl))) (.inl (by omega))))
  have k2 : w2.cell? ⟨w.heap.size + 1, 2, none⟩ = some (.slice none 0 0) := (keep_cell hb2 (setoff (keep_cell hb1 (by first | (simp [go_sem]; done) | (simp [go_sem]; rfl))) (.inl (by omega))))
  have k3 : w2.cell? ⟨w.heap.size + 1, 3, none⟩ = some (.slice none 0 0) := (keep_cell hb2 (setoff (keep_cell hb1 (by first | (simp [go_sem]; done) | (simp [go_sem]; rfl))) (.inl (by omega))))
  have l0 : (w2.setCell ⟨w.heap.size + 1 + 1, 3, none⟩ (.slice A2' n2' c2')).cell? ⟨w.heap.size + 1, 0, none⟩ = some (.int .i64 0) := (setoff k0 (.inl (by omega)))
  have l1 : (w2.setCell ⟨w.heap.size + 1 + 1, 3, none⟩ (.slice A2' n2' c2')).cell? ⟨w.heap.size + 1, 1, none⟩ = some (.int .i64 0) := (setoff k1 (.inl (by omega)))
  have l2 : (w2.setCell ⟨w.heap.size + 1 + 1, 3, none⟩ (.slice A2' n2' c2')).cell? ⟨w.heap.size + 1, 2, none⟩ = some (.slice none 0 0) := (setoff k2 (.inl (by omega)))
  have l3 : (w2.setCell ⟨w.heap.size + 1 + 1, 3, none⟩ (.slice A2' n2' c2')).cell? ⟨w.heap.size + 1, 3, none⟩ = some (.slice none 0 0) := (setoff k3 (.inl (by omega)))
  obtain ⟨WF, hWF⟩ : ∃ WF, WF = setsW (w2.setCell ⟨w.heap.size + 1 + 1, 3, none⟩ (.slice A2' n2' c2')) (w.heap.size + 1) 0 [.int .i64 x.me, .int .i64 x.next, .slice A1' n1' c1', .slice A2' n2' c2'] := ⟨_, rfl⟩
  have hcs : ∀ j, j < [(.int .i64 x.me : Value), (.int .i64 x.next : Value), (.slice A1' n1' c1' : Value), (.slice A2' n2' c2' : Value)].length → ∃ u, (w2.setCell ⟨w.heap.size + 1 + 1, 3, none⟩ (.slice A2' n2' c2')).cell? ⟨w.heap.size + 1, 0 + j, none⟩ = some u := fun j hj => by
    simp only [List.length_cons, List.length_nil] at hj
    rw [Nat.zero_add]
    rcases (show j = 0 ∨ j = 1 ∨ j = 2 ∨ j = 3 by omega) with rfl | rfl | rfl | rfl
    · exact ⟨_, l0⟩
    · exact ⟨_, l1⟩
    · exact ⟨_, l2⟩
    · exact ⟨_, l3⟩
  have r0 : WF.cell? ⟨w.heap.size + 1, 0, none⟩ = some (.int .i64 x.me) := by rw [hWF]; have := setsW_cell _ 0 _ hcs 0 _ rfl; simpa using this
  have r1 : WF.cell? ⟨w.heap.size + 1, 1, none⟩ = some (.int .i64 x.next) := by rw [hWF]; have := setsW_cell _ 0 _ hcs 1 _ rfl; simpa using this
  have r2 : WF.cell? ⟨w.heap.size + 1, 2, none⟩ = some (.slice A1' n1' c1') := by rw [hWF]; have := setsW_cell _ 0 _ hcs 2 _ rfl; simpa using this
  have r3 : WF.cell? ⟨w.heap.size + 1, 3, none⟩ = some (.slice A2' n2' c2') := by rw [hWF]; have := setsW_cell _ 0 _ hcs 3 _ rfl; simpa using this
  have hCW : Ch (fun b => b = w.heap.size + 1) (w2.setCell ⟨w.heap.size + 1 + 1, 3, none⟩ (.slice A2' n2' c2')) WF := by rw [hWF]; exact ch_setsW _ 0 _
  simp only [setsW, Nat.zero_add, Nat.reduceAdd] at hWF
  go_wp2
  rw [← hWF]
  clear hcs
  have hBF : Below w.heap.size w WF := (hB_w2.setCell (by dsimp only; omega) _).trans (hCW.below (fun k hk => by omega) ((hB_w2.setCell (by dsimp only; omega) _).size))
  have z1 := o1.ch insK (((((Ch.refl (S := fun b => b < w.heap.size + 3) w1).setCell (by dsimp only; omega) _).trans (Ch.of_below hb2)).setCell (by dsimp only; omega) _).trans (hCW.mono (fun b hb => by omega))) (fun b hb => by have := hG1 b (by simp [hb]); omega)
  have z2 := o2.ch leaK (((Ch.refl (S := fun b => b < w.heap.size + 3) w2).setCell (by dsimp only; omega) _).trans (hCW.mono (fun b hb => by omega))) (fun b hb => by have := hG2 b (by simp [hb]); omega)
  have hsz : w2.heap.size ≤ WF.heap.size := by have := hCW.size; simpa using this
  have hND : (f1' ++ f2').Nodup := by
    have := (nodup_new (m := w1.heap.size) hN1 hN2 (fun b hb => by have := hG1 b (by simp [hb]); omega) (fun b hb => by have := hF2 b hb; simp at this; omega))
    simpa only [List.append_assoc] using this
  have hBD : ∀ b ∈ f1' ++ f2', w.heap.size ≤ b ∧ b < WF.heap.size := fun b hb => by
    simp only [List.mem_append] at hb
    rcases hb with hb | hb
    · have := hG1 b (by simp [hb]); omega
    · have := hG2 b (by simp [hb]); omega
  exact bodyPost_ret (v := .agg #[.int .i64 x.me, .int .i64 x.next, .slice A1' n1' c1', .slice A2' n2' c2']) (by simp [results, Try.results34, go_sem, r0, r1, r2, r3]) rfl ⟨A1', n1', c1', A2', n2', c2', f1', f2', rfl, hND, hBD, z1, z2, hBF⟩
set_option maxRecDepth 8000 in
theorem nod_mark (x : Nod) (f1 f2 : List Nat) (A1 : Option Addr) (n1 c1 : Nat) (A2 : Option Addr) (n2 c2 : Nat) (k : Int) (w : World) (h1 : RowO insF 50 16 f1 w A1 n1 c1 x.insts) (h2 : RowO leaF 170 8 f2 w A2 n2 c2 x.leads) (hN : (f1 ++ f2).Nodup) (hs : nodSz x ≤ 16777216) (hk0 : 0 < k) (hk1 : k ≤ 72057594037927936) :
    Calls Try.prog 39 #[(nodV x (.slice A1 n1 c1) (.slice A2 n2 c2)), .int .i64 k] w fun e w' => e = .returned (.int .i64 (k + (nodTop x : Nat))) ∧ RowO insF 50 16 f1 w' A1 n1 c1 (nodTopMk k x).insts ∧ RowO leaF 170 8 f2 w' A2 n2 c2 (nodTopMk k x).leads ∧ Ch (fun b => b ∈ f1 ++ f2) w w' := by
  have htop := nod_top x
  have hsz := hs; unfold nodSz at hsz; unfold nodTop at htop
  unfold nodV
  have al := (Below.refl w.heap.size w).alloc (Nat.le_refl _) (.cells #[.int .i64 x.me, .int .i64 x.next, .slice A1 n1 c1, .slice A2 n2 c2] 67)
  have a1 := h1.keep insK al
  have a2 := h2.keep leaK al
  have hC0 : Ch (fun b => b ∈ f1 ++ f2) w (w.alloc (.cells #[.int .i64 x.me, .int .i64 x.next, .slice A1 n1 c1, .slice A2 n2 c2] 67)) := Ch.of_below al
  have e0 : (w.alloc (.cells #[.int .i64 x.me, .int .i64 x.next, .slice A1 n1 c1, .slice A2 n2 c2] 67)).cell? ⟨w.heap.size, 0, none⟩ = some (.int .i64 x.me) := by simp [go_sem]
  have e1 : (w.alloc (.cells #[.int .i64 x.me, .int .i64 x.next, .slice A1 n1 c1, .slice A2 n2 c2] 67)).cell? ⟨w.heap.size, 1, none⟩ = some (.int .i64 x.next) := by simp [go_sem]
  have e2 : (w.alloc (.cells #[.int .i64 x.me, .int .i64 x.next, .slice A1 n1 c1, .slice A2 n2 c2] 67)).cell? ⟨w.heap.size, 2, none⟩ = some (.slice A1 n1 c1) := by simp [go_sem]
  have e3 : (w.alloc (.cells #[.int .i64 x.me, .int .i64 x.next, .slice A1 n1 c1, .slice A2 n2 c2] 67)).cell? ⟨w.heap.size, 3, none⟩ = some (.slice A2 n2 c2) := by simp [go_sem]
  have lt1 := h1.lt insK
  have lt2 := h2.lt leaK
  have hD := hN; simp only [List.nodup_append, List.mem_append] at hD
  have hd12 : ∀ b ∈ f1, ¬ b ∈ f2 := fun b h1 h2 => by grind
  have hd21 : ∀ b ∈ f2, ¬ b ∈ f1 := fun b h1 h2 => by grind
  go_enter Try.func39, Try.ntmps39
  go_wp2_with fail
  refine (inss_mark x.insts f1 _ _ _ _ _ a1 (by simp only [List.nodup_append] at hN; simp only [hN]) (by omega) (by omega) (by omega)).mono ?_
  rintro e w1 ⟨rfl, b1, hc1⟩
  have hC1 : Ch (fun b => b ∈ f1 ++ f2) w w1 := hC0.trans (hc1.mono (fun b hb => by grind))
  have e0' := hc1.cell e0 (by intro hb; have := lt1 _ hb; omega); clear e0; have e0 := e0'; clear e0'
  have e1' := hc1.cell e1 (by intro hb; have := lt1 _ hb; omega); clear e1; have e1 := e1'; clear e1'
  have e2' := hc1.cell e2 (by intro hb; have := lt1 _ hb; omega); clear e2; have e2 := e2'; clear e2'
  have e3' := hc1.cell e3 (by intro hb; have := lt1 _ hb; omega); clear e3; have e3 := e3'; clear e3'
  have a2' := a2.ch leaK hc1 hd21; clear a2; have a2 := a2'; clear a2'
  go_wp2_with fail
  refine (leas_mark x.leads f2 _ _ _ _ _ a2 (by simp only [List.nodup_append] at hN; simp only [hN]) (by omega) (by omega) (by omega)).mono ?_
  rintro e w2 ⟨rfl, b2, hc2⟩
  have hC2 : Ch (fun b => b ∈ f1 ++ f2) w w2 := hC1.trans (hc2.mono (fun b hb => by grind))
  have e0' := hc2.cell e0 (by intro hb; have := lt2 _ hb; omega); clear e0; have e0 := e0'; clear e0'
  have e1' := hc2.cell e1 (by intro hb; have := lt2 _ hb; omega); clear e1; have e1 := e1'; clear e1'
  have e2' := hc2.cell e2 (by intro hb; have := lt2 _ hb; omega); clear e2; have e2 := e2'; clear e2'
  have e3' := hc2.cell e3 (by intro hb; have := lt2 _ hb; omega); clear e3; have e3 := e3'; clear e3'
  have b1' := b1.ch insK hc2 hd12; clear b1; have b1 := b1'; clear b1'
  go_wp2
  go_returns
  refine ⟨ret_int (by unfold nodTop; push_cast; omega), b1, b2, hC2⟩
set_option maxRecDepth 8000 in
theorem nod_held (x : Nod) (y : Nod) (A1 : Option Addr) (n1 c1 : Nat) (A2 : Option Addr) (n2 c2 : Nat) (k : Int) (w : World) (h1 : RowR insR 16 w A1 n1 c1 (nodTopMk k x).insts) (h2 : RowR leaR 8 w A2 n2 c2 (nodTopMk k x).leads) (hs : nodSz x ≤ 16777216) (hk0 : 0 < k) (hk1 : k ≤ 72057594037927936) :
    Calls Try.prog 40 #[(nodV y (.slice A1 n1 c1) (.slice A2 n2 c2)), .int .i64 k] w fun e w' => e = .returned (.int .i64 (k + (nodTop x : Nat))) ∧ Below w.heap.size w w' := by
  have htop := nod_top x
  have hsz := hs; unfold nodSz at hsz; unfold nodTop at htop
  unfold nodV
  go_enter Try.func40, Try.ntmps40
  go_wp2_with fail
  refine (inss_held x.insts _ _ _ _ _ (h1.keep insK (by go_grown)) (by omega) (by omega) (by omega)).mono ?_
  rintro e w1 ⟨rfl, hb1⟩
  obtain ⟨hc_w1, hf_w1⟩ := bcell hb1
  have hz_w1 := hb1.size
  try simp at hz_w1
  have hB_w1 : Below w.heap.size w w1 := bthen (by go_grown) hb1
  have hz_w1_0 : w.heap.size < w1.heap.size := by omega
  go_wp2_with fail
  refine (leas_held x.leads _ _ _ _ _ (h2.keep leaK hB_w1) (by omega) (by omega) (by omega)).mono ?_
  rintro e w2 ⟨rfl, hb2⟩
  obtain ⟨hc_w2, hf_w2⟩ := bcell hb2
  have hz_w2 := hb2.size
  try simp at hz_w2
  have hB_w2 : Below w.heap.size w w2 := bthen hB_w1 hb2
  have hz_w2_0 : w.heap.size < w2.heap.size := by omega
  go_wp2
  go_returns
  exact ⟨ret_int (by unfold nodTop; push_cast; omega), hB_w2⟩
end Go.Proofs.Ytdphdnllhmnelaa
/- Values of the laws' types opened: the base. -/
namespace Go.Proofs.Ytdphdnllhmnelaa
open Go.RowKit Go.ChangeShapes Go.WideShapes Go.ChangeAt Go.Deep Go.Joins
section
variable {H : Type} {enc : TypeId × Value → H} {w : World} {base : Nat} {spare : Nat → Bool} {held : Bool}
theorem cellsIntO : Try.prog.cellsOf 3 = 1 := by kernel_rfl
theorem cellsBoolO : Try.prog.cellsOf 4 = 1 := by kernel_rfl
theorem cellsStringO : Try.prog.cellsOf 9 = 1 := by kernel_rfl
theorem cellsStrsO : Try.prog.cellsOf 38 = 1 := by kernel_rfl
theorem cellsIntsO : Try.prog.cellsOf 78 = 1 := by kernel_rfl
theorem tr_bool {fu : Nat} {cs : List Value} {y : DataW H × List MemPlace} (h : DataW.trod enc Try.prog w base spare held fu 4 cs = some y) : ∃ b : Bool, cs = [.bool b] := by
  obtain ⟨n, h1, _⟩ := DataW.trod_bool Try.underlying4 h
  exact ⟨n, h1⟩
set_option maxRecDepth 8000 in
theorem tr_strs {fu : Nat} {cs : List Value} {y : DataW H × List MemPlace} (h : DataW.trod enc Try.prog w base spare held fu 38 cs = some y) :
    ∃ l, (∃ A n c, cs = [.slice A n c] ∧ StrR w A n c l) ∧ strB l := by
  obtain ⟨A, n, c, l, hcs, hr, hn, _, hc⟩ := open_rows_cs (C := fun _ cs (x : ByteArray) => cs = [.string x] ∧ x.size ≤ 9223372036854775807) Try.underlying38 cellsStringO (by omega) (fun fu cs y h => by obtain ⟨m, hm, hw⟩ := trod_str1 Try.underlying9 h; exact ⟨m, hm, hw⟩) h
  have hl := hr.1
  have key : ∀ i, i < n → (sAt l i).size ≤ 9223372036854775807 := fun i hi => by
    obtain ⟨b, off, rfl, hlt, hcell⟩ := hr.2 (by omega)
    obtain ⟨cs', ⟨_, hw⟩, _⟩ := hcell i (sAt l i) (by rw [sAt_get (by omega)]; exact List.getElem?_eq_getElem (by omega))
    exact hw
  refine ⟨l, ⟨A, n, c, hcs, ⟨?_, hc⟩⟩, by omega, fun y hy => ?_⟩
  · unfold StrsAt
    refine ⟨hl, fun h0 => ?_⟩
    obtain ⟨b, off, rfl, hlt, hcell⟩ := hr.2 h0
    refine ⟨b, off, rfl, hlt, fun i hi => ?_⟩
    obtain ⟨cs', ⟨hx, _⟩, _, hc'⟩ := hcell i (sAt l i) (by rw [sAt_get (by omega)]; exact List.getElem?_eq_getElem (by omega))
    subst hx
    simpa using hc' 0 _ rfl
  · obtain ⟨i, hi, rfl⟩ := List.getElem_of_mem hy
    have := key i (by omega)
    rwa [sAt_get hi] at this
set_option maxRecDepth 8000 in
theorem tr_ints {fuel : Nat} {cs : List Value} {x : DataW H × List MemPlace} (h : DataW.trod enc Try.prog w base spare held fuel 78 cs = some x) :
    ∃ l, (∃ A n c, cs = [.slice A n c] ∧ IntR w A n c l) ∧ intB l := by
  obtain ⟨A, n, c, l, hcs, hr, hn, _, hc⟩ := open_rows_cs (C := fun _ cs (x : Int) => cs = [.int .i64 x]) Try.underlying78 cellsIntO (by omega) (fun fu cs y h => by obtain ⟨m, hm, _⟩ := trod_int1 Try.underlying3 h; exact ⟨m, hm⟩) h
  refine ⟨l, ⟨A, n, c, hcs, ⟨?_, hc⟩⟩, by unfold intB; have := hr.1; omega⟩
  unfold IntsAt
  refine ⟨hr.1, fun h0 => ?_⟩
  obtain ⟨b, off, rfl, hlt, hcell⟩ := hr.2 h0
  refine ⟨b, off, rfl, hlt, fun i hi => ?_⟩
  have hl := hr.1
  obtain ⟨cs', hx, _, hc'⟩ := hcell i (iAt l i) (by rw [iAt_get (by omega)]; exact List.getElem?_eq_getElem (by omega))
  subst hx
  simpa [intV] using hc' 0 _ rfl
/-- rows whose elements are read and bounded -/
theorem rowAt_both {α : Type} {R : World → List Value → α → Prop} {B : α → Prop} {sz n : Nat} {A : Option Addr} {l : List α} (h : RowAt (fun w cs x => R w cs x ∧ B x) sz w A n l) : RowAt R sz w A n l ∧ ∀ y ∈ l, B y := by
  refine ⟨⟨h.1, fun h0 => ?_⟩, fun y hy => ?_⟩
  · obtain ⟨b, off, e, hl, hc⟩ := h.2 h0
    refine ⟨b, off, e, hl, fun i x hx => ?_⟩
    obtain ⟨cs, ⟨h1, _⟩, h2⟩ := hc i x hx
    exact ⟨cs, h1, h2⟩
  · obtain ⟨i, hi, rfl⟩ := List.getElem_of_mem hy
    obtain ⟨b, off, e, hl, hc⟩ := h.2 (by have := h.1; omega)
    obtain ⟨cs, ⟨_, h1⟩, _⟩ := hc i l[i] (List.getElem?_eq_getElem hi)
    exact h1
end
end Go.Proofs.Ytdphdnllhmnelaa
/- Values of laws.Cmd opened. -/
namespace Go.Proofs.Ytdphdnllhmnelaa
open Go.RowKit Go.ChangeShapes Go.WideShapes Go.ChangeAt Go.Deep Go.Joins
section
variable {H : Type} {enc : TypeId × Value → H} {w : World} {base : Nat} {spare : Nat → Bool} {held : Bool}
theorem cellsCmdL : Try.prog.cellsOf 40 = 8 := by kernel_rfl
theorem cm_of {cs : List Value} (h : cs.length = 8) : ∃ c0 c1 c2 c3 c4 c5 c6 c7, cs = [c0, c1, c2, c3, c4, c5, c6, c7] := by
  match cs, h with
  | [c0, c1, c2, c3, c4, c5, c6, c7], _ => exact ⟨c0, c1, c2, c3, c4, c5, c6, c7, rfl⟩
set_option maxRecDepth 8000 in
theorem tr_cm {fu : Nat} {cs : List Value} {y : DataW H × List MemPlace} (h : DataW.trod enc Try.prog w base spare held fu 40 cs = some y) : ∃ x, cmR w cs x ∧ cmB x := by
  obtain ⟨c0, c1, c2, c3, c4, c5, c6, c7, rfl⟩ := cm_of (trod_len Try.underlying40 cellsCmdL h)
  obtain ⟨_, _, h0⟩ := trod_fieldAt Try.underlying40 0 rfl cellsIntO h
  obtain ⟨x0, e0, _⟩ := trod_int1 Try.underlying3 h0
  simp at e0
  subst e0
  obtain ⟨_, _, h1⟩ := trod_fieldAt Try.underlying40 1 rfl cellsIntO h
  obtain ⟨x1, e1, _⟩ := trod_int1 Try.underlying3 h1
  simp at e1
  subst e1
  obtain ⟨_, _, h2⟩ := trod_fieldAt Try.underlying40 2 rfl cellsIntO h
  obtain ⟨x2, e2, _⟩ := trod_int1 Try.underlying3 h2
  simp at e2
  subst e2
  obtain ⟨_, _, h3⟩ := trod_fieldAt Try.underlying40 3 rfl cellsStringO h
  obtain ⟨x3, e3, b3⟩ := trod_str1 Try.underlying9 h3
  simp at e3
  subst e3
  obtain ⟨_, _, h4⟩ := trod_fieldAt Try.underlying40 4 rfl cellsStringO h
  obtain ⟨x4, e4, b4⟩ := trod_str1 Try.underlying9 h4
  simp at e4
  subst e4
  obtain ⟨_, _, h5⟩ := trod_fieldAt Try.underlying40 5 rfl cellsStringO h
  obtain ⟨x5, e5, b5⟩ := trod_str1 Try.underlying9 h5
  simp at e5
  subst e5
  obtain ⟨_, _, h6⟩ := trod_fieldAt Try.underlying40 6 rfl cellsIntO h
  obtain ⟨x6, e6, _⟩ := trod_int1 Try.underlying3 h6
  simp at e6
  subst e6
  obtain ⟨_, _, h7⟩ := trod_fieldAt Try.underlying40 7 rfl cellsStrsO h
  obtain ⟨x7, ⟨A7, n7, m7, e7, g7⟩, b7⟩ := tr_strs h7
  simp at e7
  subst e7
  exact ⟨⟨x0, x1, x2, x3, x4, x5, x6, x7⟩, ⟨A7, n7, m7, rfl, g7⟩, b3, b4, b5, b7⟩
theorem cellsCmdSO : Try.prog.cellsOf 22 = 1 := by kernel_rfl
set_option maxRecDepth 8000 in
theorem tr_cms {fu : Nat} {cs : List Value} {y : DataW H × List MemPlace} (h : DataW.trod enc Try.prog w base spare held fu 22 cs = some y) : ∃ l, (∃ A n c, cs = [.slice A n c] ∧ RowR cmR 8 w A n c l) ∧ cmsB l := by
  obtain ⟨A, n, c, l, hcs, hr, hn, _, hc⟩ := open_rows_cs (C := fun w cs x => cmR w cs x ∧ cmB x) Try.underlying22 cellsCmdL (by omega) (fun _ _ _ h => tr_cm h) h
  obtain ⟨h1, h2⟩ := rowAt_both hr
  exact ⟨l, ⟨A, n, c, hcs, h1, hc⟩, by have := h1.1; omega, h2⟩
set_option maxRecDepth 8000 in
theorem opn_cms {r : Reach} {b0 : Nat} {v : Value} {d : DataW H} {p : List MemPlace} (hv : Value.okWide Try.prog w r b0 22 v) (h : DataW.Trod enc Try.prog w base spare held 22 v d p) : ∃ (A : Option Addr) (n c : Nat) (l : List Cm), v = .slice A n c ∧ RowR cmR 8 w A n c l ∧ cmsB l := by
  obtain ⟨A, n, c, rfl⟩ := okWide_slice Try.underlying22 hv
  obtain ⟨fuel, hf⟩ := h
  obtain ⟨l, ⟨A', n', c', hcs, hr⟩, hb⟩ := tr_cms hf
  simp [Value.cells] at hcs
  obtain ⟨rfl, rfl, rfl⟩ := hcs
  exact ⟨_, _, _, l, rfl, hr, hb⟩
set_option maxRecDepth 8000 in
theorem opn_cm {r : Reach} {b0 : Nat} {v : Value} {d : DataW H} {p : List MemPlace} (hv : Value.okWide Try.prog w r b0 40 v) (h : DataW.Trod enc Try.prog w base spare held 40 v d p) : ∃ (x : Cm) (A1 : Option Addr) (n1 c1 : Nat), v = cmV x (.slice A1 n1 c1) ∧ StrR w A1 n1 c1 x.ch ∧ cmB x := by
  obtain ⟨arr, rfl, hsz⟩ := okWide_struct Try.underlying40 hv
  obtain ⟨fuel, hf⟩ := h
  obtain ⟨x, hR, hB⟩ := tr_cm hf
  obtain ⟨A1, n1, c1, hcs, k1⟩ := hR
  have ha : arr = (cmL x (.slice A1 n1 c1)).toArray := Array.toList_inj.1 (by simpa [Value.cells] using hcs)
  subst ha
  exact ⟨x, A1, n1, c1, rfl, k1, hB⟩
end
end Go.Proofs.Ytdphdnllhmnelaa
