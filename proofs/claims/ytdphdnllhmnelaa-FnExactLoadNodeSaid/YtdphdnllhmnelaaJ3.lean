/- Contracts and lemmas: KInst. -/
import Derived.Test.YtdphdnllhmnelaaJ2
import Derived.Deep.RegionHeld3
import Derived.StillTailTactics
import Derived.BigQuiet
import Derived.Deep.QuietTactic
/- Inst: how it lies in memory, the laws' helpers on it. -/
namespace Go.Proofs.Ytdphdnllhmnelaa
open Go.RowKit
structure Ins where
  id : Idd
  bal : Int
  vb : Int
  st : Int
  cmd : Cm
  seq : Int
  deps : List Idd
  same : Bool
def insNil : Ins := ⟨iddNil, 0, 0, 0, cmNil, 0, [], false⟩
def insAt (l : List Ins) (i : Nat) : Ins := l.getD i insNil
theorem insAt_get {l : List Ins} {k : Nat} (h : k < l.length) : insAt l k = l[k] := by simp [insAt, h]
theorem insAt_of {l : List Ins} {k : Nat} {x : Ins} (h : l[k]? = some x) : insAt l k = x := by simp [insAt, h]
/-- its cells, its value -/
def insL (x : Ins) (s1 : Value) (s2 : Value) : List Value := [.int .i64 x.id.r, .int .i64 x.id.s, .int .i64 x.bal, .int .i64 x.vb, .int .i64 x.st, .int .i64 x.cmd.kd, .int .i64 x.cmd.cl, .int .i64 x.cmd.no, .string x.cmd.s, .string x.cmd.nm, .string x.cmd.tg, .int .i64 x.cmd.n, s1, .int .i64 x.seq, s2, .bool x.same]
def insV (x : Ins) (s1 : Value) (s2 : Value) : Value := .agg #[.int .i64 x.id.r, .int .i64 x.id.s, .int .i64 x.bal, .int .i64 x.vb, .int .i64 x.st, .int .i64 x.cmd.kd, .int .i64 x.cmd.cl, .int .i64 x.cmd.no, .string x.cmd.s, .string x.cmd.nm, .string x.cmd.tg, .int .i64 x.cmd.n, s1, .int .i64 x.seq, s2, .bool x.same]
def insR (w : World) (cs : List Value) (x : Ins) : Prop := ∃ (A1 : Option Addr) (n1 c1 : Nat) (A2 : Option Addr) (n2 c2 : Nat), cs = insL x (.slice A1 n1 c1) (.slice A2 n2 c2) ∧ StrR w A1 n1 c1 x.cmd.ch ∧ RowR iddR 2 w A2 n2 c2 x.deps
def insF (fp : List Nat) (w : World) (cs : List Value) (x : Ins) : Prop := ∃ (A1 : Option Addr) (n1 c1 : Nat) (A2 : Option Addr) (n2 c2 : Nat) (f1 f2 : List Nat), cs = insL x (.slice A1 n1 c1) (.slice A2 n2 c2) ∧ fp = f1 ++ f2 ∧ StrO f1 w A1 n1 c1 x.cmd.ch ∧ RowO iddF 46 2 f2 w A2 n2 c2 x.deps
theorem insK : KindOk insR insF 16 where
  rlen := fun h => by obtain ⟨A1, n1, c1, A2, n2, c2, rfl, h1, h2⟩ := h; rfl
  rkeep := fun h hb => by obtain ⟨A1, n1, c1, A2, n2, c2, rfl, h1, h2⟩ := h; exact ⟨A1, n1, c1, A2, n2, c2, rfl, h1.keep hb, h2.keep iddK hb⟩
  flt := fun h b hb => by
    obtain ⟨A1, n1, c1, A2, n2, c2, f1, f2, rfl, rfl, h1, h2⟩ := h
    simp only [List.mem_append] at hb
    rcases hb with hb | hb
    · exact h1.lt b hb
    · exact h2.lt iddK b hb
  fch := fun h hc hS => by
    obtain ⟨A1, n1, c1, A2, n2, c2, f1, f2, rfl, rfl, h1, h2⟩ := h
    exact ⟨A1, n1, c1, A2, n2, c2, _, _, rfl, rfl, h1.ch hc (fun b hb => hS b (by simp [hb])), h2.ch iddK hc (fun b hb => hS b (by simp [hb]))⟩
  fr := fun h => by obtain ⟨A1, n1, c1, A2, n2, c2, f1, f2, rfl, rfl, h1, h2⟩ := h; exact ⟨A1, n1, c1, A2, n2, c2, rfl, h1.at_, h2.at_ iddK (by omega)⟩
  one := fun h v hv => by
    obtain ⟨A1, n1, c1, A2, n2, c2, rfl, h1, h2⟩ := h
    simp only [insL, List.mem_cons, List.not_mem_nil, or_false] at hv
    rcases hv with rfl | rfl | rfl | rfl | rfl | rfl | rfl | rfl | rfl | rfl | rfl | rfl | rfl | rfl | rfl | rfl <;> rfl
/-- its bounds -/
def insB (x : Ins) : Prop := cmB x.cmd ∧ iddsB x.deps
def inssB (l : List Ins) : Prop := l.length ≤ 9223372036854775807 ∧ ∀ y ∈ l, insB y
def insSz (x : Ins) : Nat := cmSz x.cmd + iddsSz x.deps
def inssSz (l : List Ins) : Nat := l.length + (l.map insSz).sum
theorem inss_el {l : List Ins} {i : Nat} {x : Ins} (hx : l[i]? = some x) : insSz x ≤ inssSz l := by have := (sum_el insSz hx).1; unfold inssSz; omega
/-- its marks -/
def insCnt (x : Ins) : Nat := iddCnt x.id + 1 + 1 + 1 + cmCnt x.cmd + 1 + iddsCnt x.deps + 1
def insTop (x : Ins) : Nat := cmTop x.cmd + iddsCnt x.deps
def inssCnt (l : List Ins) : Nat := (l.map insCnt).sum
def insMk (k : Int) (x : Ins) : Ins := ⟨iddMk k x.id, (k + 1 + 1), (k + 1 + 1 + 1), (k + 1 + 1 + 1 + 1), cmMk (k + 1 + 1 + 1 + 1 + 1) x.cmd, (k + 1 + 1 + 1 + 1 + 1 + 1 + 1 + 1 + 1 + 1 + 1 + 1 + ((strsCnt x.cmd.ch : Nat) : Int)), iddsMk (k + 1 + 1 + 1 + 1 + 1 + 1 + 1 + 1 + 1 + 1 + 1 + 1 + ((strsCnt x.cmd.ch : Nat) : Int) + 1) x.deps, (k + 1 + 1 + 1 + 1 + 1 + 1 + 1 + 1 + 1 + 1 + 1 + 1 + ((strsCnt x.cmd.ch : Nat) : Int) + 1 + ((iddsCnt x.deps : Nat) : Int)) % 3 == 0⟩
def inssMk (k : Int) : List Ins → List Ins
  | [] => []
  | x :: l => insMk k x :: inssMk (k + (insCnt x : Nat)) l
def insTopMk (k : Int) (x : Ins) : Ins := ⟨x.id, x.bal, x.vb, x.st, cmTopMk k x.cmd, x.seq, iddsMk (k + ((cmTop x.cmd : Nat) : Int)) x.deps, x.same⟩
theorem inssMk_len (k : Int) : ∀ l : List Ins, (inssMk k l).length = l.length
  | [] => rfl
  | x :: l => by simp [inssMk, inssMk_len]
theorem inssMk_snoc (k : Int) (x : Ins) : ∀ l : List Ins, inssMk k (l ++ [x]) = inssMk k l ++ [insMk (k + (inssCnt l : Nat)) x]
  | [] => by simp [inssMk, inssCnt]
  | y :: l => by
    have := inssMk_snoc (k + (insCnt y : Nat)) x l
    have e : k + (insCnt y : Nat) + ((inssCnt l : Nat) : Int) = k + ((inssCnt (y :: l) : Nat) : Int) := by simp only [inssCnt, List.map_cons, List.sum_cons]; push_cast; omega
    simp only [List.cons_append, inssMk, this, e]
theorem inssMk_at (k : Int) : ∀ (l : List Ins) (i : Nat) (x : Ins), l[i]? = some x → (inssMk k l)[i]? = some (insMk (k + (sumTo insCnt l i : Nat)) x)
  | [], i, x, h => by simp at h
  | y :: l, 0, x, h => by simp at h; subst h; simp [inssMk, sumTo]
  | y :: l, i + 1, x, h => by
    have := inssMk_at (k + (insCnt y : Nat)) l i x (by simpa using h)
    have e : k + (insCnt y : Nat) + ((sumTo insCnt l i : Nat) : Int) = k + ((sumTo insCnt (y :: l) (i + 1) : Nat) : Int) := by simp only [sumTo, List.take_succ_cons, List.map_cons, List.sum_cons]; push_cast; omega
    simp only [inssMk, List.getElem?_cons_succ, this, e]
theorem ins_cnt (x : Ins) : insCnt x ≤ 14 * (1 + insSz x) := by have g0 := idd_cnt x.id; have g1 := cm_cnt x.cmd; have g2 := idds_cnt x.deps; unfold insCnt insSz; omega
theorem inss_cnt : ∀ l : List Ins, inssCnt l ≤ 14 * inssSz l
  | [] => by simp [inssCnt]
  | x :: l => by have h1 := inss_cnt l; have h2 := ins_cnt x; simp only [inssCnt, inssSz, List.map_cons, List.sum_cons, List.length_cons] at *; omega
theorem ins_top (x : Ins) : insTop x ≤ 14 * insSz x := by have t4 := cm_top x.cmd; have t6 := idds_cnt x.deps; unfold insTop insSz; omega
attribute [local irreducible] StrR IntR StrO IntO RowR RowO StrsAt IntsAt
set_option maxRecDepth 8000 in
theorem ins_sz (x : Ins) (A1 : Option Addr) (n1 c1 : Nat) (A2 : Option Addr) (n2 c2 : Nat) (left : Int) (w : World) (h1 : StrR w A1 n1 c1 x.cmd.ch) (h2 : RowR iddR 2 w A2 n2 c2 x.deps) (hb : insB x) (hl0 : 0 ≤ left) (hl1 : left ≤ 4611686018427387904) :
    Calls Try.prog 23 #[(insV x (.slice A1 n1 c1) (.slice A2 n2 c2)), .int .i64 left] w fun e w' => e = .returned (.int .i64 (szR left (insSz x))) ∧ Below w.heap.size w w' := by
  obtain ⟨bd0, bd1⟩ := hb
  unfold insV
  by_cases q0 : ((cmSz x.cmd : Nat) : Int) ≤ left
  · have R0 := Lib.hid (szR_yes (left := left) (s := cmSz x.cmd) q0)
    by_cases q1 : ((iddsSz x.deps : Nat) : Int) ≤ left - ((cmSz x.cmd : Nat) : Int)
    · have R1 := Lib.hid (szR_yes (left := left - ((cmSz x.cmd : Nat) : Int)) (s := iddsSz x.deps) q1)
      have R := Lib.hid (szR_yes (left := left) (s := insSz x) (by unfold insSz; push_cast; omega))
      go_enter Try.func23, Try.ntmps23
      go_wp2_with fail
      refine (cm_sz x.cmd _ _ _ _ _ (h1.keep (by go_grown)) bd0 (by omega) (by omega)).mono ?_
      rintro e w1 ⟨rfl, hb1⟩
      obtain ⟨hc_w1, hf_w1⟩ := bcell hb1
      have hz_w1 := hb1.size
      try simp at hz_w1
      have hB_w1 : Below w.heap.size w w1 := bthen (by go_grown) hb1
      have hz_w1_0 : w.heap.size < w1.heap.size := by omega
      rw [R0.out]
      go_wp2_with fail
      refine (idds_sz x.deps _ _ _ _ _ (h2.keep iddK hB_w1) bd1 (by omega) (by omega)).mono ?_
      rintro e w2 ⟨rfl, hb2⟩
      obtain ⟨hc_w2, hf_w2⟩ := bcell hb2
      have hz_w2 := hb2.size
      try simp at hz_w2
      have hB_w2 : Below w.heap.size w w2 := bthen hB_w1 hb2
      have hz_w2_0 : w.heap.size < w2.heap.size := by omega
      rw [R1.out]
      go_wp2
      go_returns
      exact ⟨ret_int (by rw [R.out]; unfold insSz; push_cast; omega), hB_w2⟩
    · have R := Lib.hid (szR_no (left := left) (s := insSz x) (by unfold insSz; push_cast; omega))
      have R1 := Lib.hid (szR_no (left := left - ((cmSz x.cmd : Nat) : Int)) (s := iddsSz x.deps) (by omega))
      go_enter Try.func23, Try.ntmps23
      go_wp2_with fail
      refine (cm_sz x.cmd _ _ _ _ _ (h1.keep (by go_grown)) bd0 (by omega) (by omega)).mono ?_
      rintro e w1 ⟨rfl, hb1⟩
      obtain ⟨hc_w1, hf_w1⟩ := bcell hb1
      have hz_w1 := hb1.size
      try simp at hz_w1
      have hB_w1 : Below w.heap.size w w1 := bthen (by go_grown) hb1
      have hz_w1_0 : w.heap.size < w1.heap.size := by omega
      rw [R0.out]
      go_wp2_with fail
      refine (idds_sz x.deps _ _ _ _ _ (h2.keep iddK hB_w1) bd1 (by omega) (by omega)).mono ?_
      rintro e w2 ⟨rfl, hb2⟩
      obtain ⟨hc_w2, hf_w2⟩ := bcell hb2
      have hz_w2 := hb2.size
      try simp at hz_w2
      have hB_w2 : Below w.heap.size w w2 := bthen hB_w1 hb2
      have hz_w2_0 : w.heap.size < w2.heap.size := by omega
      rw [R1.out]
      go_wp2
      go_returns
      exact ⟨ret_int R.out.symm, hB_w2⟩
  · have R := Lib.hid (szR_no (left := left) (s := insSz x) (by unfold insSz; push_cast; omega))
    have R0 := Lib.hid (szR_no (left := left) (s := cmSz x.cmd) (by omega))
    go_enter Try.func23, Try.ntmps23
    go_wp2_with fail
    refine (cm_sz x.cmd _ _ _ _ _ (h1.keep (by go_grown)) bd0 (by omega) (by omega)).mono ?_
    rintro e w1 ⟨rfl, hb1⟩
    obtain ⟨hc_w1, hf_w1⟩ := bcell hb1
    have hz_w1 := hb1.size
    try simp at hz_w1
    have hB_w1 : Below w.heap.size w w1 := bthen (by go_grown) hb1
    have hz_w1_0 : w.heap.size < w1.heap.size := by omega
    rw [R0.out]
    go_wp2
    go_returns
    exact ⟨ret_int R.out.symm, hB_w1⟩
set_option maxRecDepth 8000 in
theorem ins_eq (x : Ins) (A1 : Option Addr) (n1 c1 : Nat) (A2 : Option Addr) (n2 c2 : Nat) (A1' : Option Addr) (n1' c1' : Nat) (A2' : Option Addr) (n2' c2' : Nat) (w : World) (h1 : StrR w A1 n1 c1 x.cmd.ch) (h2 : RowR iddR 2 w A2 n2 c2 x.deps) (h1' : StrR w A1' n1' c1' x.cmd.ch) (h2' : RowR iddR 2 w A2' n2' c2' x.deps) (hs : insSz x ≤ 16777216) :
    Calls Try.prog 27 #[(insV x (.slice A1 n1 c1) (.slice A2 n2 c2)), (insV x (.slice A1' n1' c1') (.slice A2' n2' c2'))] w fun e w' => e = .returned (.bool true) ∧ Below w.heap.size w w' := by
  unfold insSz at hs
  unfold insV
  go_enter Try.func27, Try.ntmps27
  go_wp2_with fail
  refine (idd_eq x.id  _ ).mono ?_
  rintro e w1 ⟨rfl, hb1⟩
  obtain ⟨hc_w1, hf_w1⟩ := bcell hb1
  have hz_w1 := hb1.size
  try simp at hz_w1
  have hB_w1 : Below w.heap.size w w1 := bthen (by go_grown) hb1
  have hz_w1_0 : w.heap.size < w1.heap.size := by omega
  have hz_w1_1 : w.heap.size + 1 < w1.heap.size := by omega
  go_wp2_with fail
  refine (cm_eq x.cmd _ _ _ _ _ _ _ (h1.keep hB_w1) (h1'.keep hB_w1) (by omega)).mono ?_
  rintro e w2 ⟨rfl, hb2⟩
  obtain ⟨hc_w2, hf_w2⟩ := bcell hb2
  have hz_w2 := hb2.size
  try simp at hz_w2
  have hB_w2 : Below w.heap.size w w2 := bthen hB_w1 hb2
  have hz_w2_0 : w.heap.size < w2.heap.size := by omega
  have hz_w2_1 : w.heap.size + 1 < w2.heap.size := by omega
  go_wp2_with fail
  refine (idds_eq x.deps _ _ _ _ _ _ _ (h2.keep iddK hB_w2) (h2'.keep iddK hB_w2) (by omega)).mono ?_
  rintro e w3 ⟨rfl, hb3⟩
  obtain ⟨hc_w3, hf_w3⟩ := bcell hb3
  have hz_w3 := hb3.size
  try simp at hz_w3
  have hB_w3 : Below w.heap.size w w3 := bthen hB_w2 hb3
  have hz_w3_0 : w.heap.size < w3.heap.size := by omega
  have hz_w3_1 : w.heap.size + 1 < w3.heap.size := by omega
  go_wp2
  go_returns
  exact ⟨rfl, hB_w3⟩
set_option maxRecDepth 8000 in
set_option maxHeartbeats 1000000 in
theorem ins_to (x : Ins) (A1 : Option Addr) (n1 c1 : Nat) (A2 : Option Addr) (n2 c2 : Nat) (w : World) (h1 : StrR w A1 n1 c1 x.cmd.ch) (h2 : RowR iddR 2 w A2 n2 c2 x.deps) (hs : insSz x ≤ 1048576) :
    Calls Try.prog 25 #[(insV x (.slice A1 n1 c1) (.slice A2 n2 c2))] w fun e w' => ∃ (A1' : Option Addr) (n1' c1' : Nat) (A2' : Option Addr) (n2' c2' : Nat) (f1' f2' : List Nat), e = .returned (insV x (.slice A1' n1' c1') (.slice A2' n2' c2')) ∧ (f1' ++ f2').Nodup ∧ (∀ b ∈ f1' ++ f2', w.heap.size ≤ b ∧ b < w'.heap.size) ∧ StrO f1' w' A1' n1' c1' x.cmd.ch ∧ RowO iddF 46 2 f2' w' A2' n2' c2' x.deps ∧ Below w.heap.size w w' := by
  unfold insSz at hs
  unfold insV
  go_enter Try.func25, Try.ntmps25
  go_wp2_with fail
  refine (idd_to x.id  _ ).mono ?_
  rintro e w1 ⟨rfl, hb1⟩
  unfold iddV
  obtain ⟨hc_w1, hf_w1⟩ := bcell hb1
  have hz_w1 := hb1.size
  try simp at hz_w1
  have hB_w1 : Below w.heap.size w w1 := bthen (by go_grown) hb1
  have hz_w1_0 : w.heap.size < w1.heap.size := by omega
  have hz_w1_1 : w.heap.size + 1 < w1.heap.size := by omega
  have hz_w1_2 : w.heap.size + 1 + 1 < w1.heap.size := by omega
  go_wp2_with fail
  refine (cm_to x.cmd _ _ _ _ (h1.keep (((((hB_w1.setCell (by dsimp only; omega) _).setCell (by dsimp only; omega) _).setCell (by dsimp only; omega) _).setCell (by dsimp only; omega) _).setCell (by dsimp only; omega) _)) (by omega)).mono ?_
  rintro e w2 ⟨A1', n1', c1', f1', rfl, hN2, hF2, o1, hb2⟩
  unfold cmV
  obtain ⟨hc_w2, hf_w2⟩ := bcell hb2
  have hz_w2 := hb2.size
  try simp at hz_w2
  have hB_w2 : Below w.heap.size w w2 := bthen (((((hB_w1.setCell (by dsimp only; omega) _).setCell (by dsimp only; omega) _).setCell (by dsimp only; omega) _).setCell (by dsimp only; omega) _).setCell (by dsimp only; omega) _) hb2
  have hz_w2_0 : w.heap.size < w2.heap.size := by omega
  have hz_w2_1 : w.heap.size + 1 < w2.heap.size := by omega
  have hz_w2_2 : w.heap.size + 1 + 1 < w2.heap.size := by omega
  have hG2 : ∀ b ∈ f1', w.heap.size + 3 ≤ b ∧ b < w2.heap.size := fun b hb => by have := hF2 b hb; have hzz := hz_w1; simp at this; omega
  go_wp2_with fail
  refine (idds_to x.deps _ _ _ _ (h2.keep iddK (((((((((hB_w2.setCell (by dsimp only; omega) _).setCell (by dsimp only; omega) _).setCell (by dsimp only; omega) _).setCell (by dsimp only; omega) _).setCell (by dsimp only; omega) _).setCell (by dsimp only; omega) _).setCell (by dsimp only; omega) _).setCell (by dsimp only; omega) _).setCell (by dsimp only; omega) _)) (by omega)).mono ?_
  rintro e w3 ⟨A2', n2', c2', rfl, ⟨f2', hN3, hF3, o2⟩, hb3⟩
  obtain ⟨hc_w3, hf_w3⟩ := bcell hb3
  have hz_w3 := hb3.size
  try simp at hz_w3
  have hB_w3 : Below w.heap.size w w3 := bthen (((((((((hB_w2.setCell (by dsimp only; omega) _).setCell (by dsimp only; omega) _).setCell (by dsimp only; omega) _).setCell (by dsimp only; omega) _).setCell (by dsimp only; omega) _).setCell (by dsimp only; omega) _).setCell (by dsimp only; omega) _).setCell (by dsimp only; omega) _).setCell (by dsimp only; omega) _) hb3
  have hz_w3_0 : w.heap.size < w3.heap.size := by omega
  have hz_w3_1 : w.heap.size + 1 < w3.heap.size := by omega
  have hz_w3_2 : w.heap.size + 1 + 1 < w3.heap.size := by omega
  have hG3 : ∀ b ∈ f2', w.heap.size + 3 ≤ b ∧ b < w3.heap.size := fun b hb => by have := hF3 b hb; have hzz := hz_w2; simp at this; omega
  have k0 : w3.cell? ⟨w.heap.size + 1, 0, none⟩ = some (.int .i64 0) := (keep_cell hb3 (setoff (setoff (setoff (setoff (setoff (setoff (setoff (setoff (setoff (keep_cell hb2 (setoff (setoff (setoff (setoff (setoff (keep_cell hb1 (by first | (simp [go_sem]; done) | (simp [go_sem]; rfl))) (.inl (by omega))) (.inl (by omega))) (.inl (by omega))) (.inl (by omega))) (.inl (by omega)))) (.inl (by omega))) (.inl (by omega))) (.inl (by omega))) (.inl (by omega))) (.inl (by omega))) (.inl (by omega))) (.inl (by omega))) (.inl (by omega))) (.inl (by omega))))
  have k1 : w3.cell? ⟨w.heap.size + 1, 1, none⟩ = some (.int .i64 0) := (keep_cell hb3 (setoff (setoff (setoff (setoff (setoff (setoff (setoff (setoff (setoff (keep_cell hb2 (setoff (setoff (setoff (setoff (setoff (keep_cell hb1 (by first | (simp [go_sem]; done) | (simp [go_sem]; rfl))) (.inl (by omega))) (.inl (by omega))) (.inl (by omega))) (.inl (by omega))) (.inl (by omega)))) (.inl (by omega))) (.inl (by omega))) (.inl (by omega))) (.inl (by omega))) (.inl (by omega))) (.inl (by omega))) (.inl (by omega))) (.inl (by omega))) (.inl (by omega))))
  have k2 : w3.cell? ⟨w.heap.size + 1, 2, none⟩ = some (.int .i64 0) := (keep_cell hb3 (setoff (setoff (setoff (setoff (setoff (setoff (setoff (setoff (setoff (keep_cell hb2 (setoff (setoff (setoff (setoff (setoff (keep_cell hb1 (by first | (simp [go_sem]; done) | (simp [go_sem]; rfl))) (.inl (by omega))) (.inl (by omega))) (.inl (by omega))) (.inl (by omega))) (.inl (by omega)))) (.inl (by omega))) (.inl (by omega))) (.inl (by omega))) (.inl (by omega))) (.inl (by omega))) (.inl (by omega))) (.inl (by omega))) (.inl (by omega))) (.inl (by omega))))
  have k3 : w3.cell? ⟨w.heap.size + 1, 3, none⟩ = some (.int .i64 0) := (keep_cell hb3 (setoff (setoff (setoff (setoff (setoff (setoff (setoff (setoff (setoff (keep_cell hb2 (setoff (setoff (setoff (setoff (setoff (keep_cell hb1 (by first | (simp [go_sem]; done) | (simp [go_sem]; rfl))) (.inl (by omega))) (.inl (by omega))) (.inl (by omega))) (.inl (by omega))) (.inl (by omega)))) (.inl (by omega))) (.inl (by omega))) (.inl (by omega))) (.inl (by omega))) (.inl (by omega))) (.inl (by omega))) (.inl (by omega))) (.inl (by omega))) (.inl (by omega))))
  have k4 : w3.cell? ⟨w.heap.size + 1, 4, none⟩ = some (.int .i64 0) := (keep_cell hb3 (setoff (setoff (setoff (setoff (setoff (setoff (setoff (setoff (setoff (keep_cell hb2 (setoff (setoff (setoff (setoff (setoff (keep_cell hb1 (by first | (simp [go_sem]; done) | (simp [go_sem]; rfl))) (.inl (by omega))) (.inl (by omega))) (.inl (by omega))) (.inl (by omega))) (.inl (by omega)))) (.inl (by omega))) (.inl (by omega))) (.inl (by omega))) (.inl (by omega))) (.inl (by omega))) (.inl (by omega))) (.inl (by omega))) (.inl (by omega))) (.inl (by omega))))
  have k5 : w3.cell? ⟨w.heap.size + 1, 5, none⟩ = some (.int .i64 0) := (keep_cell hb3 (setoff (setoff (setoff (setoff (setoff (setoff (setoff (setoff (setoff (keep_cell hb2 (setoff (setoff (setoff (setoff (setoff (keep_cell hb1 (by first | (simp [go_sem]; done) | (simp [go_sem]; rfl))) (.inl (by omega))) (.inl (by omega))) (.inl (by omega))) (.inl (by omega))) (.inl (by omega)))) (.inl (by omega))) (.inl (by omega))) (.inl (by omega))) (.inl (by omega))) (.inl (by omega))) (.inl (by omega))) (.inl (by omega))) (.inl (by omega))) (.inl (by omega))))
  have k6 : w3.cell? ⟨w.heap.size + 1, 6, none⟩ = some (.int .i64 0) := (keep_cell hb3 (setoff (setoff (setoff (setoff (setoff (setoff (setoff (setoff (setoff (keep_cell hb2 (setoff (setoff (setoff (setoff (setoff (keep_cell hb1 (by first | (simp [go_sem]; done) | (simp [go_sem]; rfl))) (.inl (by omega))) (.inl (by omega))) (.inl (by omega))) (.inl (by omega))) (.inl (by omega)))) (.inl (by omega))) (.inl (by omega))) (.inl (by omega))) (.inl (by omega))) (.inl (by omega))) (.inl (by omega))) (.inl (by omega))) (.inl (by omega))) (.inl (by omega))))
  have k7 : w3.cell? ⟨w.heap.size + 1, 7, none⟩ = some (.int .i64 0) := (keep_cell hb3 (setoff (setoff (setoff (setoff (setoff (setoff (setoff (setoff (setoff (keep_cell hb2 (setoff (setoff (setoff (setoff (setoff (keep_cell hb1 (by first | (simp [go_sem]; done) | (simp [go_sem]; rfl))) (.inl (by omega))) (.inl (by omega))) (.inl (by omega))) (.inl (by omega))) (.inl (by omega)))) (.inl (by omega))) (.inl (by omega))) (.inl (by omega))) (.inl (by omega))) (.inl (by omega))) (.inl (by omega))) (.inl (by omega))) (.inl (by omega))) (.inl (by omega))))
  have k8 : w3.cell? ⟨w.heap.size + 1, 8, none⟩ = some (.string ByteArray.empty) := (keep_cell hb3 (setoff (setoff (setoff (setoff (setoff (setoff (setoff (setoff (setoff (keep_cell hb2 (setoff (setoff (setoff (setoff (setoff (keep_cell hb1 (by first | (simp [go_sem]; done) | (simp [go_sem]; rfl))) (.inl (by omega))) (.inl (by omega))) (.inl (by omega))) (.inl (by omega))) (.inl (by omega)))) (.inl (by omega))) (.inl (by omega))) (.inl (by omega))) (.inl (by omega))) (.inl (by omega))) (.inl (by omega))) (.inl (by omega))) (.inl (by omega))) (.inl (by omega))))
  have k9 : w3.cell? ⟨w.heap.size + 1, 9, none⟩ = some (.string ByteArray.empty) := (keep_cell hb3 (setoff (setoff (setoff (setoff (setoff (setoff (setoff (setoff (setoff (keep_cell hb2 (setoff (setoff (setoff (setoff (setoff (keep_cell hb1 (by first | (simp [go_sem]; done) | (simp [go_sem]; rfl))) (.inl (by omega))) (.inl (by omega))) (.inl (by omega))) (.inl (by omega))) (.inl (by omega)))) (.inl (by omega))) (.inl (by omega))) (.inl (by omega))) (.inl (by omega))) (.inl (by omega))) (.inl (by omega))) (.inl (by omega))) (.inl (by omega))) (.inl (by omega))))
  have k10 : w3.cell? ⟨w.heap.size + 1, 10, none⟩ = some (.string ByteArray.empty) := (keep_cell hb3 (setoff (setoff (setoff (setoff (setoff (setoff (setoff (setoff (setoff (keep_cell hb2 (setoff (setoff (setoff (setoff (setoff (keep_cell hb1 (by first | (simp [go_sem]; done) | (simp [go_sem]; rfl))) (.inl (by omega))) (.inl (by omega))) (.inl (by omega))) (.inl (by omega))) (.inl (by omega)))) (.inl (by omega))) (.inl (by omega))) (.inl (by omega))) (.inl (by omega))) (.inl (by omega))) (.inl (by omega))) (.inl (by omega))) (.inl (by omega))) (.inl (by omega))))
  have k11 : w3.cell? ⟨w.heap.size + 1, 11, none⟩ = some (.int .i64 0) := (keep_cell hb3 (setoff (setoff (setoff (setoff (setoff (setoff (setoff (setoff (setoff (keep_cell hb2 (setoff (setoff (setoff (setoff (setoff (keep_cell hb1 (by first | (simp [go_sem]; done) | (simp [go_sem]; rfl))) (.inl (by omega))) (.inl (by omega))) (.inl (by omega))) (.inl (by omega))) (.inl (by omega)))) (.inl (by omega))) (.inl (by omega))) (.inl (by omega))) (.inl (by omega))) (.inl (by omega))) (.inl (by omega))) (.inl (by omega))) (.inl (by omega))) (.inl (by omega))))
  have k12 : w3.cell? ⟨w.heap.size + 1, 12, none⟩ = some (.slice none 0 0) := (keep_cell hb3 (setoff (setoff (setoff (setoff (setoff (setoff (setoff (setoff (setoff (keep_cell hb2 (setoff (setoff (setoff (setoff (setoff (keep_cell hb1 (by first | (simp [go_sem]; done) | (simp [go_sem]; rfl))) (.inl (by omega))) (.inl (by omega))) (.inl (by omega))) (.inl (by omega))) (.inl (by omega)))) (.inl (by omega))) (.inl (by omega))) (.inl (by omega))) (.inl (by omega))) (.inl (by omega))) (.inl (by omega))) (.inl (by omega))) (.inl (by omega))) (.inl (by omega))))
  have k13 : w3.cell? ⟨w.heap.size + 1, 13, none⟩ = some (.int .i64 0) := (keep_cell hb3 (setoff (setoff (setoff (setoff (setoff (setoff (setoff (setoff (setoff (keep_cell hb2 (setoff (setoff (setoff (setoff (setoff (keep_cell hb1 (by first | (simp [go_sem]; done) | (simp [go_sem]; rfl))) (.inl (by omega))) (.inl (by omega))) (.inl (by omega))) (.inl (by omega))) (.inl (by omega)))) (.inl (by omega))) (.inl (by omega))) (.inl (by omega))) (.inl (by omega))) (.inl (by omega))) (.inl (by omega))) (.inl (by omega))) (.inl (by omega))) (.inl (by omega))))
  have k14 : w3.cell? ⟨w.heap.size + 1, 14, none⟩ = some (.slice none 0 0) := (keep_cell hb3 (setoff (setoff (setoff (setoff (setoff (setoff (setoff (setoff (setoff (keep_cell hb2 (setoff (setoff (setoff (setoff (setoff (keep_cell hb1 (by first | (simp [go_sem]; done) | (simp [go_sem]; rfl))) (.inl (by omega))) (.inl (by omega))) (.inl (by omega))) (.inl (by omega))) (.inl (by omega)))) (.inl (by omega))) (.inl (by omega))) (.inl (by omega))) (.inl (by omega))) (.inl (by omega))) (.inl (by omega))) (.inl (by omega))) (.inl (by omega))) (.inl (by omega))))
  have k15 : w3.cell? ⟨w.heap.size + 1, 15, none⟩ = some (.bool false) := (keep_cell hb3 (setoff (setoff (setoff (setoff (setoff (setoff (setoff (setoff (setoff (keep_cell hb2 (setoff (setoff (setoff (setoff (setoff (keep_cell hb1 (by first | (simp [go_sem]; done) | (simp [go_sem]; rfl))) (.inl (by omega))) (.inl (by omega))) (.inl (by omega))) (.inl (by omega))) (.inl (by omega)))) (.inl (by omega))) (.inl (by omega))) (.inl (by omega))) (.inl (by omega))) (.inl (by omega))) (.inl (by omega))) (.inl (by omega))) (.inl (by omega))) (.inl (by omega))))
  have l0 : ((w3.setCell ⟨w.heap.size + 1 + 1, 14, none⟩ (.slice A2' n2' c2')).setCell ⟨w.heap.size + 1 + 1, 15, none⟩ (.bool x.same)).cell? ⟨w.heap.size + 1, 0, none⟩ = some (.int .i64 0) := (setoff (setoff k0 (.inl (by omega))) (.inl (by omega)))
  have l1 : ((w3.setCell ⟨w.heap.size + 1 + 1, 14, none⟩ (.slice A2' n2' c2')).setCell ⟨w.heap.size + 1 + 1, 15, none⟩ (.bool x.same)).cell? ⟨w.heap.size + 1, 1, none⟩ = some (.int .i64 0) := (setoff (setoff k1 (.inl (by omega))) (.inl (by omega)))
  have l2 : ((w3.setCell ⟨w.heap.size + 1 + 1, 14, none⟩ (.slice A2' n2' c2')).setCell ⟨w.heap.size + 1 + 1, 15, none⟩ (.bool x.same)).cell? ⟨w.heap.size + 1, 2, none⟩ = some (.int .i64 0) := (setoff (setoff k2 (.inl (by omega))) (.inl (by omega)))
  have l3 : ((w3.setCell ⟨w.heap.size + 1 + 1, 14, none⟩ (.slice A2' n2' c2')).setCell ⟨w.heap.size + 1 + 1, 15, none⟩ (.bool x.same)).cell? ⟨w.heap.size + 1, 3, none⟩ = some (.int .i64 0) := (setoff (setoff k3 (.inl (by omega))) (.inl (by omega)))
  have l4 : ((w3.setCell ⟨w.heap.size + 1 + 1, 14, none⟩ (.slice A2' n2' c2')).setCell ⟨w.heap.size + 1 + 1, 15, none⟩ (.bool x.same)).cell? ⟨w.heap.size + 1, 4, none⟩ = some (.int .i64 0) := (setoff (setoff k4 (.inl (by omega))) (.inl (by omega)))
  have l5 : ((w3.setCell ⟨w.heap.size + 1 + 1, 14, none⟩ (.slice A2' n2' c2')).setCell ⟨w.heap.size + 1 + 1, 15, none⟩ (.bool x.same)).cell? ⟨w.heap.size + 1, 5, none⟩ = some (.int .i64 0) := (setoff (setoff k5 (.inl (by omega))) (.inl (by omega)))
  have l6 : ((w3.setCell ⟨w.heap.size + 1 + 1, 14, none⟩ (.slice A2' n2' c2')).setCell ⟨w.heap.size + 1 + 1, 15, none⟩ (.bool x.same)).cell? ⟨w.heap.size + 1, 6, none⟩ = some (.int .i64 0) := (setoff (setoff k6 (.inl (by omega))) (.inl (by omega)))
  have l7 : ((w3.setCell ⟨w.heap.size + 1 + 1, 14, none⟩ (.slice A2' n2' c2')).setCell ⟨w.heap.size + 1 + 1, 15, none⟩ (.bool x.same)).cell? ⟨w.heap.size + 1, 7, none⟩ = some (.int .i64 0) := (setoff (setoff k7 (.inl (by omega))) (.inl (by omega)))
  have l8 : ((w3.setCell ⟨w.heap.size + 1 + 1, 14, none⟩ (.slice A2' n2' c2')).setCell ⟨w.heap.size + 1 + 1, 15, none⟩ (.bool x.same)).cell? ⟨w.heap.size + 1, 8, none⟩ = some (.string ByteArray.empty) := (setoff (setoff k8 (.inl (by omega))) (.inl (by omega)))
  have l9 : ((w3.setCell ⟨w.heap.size + 1 + 1, 14, none⟩ (.slice A2' n2' c2')).setCell ⟨w.heap.size + 1 + 1, 15, none⟩ (.bool x.same)).cell? ⟨w.heap.size + 1, 9, none⟩ = some (.string ByteArray.empty) := (setoff (setoff k9 (.inl (by omega))) (.inl (by omega)))
  have l10 : ((w3.setCell ⟨w.heap.size + 1 + 1, 14, none⟩ (.slice A2' n2' c2')).setCell ⟨w.heap.size + 1 + 1, 15, none⟩ (.bool x.same)).cell? ⟨w.heap.size + 1, 10, none⟩ = some (.string ByteArray.empty) := (setoff (setoff k10 (.inl (by omega))) (.inl (by omega)))
  have l11 : ((w3.setCell ⟨w.heap.size + 1 + 1, 14, none⟩ (.slice A2' n2' c2')).setCell ⟨w.heap.size + 1 + 1, 15, none⟩ (.bool x.same)).cell? ⟨w.heap.size + 1, 11, none⟩ = some (.int .i64 0) := (setoff (setoff k11 (.inl (by omega))) (.inl (by omega)))
  have l12 : ((w3.setCell ⟨w.heap.size + 1 + 1, 14, none⟩ (.slice A2' n2' c2')).setCell ⟨w.heap.size + 1 + 1, 15, none⟩ (.bool x.same)).cell? ⟨w.heap.size + 1, 12, none⟩ = some (.slice none 0 0) := (setoff (setoff k12 (.inl (by omega))) (.inl (by omega)))
  have l13 : ((w3.setCell ⟨w.heap.size + 1 + 1, 14, none⟩ (.slice A2' n2' c2')).setCell ⟨w.heap.size + 1 + 1, 15, none⟩ (.bool x.same)).cell? ⟨w.heap.size + 1, 13, none⟩ = some (.int .i64 0) := (setoff (setoff k13 (.inl (by omega))) (.inl (by omega)))
  have l14 : ((w3.setCell ⟨w.heap.size + 1 + 1, 14, none⟩ (.slice A2' n2' c2')).setCell ⟨w.heap.size + 1 + 1, 15, none⟩ (.bool x.same)).cell? ⟨w.heap.size + 1, 14, none⟩ = some (.slice none 0 0) := (setoff (setoff k14 (.inl (by omega))) (.inl (by omega)))
  have l15 : ((w3.setCell ⟨w.heap.size + 1 + 1, 14, none⟩ (.slice A2' n2' c2')).setCell ⟨w.heap.size + 1 + 1, 15, none⟩ (.bool x.same)).cell? ⟨w.heap.size + 1, 15, none⟩ = some (.bool false) := (setoff (setoff k15 (.inl (by omega))) (.inl (by omega)))
  obtain ⟨WF, hWF⟩ : ∃ WF, WF = setsW ((w3.setCell ⟨w.heap.size + 1 + 1, 14, none⟩ (.slice A2' n2' c2')).setCell ⟨w.heap.size + 1 + 1, 15, none⟩ (.bool x.same)) (w.heap.size + 1) 0 [.int .i64 x.id.r, .int .i64 x.id.s, .int .i64 x.bal, .int .i64 x.vb, .int .i64 x.st, .int .i64 x.cmd.kd, .int .i64 x.cmd.cl, .int .i64 x.cmd.no, .string x.cmd.s, .string x.cmd.nm, .string x.cmd.tg, .int .i64 x.cmd.n, .slice A1' n1' c1', .int .i64 x.seq, .slice A2' n2' c2', .bool x.same] := ⟨_, rfl⟩
  have hcs : ∀ j, j < [(.int .i64 x.id.r : Value), (.int .i64 x.id.s : Value), (.int .i64 x.bal : Value), (.int .i64 x.vb : Value), (.int .i64 x.st : Value), (.int .i64 x.cmd.kd : Value), (.int .i64 x.cmd.cl : Value), (.int .i64 x.cmd.no : Value), (.string x.cmd.s : Value), (.string x.cmd.nm : Value), (.string x.cmd.tg : Value), (.int .i64 x.cmd.n : Value), (.slice A1' n1' c1' : Value), (.int .i64 x.seq : Value), (.slice A2' n2' c2' : Value), (.bool x.same : Value)].length → ∃ u, ((w3.setCell ⟨w.heap.size + 1 + 1, 14, none⟩ (.slice A2' n2' c2')).setCell ⟨w.heap.size + 1 + 1, 15, none⟩ (.bool x.same)).cell? ⟨w.heap.size + 1, 0 + j, none⟩ = some u := fun j hj => by
    simp only [List.length_cons, List.length_nil] at hj
    rw [Nat.zero_add]
    rcases (show j = 0 ∨ j = 1 ∨ j = 2 ∨ j = 3 ∨ j = 4 ∨ j = 5 ∨ j = 6 ∨ j = 7 ∨ j = 8 ∨ j = 9 ∨ j = 10 ∨ j = 11 ∨ j = 12 ∨ j = 13 ∨ j = 14 ∨ j = 15 by omega) with rfl | rfl | rfl | rfl | rfl | rfl | rfl | rfl | rfl | rfl | rfl | rfl | rfl | rfl | rfl | rfl
    · exact ⟨_, l0⟩
    · exact ⟨_, l1⟩
    · exact ⟨_, l2⟩
    · exact ⟨_, l3⟩
    · exact ⟨_, l4⟩
    · exact ⟨_, l5⟩
    · exact ⟨_, l6⟩
    · exact ⟨_, l7⟩
    · exact ⟨_, l8⟩
    · exact ⟨_, l9⟩
    · exact ⟨_, l10⟩
    · exact ⟨_, l11⟩
    · exact ⟨_, l12⟩
    · exact ⟨_, l13⟩
    · exact ⟨_, l14⟩
    · exact ⟨_, l15⟩
  have r0 : WF.cell? ⟨w.heap.size + 1, 0, none⟩ = some (.int .i64 x.id.r) := by rw [hWF]; have := setsW_cell _ 0 _ hcs 0 _ rfl; simpa using this
  have r1 : WF.cell? ⟨w.heap.size + 1, 1, none⟩ = some (.int .i64 x.id.s) := by rw [hWF]; have := setsW_cell _ 0 _ hcs 1 _ rfl; simpa using this
  have r2 : WF.cell? ⟨w.heap.size + 1, 2, none⟩ = some (.int .i64 x.bal) := by rw [hWF]; have := setsW_cell _ 0 _ hcs 2 _ rfl; simpa using this
  have r3 : WF.cell? ⟨w.heap.size + 1, 3, none⟩ = some (.int .i64 x.vb) := by rw [hWF]; have := setsW_cell _ 0 _ hcs 3 _ rfl; simpa using this
  have r4 : WF.cell? ⟨w.heap.size + 1, 4, none⟩ = some (.int .i64 x.st) := by rw [hWF]; have := setsW_cell _ 0 _ hcs 4 _ rfl; simpa using this
  have r5 : WF.cell? ⟨w.heap.size + 1, 5, none⟩ = some (.int .i64 x.cmd.kd) := by rw [hWF]; have := setsW_cell _ 0 _ hcs 5 _ rfl; simpa using this
  have r6 : WF.cell? ⟨w.heap.size + 1, 6, none⟩ = some (.int .i64 x.cmd.cl) := by rw [hWF]; have := setsW_cell _ 0 _ hcs 6 _ rfl; simpa using this
  have r7 : WF.cell? ⟨w.heap.size + 1, 7, none⟩ = some (.int .i64 x.cmd.no) := by rw [hWF]; have := setsW_cell _ 0 _ hcs 7 _ rfl; simpa using this
  have r8 : WF.cell? ⟨w.heap.size + 1, 8, none⟩ = some (.string x.cmd.s) := by rw [hWF]; have := setsW_cell _ 0 _ hcs 8 _ rfl; simpa using this
  have r9 : WF.cell? ⟨w.heap.size + 1, 9, none⟩ = some (.string x.cmd.nm) := by rw [hWF]; have := setsW_cell _ 0 _ hcs 9 _ rfl; simpa using this
  have r10 : WF.cell? ⟨w.heap.size + 1, 10, none⟩ = some (.string x.cmd.tg) := by rw [hWF]; have := setsW_cell _ 0 _ hcs 10 _ rfl; simpa using this
  have r11 : WF.cell? ⟨w.heap.size + 1, 11, none⟩ = some (.int .i64 x.cmd.n) := by rw [hWF]; have := setsW_cell _ 0 _ hcs 11 _ rfl; simpa using this
  have r12 : WF.cell? ⟨w.heap.size + 1, 12, none⟩ = some (.slice A1' n1' c1') := by rw [hWF]; have := setsW_cell _ 0 _ hcs 12 _ rfl; simpa using this
  have r13 : WF.cell? ⟨w.heap.size + 1, 13, none⟩ = some (.int .i64 x.seq) := by rw [hWF]; have := setsW_cell _ 0 _ hcs 13 _ rfl; simpa using this
  have r14 : WF.cell? ⟨w.heap.size + 1, 14, none⟩ = some (.slice A2' n2' c2') := by rw [hWF]; have := setsW_cell _ 0 _ hcs 14 _ rfl; simpa using this
  have r15 : WF.cell? ⟨w.heap.size + 1, 15, none⟩ = some (.bool x.same) := by rw [hWF]; have := setsW_cell _ 0 _ hcs 15 _ rfl; simpa using this
  have hCW : Ch (fun b => b = w.heap.size + 1) ((w3.setCell ⟨w.heap.size + 1 + 1, 14, none⟩ (.slice A2' n2' c2')).setCell ⟨w.heap.size + 1 + 1, 15, none⟩ (.bool x.same)) WF := by rw [hWF]; exact ch_setsW _ 0 _
  simp only [setsW, Nat.zero_add, Nat.reduceAdd] at hWF
  go_wp2
  rw [← hWF]
  clear hcs
  have hBF : Below w.heap.size w WF := ((hB_w3.setCell (by dsimp only; omega) _).setCell (by dsimp only; omega) _).trans (hCW.below (fun k hk => by omega) (((hB_w3.setCell (by dsimp only; omega) _).setCell (by dsimp only; omega) _).size))
  have z1 := o1.ch ((((((((((((((Ch.refl (S := fun b => b < w.heap.size + 3) w2).setCell (by dsimp only; omega) _).setCell (by dsimp only; omega) _).setCell (by dsimp only; omega) _).setCell (by dsimp only; omega) _).setCell (by dsimp only; omega) _).setCell (by dsimp only; omega) _).setCell (by dsimp only; omega) _).setCell (by dsimp only; omega) _).setCell (by dsimp only; omega) _).trans (Ch.of_below hb3)).setCell (by dsimp only; omega) _).setCell (by dsimp only; omega) _).trans (hCW.mono (fun b hb => by omega))) (fun b hb => by have := hG2 b (by simp [hb]); omega)
  have z2 := o2.ch iddK ((((Ch.refl (S := fun b => b < w.heap.size + 3) w3).setCell (by dsimp only; omega) _).setCell (by dsimp only; omega) _).trans (hCW.mono (fun b hb => by omega))) (fun b hb => by have := hG3 b (by simp [hb]); omega)
  have hsz : w3.heap.size ≤ WF.heap.size := by have := hCW.size; simpa using this
  have hND : (f1' ++ f2').Nodup := by
    have := (nodup_new (m := w2.heap.size) hN2 hN3 (fun b hb => by have := hG2 b (by simp [hb]); omega) (fun b hb => by have := hF3 b hb; simp at this; omega))
    simpa only [List.append_assoc] using this
  have hBD : ∀ b ∈ f1' ++ f2', w.heap.size ≤ b ∧ b < WF.heap.size := fun b hb => by
    simp only [List.mem_append] at hb
    rcases hb with hb | hb
    · have := hG2 b (by simp [hb]); omega
    · have := hG3 b (by simp [hb]); omega
  exact bodyPost_ret (v := .agg #[.int .i64 x.id.r, .int .i64 x.id.s, .int .i64 x.bal, .int .i64 x.vb, .int .i64 x.st, .int .i64 x.cmd.kd, .int .i64 x.cmd.cl, .int .i64 x.cmd.no, .string x.cmd.s, .string x.cmd.nm, .string x.cmd.tg, .int .i64 x.cmd.n, .slice A1' n1' c1', .int .i64 x.seq, .slice A2' n2' c2', .bool x.same]) (by simp [results, Try.results25, go_sem, r0, r1, r2, r3, r4, r5, r6, r7, r8, r9, r10, r11, r12, r13, r14, r15]) rfl ⟨A1', n1', c1', A2', n2', c2', f1', f2', rfl, hND, hBD, z1, z2, hBF⟩
theorem inss_sz (l : List Ins) (A : Option Addr) (n c : Nat) (left : Int) (w : World) (h : RowR insR 16 w A n c l) (hb : inssB l) (hl0 : 0 ≤ left) (hl1 : left ≤ 4611686018427387904) :
    Calls Try.prog 93 #[.slice A n c, .int .i64 left] w fun e w' => e = .returned (.int .i64 (szR left (inssSz l))) ∧ Below w.heap.size w w' := by
  have HL := Lib.hid h.len.symm
  have hn : n ≤ 9223372036854775807 := by have h1 := HL.out; have h2 := hb.1; omega
  by_cases h0 : left - n < 0
  · go_enter Try.func93, Try.ntmps93
    go_wp2
    go_returns
    refine ⟨ret_int (szR_no ?_).symm, Below.refl _ _⟩
    have := HL.out; unfold inssSz; omega
  · go_enter Try.func93, Try.ntmps93
    go_wp2
    have E0 := Lib.hid (sumTo_zero insSz l)
    go_loopw [1, 5] (fun u i wr => ∃ k : Nat, k ≤ n ∧ i = .int .i64 k ∧ u = .int .i64 (left - n - (sumTo insSz l k : Nat)) ∧ 0 ≤ left - n - (sumTo insSz l k : Nat) ∧ Below w.heap.size w wr) (fun _ i _ => n - (intOf i).toNat)
    case atStart => exact ⟨0, Nat.zero_le _, rfl, by rw [E0.out]; simp, by rw [E0.out]; omega, Below.refl _ _⟩
    case round =>
      obtain ⟨k, hk, rfl, rfl, hge, hbw⟩ := hrel
      by_cases hlt : k < n
      · obtain ⟨b, off, rfl⟩ := h.head (by omega)
        obtain ⟨bl, x, cs, hx, hR, hcell⟩ := h.elem_at hlt
        obtain ⟨A1, n1, c1, A2, n2, c2, rfl, h1, h2⟩ := hR
        have e0 := (hbw.cell (p := ⟨b, off + k * 16, none⟩) bl).trans (show w.cell? ⟨b, off + k * 16, none⟩ = some (.int .i64 x.id.r) from hcell 0 _ rfl)
        have e1 := (hbw.cell (p := ⟨b, off + k * 16 + 1, none⟩) bl).trans (show w.cell? ⟨b, off + k * 16 + 1, none⟩ = some (.int .i64 x.id.s) from hcell 1 _ rfl)
        have e2 := (hbw.cell (p := ⟨b, off + k * 16 + 2, none⟩) bl).trans (show w.cell? ⟨b, off + k * 16 + 2, none⟩ = some (.int .i64 x.bal) from hcell 2 _ rfl)
        have e3 := (hbw.cell (p := ⟨b, off + k * 16 + 3, none⟩) bl).trans (show w.cell? ⟨b, off + k * 16 + 3, none⟩ = some (.int .i64 x.vb) from hcell 3 _ rfl)
        have e4 := (hbw.cell (p := ⟨b, off + k * 16 + 4, none⟩) bl).trans (show w.cell? ⟨b, off + k * 16 + 4, none⟩ = some (.int .i64 x.st) from hcell 4 _ rfl)
        have e5 := (hbw.cell (p := ⟨b, off + k * 16 + 5, none⟩) bl).trans (show w.cell? ⟨b, off + k * 16 + 5, none⟩ = some (.int .i64 x.cmd.kd) from hcell 5 _ rfl)
        have e6 := (hbw.cell (p := ⟨b, off + k * 16 + 6, none⟩) bl).trans (show w.cell? ⟨b, off + k * 16 + 6, none⟩ = some (.int .i64 x.cmd.cl) from hcell 6 _ rfl)
        have e7 := (hbw.cell (p := ⟨b, off + k * 16 + 7, none⟩) bl).trans (show w.cell? ⟨b, off + k * 16 + 7, none⟩ = some (.int .i64 x.cmd.no) from hcell 7 _ rfl)
        have e8 := (hbw.cell (p := ⟨b, off + k * 16 + 8, none⟩) bl).trans (show w.cell? ⟨b, off + k * 16 + 8, none⟩ = some (.string x.cmd.s) from hcell 8 _ rfl)
        have e9 := (hbw.cell (p := ⟨b, off + k * 16 + 9, none⟩) bl).trans (show w.cell? ⟨b, off + k * 16 + 9, none⟩ = some (.string x.cmd.nm) from hcell 9 _ rfl)
        have e10 := (hbw.cell (p := ⟨b, off + k * 16 + 10, none⟩) bl).trans (show w.cell? ⟨b, off + k * 16 + 10, none⟩ = some (.string x.cmd.tg) from hcell 10 _ rfl)
        have e11 := (hbw.cell (p := ⟨b, off + k * 16 + 11, none⟩) bl).trans (show w.cell? ⟨b, off + k * 16 + 11, none⟩ = some (.int .i64 x.cmd.n) from hcell 11 _ rfl)
        have e12 := (hbw.cell (p := ⟨b, off + k * 16 + 12, none⟩) bl).trans (show w.cell? ⟨b, off + k * 16 + 12, none⟩ = some (.slice A1 n1 c1) from hcell 12 _ rfl)
        have e13 := (hbw.cell (p := ⟨b, off + k * 16 + 13, none⟩) bl).trans (show w.cell? ⟨b, off + k * 16 + 13, none⟩ = some (.int .i64 x.seq) from hcell 13 _ rfl)
        have e14 := (hbw.cell (p := ⟨b, off + k * 16 + 14, none⟩) bl).trans (show w.cell? ⟨b, off + k * 16 + 14, none⟩ = some (.slice A2 n2 c2) from hcell 14 _ rfl)
        have e15 := (hbw.cell (p := ⟨b, off + k * 16 + 15, none⟩) bl).trans (show w.cell? ⟨b, off + k * 16 + 15, none⟩ = some (.bool x.same) from hcell 15 _ rfl)
        clear hcell
        have hbx := bounds_el hb.2 hx
        obtain ⟨HSM, HSS⟩ := sum_el insSz hx
        have HSU := Lib.hid HSS; clear HSS
        have HLE := Lib.hid (sumTo_le insSz l (k + 1))
        by_cases hq : left - n - (sumTo insSz l k : Nat) - ((insSz x : Nat) : Int) < 0
        · have HR := Lib.hid (szR_no (left := left - n - (sumTo insSz l k : Nat)) (s := insSz x) (by omega))
          go_wp2_with fail
          refine (ins_sz x _ _ _ _ _ _ _ _ (h1.keep hbw) (h2.keep iddK hbw) hbx (by omega) (by omega)).mono ?_
          rintro e w1 ⟨rfl, hb1⟩
          rw [HR.out]
          go_wp2
          go_returns
          refine ⟨ret_int (szR_no ?_).symm, bthen hbw hb1⟩
          have := HL.out; have := HSU.out; have := HLE.out; unfold inssSz; omega
        · have HR := Lib.hid (szR_yes (left := left - n - (sumTo insSz l k : Nat)) (s := insSz x) (by omega))
          go_wp2_with fail
          refine (ins_sz x _ _ _ _ _ _ _ _ (h1.keep hbw) (h2.keep iddK hbw) hbx (by omega) (by omega)).mono ?_
          rintro e w1 ⟨rfl, hb1⟩
          rw [HR.out]
          go_wp2
          refine ⟨⟨k + 1, by omega, by go_num, ?_, ?_, bthen hbw hb1⟩, by simp [intOf]; omega⟩
          · rw [HSU.out]; congr 1; push_cast; omega
          · rw [HSU.out]; push_cast; omega
      · go_wp2
        go_returns
        refine ⟨ret_int ?_, hbw⟩
        have h3 := sumTo_all insSz l k (by have := HL.out; omega)
        have := HL.out
        rw [szR_yes (by unfold inssSz; omega)]; unfold inssSz; push_cast; omega
set_option maxRecDepth 8000 in
set_option maxHeartbeats 1000000 in
theorem inss_eq (l : List Ins) (A : Option Addr) (n c : Nat) (A' : Option Addr) (n' c' : Nat) (w : World) (h : RowR insR 16 w A n c l) (h' : RowR insR 16 w A' n' c' l) (hs : inssSz l ≤ 16777216) :
    Calls Try.prog 101 #[.slice A n c, .slice A' n' c'] w fun e w' => e = .returned (.bool true) ∧ Below w.heap.size w w' := by
  obtain rfl : n = n' := h.len.trans h'.len.symm
  have hn : n ≤ 16777216 := by have h1 := h.len; unfold inssSz at hs; omega
  go_enter Try.func101, Try.ntmps101
  go_wp2
  go_loopw [5] (fun i wr => ∃ (k : Nat), k ≤ n ∧ i = .int .i64 k ∧ Below w.heap.size w wr) (fun i _ => n - (intOf i).toNat)
  case atStart => exact ⟨0, Nat.zero_le _, rfl, Below.refl _ _⟩
  case round =>
    obtain ⟨k, hk, rfl, hb⟩ := hrel
    by_cases hlt : k < n
    · obtain ⟨b, off, rfl⟩ := h.head (by omega)
      obtain ⟨bl, x, cs, hx, hR, hcell⟩ := h.elem_at hlt
      obtain ⟨A1, n1, c1, A2, n2, c2, rfl, h1, h2⟩ := hR
      have e0 := (hb.cell (p := ⟨b, off + k * 16, none⟩) bl).trans (show w.cell? ⟨b, off + k * 16, none⟩ = some (.int .i64 x.id.r) from hcell 0 _ rfl)
      have e1 := (hb.cell (p := ⟨b, off + k * 16 + 1, none⟩) bl).trans (show w.cell? ⟨b, off + k * 16 + 1, none⟩ = some (.int .i64 x.id.s) from hcell 1 _ rfl)
      have e2 := (hb.cell (p := ⟨b, off + k * 16 + 2, none⟩) bl).trans (show w.cell? ⟨b, off + k * 16 + 2, none⟩ = some (.int .i64 x.bal) from hcell 2 _ rfl)
      have e3 := (hb.cell (p := ⟨b, off + k * 16 + 3, none⟩) bl).trans (show w.cell? ⟨b, off + k * 16 + 3, none⟩ = some (.int .i64 x.vb) from hcell 3 _ rfl)
      have e4 := (hb.cell (p := ⟨b, off + k * 16 + 4, none⟩) bl).trans (show w.cell? ⟨b, off + k * 16 + 4, none⟩ = some (.int .i64 x.st) from hcell 4 _ rfl)
      have e5 := (hb.cell (p := ⟨b, off + k * 16 + 5, none⟩) bl).trans (show w.cell? ⟨b, off + k * 16 + 5, none⟩ = some (.int .i64 x.cmd.kd) from hcell 5 _ rfl)
      have e6 := (hb.cell (p := ⟨b, off + k * 16 + 6, none⟩) bl).trans (show w.cell? ⟨b, off + k * 16 + 6, none⟩ = some (.int .i64 x.cmd.cl) from hcell 6 _ rfl)
      have e7 := (hb.cell (p := ⟨b, off + k * 16 + 7, none⟩) bl).trans (show w.cell? ⟨b, off + k * 16 + 7, none⟩ = some (.int .i64 x.cmd.no) from hcell 7 _ rfl)
      have e8 := (hb.cell (p := ⟨b, off + k * 16 + 8, none⟩) bl).trans (show w.cell? ⟨b, off + k * 16 + 8, none⟩ = some (.string x.cmd.s) from hcell 8 _ rfl)
      have e9 := (hb.cell (p := ⟨b, off + k * 16 + 9, none⟩) bl).trans (show w.cell? ⟨b, off + k * 16 + 9, none⟩ = some (.string x.cmd.nm) from hcell 9 _ rfl)
      have e10 := (hb.cell (p := ⟨b, off + k * 16 + 10, none⟩) bl).trans (show w.cell? ⟨b, off + k * 16 + 10, none⟩ = some (.string x.cmd.tg) from hcell 10 _ rfl)
      have e11 := (hb.cell (p := ⟨b, off + k * 16 + 11, none⟩) bl).trans (show w.cell? ⟨b, off + k * 16 + 11, none⟩ = some (.int .i64 x.cmd.n) from hcell 11 _ rfl)
      have e12 := (hb.cell (p := ⟨b, off + k * 16 + 12, none⟩) bl).trans (show w.cell? ⟨b, off + k * 16 + 12, none⟩ = some (.slice A1 n1 c1) from hcell 12 _ rfl)
      have e13 := (hb.cell (p := ⟨b, off + k * 16 + 13, none⟩) bl).trans (show w.cell? ⟨b, off + k * 16 + 13, none⟩ = some (.int .i64 x.seq) from hcell 13 _ rfl)
      have e14 := (hb.cell (p := ⟨b, off + k * 16 + 14, none⟩) bl).trans (show w.cell? ⟨b, off + k * 16 + 14, none⟩ = some (.slice A2 n2 c2) from hcell 14 _ rfl)
      have e15 := (hb.cell (p := ⟨b, off + k * 16 + 15, none⟩) bl).trans (show w.cell? ⟨b, off + k * 16 + 15, none⟩ = some (.bool x.same) from hcell 15 _ rfl)
      clear hcell
      obtain ⟨b', off', rfl⟩ := h'.head (by omega)
      obtain ⟨b'l, x', cs', hx', hR', hcell'⟩ := h'.elem_at hlt
      obtain rfl : x' = x := Option.some.inj (hx'.symm.trans hx)
      obtain ⟨A1', n1', c1', A2', n2', c2', rfl, h1', h2'⟩ := hR'
      have e0' := (hb.cell (p := ⟨b', off' + k * 16, none⟩) b'l).trans (show w.cell? ⟨b', off' + k * 16, none⟩ = some (.int .i64 x'.id.r) from hcell' 0 _ rfl)
      have e1' := (hb.cell (p := ⟨b', off' + k * 16 + 1, none⟩) b'l).trans (show w.cell? ⟨b', off' + k * 16 + 1, none⟩ = some (.int .i64 x'.id.s) from hcell' 1 _ rfl)
      have e2' := (hb.cell (p := ⟨b', off' + k * 16 + 2, none⟩) b'l).trans (show w.cell? ⟨b', off' + k * 16 + 2, none⟩ = some (.int .i64 x'.bal) from hcell' 2 _ rfl)
      have e3' := (hb.cell (p := ⟨b', off' + k * 16 + 3, none⟩) b'l).trans (show w.cell? ⟨b', off' + k * 16 + 3, none⟩ = some (.int .i64 x'.vb) from hcell' 3 _ rfl)
      have e4' := (hb.cell (p := ⟨b', off' + k * 16 + 4, none⟩) b'l).trans (show w.cell? ⟨b', off' + k * 16 + 4, none⟩ = some (.int .i64 x'.st) from hcell' 4 _ rfl)
      have e5' := (hb.cell (p := ⟨b', off' + k * 16 + 5, none⟩) b'l).trans (show w.cell? ⟨b', off' + k * 16 + 5, none⟩ = some (.int .i64 x'.cmd.kd) from hcell' 5 _ rfl)
      have e6' := (hb.cell (p := ⟨b', off' + k * 16 + 6, none⟩) b'l).trans (show w.cell? ⟨b', off' + k * 16 + 6, none⟩ = some (.int .i64 x'.cmd.cl) from hcell' 6 _ rfl)
      have e7' := (hb.cell (p := ⟨b', off' + k * 16 + 7, none⟩) b'l).trans (show w.cell? ⟨b', off' + k * 16 + 7, none⟩ = some (.int .i64 x'.cmd.no) from hcell' 7 _ rfl)
      have e8' := (hb.cell (p := ⟨b', off' + k * 16 + 8, none⟩) b'l).trans (show w.cell? ⟨b', off' + k * 16 + 8, none⟩ = some (.string x'.cmd.s) from hcell' 8 _ rfl)
      have e9' := (hb.cell (p := ⟨b', off' + k * 16 + 9, none⟩) b'l).trans (show w.cell? ⟨b', off' + k * 16 + 9, none⟩ = some (.string x'.cmd.nm) from hcell' 9 _ rfl)
      have e10' := (hb.cell (p := ⟨b', off' + k * 16 + 10, none⟩) b'l).trans (show w.cell? ⟨b', off' + k * 16 + 10, none⟩ = some (.string x'.cmd.tg) from hcell' 10 _ rfl)
      have e11' := (hb.cell (p := ⟨b', off' + k * 16 + 11, none⟩) b'l).trans (show w.cell? ⟨b', off' + k * 16 + 11, none⟩ = some (.int .i64 x'.cmd.n) from hcell' 11 _ rfl)
      have e12' := (hb.cell (p := ⟨b', off' + k * 16 + 12, none⟩) b'l).trans (show w.cell? ⟨b', off' + k * 16 + 12, none⟩ = some (.slice A1' n1' c1') from hcell' 12 _ rfl)
      have e13' := (hb.cell (p := ⟨b', off' + k * 16 + 13, none⟩) b'l).trans (show w.cell? ⟨b', off' + k * 16 + 13, none⟩ = some (.int .i64 x'.seq) from hcell' 13 _ rfl)
      have e14' := (hb.cell (p := ⟨b', off' + k * 16 + 14, none⟩) b'l).trans (show w.cell? ⟨b', off' + k * 16 + 14, none⟩ = some (.slice A2' n2' c2') from hcell' 14 _ rfl)
      have e15' := (hb.cell (p := ⟨b', off' + k * 16 + 15, none⟩) b'l).trans (show w.cell? ⟨b', off' + k * 16 + 15, none⟩ = some (.bool x'.same) from hcell' 15 _ rfl)
      clear hcell' hx'
      have hek := inss_el hx
      have hn63 : (k : Int) < n := by omega
      go_wp2
      go_still_tail 8, (by kernel_rfl)
      change wpList _ _ _ _ _ wr.drew
      have hbd : Below w.heap.size w wr.drew := hb.drew
      generalize wr.drew = w2 at *
      go_wp2_with fail
      refine (ins_eq x' _ _ _ _ _ _ _ _ _ _ _ _ _ (h1.keep hbd) (h2.keep iddK hbd) (h1'.keep hbd) (h2'.keep iddK hbd) (by omega)).mono ?_
      rintro e w3 ⟨rfl, hb3⟩
      go_wp2
      exact ⟨⟨k + 1, by omega, by go_num, bthen hbd hb3⟩, by simp [intOf]; omega⟩
    · go_wp2
      go_returns
      exact ⟨rfl, hb⟩
theorem infoInst : (Try.prog.info? 50).map (fun i => (i.zero, i.size, i.bytes)) = some (some (.agg #[.int .i64 0, .int .i64 0, .int .i64 0, .int .i64 0, .int .i64 0, .int .i64 0, .int .i64 0, .int .i64 0, .string ByteArray.empty, .string ByteArray.empty, .string ByteArray.empty, .int .i64 0, .slice none 0 0, .int .i64 0, .slice none 0 0, .bool false]), 16, 184) := by kernel_rfl
set_option maxRecDepth 8000 in
set_option maxHeartbeats 2000000 in
theorem inss_to (l : List Ins) (A : Option Addr) (n c : Nat) (w : World) (h : RowR insR 16 w A n c l) (hs : inssSz l ≤ 1048576) :
    Calls Try.prog 97 #[.slice A n c] w fun e w' => ∃ A' n' c', e = .returned (.slice A' n' c') ∧ (∃ fp, fp.Nodup ∧ (∀ b ∈ fp, w.heap.size ≤ b ∧ b < w'.heap.size) ∧ RowO insF 50 16 fp w' A' n' c' l) ∧ Below w.heap.size w w' := by
  have HL := Lib.hid h.len.symm
  have hn : n ≤ 1048576 := by have h1 := HL.out; unfold inssSz at hs; omega
  go_enter Try.func97, Try.ntmps97
  go_wp2_with (refine wpList_mk (P := Try.prog) _ rfl _ _ 64 rfl w.heap.size 50 _ 16 184 Try.underlying64 infoInst _ _ _ _ n rfl rfl rfl rfl (by omega) (by unfold maxLen; omega) (Nat.le_refl _) ?_; intro w1 hown1 hg1 hb1)
  clear hg1
  go_loopw [4] (fun i wr => ∃ (k : Nat) (rest : List Value) (css : List (List Value)) (fps : List (List Nat)), k ≤ n ∧ i = .int .i64 k ∧ wr.ownsRow w.heap.size 50 16 (.slice (some ⟨w.heap.size, 0, none⟩) n n) n (css.flatten ++ rest) ∧ Els insF wr css fps (l.take k) ∧ fps.flatten.Nodup ∧ (∀ b ∈ fps.flatten, w.heap.size + 1 ≤ b ∧ b < wr.heap.size) ∧ w.heap.size < wr.heap.size ∧ Below w.heap.size w wr) (fun i _ => n - (intOf i).toNat)
  case atStart => exact ⟨0, _, [], [], Nat.zero_le _, rfl, by simpa using hown1, Els.nil, List.nodup_nil, (fun b hb => by cases hb), (own_lo hown1 w.heap.size (by simp [blkL])).2, hb1⟩
  case round =>
    obtain ⟨k, rest, css, fps, hk, rfl, hown, hE, hN, hF, hgw, hb⟩ := hrel
    have hlen : css.flatten.length = k * 16 := by rw [hE.flat insK, List.length_take]; have := HL.out; rw [Nat.min_eq_left (by omega)]
    have hrl : rest.length = n * 16 - k * 16 := by have h1 := hown.1; rw [List.length_append] at h1; omega
    by_cases hlt : k < n
    · obtain ⟨b, off, rfl⟩ := h.head (by omega)
      obtain ⟨bl, x, cs, hx, hR, hcell⟩ := h.elem_at hlt
      obtain ⟨A1, n1, c1, A2, n2, c2, rfl, h1, h2⟩ := hR
      have e0 := (hb.cell (p := ⟨b, off + k * 16, none⟩) bl).trans (show w.cell? ⟨b, off + k * 16, none⟩ = some (.int .i64 x.id.r) from hcell 0 _ rfl)
      have e1 := (hb.cell (p := ⟨b, off + k * 16 + 1, none⟩) bl).trans (show w.cell? ⟨b, off + k * 16 + 1, none⟩ = some (.int .i64 x.id.s) from hcell 1 _ rfl)
      have e2 := (hb.cell (p := ⟨b, off + k * 16 + 2, none⟩) bl).trans (show w.cell? ⟨b, off + k * 16 + 2, none⟩ = some (.int .i64 x.bal) from hcell 2 _ rfl)
      have e3 := (hb.cell (p := ⟨b, off + k * 16 + 3, none⟩) bl).trans (show w.cell? ⟨b, off + k * 16 + 3, none⟩ = some (.int .i64 x.vb) from hcell 3 _ rfl)
      have e4 := (hb.cell (p := ⟨b, off + k * 16 + 4, none⟩) bl).trans (show w.cell? ⟨b, off + k * 16 + 4, none⟩ = some (.int .i64 x.st) from hcell 4 _ rfl)
      have e5 := (hb.cell (p := ⟨b, off + k * 16 + 5, none⟩) bl).trans (show w.cell? ⟨b, off + k * 16 + 5, none⟩ = some (.int .i64 x.cmd.kd) from hcell 5 _ rfl)
      have e6 := (hb.cell (p := ⟨b, off + k * 16 + 6, none⟩) bl).trans (show w.cell? ⟨b, off + k * 16 + 6, none⟩ = some (.int .i64 x.cmd.cl) from hcell 6 _ rfl)
      have e7 := (hb.cell (p := ⟨b, off + k * 16 + 7, none⟩) bl).trans (show w.cell? ⟨b, off + k * 16 + 7, none⟩ = some (.int .i64 x.cmd.no) from hcell 7 _ rfl)
      have e8 := (hb.cell (p := ⟨b, off + k * 16 + 8, none⟩) bl).trans (show w.cell? ⟨b, off + k * 16 + 8, none⟩ = some (.string x.cmd.s) from hcell 8 _ rfl)
      have e9 := (hb.cell (p := ⟨b, off + k * 16 + 9, none⟩) bl).trans (show w.cell? ⟨b, off + k * 16 + 9, none⟩ = some (.string x.cmd.nm) from hcell 9 _ rfl)
      have e10 := (hb.cell (p := ⟨b, off + k * 16 + 10, none⟩) bl).trans (show w.cell? ⟨b, off + k * 16 + 10, none⟩ = some (.string x.cmd.tg) from hcell 10 _ rfl)
      have e11 := (hb.cell (p := ⟨b, off + k * 16 + 11, none⟩) bl).trans (show w.cell? ⟨b, off + k * 16 + 11, none⟩ = some (.int .i64 x.cmd.n) from hcell 11 _ rfl)
      have e12 := (hb.cell (p := ⟨b, off + k * 16 + 12, none⟩) bl).trans (show w.cell? ⟨b, off + k * 16 + 12, none⟩ = some (.slice A1 n1 c1) from hcell 12 _ rfl)
      have e13 := (hb.cell (p := ⟨b, off + k * 16 + 13, none⟩) bl).trans (show w.cell? ⟨b, off + k * 16 + 13, none⟩ = some (.int .i64 x.seq) from hcell 13 _ rfl)
      have e14 := (hb.cell (p := ⟨b, off + k * 16 + 14, none⟩) bl).trans (show w.cell? ⟨b, off + k * 16 + 14, none⟩ = some (.slice A2 n2 c2) from hcell 14 _ rfl)
      have e15 := (hb.cell (p := ⟨b, off + k * 16 + 15, none⟩) bl).trans (show w.cell? ⟨b, off + k * 16 + 15, none⟩ = some (.bool x.same) from hcell 15 _ rfl)
      clear hcell
      have hek := inss_el hx
      go_wp2_with fail
      refine (ins_to x _ _ _ _ _ _ _ (h1.keep hb) (h2.keep iddK hb) (by omega)).mono ?_
      rintro e w2 ⟨B1, m1, d1, B2, m2, d2, g1, g2, rfl, hN2, hF2, o1, o2, hb2⟩
      unfold insV
      have hown2 := own_ch hown (Ch.of_below (S := fun _ => False) hb2) (fun _ _ h => h)
      have hz2 := hb2.size
      obtain ⟨o_0, ho_0⟩ := own_cell hown2 (j := k * 16) (by omega)
      have hf_0 := hown2.frozenAt (k * 16)
      obtain ⟨o_1, ho_1⟩ := own_cell hown2 (j := k * 16 + 1) (by omega)
      have hf_1 := hown2.frozenAt (k * 16 + 1)
      obtain ⟨o_2, ho_2⟩ := own_cell hown2 (j := k * 16 + 2) (by omega)
      have hf_2 := hown2.frozenAt (k * 16 + 2)
      obtain ⟨o_3, ho_3⟩ := own_cell hown2 (j := k * 16 + 3) (by omega)
      have hf_3 := hown2.frozenAt (k * 16 + 3)
      obtain ⟨o_4, ho_4⟩ := own_cell hown2 (j := k * 16 + 4) (by omega)
      have hf_4 := hown2.frozenAt (k * 16 + 4)
      obtain ⟨o_5, ho_5⟩ := own_cell hown2 (j := k * 16 + 5) (by omega)
      have hf_5 := hown2.frozenAt (k * 16 + 5)
      obtain ⟨o_6, ho_6⟩ := own_cell hown2 (j := k * 16 + 6) (by omega)
      have hf_6 := hown2.frozenAt (k * 16 + 6)
      obtain ⟨o_7, ho_7⟩ := own_cell hown2 (j := k * 16 + 7) (by omega)
      have hf_7 := hown2.frozenAt (k * 16 + 7)
      obtain ⟨o_8, ho_8⟩ := own_cell hown2 (j := k * 16 + 8) (by omega)
      have hf_8 := hown2.frozenAt (k * 16 + 8)
      obtain ⟨o_9, ho_9⟩ := own_cell hown2 (j := k * 16 + 9) (by omega)
      have hf_9 := hown2.frozenAt (k * 16 + 9)
      obtain ⟨o_10, ho_10⟩ := own_cell hown2 (j := k * 16 + 10) (by omega)
      have hf_10 := hown2.frozenAt (k * 16 + 10)
      obtain ⟨o_11, ho_11⟩ := own_cell hown2 (j := k * 16 + 11) (by omega)
      have hf_11 := hown2.frozenAt (k * 16 + 11)
      obtain ⟨o_12, ho_12⟩ := own_cell hown2 (j := k * 16 + 12) (by omega)
      have hf_12 := hown2.frozenAt (k * 16 + 12)
      obtain ⟨o_13, ho_13⟩ := own_cell hown2 (j := k * 16 + 13) (by omega)
      have hf_13 := hown2.frozenAt (k * 16 + 13)
      obtain ⟨o_14, ho_14⟩ := own_cell hown2 (j := k * 16 + 14) (by omega)
      have hf_14 := hown2.frozenAt (k * 16 + 14)
      obtain ⟨o_15, ho_15⟩ := own_cell hown2 (j := k * 16 + 15) (by omega)
      have hf_15 := hown2.frozenAt (k * 16 + 15)
      go_wp2
      obtain ⟨w3, hw3⟩ : ∃ W, W = ((((((((((((((((w2.setCell ⟨w.heap.size, k * 16, none⟩ (.int .i64 x.id.r)).setCell ⟨w.heap.size, k * 16 + 1, none⟩ (.int .i64 x.id.s)).setCell ⟨w.heap.size, k * 16 + 2, none⟩ (.int .i64 x.bal)).setCell ⟨w.heap.size, k * 16 + 3, none⟩ (.int .i64 x.vb)).setCell ⟨w.heap.size, k * 16 + 4, none⟩ (.int .i64 x.st)).setCell ⟨w.heap.size, k * 16 + 5, none⟩ (.int .i64 x.cmd.kd)).setCell ⟨w.heap.size, k * 16 + 6, none⟩ (.int .i64 x.cmd.cl)).setCell ⟨w.heap.size, k * 16 + 7, none⟩ (.int .i64 x.cmd.no)).setCell ⟨w.heap.size, k * 16 + 8, none⟩ (.string x.cmd.s)).setCell ⟨w.heap.size, k * 16 + 9, none⟩ (.string x.cmd.nm)).setCell ⟨w.heap.size, k * 16 + 10, none⟩ (.string x.cmd.tg)).setCell ⟨w.heap.size, k * 16 + 11, none⟩ (.int .i64 x.cmd.n)).setCell ⟨w.heap.size, k * 16 + 12, none⟩ (.slice B1 m1 d1)).setCell ⟨w.heap.size, k * 16 + 13, none⟩ (.int .i64 x.seq)).setCell ⟨w.heap.size, k * 16 + 14, none⟩ (.slice B2 m2 d2)).setCell ⟨w.heap.size, k * 16 + 15, none⟩ (.bool x.same)) := ⟨_, rfl⟩
      have hw4 : w3 = setsW w2 w.heap.size (k * 16) [.int .i64 x.id.r, .int .i64 x.id.s, .int .i64 x.bal, .int .i64 x.vb, .int .i64 x.st, .int .i64 x.cmd.kd, .int .i64 x.cmd.cl, .int .i64 x.cmd.no, .string x.cmd.s, .string x.cmd.nm, .string x.cmd.tg, .int .i64 x.cmd.n, .slice B1 m1 d1, .int .i64 x.seq, .slice B2 m2 d2, .bool x.same] := hw3
      rw [← hw3]
      clear hw3 ho_0 hf_0 ho_1 hf_1 ho_2 hf_2 ho_3 hf_3 ho_4 hf_4 ho_5 hf_5 ho_6 hf_6 ho_7 hf_7 ho_8 hf_8 ho_9 hf_9 ho_10 hf_10 ho_11 hf_11 ho_12 hf_12 ho_13 hf_13 ho_14 hf_14 ho_15 hf_15
      have q := own_setsW [.int .i64 x.id.r, .int .i64 x.id.s, .int .i64 x.bal, .int .i64 x.vb, .int .i64 x.st, .int .i64 x.cmd.kd, .int .i64 x.cmd.cl, .int .i64 x.cmd.no, .string x.cmd.s, .string x.cmd.nm, .string x.cmd.tg, .int .i64 x.cmd.n, .slice B1 m1 d1, .int .i64 x.seq, .slice B2 m2 d2, .bool x.same] (k * 16) w2 _ hown2
      have hC : Ch (fun b => b = w.heap.size) w2 w3 := by rw [hw4]; exact ch_setsW _ _ _
      rw [← hw4] at q
      have hrd : rest = rest.take 16 ++ rest.drop 16 := (List.take_append_drop _ _).symm
      have htk : (rest.take 16).length = 16 := by rw [List.length_take]; omega
      rw [hrd, setsL_at hlen (by rw [htk]; rfl)] at q
      clear hw4 hrd htk
      have q2 : w3.ownsRow w.heap.size 50 16 (.slice (some ⟨w.heap.size, 0, none⟩) n n) n ((css ++ [([.int .i64 x.id.r, .int .i64 x.id.s, .int .i64 x.bal, .int .i64 x.vb, .int .i64 x.st, .int .i64 x.cmd.kd, .int .i64 x.cmd.cl, .int .i64 x.cmd.no, .string x.cmd.s, .string x.cmd.nm, .string x.cmd.tg, .int .i64 x.cmd.n, .slice B1 m1 d1, .int .i64 x.seq, .slice B2 m2 d2, .bool x.same] : List Value)]).flatten ++ rest.drop 16) := by rw [flat_snoc, List.append_assoc]; exact q
      have hE2 := (hE.keep insK hb2).ch insK hC (fun b hb e => by have := hF b hb; omega)
      have z1 := o1.ch hC (fun b hb e => by have := hF2 b (by simp [hb]); omega)
      have z2 := o2.ch iddK hC (fun b hb e => by have := hF2 b (by simp [hb]); omega)
      have hE3 := hE2.app (Els.one (⟨B1, m1, d1, B2, m2, d2, g1, g2, rfl, rfl, z1, z2⟩ : insF (g1 ++ g2) w3 [.int .i64 x.id.r, .int .i64 x.id.s, .int .i64 x.bal, .int .i64 x.vb, .int .i64 x.st, .int .i64 x.cmd.kd, .int .i64 x.cmd.cl, .int .i64 x.cmd.no, .string x.cmd.s, .string x.cmd.nm, .string x.cmd.tg, .int .i64 x.cmd.n, .slice B1 m1 d1, .int .i64 x.seq, .slice B2 m2 d2, .bool x.same] x))
      rw [← take_more hx] at hE3
      have hfl : (fps ++ [g1 ++ g2]).flatten = fps.flatten ++ (g1 ++ g2) := by simp
      have hz3 := hC.size
      refine ⟨⟨k + 1, _, _, _, by omega, by go_num, q2, hE3, ?_, ?_, by omega, (bthen hb hb2).trans (hC.below (fun b hb => by omega) (by omega))⟩, by simp [intOf]; omega⟩
      · rw [hfl]; exact nodup_new (m := wr.heap.size) hN hN2 (fun b hb => (hF b hb).2) (fun b hb => (hF2 b hb).1)
      · rw [hfl]; intro b hb
        rcases List.mem_append.1 hb with hb | hb
        · have := hF b hb; omega
        · have := hF2 b hb; omega
    · go_wp2
      go_returns
      have hkn : k = n := by omega
      subst hkn
      have hr0 : rest = [] := List.eq_nil_of_length_eq_zero (by omega)
      subst hr0
      rw [List.append_nil] at hown
      rw [List.take_of_length_le (by have := HL.out; omega)] at hE
      refine ⟨_, _, _, rfl, ⟨blkL (some ⟨w.heap.size, 0, none⟩) ++ fps.flatten, ?_, ?_, RowO.intro (own_up hown (Nat.zero_le _)) HL.out.symm hE⟩, hb⟩
      · exact List.nodup_cons.2 ⟨fun hm => by have := hF _ hm; simp at this; omega, hN⟩
      · intro b hb2
        rcases List.mem_append.1 hb2 with h1 | h1
        · have : b = w.heap.size := by simpa [blkL] using h1
          omega
        · have := hF b h1; omega
set_option maxRecDepth 8000 in
theorem ins_mark (x : Ins) (f1 f2 : List Nat) (A1 : Option Addr) (n1 c1 : Nat) (A2 : Option Addr) (n2 c2 : Nat) (k : Int) (w : World) (h1 : StrO f1 w A1 n1 c1 x.cmd.ch) (h2 : RowO iddF 46 2 f2 w A2 n2 c2 x.deps) (hN : (f1 ++ f2).Nodup) (hs : insSz x ≤ 16777216) (hk0 : 0 < k) (hk1 : k ≤ 144115188075855872) :
    Calls Try.prog 30 #[(insV x (.slice A1 n1 c1) (.slice A2 n2 c2)), .int .i64 k] w fun e w' => e = .returned (.int .i64 (k + (insTop x : Nat))) ∧ StrO f1 w' A1 n1 c1 (insTopMk k x).cmd.ch ∧ RowO iddF 46 2 f2 w' A2 n2 c2 (insTopMk k x).deps ∧ Ch (fun b => b ∈ f1 ++ f2) w w' := by
  have htop := ins_top x
  have hsz := hs; unfold insSz at hsz; unfold insTop at htop
  unfold insV
  have al := (Below.refl w.heap.size w).alloc (Nat.le_refl _) (.cells #[.int .i64 x.id.r, .int .i64 x.id.s, .int .i64 x.bal, .int .i64 x.vb, .int .i64 x.st, .int .i64 x.cmd.kd, .int .i64 x.cmd.cl, .int .i64 x.cmd.no, .string x.cmd.s, .string x.cmd.nm, .string x.cmd.tg, .int .i64 x.cmd.n, .slice A1 n1 c1, .int .i64 x.seq, .slice A2 n2 c2, .bool x.same] 50)
  have a1 := h1.keep al
  have a2 := h2.keep iddK al
  have hC0 : Ch (fun b => b ∈ f1 ++ f2) w (w.alloc (.cells #[.int .i64 x.id.r, .int .i64 x.id.s, .int .i64 x.bal, .int .i64 x.vb, .int .i64 x.st, .int .i64 x.cmd.kd, .int .i64 x.cmd.cl, .int .i64 x.cmd.no, .string x.cmd.s, .string x.cmd.nm, .string x.cmd.tg, .int .i64 x.cmd.n, .slice A1 n1 c1, .int .i64 x.seq, .slice A2 n2 c2, .bool x.same] 50)) := Ch.of_below al
  have e0 : (w.alloc (.cells #[.int .i64 x.id.r, .int .i64 x.id.s, .int .i64 x.bal, .int .i64 x.vb, .int .i64 x.st, .int .i64 x.cmd.kd, .int .i64 x.cmd.cl, .int .i64 x.cmd.no, .string x.cmd.s, .string x.cmd.nm, .string x.cmd.tg, .int .i64 x.cmd.n, .slice A1 n1 c1, .int .i64 x.seq, .slice A2 n2 c2, .bool x.same] 50)).cell? ⟨w.heap.size, 0, none⟩ = some (.int .i64 x.id.r) := by simp [go_sem]
  have e1 : (w.alloc (.cells #[.int .i64 x.id.r, .int .i64 x.id.s, .int .i64 x.bal, .int .i64 x.vb, .int .i64 x.st, .int .i64 x.cmd.kd, .int .i64 x.cmd.cl, .int .i64 x.cmd.no, .string x.cmd.s, .string x.cmd.nm, .string x.cmd.tg, .int .i64 x.cmd.n, .slice A1 n1 c1, .int .i64 x.seq, .slice A2 n2 c2, .bool x.same] 50)).cell? ⟨w.heap.size, 1, none⟩ = some (.int .i64 x.id.s) := by simp [go_sem]
  have e2 : (w.alloc (.cells #[.int .i64 x.id.r, .int .i64 x.id.s, .int .i64 x.bal, .int .i64 x.vb, .int .i64 x.st, .int .i64 x.cmd.kd, .int .i64 x.cmd.cl, .int .i64 x.cmd.no, .string x.cmd.s, .string x.cmd.nm, .string x.cmd.tg, .int .i64 x.cmd.n, .slice A1 n1 c1, .int .i64 x.seq, .slice A2 n2 c2, .bool x.same] 50)).cell? ⟨w.heap.size, 2, none⟩ = some (.int .i64 x.bal) := by simp [go_sem]
  have e3 : (w.alloc (.cells #[.int .i64 x.id.r, .int .i64 x.id.s, .int .i64 x.bal, .int .i64 x.vb, .int .i64 x.st, .int .i64 x.cmd.kd, .int .i64 x.cmd.cl, .int .i64 x.cmd.no, .string x.cmd.s, .string x.cmd.nm, .string x.cmd.tg, .int .i64 x.cmd.n, .slice A1 n1 c1, .int .i64 x.seq, .slice A2 n2 c2, .bool x.same] 50)).cell? ⟨w.heap.size, 3, none⟩ = some (.int .i64 x.vb) := by simp [go_sem]
  have e4 : (w.alloc (.cells #[.int .i64 x.id.r, .int .i64 x.id.s, .int .i64 x.bal, .int .i64 x.vb, .int .i64 x.st, .int .i64 x.cmd.kd, .int .i64 x.cmd.cl, .int .i64 x.cmd.no, .string x.cmd.s, .string x.cmd.nm, .string x.cmd.tg, .int .i64 x.cmd.n, .slice A1 n1 c1, .int .i64 x.seq, .slice A2 n2 c2, .bool x.same] 50)).cell? ⟨w.heap.size, 4, none⟩ = some (.int .i64 x.st) := by simp [go_sem]
  have e5 : (w.alloc (.cells #[.int .i64 x.id.r, .int .i64 x.id.s, .int .i64 x.bal, .int .i64 x.vb, .int .i64 x.st, .int .i64 x.cmd.kd, .int .i64 x.cmd.cl, .int .i64 x.cmd.no, .string x.cmd.s, .string x.cmd.nm, .string x.cmd.tg, .int .i64 x.cmd.n, .slice A1 n1 c1, .int .i64 x.seq, .slice A2 n2 c2, .bool x.same] 50)).cell? ⟨w.heap.size, 5, none⟩ = some (.int .i64 x.cmd.kd) := by simp [go_sem]
  have e6 : (w.alloc (.cells #[.int .i64 x.id.r, .int .i64 x.id.s, .int .i64 x.bal, .int .i64 x.vb, .int .i64 x.st, .int .i64 x.cmd.kd, .int .i64 x.cmd.cl, .int .i64 x.cmd.no, .string x.cmd.s, .string x.cmd.nm, .string x.cmd.tg, .int .i64 x.cmd.n, .slice A1 n1 c1, .int .i64 x.seq, .slice A2 n2 c2, .bool x.same] 50)).cell? ⟨w.heap.size, 6, none⟩ = some (.int .i64 x.cmd.cl) := by simp [go_sem]
  have e7 : (w.alloc (.cells #[.int .i64 x.id.r, .int .i64 x.id.s, .int .i64 x.bal, .int .i64 x.vb, .int .i64 x.st, .int .i64 x.cmd.kd, .int .i64 x.cmd.cl, .int .i64 x.cmd.no, .string x.cmd.s, .string x.cmd.nm, .string x.cmd.tg, .int .i64 x.cmd.n, .slice A1 n1 c1, .int .i64 x.seq, .slice A2 n2 c2, .bool x.same] 50)).cell? ⟨w.heap.size, 7, none⟩ = some (.int .i64 x.cmd.no) := by simp [go_sem]
  have e8 : (w.alloc (.cells #[.int .i64 x.id.r, .int .i64 x.id.s, .int .i64 x.bal, .int .i64 x.vb, .int .i64 x.st, .int .i64 x.cmd.kd, .int .i64 x.cmd.cl, .int .i64 x.cmd.no, .string x.cmd.s, .string x.cmd.nm, .string x.cmd.tg, .int .i64 x.cmd.n, .slice A1 n1 c1, .int .i64 x.seq, .slice A2 n2 c2, .bool x.same] 50)).cell? ⟨w.heap.size, 8, none⟩ = some (.string x.cmd.s) := by simp [go_sem]
  have e9 : (w.alloc (.cells #[.int .i64 x.id.r, .int .i64 x.id.s, .int .i64 x.bal, .int .i64 x.vb, .int .i64 x.st, .int .i64 x.cmd.kd, .int .i64 x.cmd.cl, .int .i64 x.cmd.no, .string x.cmd.s, .string x.cmd.nm, .string x.cmd.tg, .int .i64 x.cmd.n, .slice A1 n1 c1, .int .i64 x.seq, .slice A2 n2 c2, .bool x.same] 50)).cell? ⟨w.heap.size, 9, none⟩ = some (.string x.cmd.nm) := by simp [go_sem]
  have e10 : (w.alloc (.cells #[.int .i64 x.id.r, .int .i64 x.id.s, .int .i64 x.bal, .int .i64 x.vb, .int .i64 x.st, .int .i64 x.cmd.kd, .int .i64 x.cmd.cl, .int .i64 x.cmd.no, .string x.cmd.s, .string x.cmd.nm, .string x.cmd.tg, .int .i64 x.cmd.n, .slice A1 n1 c1, .int .i64 x.seq, .slice A2 n2 c2, .bool x.same] 50)).cell? ⟨w.heap.size, 10, none⟩ = some (.string x.cmd.tg) := by simp [go_sem]
  have e11 : (w.alloc (.cells #[.int .i64 x.id.r, .int .i64 x.id.s, .int .i64 x.bal, .int .i64 x.vb, .int .i64 x.st, .int .i64 x.cmd.kd, .int .i64 x.cmd.cl, .int .i64 x.cmd.no, .string x.cmd.s, .string x.cmd.nm, .string x.cmd.tg, .int .i64 x.cmd.n, .slice A1 n1 c1, .int .i64 x.seq, .slice A2 n2 c2, .bool x.same] 50)).cell? ⟨w.heap.size, 11, none⟩ = some (.int .i64 x.cmd.n) := by simp [go_sem]
  have e12 : (w.alloc (.cells #[.int .i64 x.id.r, .int .i64 x.id.s, .int .i64 x.bal, .int .i64 x.vb, .int .i64 x.st, .int .i64 x.cmd.kd, .int .i64 x.cmd.cl, .int .i64 x.cmd.no, .string x.cmd.s, .string x.cmd.nm, .string x.cmd.tg, .int .i64 x.cmd.n, .slice A1 n1 c1, .int .i64 x.seq, .slice A2 n2 c2, .bool x.same] 50)).cell? ⟨w.heap.size, 12, none⟩ = some (.slice A1 n1 c1) := by simp [go_sem]
  have e13 : (w.alloc (.cells #[.int .i64 x.id.r, .int .i64 x.id.s, .int .i64 x.bal, .int .i64 x.vb, .int .i64 x.st, .int .i64 x.cmd.kd, .int .i64 x.cmd.cl, .int .i64 x.cmd.no, .string x.cmd.s, .string x.cmd.nm, .string x.cmd.tg, .int .i64 x.cmd.n, .slice A1 n1 c1, .int .i64 x.seq, .slice A2 n2 c2, .bool x.same] 50)).cell? ⟨w.heap.size, 13, none⟩ = some (.int .i64 x.seq) := by simp [go_sem]
  have e14 : (w.alloc (.cells #[.int .i64 x.id.r, .int .i64 x.id.s, .int .i64 x.bal, .int .i64 x.vb, .int .i64 x.st, .int .i64 x.cmd.kd, .int .i64 x.cmd.cl, .int .i64 x.cmd.no, .string x.cmd.s, .string x.cmd.nm, .string x.cmd.tg, .int .i64 x.cmd.n, .slice A1 n1 c1, .int .i64 x.seq, .slice A2 n2 c2, .bool x.same] 50)).cell? ⟨w.heap.size, 14, none⟩ = some (.slice A2 n2 c2) := by simp [go_sem]
  have e15 : (w.alloc (.cells #[.int .i64 x.id.r, .int .i64 x.id.s, .int .i64 x.bal, .int .i64 x.vb, .int .i64 x.st, .int .i64 x.cmd.kd, .int .i64 x.cmd.cl, .int .i64 x.cmd.no, .string x.cmd.s, .string x.cmd.nm, .string x.cmd.tg, .int .i64 x.cmd.n, .slice A1 n1 c1, .int .i64 x.seq, .slice A2 n2 c2, .bool x.same] 50)).cell? ⟨w.heap.size, 15, none⟩ = some (.bool x.same) := by simp [go_sem]
  have lt1 := h1.lt
  have lt2 := h2.lt iddK
  have hD := hN; simp only [List.nodup_append, List.mem_append] at hD
  have hd12 : ∀ b ∈ f1, ¬ b ∈ f2 := fun b h1 h2 => by grind
  have hd21 : ∀ b ∈ f2, ¬ b ∈ f1 := fun b h1 h2 => by grind
  go_enter Try.func30, Try.ntmps30
  go_wp2_with fail
  refine (cm_mark x.cmd f1 _ _ _ _ _ a1 (by simp only [List.nodup_append] at hN; simp only [hN]) (by omega) (by omega) (by omega)).mono ?_
  rintro e w1 ⟨rfl, b1, hc1⟩
  have hC1 : Ch (fun b => b ∈ f1 ++ f2) w w1 := hC0.trans (hc1.mono (fun b hb => by grind))
  have e0' := hc1.cell e0 (by intro hb; have := lt1 _ hb; omega); clear e0; have e0 := e0'; clear e0'
  have e1' := hc1.cell e1 (by intro hb; have := lt1 _ hb; omega); clear e1; have e1 := e1'; clear e1'
  have e2' := hc1.cell e2 (by intro hb; have := lt1 _ hb; omega); clear e2; have e2 := e2'; clear e2'
  have e3' := hc1.cell e3 (by intro hb; have := lt1 _ hb; omega); clear e3; have e3 := e3'; clear e3'
  have e4' := hc1.cell e4 (by intro hb; have := lt1 _ hb; omega); clear e4; have e4 := e4'; clear e4'
  have e5' := hc1.cell e5 (by intro hb; have := lt1 _ hb; omega); clear e5; have e5 := e5'; clear e5'
  have e6' := hc1.cell e6 (by intro hb; have := lt1 _ hb; omega); clear e6; have e6 := e6'; clear e6'
  have e7' := hc1.cell e7 (by intro hb; have := lt1 _ hb; omega); clear e7; have e7 := e7'; clear e7'
  have e8' := hc1.cell e8 (by intro hb; have := lt1 _ hb; omega); clear e8; have e8 := e8'; clear e8'
  have e9' := hc1.cell e9 (by intro hb; have := lt1 _ hb; omega); clear e9; have e9 := e9'; clear e9'
  have e10' := hc1.cell e10 (by intro hb; have := lt1 _ hb; omega); clear e10; have e10 := e10'; clear e10'
  have e11' := hc1.cell e11 (by intro hb; have := lt1 _ hb; omega); clear e11; have e11 := e11'; clear e11'
  have e12' := hc1.cell e12 (by intro hb; have := lt1 _ hb; omega); clear e12; have e12 := e12'; clear e12'
  have e13' := hc1.cell e13 (by intro hb; have := lt1 _ hb; omega); clear e13; have e13 := e13'; clear e13'
  have e14' := hc1.cell e14 (by intro hb; have := lt1 _ hb; omega); clear e14; have e14 := e14'; clear e14'
  have e15' := hc1.cell e15 (by intro hb; have := lt1 _ hb; omega); clear e15; have e15 := e15'; clear e15'
  have a2' := a2.ch iddK hc1 hd21; clear a2; have a2 := a2'; clear a2'
  go_wp2_with fail
  refine (idds_mark x.deps f2 _ _ _ _ _ a2 (by simp only [List.nodup_append] at hN; simp only [hN]) (by omega) (by omega) (by omega)).mono ?_
  rintro e w2 ⟨rfl, b2, hc2⟩
  have hC2 : Ch (fun b => b ∈ f1 ++ f2) w w2 := hC1.trans (hc2.mono (fun b hb => by grind))
  have e0' := hc2.cell e0 (by intro hb; have := lt2 _ hb; omega); clear e0; have e0 := e0'; clear e0'
  have e1' := hc2.cell e1 (by intro hb; have := lt2 _ hb; omega); clear e1; have e1 := e1'; clear e1'
  have e2' := hc2.cell e2 (by intro hb; have := lt2 _ hb; omega); clear e2; have e2 := e2'; clear e2'
  have e3' := hc2.cell e3 (by intro hb; have := lt2 _ hb; omega); clear e3; have e3 := e3'; clear e3'
  have e4' := hc2.cell e4 (by intro hb; have := lt2 _ hb; omega); clear e4; have e4 := e4'; clear e4'
  have e5' := hc2.cell e5 (by intro hb; have := lt2 _ hb; omega); clear e5; have e5 := e5'; clear e5'
  have e6' := hc2.cell e6 (by intro hb; have := lt2 _ hb; omega); clear e6; have e6 := e6'; clear e6'
  have e7' := hc2.cell e7 (by intro hb; have := lt2 _ hb; omega); clear e7; have e7 := e7'; clear e7'
  have e8' := hc2.cell e8 (by intro hb; have := lt2 _ hb; omega); clear e8; have e8 := e8'; clear e8'
  have e9' := hc2.cell e9 (by intro hb; have := lt2 _ hb; omega); clear e9; have e9 := e9'; clear e9'
  have e10' := hc2.cell e10 (by intro hb; have := lt2 _ hb; omega); clear e10; have e10 := e10'; clear e10'
  have e11' := hc2.cell e11 (by intro hb; have := lt2 _ hb; omega); clear e11; have e11 := e11'; clear e11'
  have e12' := hc2.cell e12 (by intro hb; have := lt2 _ hb; omega); clear e12; have e12 := e12'; clear e12'
  have e13' := hc2.cell e13 (by intro hb; have := lt2 _ hb; omega); clear e13; have e13 := e13'; clear e13'
  have e14' := hc2.cell e14 (by intro hb; have := lt2 _ hb; omega); clear e14; have e14 := e14'; clear e14'
  have e15' := hc2.cell e15 (by intro hb; have := lt2 _ hb; omega); clear e15; have e15 := e15'; clear e15'
  have b1' := b1.ch hc2 hd12; clear b1; have b1 := b1'; clear b1'
  go_wp2
  go_returns
  refine ⟨ret_int (by unfold insTop; push_cast; omega), b1, b2, hC2⟩
set_option maxRecDepth 8000 in
theorem ins_held (x : Ins) (y : Ins) (A1 : Option Addr) (n1 c1 : Nat) (A2 : Option Addr) (n2 c2 : Nat) (k : Int) (w : World) (h1 : StrR w A1 n1 c1 (insTopMk k x).cmd.ch) (h2 : RowR iddR 2 w A2 n2 c2 (insTopMk k x).deps) (hs : insSz x ≤ 16777216) (hk0 : 0 < k) (hk1 : k ≤ 144115188075855872) :
    Calls Try.prog 31 #[(insV y (.slice A1 n1 c1) (.slice A2 n2 c2)), .int .i64 k] w fun e w' => e = .returned (.int .i64 (k + (insTop x : Nat))) ∧ Below w.heap.size w w' := by
  have htop := ins_top x
  have hsz := hs; unfold insSz at hsz; unfold insTop at htop
  unfold insV
  go_enter Try.func31, Try.ntmps31
  go_wp2_with fail
  refine (cm_held x.cmd y.cmd _ _ _ _ _ (h1.keep (by go_grown)) (by omega) (by omega) (by omega)).mono ?_
  rintro e w1 ⟨rfl, hb1⟩
  obtain ⟨hc_w1, hf_w1⟩ := bcell hb1
  have hz_w1 := hb1.size
  try simp at hz_w1
  have hB_w1 : Below w.heap.size w w1 := bthen (by go_grown) hb1
  have hz_w1_0 : w.heap.size < w1.heap.size := by omega
  go_wp2_with fail
  refine (idds_held x.deps _ _ _ _ _ (h2.keep iddK hB_w1) (by omega) (by omega) (by omega)).mono ?_
  rintro e w2 ⟨rfl, hb2⟩
  obtain ⟨hc_w2, hf_w2⟩ := bcell hb2
  have hz_w2 := hb2.size
  try simp at hz_w2
  have hB_w2 : Below w.heap.size w w2 := bthen hB_w1 hb2
  have hz_w2_0 : w.heap.size < w2.heap.size := by omega
  go_wp2
  go_returns
  exact ⟨ret_int (by unfold insTop; push_cast; omega), hB_w2⟩
set_option maxRecDepth 8000 in
set_option maxHeartbeats 4000000 in
theorem inss_mark (l : List Ins) (fp : List Nat) (A : Option Addr) (n c : Nat) (k : Int) (w : World) (h : RowO insF 50 16 fp w A n c l) (hN : fp.Nodup) (hs : inssSz l ≤ 16777216) (hk0 : 0 < k) (hk1 : k ≤ 144115188075855872) :
    Calls Try.prog 105 #[.slice A n c, .int .i64 k] w fun e w' => e = .returned (.int .i64 (k + (inssCnt l : Nat))) ∧ RowO insF 50 16 fp w' A n c (inssMk k l) ∧ Ch (fun b => b ∈ fp) w w' := by
  obtain ⟨css0, fps0, rfl, hown0, hl0, hE0⟩ := h.ex
  have HL := Lib.hid hl0; clear hl0
  have hn : n ≤ 16777216 := by have h1 := HL.out; unfold inssSz at hs; omega
  have hcs := inss_cnt l
  go_enter Try.func105, Try.ntmps105
  go_wp2
  go_loopw [1, 5] (fun u i wr => ∃ (q : Nat) (css1 css2 : List (List Value)) (fps1 fps2 : List (List Nat)), q ≤ n ∧ i = .int .i64 q ∧ u = .int .i64 (k + ((sumTo insCnt l q : Nat) : Int)) ∧ fps0 = fps1 ++ fps2 ∧ wr.ownsRow 0 50 16 (.slice A n c) n (css1.flatten ++ css2.flatten) ∧ Els insF wr css1 fps1 (inssMk k (l.take q)) ∧ Els insF wr css2 fps2 (l.drop q) ∧ Ch (fun b => b ∈ blkL A ++ fps0.flatten) w wr) (fun _ i _ => n - (intOf i).toNat)
  case atStart => exact ⟨0, [], css0, [], fps0, Nat.zero_le _, rfl, by rw [sumTo_zero]; simp, rfl, by simpa using hown0, Els.nil, by simpa using hE0, Ch.refl _⟩
  case round =>
    clear hown0 hE0 h
    obtain ⟨q, css1, css2, fps1, fps2, hq, rfl, rfl, rfl, ho, hE1, hE2, hC⟩ := hrel
    by_cases hlt : q < n
    · obtain ⟨x, hx⟩ : ∃ x, l[q]? = some x := ⟨_, List.getElem?_eq_getElem (by have := HL.out; omega)⟩
      rw [drop_one hx] at hE2
      obtain ⟨cs, css2, f, fps2, rfl, rfl, hF, hE2t⟩ := hE2.cons
      clear hE2
      obtain ⟨A1, n1, c1, A2, n2, c2, f1, f2, rfl, rfl, o1, o2⟩ := hF
      obtain ⟨g, hA, hg0⟩ : ∃ g, A = some ⟨g, 0, none⟩ ∧ g < wr.heap.size := by rcases own_form ho with ⟨_, h0, _⟩ | ⟨g, h1, _, h2⟩ <;> first | omega | exact ⟨g, h1, h2⟩
      subst hA
      have hP : css1.flatten.length = q * 16 := by rw [hE1.flat insK, inssMk_len, List.length_take]; have := HL.out; rw [Nat.min_eq_left (by omega)]
      rw [List.flatten_cons] at ho
      unfold insL at ho
      have hek := inss_el hx
      unfold insSz at hek
      have hsx_cmd : cmSz x.cmd = x.cmd.s.size + x.cmd.nm.size + x.cmd.tg.size + strsSz x.cmd.ch := rfl
      obtain ⟨HSM, HSS⟩ := sum_el insCnt hx
      have HSU := Lib.hid HSS
      have hle := sumTo_le insCnt l (q + 1)
      unfold inssCnt at hcs
      have hcb : sumTo insCnt l q + insCnt x ≤ 234881024 := by omega
      clear HSM HSS hle
      have hcx : insCnt x = iddCnt x.id + 1 + 1 + 1 + cmCnt x.cmd + 1 + iddsCnt x.deps + 1 := rfl
      rw [hcx] at hcb
      have hcx_id : iddCnt x.id = 1 + 1 := rfl
      have hcx_cmd : cmCnt x.cmd = 1 + 1 + 1 + 1 + 1 + 1 + 1 + strsCnt x.cmd.ch := rfl
      have hN' := hN
      simp only [blkL, List.flatten_append, List.flatten_cons, List.nodup_append, List.nodup_cons, List.mem_append, List.mem_cons, List.not_mem_nil, or_false, not_or, List.append_assoc, List.cons_append, List.nil_append] at hN'
      have hg1 : ∀ b ∈ f1, ¬ b = g := fun b hb e => by subst e; grind
      have hg2 : ∀ b ∈ f2, ¬ b = g := fun b hb e => by subst e; grind
      have hd12 : ∀ b ∈ f1, ¬ b ∈ f2 := fun b h1 h2 => by grind
      have hd21 : ∀ b ∈ f2, ¬ b ∈ f1 := fun b h1 h2 => by grind
      have hx1 : ∀ b ∈ fps1.flatten, ¬ (b = g ∨ b ∈ f1 ++ f2) := fun b h1 h2 => by (try simp only [List.mem_append] at h2); grind
      have hx2 : ∀ b ∈ fps2.flatten, ¬ (b = g ∨ b ∈ f1 ++ f2) := fun b h1 h2 => by (try simp only [List.mem_append] at h2); grind
      clear hN'
      have hT : Ch (fun b => b = g ∨ b ∈ f1 ++ f2) wr wr := Ch.refl _
      have e0 : wr.cell? ⟨g, q * 16, none⟩ = some (.int .i64 x.id.r) := own_mid ho hP (r := 0) rfl
      have y0 := ho.frozenAt (q * 16)
      have e1 : wr.cell? ⟨g, q * 16 + 1, none⟩ = some (.int .i64 x.id.s) := own_mid ho hP (r := 1) rfl
      have y1 := ho.frozenAt (q * 16 + 1)
      have e2 : wr.cell? ⟨g, q * 16 + 2, none⟩ = some (.int .i64 x.bal) := own_mid ho hP (r := 2) rfl
      have y2 := ho.frozenAt (q * 16 + 2)
      have e3 : wr.cell? ⟨g, q * 16 + 3, none⟩ = some (.int .i64 x.vb) := own_mid ho hP (r := 3) rfl
      have y3 := ho.frozenAt (q * 16 + 3)
      have e4 : wr.cell? ⟨g, q * 16 + 4, none⟩ = some (.int .i64 x.st) := own_mid ho hP (r := 4) rfl
      have y4 := ho.frozenAt (q * 16 + 4)
      have e5 : wr.cell? ⟨g, q * 16 + 5, none⟩ = some (.int .i64 x.cmd.kd) := own_mid ho hP (r := 5) rfl
      have y5 := ho.frozenAt (q * 16 + 5)
      have e6 : wr.cell? ⟨g, q * 16 + 6, none⟩ = some (.int .i64 x.cmd.cl) := own_mid ho hP (r := 6) rfl
      have y6 := ho.frozenAt (q * 16 + 6)
      have e7 : wr.cell? ⟨g, q * 16 + 7, none⟩ = some (.int .i64 x.cmd.no) := own_mid ho hP (r := 7) rfl
      have y7 := ho.frozenAt (q * 16 + 7)
      go_wp2_with fail
      obtain ⟨v1, hv1⟩ : ∃ W, W = ((((((((wr.setCell ⟨g, q * 16, none⟩ (.int .i64 (k + ((sumTo insCnt l q : Nat) : Int)))).setCell ⟨g, q * 16 + 1, none⟩ (.int .i64 (k + ((sumTo insCnt l q : Nat) : Int) + 1))).setCell ⟨g, q * 16 + 2, none⟩ (.int .i64 (k + ((sumTo insCnt l q : Nat) : Int) + 1 + 1))).setCell ⟨g, q * 16 + 3, none⟩ (.int .i64 (k + ((sumTo insCnt l q : Nat) : Int) + 1 + 1 + 1))).setCell ⟨g, q * 16 + 4, none⟩ (.int .i64 (k + ((sumTo insCnt l q : Nat) : Int) + 1 + 1 + 1 + 1))).setCell ⟨g, q * 16 + 5, none⟩ (.int .i64 (k + ((sumTo insCnt l q : Nat) : Int) + 1 + 1 + 1 + 1 + 1))).setCell ⟨g, q * 16 + 6, none⟩ (.int .i64 (k + ((sumTo insCnt l q : Nat) : Int) + 1 + 1 + 1 + 1 + 1 + 1))).setCell ⟨g, q * 16 + 7, none⟩ (.int .i64 (k + ((sumTo insCnt l q : Nat) : Int) + 1 + 1 + 1 + 1 + 1 + 1 + 1))) := ⟨_, rfl⟩
      have hs1 : v1 = setsW wr g (q * 16 + 0) ([.int .i64 (k + ((sumTo insCnt l q : Nat) : Int)), .int .i64 (k + ((sumTo insCnt l q : Nat) : Int) + 1), .int .i64 (k + ((sumTo insCnt l q : Nat) : Int) + 1 + 1), .int .i64 (k + ((sumTo insCnt l q : Nat) : Int) + 1 + 1 + 1), .int .i64 (k + ((sumTo insCnt l q : Nat) : Int) + 1 + 1 + 1 + 1), .int .i64 (k + ((sumTo insCnt l q : Nat) : Int) + 1 + 1 + 1 + 1 + 1), .int .i64 (k + ((sumTo insCnt l q : Nat) : Int) + 1 + 1 + 1 + 1 + 1 + 1), .int .i64 (k + ((sumTo insCnt l q : Nat) : Int) + 1 + 1 + 1 + 1 + 1 + 1 + 1)] : List Value) := hv1
      rw [← hv1]
      clear hv1
      have hc1 : Ch (fun b => b = g) wr v1 := by rw [hs1]; exact ch_setsW _ _ _
      have ho1 : v1.ownsRow 0 50 16 (.slice (some ⟨g, 0, none⟩) n c) n (css1.flatten ++ (([(.int .i64 (k + ((sumTo insCnt l q : Nat) : Int))), (.int .i64 (k + ((sumTo insCnt l q : Nat) : Int) + 1)), (.int .i64 (k + ((sumTo insCnt l q : Nat) : Int) + 1 + 1)), (.int .i64 (k + ((sumTo insCnt l q : Nat) : Int) + 1 + 1 + 1)), (.int .i64 (k + ((sumTo insCnt l q : Nat) : Int) + 1 + 1 + 1 + 1)), (.int .i64 (k + ((sumTo insCnt l q : Nat) : Int) + 1 + 1 + 1 + 1 + 1)), (.int .i64 (k + ((sumTo insCnt l q : Nat) : Int) + 1 + 1 + 1 + 1 + 1 + 1)), (.int .i64 (k + ((sumTo insCnt l q : Nat) : Int) + 1 + 1 + 1 + 1 + 1 + 1 + 1)), (.string x.cmd.s), (.string x.cmd.nm), (.string x.cmd.tg), (.int .i64 x.cmd.n), (.slice A1 n1 c1), (.int .i64 x.seq), (.slice A2 n2 c2), (.bool x.same)] : List Value) ++ css2.flatten)) := by
        have hh := own_setsW ([.int .i64 (k + ((sumTo insCnt l q : Nat) : Int)), .int .i64 (k + ((sumTo insCnt l q : Nat) : Int) + 1), .int .i64 (k + ((sumTo insCnt l q : Nat) : Int) + 1 + 1), .int .i64 (k + ((sumTo insCnt l q : Nat) : Int) + 1 + 1 + 1), .int .i64 (k + ((sumTo insCnt l q : Nat) : Int) + 1 + 1 + 1 + 1), .int .i64 (k + ((sumTo insCnt l q : Nat) : Int) + 1 + 1 + 1 + 1 + 1), .int .i64 (k + ((sumTo insCnt l q : Nat) : Int) + 1 + 1 + 1 + 1 + 1 + 1), .int .i64 (k + ((sumTo insCnt l q : Nat) : Int) + 1 + 1 + 1 + 1 + 1 + 1 + 1)] : List Value) (q * 16 + 0) wr _ ho
        rw [setsL_in hP (r := 0) (vs := ([.int .i64 (k + ((sumTo insCnt l q : Nat) : Int)), .int .i64 (k + ((sumTo insCnt l q : Nat) : Int) + 1), .int .i64 (k + ((sumTo insCnt l q : Nat) : Int) + 1 + 1), .int .i64 (k + ((sumTo insCnt l q : Nat) : Int) + 1 + 1 + 1), .int .i64 (k + ((sumTo insCnt l q : Nat) : Int) + 1 + 1 + 1 + 1), .int .i64 (k + ((sumTo insCnt l q : Nat) : Int) + 1 + 1 + 1 + 1 + 1), .int .i64 (k + ((sumTo insCnt l q : Nat) : Int) + 1 + 1 + 1 + 1 + 1 + 1), .int .i64 (k + ((sumTo insCnt l q : Nat) : Int) + 1 + 1 + 1 + 1 + 1 + 1 + 1)] : List Value)) (by simp)] at hh
        rw [hs1]; exact hh
      clear e0 y0
      clear e1 y1
      clear e2 y2
      clear e3 y3
      clear e4 y4
      clear e5 y5
      clear e6 y6
      clear e7 y7
      clear hs1 ho
      have hT1 := hT.trans (hc1.mono (fun b hb => .inl hb)); clear hT; have hT := hT1; clear hT1
      have hgz1 : g < v1.heap.size := Nat.lt_of_lt_of_le hg0 hc1.size; clear hg0; have hg0 := hgz1; clear hgz1
      have o1' := o1.ch hc1 hg1; clear o1; have o1 := o1'; clear o1'
      have o2' := o2.ch iddK hc1 hg2; clear o2; have o2 := o2'; clear o2'
      clear hc1
      refine (markText_any _ _ (by omega) (by omega)).mono ?_
      rintro e v2 ⟨rfl, hb2⟩
      have ho2 := own_ch ho1 (Ch.of_below (S := fun _ => False) hb2) (fun _ _ h => h)
      clear ho1
      have hT2 := hT.trans (Ch.of_below hb2); clear hT; have hT := hT2; clear hT2
      have hgz2 : g < v2.heap.size := Nat.lt_of_lt_of_le hg0 hb2.size; clear hg0; have hg0 := hgz2; clear hgz2
      have o1' := o1.keep hb2; clear o1; have o1 := o1'; clear o1'
      have o2' := o2.keep iddK hb2; clear o2; have o2 := o2'; clear o2'
      clear hb2
      have e8 : v2.cell? ⟨g, q * 16 + 8, none⟩ = some (.string x.cmd.s) := own_mid ho2 hP (r := 8) rfl
      have y8 := ho2.frozenAt (q * 16 + 8)
      go_wp2_with fail
      obtain ⟨v3, hv3⟩ : ∃ W, W = (v2.setCell ⟨g, q * 16 + 8, none⟩ (.string (mtx (k + ((sumTo insCnt l q : Nat) : Int) + 1 + 1 + 1 + 1 + 1 + 1 + 1 + 1)))) := ⟨_, rfl⟩
      have hs3 : v3 = setsW v2 g (q * 16 + 8) ([.string (mtx (k + ((sumTo insCnt l q : Nat) : Int) + 1 + 1 + 1 + 1 + 1 + 1 + 1 + 1))] : List Value) := hv3
      rw [← hv3]
      clear hv3
      have hc3 : Ch (fun b => b = g) v2 v3 := by rw [hs3]; exact ch_setsW _ _ _
      have ho3 : v3.ownsRow 0 50 16 (.slice (some ⟨g, 0, none⟩) n c) n (css1.flatten ++ (([(.int .i64 (k + ((sumTo insCnt l q : Nat) : Int))), (.int .i64 (k + ((sumTo insCnt l q : Nat) : Int) + 1)), (.int .i64 (k + ((sumTo insCnt l q : Nat) : Int) + 1 + 1)), (.int .i64 (k + ((sumTo insCnt l q : Nat) : Int) + 1 + 1 + 1)), (.int .i64 (k + ((sumTo insCnt l q : Nat) : Int) + 1 + 1 + 1 + 1)), (.int .i64 (k + ((sumTo insCnt l q : Nat) : Int) + 1 + 1 + 1 + 1 + 1)), (.int .i64 (k + ((sumTo insCnt l q : Nat) : Int) + 1 + 1 + 1 + 1 + 1 + 1)), (.int .i64 (k + ((sumTo insCnt l q : Nat) : Int) + 1 + 1 + 1 + 1 + 1 + 1 + 1)), (.string (mtx (k + ((sumTo insCnt l q : Nat) : Int) + 1 + 1 + 1 + 1 + 1 + 1 + 1 + 1))), (.string x.cmd.nm), (.string x.cmd.tg), (.int .i64 x.cmd.n), (.slice A1 n1 c1), (.int .i64 x.seq), (.slice A2 n2 c2), (.bool x.same)] : List Value) ++ css2.flatten)) := by
        have hh := own_setsW ([.string (mtx (k + ((sumTo insCnt l q : Nat) : Int) + 1 + 1 + 1 + 1 + 1 + 1 + 1 + 1))] : List Value) (q * 16 + 8) v2 _ ho2
        rw [setsL_in hP (r := 8) (vs := ([.string (mtx (k + ((sumTo insCnt l q : Nat) : Int) + 1 + 1 + 1 + 1 + 1 + 1 + 1 + 1))] : List Value)) (by simp)] at hh
        rw [hs3]; exact hh
      clear e8 y8
      clear hs3 ho2
      have hT3 := hT.trans (hc3.mono (fun b hb => .inl hb)); clear hT; have hT := hT3; clear hT3
      have hgz3 : g < v3.heap.size := Nat.lt_of_lt_of_le hg0 hc3.size; clear hg0; have hg0 := hgz3; clear hgz3
      have o1' := o1.ch hc3 hg1; clear o1; have o1 := o1'; clear o1'
      have o2' := o2.ch iddK hc3 hg2; clear o2; have o2 := o2'; clear o2'
      clear hc3
      refine (markText_any _ _ (by omega) (by omega)).mono ?_
      rintro e v4 ⟨rfl, hb4⟩
      have ho4 := own_ch ho3 (Ch.of_below (S := fun _ => False) hb4) (fun _ _ h => h)
      clear ho3
      have hT4 := hT.trans (Ch.of_below hb4); clear hT; have hT := hT4; clear hT4
      have hgz4 : g < v4.heap.size := Nat.lt_of_lt_of_le hg0 hb4.size; clear hg0; have hg0 := hgz4; clear hgz4
      have o1' := o1.keep hb4; clear o1; have o1 := o1'; clear o1'
      have o2' := o2.keep iddK hb4; clear o2; have o2 := o2'; clear o2'
      clear hb4
      have e9 : v4.cell? ⟨g, q * 16 + 9, none⟩ = some (.string x.cmd.nm) := own_mid ho4 hP (r := 9) rfl
      have y9 := ho4.frozenAt (q * 16 + 9)
      go_wp2_with fail
      obtain ⟨v5, hv5⟩ : ∃ W, W = (v4.setCell ⟨g, q * 16 + 9, none⟩ (.string (mtx (k + ((sumTo insCnt l q : Nat) : Int) + 1 + 1 + 1 + 1 + 1 + 1 + 1 + 1 + 1)))) := ⟨_, rfl⟩
      have hs5 : v5 = setsW v4 g (q * 16 + 9) ([.string (mtx (k + ((sumTo insCnt l q : Nat) : Int) + 1 + 1 + 1 + 1 + 1 + 1 + 1 + 1 + 1))] : List Value) := hv5
      rw [← hv5]
      clear hv5
      have hc5 : Ch (fun b => b = g) v4 v5 := by rw [hs5]; exact ch_setsW _ _ _
      have ho5 : v5.ownsRow 0 50 16 (.slice (some ⟨g, 0, none⟩) n c) n (css1.flatten ++ (([(.int .i64 (k + ((sumTo insCnt l q : Nat) : Int))), (.int .i64 (k + ((sumTo insCnt l q : Nat) : Int) + 1)), (.int .i64 (k + ((sumTo insCnt l q : Nat) : Int) + 1 + 1)), (.int .i64 (k + ((sumTo insCnt l q : Nat) : Int) + 1 + 1 + 1)), (.int .i64 (k + ((sumTo insCnt l q : Nat) : Int) + 1 + 1 + 1 + 1)), (.int .i64 (k + ((sumTo insCnt l q : Nat) : Int) + 1 + 1 + 1 + 1 + 1)), (.int .i64 (k + ((sumTo insCnt l q : Nat) : Int) + 1 + 1 + 1 + 1 + 1 + 1)), (.int .i64 (k + ((sumTo insCnt l q : Nat) : Int) + 1 + 1 + 1 + 1 + 1 + 1 + 1)), (.string (mtx (k + ((sumTo insCnt l q : Nat) : Int) + 1 + 1 + 1 + 1 + 1 + 1 + 1 + 1))), (.string (mtx (k + ((sumTo insCnt l q : Nat) : Int) + 1 + 1 + 1 + 1 + 1 + 1 + 1 + 1 + 1))), (.string x.cmd.tg), (.int .i64 x.cmd.n), (.slice A1 n1 c1), (.int .i64 x.seq), (.slice A2 n2 c2), (.bool x.same)] : List Value) ++ css2.flatten)) := by
        have hh := own_setsW ([.string (mtx (k + ((sumTo insCnt l q : Nat) : Int) + 1 + 1 + 1 + 1 + 1 + 1 + 1 + 1 + 1))] : List Value) (q * 16 + 9) v4 _ ho4
        rw [setsL_in hP (r := 9) (vs := ([.string (mtx (k + ((sumTo insCnt l q : Nat) : Int) + 1 + 1 + 1 + 1 + 1 + 1 + 1 + 1 + 1))] : List Value)) (by simp)] at hh
        rw [hs5]; exact hh
      clear e9 y9
      clear hs5 ho4
      have hT5 := hT.trans (hc5.mono (fun b hb => .inl hb)); clear hT; have hT := hT5; clear hT5
      have hgz5 : g < v5.heap.size := Nat.lt_of_lt_of_le hg0 hc5.size; clear hg0; have hg0 := hgz5; clear hgz5
      have o1' := o1.ch hc5 hg1; clear o1; have o1 := o1'; clear o1'
      have o2' := o2.ch iddK hc5 hg2; clear o2; have o2 := o2'; clear o2'
      clear hc5
      refine (markText_any _ _ (by omega) (by omega)).mono ?_
      rintro e v6 ⟨rfl, hb6⟩
      have ho6 := own_ch ho5 (Ch.of_below (S := fun _ => False) hb6) (fun _ _ h => h)
      clear ho5
      have hT6 := hT.trans (Ch.of_below hb6); clear hT; have hT := hT6; clear hT6
      have hgz6 : g < v6.heap.size := Nat.lt_of_lt_of_le hg0 hb6.size; clear hg0; have hg0 := hgz6; clear hgz6
      have o1' := o1.keep hb6; clear o1; have o1 := o1'; clear o1'
      have o2' := o2.keep iddK hb6; clear o2; have o2 := o2'; clear o2'
      clear hb6
      have e10 : v6.cell? ⟨g, q * 16 + 10, none⟩ = some (.string x.cmd.tg) := own_mid ho6 hP (r := 10) rfl
      have y10 := ho6.frozenAt (q * 16 + 10)
      have e11 : v6.cell? ⟨g, q * 16 + 11, none⟩ = some (.int .i64 x.cmd.n) := own_mid ho6 hP (r := 11) rfl
      have y11 := ho6.frozenAt (q * 16 + 11)
      have e12 : v6.cell? ⟨g, q * 16 + 12, none⟩ = some (.slice A1 n1 c1) := own_mid ho6 hP (r := 12) rfl
      go_wp2_with fail
      obtain ⟨v7, hv7⟩ : ∃ W, W = ((v6.setCell ⟨g, q * 16 + 10, none⟩ (.string (mtx (k + ((sumTo insCnt l q : Nat) : Int) + 1 + 1 + 1 + 1 + 1 + 1 + 1 + 1 + 1 + 1)))).setCell ⟨g, q * 16 + 11, none⟩ (.int .i64 (k + ((sumTo insCnt l q : Nat) : Int) + 1 + 1 + 1 + 1 + 1 + 1 + 1 + 1 + 1 + 1 + 1))) := ⟨_, rfl⟩
      have hs7 : v7 = setsW v6 g (q * 16 + 10) ([.string (mtx (k + ((sumTo insCnt l q : Nat) : Int) + 1 + 1 + 1 + 1 + 1 + 1 + 1 + 1 + 1 + 1)), .int .i64 (k + ((sumTo insCnt l q : Nat) : Int) + 1 + 1 + 1 + 1 + 1 + 1 + 1 + 1 + 1 + 1 + 1)] : List Value) := hv7
      rw [← hv7]
      clear hv7
      have hc7 : Ch (fun b => b = g) v6 v7 := by rw [hs7]; exact ch_setsW _ _ _
      have ho7 : v7.ownsRow 0 50 16 (.slice (some ⟨g, 0, none⟩) n c) n (css1.flatten ++ (([(.int .i64 (k + ((sumTo insCnt l q : Nat) : Int))), (.int .i64 (k + ((sumTo insCnt l q : Nat) : Int) + 1)), (.int .i64 (k + ((sumTo insCnt l q : Nat) : Int) + 1 + 1)), (.int .i64 (k + ((sumTo insCnt l q : Nat) : Int) + 1 + 1 + 1)), (.int .i64 (k + ((sumTo insCnt l q : Nat) : Int) + 1 + 1 + 1 + 1)), (.int .i64 (k + ((sumTo insCnt l q : Nat) : Int) + 1 + 1 + 1 + 1 + 1)), (.int .i64 (k + ((sumTo insCnt l q : Nat) : Int) + 1 + 1 + 1 + 1 + 1 + 1)), (.int .i64 (k + ((sumTo insCnt l q : Nat) : Int) + 1 + 1 + 1 + 1 + 1 + 1 + 1)), (.string (mtx (k + ((sumTo insCnt l q : Nat) : Int) + 1 + 1 + 1 + 1 + 1 + 1 + 1 + 1))), (.string (mtx (k + ((sumTo insCnt l q : Nat) : Int) + 1 + 1 + 1 + 1 + 1 + 1 + 1 + 1 + 1))), (.string (mtx (k + ((sumTo insCnt l q : Nat) : Int) + 1 + 1 + 1 + 1 + 1 + 1 + 1 + 1 + 1 + 1))), (.int .i64 (k + ((sumTo insCnt l q : Nat) : Int) + 1 + 1 + 1 + 1 + 1 + 1 + 1 + 1 + 1 + 1 + 1)), (.slice A1 n1 c1), (.int .i64 x.seq), (.slice A2 n2 c2), (.bool x.same)] : List Value) ++ css2.flatten)) := by
        have hh := own_setsW ([.string (mtx (k + ((sumTo insCnt l q : Nat) : Int) + 1 + 1 + 1 + 1 + 1 + 1 + 1 + 1 + 1 + 1)), .int .i64 (k + ((sumTo insCnt l q : Nat) : Int) + 1 + 1 + 1 + 1 + 1 + 1 + 1 + 1 + 1 + 1 + 1)] : List Value) (q * 16 + 10) v6 _ ho6
        rw [setsL_in hP (r := 10) (vs := ([.string (mtx (k + ((sumTo insCnt l q : Nat) : Int) + 1 + 1 + 1 + 1 + 1 + 1 + 1 + 1 + 1 + 1)), .int .i64 (k + ((sumTo insCnt l q : Nat) : Int) + 1 + 1 + 1 + 1 + 1 + 1 + 1 + 1 + 1 + 1 + 1)] : List Value)) (by simp)] at hh
        rw [hs7]; exact hh
      clear e10 y10
      clear e11 y11
      clear e12
      clear hs7 ho6
      have hT7 := hT.trans (hc7.mono (fun b hb => .inl hb)); clear hT; have hT := hT7; clear hT7
      have hgz7 : g < v7.heap.size := Nat.lt_of_lt_of_le hg0 hc7.size; clear hg0; have hg0 := hgz7; clear hgz7
      have o1' := o1.ch hc7 hg1; clear o1; have o1 := o1'; clear o1'
      have o2' := o2.ch iddK hc7 hg2; clear o2; have o2 := o2'; clear o2'
      clear hc7
      refine (strsR_mark x.cmd.ch f1 _ _ _ _ _ o1 (by omega) (by omega) (by omega)).mono ?_
      rintro e v8 ⟨rfl, o1', hc8⟩
      clear o1; have o1 := o1'; clear o1'
      have ho8 := own_ch ho7 hc8 (fun b hb h2 => hg1 b h2 (by simpa [Value.ownBlock, eq_comm] using hb))
      clear ho7
      have hT8 := hT.trans (hc8.mono (fun b hb => .inr (by simp [hb]))); clear hT; have hT := hT8; clear hT8
      have hgz8 : g < v8.heap.size := Nat.lt_of_lt_of_le hg0 hc8.size; clear hg0; have hg0 := hgz8; clear hgz8
      have o2' := o2.ch iddK hc8 hd21; clear o2; have o2 := o2'; clear o2'
      clear hc8
      have e13 : v8.cell? ⟨g, q * 16 + 13, none⟩ = some (.int .i64 x.seq) := own_mid ho8 hP (r := 13) rfl
      have y13 := ho8.frozenAt (q * 16 + 13)
      have e14 : v8.cell? ⟨g, q * 16 + 14, none⟩ = some (.slice A2 n2 c2) := own_mid ho8 hP (r := 14) rfl
      go_wp2_with fail
      obtain ⟨v9, hv9⟩ : ∃ W, W = (v8.setCell ⟨g, q * 16 + 13, none⟩ (.int .i64 (k + ((sumTo insCnt l q : Nat) : Int) + 1 + 1 + 1 + 1 + 1 + 1 + 1 + 1 + 1 + 1 + 1 + 1 + ((strsCnt x.cmd.ch : Nat) : Int)))) := ⟨_, rfl⟩
      have hs9 : v9 = setsW v8 g (q * 16 + 13) ([.int .i64 (k + ((sumTo insCnt l q : Nat) : Int) + 1 + 1 + 1 + 1 + 1 + 1 + 1 + 1 + 1 + 1 + 1 + 1 + ((strsCnt x.cmd.ch : Nat) : Int))] : List Value) := hv9
      rw [← hv9]
      clear hv9
      have hc9 : Ch (fun b => b = g) v8 v9 := by rw [hs9]; exact ch_setsW _ _ _
      have ho9 : v9.ownsRow 0 50 16 (.slice (some ⟨g, 0, none⟩) n c) n (css1.flatten ++ (([(.int .i64 (k + ((sumTo insCnt l q : Nat) : Int))), (.int .i64 (k + ((sumTo insCnt l q : Nat) : Int) + 1)), (.int .i64 (k + ((sumTo insCnt l q : Nat) : Int) + 1 + 1)), (.int .i64 (k + ((sumTo insCnt l q : Nat) : Int) + 1 + 1 + 1)), (.int .i64 (k + ((sumTo insCnt l q : Nat) : Int) + 1 + 1 + 1 + 1)), (.int .i64 (k + ((sumTo insCnt l q : Nat) : Int) + 1 + 1 + 1 + 1 + 1)), (.int .i64 (k + ((sumTo insCnt l q : Nat) : Int) + 1 + 1 + 1 + 1 + 1 + 1)), (.int .i64 (k + ((sumTo insCnt l q : Nat) : Int) + 1 + 1 + 1 + 1 + 1 + 1 + 1)), (.string (mtx (k + ((sumTo insCnt l q : Nat) : Int) + 1 + 1 + 1 + 1 + 1 + 1 + 1 + 1))), (.string (mtx (k + ((sumTo insCnt l q : Nat) : Int) + 1 + 1 + 1 + 1 + 1 + 1 + 1 + 1 + 1))), (.string (mtx (k + ((sumTo insCnt l q : Nat) : Int) + 1 + 1 + 1 + 1 + 1 + 1 + 1 + 1 + 1 + 1))), (.int .i64 (k + ((sumTo insCnt l q : Nat) : Int) + 1 + 1 + 1 + 1 + 1 + 1 + 1 + 1 + 1 + 1 + 1)), (.slice A1 n1 c1), (.int .i64 (k + ((sumTo insCnt l q : Nat) : Int) + 1 + 1 + 1 + 1 + 1 + 1 + 1 + 1 + 1 + 1 + 1 + 1 + ((strsCnt x.cmd.ch : Nat) : Int))), (.slice A2 n2 c2), (.bool x.same)] : List Value) ++ css2.flatten)) := by
        have hh := own_setsW ([.int .i64 (k + ((sumTo insCnt l q : Nat) : Int) + 1 + 1 + 1 + 1 + 1 + 1 + 1 + 1 + 1 + 1 + 1 + 1 + ((strsCnt x.cmd.ch : Nat) : Int))] : List Value) (q * 16 + 13) v8 _ ho8
        rw [setsL_in hP (r := 13) (vs := ([.int .i64 (k + ((sumTo insCnt l q : Nat) : Int) + 1 + 1 + 1 + 1 + 1 + 1 + 1 + 1 + 1 + 1 + 1 + 1 + ((strsCnt x.cmd.ch : Nat) : Int))] : List Value)) (by simp)] at hh
        rw [hs9]; exact hh
      clear e13 y13
      clear e14
      clear hs9 ho8
      have hT9 := hT.trans (hc9.mono (fun b hb => .inl hb)); clear hT; have hT := hT9; clear hT9
      have hgz9 : g < v9.heap.size := Nat.lt_of_lt_of_le hg0 hc9.size; clear hg0; have hg0 := hgz9; clear hgz9
      have o1' := o1.ch hc9 hg1; clear o1; have o1 := o1'; clear o1'
      have o2' := o2.ch iddK hc9 hg2; clear o2; have o2 := o2'; clear o2'
      clear hc9
      refine (idds_mark x.deps f2 _ _ _ _ _ o2 (by grind) (by omega) (by omega) (by omega)).mono ?_
      rintro e v10 ⟨rfl, o2', hc10⟩
      clear o2; have o2 := o2'; clear o2'
      have ho10 := own_ch ho9 hc10 (fun b hb h2 => hg2 b h2 (by simpa [Value.ownBlock, eq_comm] using hb))
      clear ho9
      have hT10 := hT.trans (hc10.mono (fun b hb => .inr (by simp [hb]))); clear hT; have hT := hT10; clear hT10
      have hgz10 : g < v10.heap.size := Nat.lt_of_lt_of_le hg0 hc10.size; clear hg0; have hg0 := hgz10; clear hgz10
      have o1' := o1.ch hc10 hd12; clear o1; have o1 := o1'; clear o1'
      clear hc10
      have e15 : v10.cell? ⟨g, q * 16 + 15, none⟩ = some (.bool x.same) := own_mid ho10 hP (r := 15) rfl
      have y15 := ho10.frozenAt (q * 16 + 15)
      go_wp2
      obtain ⟨v11, hv11⟩ : ∃ W, W = (v10.setCell ⟨g, q * 16 + 15, none⟩ (.bool ((k + ((sumTo insCnt l q : Nat) : Int) + 1 + 1 + 1 + 1 + 1 + 1 + 1 + 1 + 1 + 1 + 1 + 1 + ((strsCnt x.cmd.ch : Nat) : Int) + 1 + ((iddsCnt x.deps : Nat) : Int)) % 3 == 0))) := ⟨_, rfl⟩
      have hs11 : v11 = setsW v10 g (q * 16 + 15) ([.bool ((k + ((sumTo insCnt l q : Nat) : Int) + 1 + 1 + 1 + 1 + 1 + 1 + 1 + 1 + 1 + 1 + 1 + 1 + ((strsCnt x.cmd.ch : Nat) : Int) + 1 + ((iddsCnt x.deps : Nat) : Int)) % 3 == 0)] : List Value) := hv11
      rw [← hv11]
      clear hv11
      have hc11 : Ch (fun b => b = g) v10 v11 := by rw [hs11]; exact ch_setsW _ _ _
      have ho11 : v11.ownsRow 0 50 16 (.slice (some ⟨g, 0, none⟩) n c) n (css1.flatten ++ (([(.int .i64 (k + ((sumTo insCnt l q : Nat) : Int))), (.int .i64 (k + ((sumTo insCnt l q : Nat) : Int) + 1)), (.int .i64 (k + ((sumTo insCnt l q : Nat) : Int) + 1 + 1)), (.int .i64 (k + ((sumTo insCnt l q : Nat) : Int) + 1 + 1 + 1)), (.int .i64 (k + ((sumTo insCnt l q : Nat) : Int) + 1 + 1 + 1 + 1)), (.int .i64 (k + ((sumTo insCnt l q : Nat) : Int) + 1 + 1 + 1 + 1 + 1)), (.int .i64 (k + ((sumTo insCnt l q : Nat) : Int) + 1 + 1 + 1 + 1 + 1 + 1)), (.int .i64 (k + ((sumTo insCnt l q : Nat) : Int) + 1 + 1 + 1 + 1 + 1 + 1 + 1)), (.string (mtx (k + ((sumTo insCnt l q : Nat) : Int) + 1 + 1 + 1 + 1 + 1 + 1 + 1 + 1))), (.string (mtx (k + ((sumTo insCnt l q : Nat) : Int) + 1 + 1 + 1 + 1 + 1 + 1 + 1 + 1 + 1))), (.string (mtx (k + ((sumTo insCnt l q : Nat) : Int) + 1 + 1 + 1 + 1 + 1 + 1 + 1 + 1 + 1 + 1))), (.int .i64 (k + ((sumTo insCnt l q : Nat) : Int) + 1 + 1 + 1 + 1 + 1 + 1 + 1 + 1 + 1 + 1 + 1)), (.slice A1 n1 c1), (.int .i64 (k + ((sumTo insCnt l q : Nat) : Int) + 1 + 1 + 1 + 1 + 1 + 1 + 1 + 1 + 1 + 1 + 1 + 1 + ((strsCnt x.cmd.ch : Nat) : Int))), (.slice A2 n2 c2), (.bool ((k + ((sumTo insCnt l q : Nat) : Int) + 1 + 1 + 1 + 1 + 1 + 1 + 1 + 1 + 1 + 1 + 1 + 1 + ((strsCnt x.cmd.ch : Nat) : Int) + 1 + ((iddsCnt x.deps : Nat) : Int)) % 3 == 0))] : List Value) ++ css2.flatten)) := by
        have hh := own_setsW ([.bool ((k + ((sumTo insCnt l q : Nat) : Int) + 1 + 1 + 1 + 1 + 1 + 1 + 1 + 1 + 1 + 1 + 1 + 1 + ((strsCnt x.cmd.ch : Nat) : Int) + 1 + ((iddsCnt x.deps : Nat) : Int)) % 3 == 0)] : List Value) (q * 16 + 15) v10 _ ho10
        rw [setsL_in hP (r := 15) (vs := ([.bool ((k + ((sumTo insCnt l q : Nat) : Int) + 1 + 1 + 1 + 1 + 1 + 1 + 1 + 1 + 1 + 1 + 1 + 1 + ((strsCnt x.cmd.ch : Nat) : Int) + 1 + ((iddsCnt x.deps : Nat) : Int)) % 3 == 0)] : List Value)) (by simp)] at hh
        rw [hs11]; exact hh
      clear e15 y15
      clear hs11 ho10
      have hT11 := hT.trans (hc11.mono (fun b hb => .inl hb)); clear hT; have hT := hT11; clear hT11
      have hgz11 : g < v11.heap.size := Nat.lt_of_lt_of_le hg0 hc11.size; clear hg0; have hg0 := hgz11; clear hgz11
      have o1' := o1.ch hc11 hg1; clear o1; have o1 := o1'; clear o1'
      have o2' := o2.ch iddK hc11 hg2; clear o2; have o2 := o2'; clear o2'
      clear hc11
      have hE1' := hE1.ch insK hT hx1
      have hE2' := hE2t.ch insK hT hx2
      have hE3 := hE1'.app (Els.one (⟨A1, n1, c1, A2, n2, c2, f1, f2, rfl, rfl, o1, o2⟩ : insF (f1 ++ f2) v11 ([(.int .i64 (k + ((sumTo insCnt l q : Nat) : Int))), (.int .i64 (k + ((sumTo insCnt l q : Nat) : Int) + 1)), (.int .i64 (k + ((sumTo insCnt l q : Nat) : Int) + 1 + 1)), (.int .i64 (k + ((sumTo insCnt l q : Nat) : Int) + 1 + 1 + 1)), (.int .i64 (k + ((sumTo insCnt l q : Nat) : Int) + 1 + 1 + 1 + 1)), (.int .i64 (k + ((sumTo insCnt l q : Nat) : Int) + 1 + 1 + 1 + 1 + 1)), (.int .i64 (k + ((sumTo insCnt l q : Nat) : Int) + 1 + 1 + 1 + 1 + 1 + 1)), (.int .i64 (k + ((sumTo insCnt l q : Nat) : Int) + 1 + 1 + 1 + 1 + 1 + 1 + 1)), (.string (mtx (k + ((sumTo insCnt l q : Nat) : Int) + 1 + 1 + 1 + 1 + 1 + 1 + 1 + 1))), (.string (mtx (k + ((sumTo insCnt l q : Nat) : Int) + 1 + 1 + 1 + 1 + 1 + 1 + 1 + 1 + 1))), (.string (mtx (k + ((sumTo insCnt l q : Nat) : Int) + 1 + 1 + 1 + 1 + 1 + 1 + 1 + 1 + 1 + 1))), (.int .i64 (k + ((sumTo insCnt l q : Nat) : Int) + 1 + 1 + 1 + 1 + 1 + 1 + 1 + 1 + 1 + 1 + 1)), (.slice A1 n1 c1), (.int .i64 (k + ((sumTo insCnt l q : Nat) : Int) + 1 + 1 + 1 + 1 + 1 + 1 + 1 + 1 + 1 + 1 + 1 + 1 + ((strsCnt x.cmd.ch : Nat) : Int))), (.slice A2 n2 c2), (.bool ((k + ((sumTo insCnt l q : Nat) : Int) + 1 + 1 + 1 + 1 + 1 + 1 + 1 + 1 + 1 + 1 + 1 + 1 + ((strsCnt x.cmd.ch : Nat) : Int) + 1 + ((iddsCnt x.deps : Nat) : Int)) % 3 == 0))] : List Value) (insMk (k + ((sumTo insCnt l q : Nat) : Int)) x)))
      have hsm := inssMk_snoc k x (l.take q)
      rw [← take_more hx] at hsm
      have hct : ((inssCnt (l.take q) : Nat) : Int) = ((sumTo insCnt l q : Nat) : Int) := rfl
      rw [hct] at hsm
      rw [← hsm] at hE3
      refine ⟨⟨q + 1, css1 ++ [([(.int .i64 (k + ((sumTo insCnt l q : Nat) : Int))), (.int .i64 (k + ((sumTo insCnt l q : Nat) : Int) + 1)), (.int .i64 (k + ((sumTo insCnt l q : Nat) : Int) + 1 + 1)), (.int .i64 (k + ((sumTo insCnt l q : Nat) : Int) + 1 + 1 + 1)), (.int .i64 (k + ((sumTo insCnt l q : Nat) : Int) + 1 + 1 + 1 + 1)), (.int .i64 (k + ((sumTo insCnt l q : Nat) : Int) + 1 + 1 + 1 + 1 + 1)), (.int .i64 (k + ((sumTo insCnt l q : Nat) : Int) + 1 + 1 + 1 + 1 + 1 + 1)), (.int .i64 (k + ((sumTo insCnt l q : Nat) : Int) + 1 + 1 + 1 + 1 + 1 + 1 + 1)), (.string (mtx (k + ((sumTo insCnt l q : Nat) : Int) + 1 + 1 + 1 + 1 + 1 + 1 + 1 + 1))), (.string (mtx (k + ((sumTo insCnt l q : Nat) : Int) + 1 + 1 + 1 + 1 + 1 + 1 + 1 + 1 + 1))), (.string (mtx (k + ((sumTo insCnt l q : Nat) : Int) + 1 + 1 + 1 + 1 + 1 + 1 + 1 + 1 + 1 + 1))), (.int .i64 (k + ((sumTo insCnt l q : Nat) : Int) + 1 + 1 + 1 + 1 + 1 + 1 + 1 + 1 + 1 + 1 + 1)), (.slice A1 n1 c1), (.int .i64 (k + ((sumTo insCnt l q : Nat) : Int) + 1 + 1 + 1 + 1 + 1 + 1 + 1 + 1 + 1 + 1 + 1 + 1 + ((strsCnt x.cmd.ch : Nat) : Int))), (.slice A2 n2 c2), (.bool ((k + ((sumTo insCnt l q : Nat) : Int) + 1 + 1 + 1 + 1 + 1 + 1 + 1 + 1 + 1 + 1 + 1 + 1 + ((strsCnt x.cmd.ch : Nat) : Int) + 1 + ((iddsCnt x.deps : Nat) : Int)) % 3 == 0))] : List Value)], css2, fps1 ++ [f1 ++ f2], fps2, by omega, by go_num, ?_, by simp, ?_, hE3, hE2', hC.trans (hT.mono (fun b hb => ?_))⟩, by simp [intOf]; omega⟩
      · rw [HSU.out]; congr 1; rw [hcx]; push_cast; omega
      · rw [flat_snoc, List.append_assoc]; exact ho11
      · simp only [blkL, List.flatten_append, List.flatten_cons, List.mem_append, List.mem_cons, List.not_mem_nil, or_false] at hb ⊢
        grind
    · go_wp2
      go_returns
      have hqn : q = n := by omega
      subst hqn
      have hql : l.length ≤ q := by have := HL.out; omega
      rw [List.take_of_length_le hql] at hE1
      rw [List.drop_eq_nil_of_le hql] at hE2
      obtain ⟨rfl, rfl⟩ := hE2.nils
      refine ⟨ret_int ?_, ?_, hC⟩
      · rw [sumTo_all _ _ _ hql]; rfl
      · rw [List.append_nil]; exact RowO.intro (by simpa using ho) (by rw [inssMk_len]; exact HL.out) hE1
set_option maxRecDepth 8000 in
set_option maxHeartbeats 4000000 in
theorem inss_held (l : List Ins) (A : Option Addr) (n c : Nat) (k : Int) (w : World) (h : RowR insR 16 w A n c (inssMk k l)) (hs : inssSz l ≤ 16777216) (hk0 : 0 < k) (hk1 : k ≤ 144115188075855872) :
    Calls Try.prog 107 #[.slice A n c, .int .i64 k] w fun e w' => e = .returned (.int .i64 (k + (inssCnt l : Nat))) ∧ Below w.heap.size w w' := by
  have HL := Lib.hid (show n = l.length by rw [h.len, inssMk_len])
  have hn : n ≤ 16777216 := by have h1 := HL.out; unfold inssSz at hs; omega
  have hcs := inss_cnt l
  go_enter Try.func107, Try.ntmps107
  go_wp2
  go_loopw [1, 5] (fun u i wr => ∃ (q : Nat), q ≤ n ∧ i = .int .i64 q ∧ u = .int .i64 (k + ((sumTo insCnt l q : Nat) : Int)) ∧ Below w.heap.size w wr) (fun _ i _ => n - (intOf i).toNat)
  case atStart => exact ⟨0, Nat.zero_le _, rfl, by rw [sumTo_zero]; simp, Below.refl _ _⟩
  case round =>
    obtain ⟨q, hq, rfl, rfl, hb⟩ := hrel
    by_cases hlt : q < n
    · obtain ⟨x, hx⟩ : ∃ x, l[q]? = some x := ⟨_, List.getElem?_eq_getElem (by have := HL.out; omega)⟩
      obtain ⟨b, off, rfl⟩ := h.head (by omega)
      obtain ⟨bl, x', cs, hx', hR, hcell⟩ := h.elem_at hlt
      obtain rfl : x' = insMk (k + ((sumTo insCnt l q : Nat) : Int)) x := Option.some.inj (hx'.symm.trans (inssMk_at k l q x hx))
      obtain ⟨A1, n1, c1, A2, n2, c2, rfl, h1, h2⟩ := hR
      have k0 : w.cell? ⟨b, off + q * 16, none⟩ = some (.int .i64 (k + ((sumTo insCnt l q : Nat) : Int))) := hcell 0 _ rfl
      have k1 : w.cell? ⟨b, off + q * 16 + 1, none⟩ = some (.int .i64 (k + ((sumTo insCnt l q : Nat) : Int) + 1)) := hcell 1 _ rfl
      have k2 : w.cell? ⟨b, off + q * 16 + 2, none⟩ = some (.int .i64 (k + ((sumTo insCnt l q : Nat) : Int) + 1 + 1)) := hcell 2 _ rfl
      have k3 : w.cell? ⟨b, off + q * 16 + 3, none⟩ = some (.int .i64 (k + ((sumTo insCnt l q : Nat) : Int) + 1 + 1 + 1)) := hcell 3 _ rfl
      have k4 : w.cell? ⟨b, off + q * 16 + 4, none⟩ = some (.int .i64 (k + ((sumTo insCnt l q : Nat) : Int) + 1 + 1 + 1 + 1)) := hcell 4 _ rfl
      have k5 : w.cell? ⟨b, off + q * 16 + 5, none⟩ = some (.int .i64 (k + ((sumTo insCnt l q : Nat) : Int) + 1 + 1 + 1 + 1 + 1)) := hcell 5 _ rfl
      have k6 : w.cell? ⟨b, off + q * 16 + 6, none⟩ = some (.int .i64 (k + ((sumTo insCnt l q : Nat) : Int) + 1 + 1 + 1 + 1 + 1 + 1)) := hcell 6 _ rfl
      have k7 : w.cell? ⟨b, off + q * 16 + 7, none⟩ = some (.int .i64 (k + ((sumTo insCnt l q : Nat) : Int) + 1 + 1 + 1 + 1 + 1 + 1 + 1)) := hcell 7 _ rfl
      have k8 : w.cell? ⟨b, off + q * 16 + 8, none⟩ = some (.string (mtx (k + ((sumTo insCnt l q : Nat) : Int) + 1 + 1 + 1 + 1 + 1 + 1 + 1 + 1))) := hcell 8 _ rfl
      have k9 : w.cell? ⟨b, off + q * 16 + 9, none⟩ = some (.string (mtx (k + ((sumTo insCnt l q : Nat) : Int) + 1 + 1 + 1 + 1 + 1 + 1 + 1 + 1 + 1))) := hcell 9 _ rfl
      have k10 : w.cell? ⟨b, off + q * 16 + 10, none⟩ = some (.string (mtx (k + ((sumTo insCnt l q : Nat) : Int) + 1 + 1 + 1 + 1 + 1 + 1 + 1 + 1 + 1 + 1))) := hcell 10 _ rfl
      have k11 : w.cell? ⟨b, off + q * 16 + 11, none⟩ = some (.int .i64 (k + ((sumTo insCnt l q : Nat) : Int) + 1 + 1 + 1 + 1 + 1 + 1 + 1 + 1 + 1 + 1 + 1)) := hcell 11 _ rfl
      have k12 : w.cell? ⟨b, off + q * 16 + 12, none⟩ = some (.slice A1 n1 c1) := hcell 12 _ rfl
      have k13 : w.cell? ⟨b, off + q * 16 + 13, none⟩ = some (.int .i64 (k + ((sumTo insCnt l q : Nat) : Int) + 1 + 1 + 1 + 1 + 1 + 1 + 1 + 1 + 1 + 1 + 1 + 1 + ((strsCnt x.cmd.ch : Nat) : Int))) := hcell 13 _ rfl
      have k14 : w.cell? ⟨b, off + q * 16 + 14, none⟩ = some (.slice A2 n2 c2) := hcell 14 _ rfl
      have k15 : w.cell? ⟨b, off + q * 16 + 15, none⟩ = some (.bool ((k + ((sumTo insCnt l q : Nat) : Int) + 1 + 1 + 1 + 1 + 1 + 1 + 1 + 1 + 1 + 1 + 1 + 1 + ((strsCnt x.cmd.ch : Nat) : Int) + 1 + ((iddsCnt x.deps : Nat) : Int)) % 3 == 0)) := hcell 15 _ rfl
      clear hcell hx'
      have hek := inss_el hx
      unfold insSz at hek
      have hsx_cmd : cmSz x.cmd = x.cmd.s.size + x.cmd.nm.size + x.cmd.tg.size + strsSz x.cmd.ch := rfl
      obtain ⟨HSM, HSS⟩ := sum_el insCnt hx
      have HSU := Lib.hid HSS
      have hle := sumTo_le insCnt l (q + 1)
      unfold inssCnt at hcs
      have hcb : sumTo insCnt l q + insCnt x ≤ 234881024 := by omega
      clear HSM HSS hle
      have hcx : insCnt x = iddCnt x.id + 1 + 1 + 1 + cmCnt x.cmd + 1 + iddsCnt x.deps + 1 := rfl
      rw [hcx] at hcb
      have hcx_id : iddCnt x.id = 1 + 1 := rfl
      have hcx_cmd : cmCnt x.cmd = 1 + 1 + 1 + 1 + 1 + 1 + 1 + strsCnt x.cmd.ch := rfl
      have e0 := (hb.cell (p := ⟨b, off + q * 16, none⟩) bl).trans k0
      have e1 := (hb.cell (p := ⟨b, off + q * 16 + 1, none⟩) bl).trans k1
      have e2 := (hb.cell (p := ⟨b, off + q * 16 + 2, none⟩) bl).trans k2
      have e3 := (hb.cell (p := ⟨b, off + q * 16 + 3, none⟩) bl).trans k3
      have e4 := (hb.cell (p := ⟨b, off + q * 16 + 4, none⟩) bl).trans k4
      have e5 := (hb.cell (p := ⟨b, off + q * 16 + 5, none⟩) bl).trans k5
      have e6 := (hb.cell (p := ⟨b, off + q * 16 + 6, none⟩) bl).trans k6
      have e7 := (hb.cell (p := ⟨b, off + q * 16 + 7, none⟩) bl).trans k7
      have e8 := (hb.cell (p := ⟨b, off + q * 16 + 8, none⟩) bl).trans k8
      go_wp2
      go_region_held3 (fun w' => w'.cell? ⟨b, off + q * 16 + 8, none⟩ = some (.string (mtx (k + ((sumTo insCnt l q : Nat) : Int) + 1 + 1 + 1 + 1 + 1 + 1 + 1 + 1))) ∧ Below w.heap.size w w') (first | (have hh := ‹_ ∧ _›; exact ⟨keep_cell hbw hh.1, bthen hh.2 hbw⟩) | (have hh := ‹_ ∧ _›; exact ⟨hh.1, hh.2.drew⟩) | exact ⟨e8, hb.drew⟩ | exact ⟨e8, hb⟩) (first | (go_at_call 58; refine (markText_any _ _ (by omega) (by omega)).mono ?_; rintro e w1 ⟨rfl, hbw⟩))
      have hr1 := (by have hh := ‹_ ∧ _›; exact hh.2 : Below w.heap.size w _)
      clear e0 e1 e2 e3 e4 e5 e6 e7 e8
      replace hbw := hr1
      have e9 := (hr1.cell (p := ⟨b, off + q * 16 + 9, none⟩) bl).trans k9
      go_wp2
      go_region_held3 (fun w' => w'.cell? ⟨b, off + q * 16 + 9, none⟩ = some (.string (mtx (k + ((sumTo insCnt l q : Nat) : Int) + 1 + 1 + 1 + 1 + 1 + 1 + 1 + 1 + 1))) ∧ Below w.heap.size w w') (first | (have hh := ‹_ ∧ _›; exact ⟨keep_cell hbw hh.1, bthen hh.2 hbw⟩) | (have hh := ‹_ ∧ _›; exact ⟨hh.1, hh.2.drew⟩) | exact ⟨e9, hr1.drew⟩ | exact ⟨e9, hr1⟩) (first | (go_at_call 58; refine (markText_any _ _ (by omega) (by omega)).mono ?_; rintro e w2 ⟨rfl, hbw⟩))
      have hr2 := (by have hh := ‹_ ∧ _›; exact hh.2 : Below w.heap.size w _)
      clear e9
      replace hbw := hr2
      have e10 := (hr2.cell (p := ⟨b, off + q * 16 + 10, none⟩) bl).trans k10
      go_wp2
      go_region_held3 (fun w' => w'.cell? ⟨b, off + q * 16 + 10, none⟩ = some (.string (mtx (k + ((sumTo insCnt l q : Nat) : Int) + 1 + 1 + 1 + 1 + 1 + 1 + 1 + 1 + 1 + 1))) ∧ Below w.heap.size w w') (first | (have hh := ‹_ ∧ _›; exact ⟨keep_cell hbw hh.1, bthen hh.2 hbw⟩) | (have hh := ‹_ ∧ _›; exact ⟨hh.1, hh.2.drew⟩) | exact ⟨e10, hr2.drew⟩ | exact ⟨e10, hr2⟩) (first | (go_at_call 58; refine (markText_any _ _ (by omega) (by omega)).mono ?_; rintro e w3 ⟨rfl, hbw⟩))
      have hr3 := (by have hh := ‹_ ∧ _›; exact hh.2 : Below w.heap.size w _)
      clear e10
      replace hbw := hr3
      have e11 := (hr3.cell (p := ⟨b, off + q * 16 + 11, none⟩) bl).trans k11
      have e12 := (hr3.cell (p := ⟨b, off + q * 16 + 12, none⟩) bl).trans k12
      go_wp2_with fail
      refine (strsR_held x.cmd.ch _ _ _ _ _ (h1.keep hr3) (by omega) (by omega) (by omega)).mono ?_
      rintro e w4 ⟨rfl, hb4⟩
      have hr4 := bthen hr3 hb4
      clear e11 e12
      have e13 := (hr4.cell (p := ⟨b, off + q * 16 + 13, none⟩) bl).trans k13
      have e14 := (hr4.cell (p := ⟨b, off + q * 16 + 14, none⟩) bl).trans k14
      go_wp2_with fail
      refine (idds_held x.deps _ _ _ _ _ (h2.keep iddK hr4) (by omega) (by omega) (by omega)).mono ?_
      rintro e w5 ⟨rfl, hb5⟩
      have hr5 := bthen hr4 hb5
      clear e13 e14
      have e15 := (hr5.cell (p := ⟨b, off + q * 16 + 15, none⟩) bl).trans k15
      go_wp2
      refine ⟨⟨q + 1, by omega, by go_num, ?_, hr5⟩, by simp [intOf]; omega⟩
      rw [HSU.out]; congr 1; rw [hcx]; push_cast; omega
    · go_wp2
      go_returns
      have hql : l.length ≤ q := by have := HL.out; omega
      refine ⟨ret_int ?_, hb⟩
      rw [sumTo_all _ _ _ hql]; rfl
end Go.Proofs.Ytdphdnllhmnelaa
