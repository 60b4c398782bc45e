/- Contracts and lemmas: KCmd, KIntss, WCmd, CopyK. -/
import Derived.Test.YtdphdnllhmnelaaJ1
import Derived.Deep.RegionHeld3
import Derived.StillTailTactics
import Derived.BigQuiet
import Derived.Deep.QuietTactic
import Derived.Test.YtdphdnllhmnelaaJ0
/- Cmd: how it lies in memory, the laws' helpers on it. -/
namespace Go.Proofs.Ytdphdnllhmnelaa
open Go.RowKit
structure Cm where
  kd : Int
  cl : Int
  no : Int
  s : ByteArray
  nm : ByteArray
  tg : ByteArray
  n : Int
  ch : List ByteArray
def cmNil : Cm := ⟨0, 0, 0, ByteArray.empty, ByteArray.empty, ByteArray.empty, 0, []⟩
def cmAt (l : List Cm) (i : Nat) : Cm := l.getD i cmNil
theorem cmAt_get {l : List Cm} {k : Nat} (h : k < l.length) : cmAt l k = l[k] := by simp [cmAt, h]
theorem cmAt_of {l : List Cm} {k : Nat} {x : Cm} (h : l[k]? = some x) : cmAt l k = x := by simp [cmAt, h]
/-- its cells, its value -/
def cmL (x : Cm) (s1 : Value) : List Value := [.int .i64 x.kd, .int .i64 x.cl, .int .i64 x.no, .string x.s, .string x.nm, .string x.tg, .int .i64 x.n, s1]
def cmV (x : Cm) (s1 : Value) : Value := .agg #[.int .i64 x.kd, .int .i64 x.cl, .int .i64 x.no, .string x.s, .string x.nm, .string x.tg, .int .i64 x.n, s1]
def cmR (w : World) (cs : List Value) (x : Cm) : Prop := ∃ (A1 : Option Addr) (n1 c1 : Nat), cs = cmL x (.slice A1 n1 c1) ∧ StrR w A1 n1 c1 x.ch
def cmF (fp : List Nat) (w : World) (cs : List Value) (x : Cm) : Prop := ∃ (A1 : Option Addr) (n1 c1 : Nat) (f1 : List Nat), cs = cmL x (.slice A1 n1 c1) ∧ fp = f1 ∧ StrO f1 w A1 n1 c1 x.ch
theorem cmK : KindOk cmR cmF 8 where
  rlen := fun h => by obtain ⟨A1, n1, c1, rfl, h1⟩ := h; rfl
  rkeep := fun h hb => by obtain ⟨A1, n1, c1, rfl, h1⟩ := h; exact ⟨A1, n1, c1, rfl, h1.keep hb⟩
  flt := fun h b hb => by
    obtain ⟨A1, n1, c1, f1, rfl, rfl, h1⟩ := h
    exact h1.lt b hb
  fch := fun h hc hS => by
    obtain ⟨A1, n1, c1, f1, rfl, rfl, h1⟩ := h
    exact ⟨A1, n1, c1, _, rfl, rfl, h1.ch hc (fun b hb => hS b (by simp [hb]))⟩
  fr := fun h => by obtain ⟨A1, n1, c1, f1, rfl, rfl, h1⟩ := h; exact ⟨A1, n1, c1, rfl, h1.at_⟩
  one := fun h v hv => by
    obtain ⟨A1, n1, c1, rfl, h1⟩ := h
    simp only [cmL, List.mem_cons, List.not_mem_nil, or_false] at hv
    rcases hv with rfl | rfl | rfl | rfl | rfl | rfl | rfl | rfl <;> rfl
/-- its bounds -/
def cmB (x : Cm) : Prop := x.s.size ≤ 9223372036854775807 ∧ x.nm.size ≤ 9223372036854775807 ∧ x.tg.size ≤ 9223372036854775807 ∧ strB x.ch
def cmsB (l : List Cm) : Prop := l.length ≤ 9223372036854775807 ∧ ∀ y ∈ l, cmB y
def cmSz (x : Cm) : Nat := x.s.size + x.nm.size + x.tg.size + strsSz x.ch
def cmsSz (l : List Cm) : Nat := l.length + (l.map cmSz).sum
theorem cms_el {l : List Cm} {i : Nat} {x : Cm} (hx : l[i]? = some x) : cmSz x ≤ cmsSz l := by have := (sum_el cmSz hx).1; unfold cmsSz; omega
/-- its marks -/
def cmCnt (x : Cm) : Nat := 1 + 1 + 1 + 1 + 1 + 1 + 1 + strsCnt x.ch
def cmTop (x : Cm) : Nat := strsCnt x.ch
def cmsCnt (l : List Cm) : Nat := (l.map cmCnt).sum
def cmMk (k : Int) (x : Cm) : Cm := ⟨k, (k + 1), (k + 1 + 1), mtx (k + 1 + 1 + 1), mtx (k + 1 + 1 + 1 + 1), mtx (k + 1 + 1 + 1 + 1 + 1), (k + 1 + 1 + 1 + 1 + 1 + 1), strsMk (k + 1 + 1 + 1 + 1 + 1 + 1 + 1) x.ch⟩
def cmsMk (k : Int) : List Cm → List Cm
  | [] => []
  | x :: l => cmMk k x :: cmsMk (k + (cmCnt x : Nat)) l
def cmTopMk (k : Int) (x : Cm) : Cm := ⟨x.kd, x.cl, x.no, x.s, x.nm, x.tg, x.n, strsMk k x.ch⟩
theorem cmsMk_len (k : Int) : ∀ l : List Cm, (cmsMk k l).length = l.length
  | [] => rfl
  | x :: l => by simp [cmsMk, cmsMk_len]
theorem cmsMk_snoc (k : Int) (x : Cm) : ∀ l : List Cm, cmsMk k (l ++ [x]) = cmsMk k l ++ [cmMk (k + (cmsCnt l : Nat)) x]
  | [] => by simp [cmsMk, cmsCnt]
  | y :: l => by
    have := cmsMk_snoc (k + (cmCnt y : Nat)) x l
    have e : k + (cmCnt y : Nat) + ((cmsCnt l : Nat) : Int) = k + ((cmsCnt (y :: l) : Nat) : Int) := by simp only [cmsCnt, List.map_cons, List.sum_cons]; push_cast; omega
    simp only [List.cons_append, cmsMk, this, e]
theorem cmsMk_at (k : Int) : ∀ (l : List Cm) (i : Nat) (x : Cm), l[i]? = some x → (cmsMk k l)[i]? = some (cmMk (k + (sumTo cmCnt l i : Nat)) x)
  | [], i, x, h => by simp at h
  | y :: l, 0, x, h => by simp at h; subst h; simp [cmsMk, sumTo]
  | y :: l, i + 1, x, h => by
    have := cmsMk_at (k + (cmCnt y : Nat)) l i x (by simpa using h)
    have e : k + (cmCnt y : Nat) + ((sumTo cmCnt l i : Nat) : Int) = k + ((sumTo cmCnt (y :: l) (i + 1) : Nat) : Int) := by simp only [sumTo, List.take_succ_cons, List.map_cons, List.sum_cons]; push_cast; omega
    simp only [cmsMk, List.getElem?_cons_succ, this, e]
theorem cm_cnt (x : Cm) : cmCnt x ≤ 7 * (1 + cmSz x) := by have g0 := strs_cnt x.ch; unfold cmCnt cmSz; omega
theorem cms_cnt : ∀ l : List Cm, cmsCnt l ≤ 7 * cmsSz l
  | [] => by simp [cmsCnt]
  | x :: l => by have h1 := cms_cnt l; have h2 := cm_cnt x; simp only [cmsCnt, cmsSz, List.map_cons, List.sum_cons, List.length_cons] at *; omega
theorem cm_top (x : Cm) : cmTop x ≤ 7 * cmSz x := by have t7 := strs_cnt x.ch; unfold cmTop cmSz; omega
attribute [local irreducible] StrR IntR StrO IntO RowR RowO StrsAt IntsAt
set_option maxRecDepth 8000 in
theorem cm_sz (x : Cm) (A1 : Option Addr) (n1 c1 : Nat) (left : Int) (w : World) (h1 : StrR w A1 n1 c1 x.ch) (hb : cmB x) (hl0 : 0 ≤ left) (hl1 : left ≤ 4611686018427387904) :
    Calls Try.prog 50 #[(cmV x (.slice A1 n1 c1)), .int .i64 left] w fun e w' => e = .returned (.int .i64 (szR left (cmSz x))) ∧ Below w.heap.size w w' := by
  obtain ⟨bd0, bd1, bd2, bd3⟩ := hb
  unfold cmV
  by_cases q0 : ((x.s.size : Nat) : Int) ≤ left
  · skip
    by_cases q1 : ((x.nm.size : Nat) : Int) ≤ left - ((x.s.size : Nat) : Int)
    · skip
      by_cases q2 : ((x.tg.size : Nat) : Int) ≤ left - ((x.s.size : Nat) : Int) - ((x.nm.size : Nat) : Int)
      · skip
        by_cases q3 : ((strsSz x.ch : Nat) : Int) ≤ left - ((x.s.size : Nat) : Int) - ((x.nm.size : Nat) : Int) - ((x.tg.size : Nat) : Int)
        · have R3 := Lib.hid (szR_yes (left := left - ((x.s.size : Nat) : Int) - ((x.nm.size : Nat) : Int) - ((x.tg.size : Nat) : Int)) (s := strsSz x.ch) q3)
          have R := Lib.hid (szR_yes (left := left) (s := cmSz x) (by unfold cmSz; push_cast; omega))
          go_enter Try.func50, Try.ntmps50
          go_wp2_with fail
          refine (strsR_sz x.ch _ _ _ _ _ (h1.keep (by go_grown)) bd3 (by omega) (by omega)).mono ?_
          rintro e w1 ⟨rfl, hb1⟩
          obtain ⟨hc_w1, hf_w1⟩ := bcell hb1
          have hz_w1 := hb1.size
          try simp at hz_w1
          have hB_w1 : Below w.heap.size w w1 := bthen (by go_grown) hb1
          have hz_w1_0 : w.heap.size < w1.heap.size := by omega
          rw [R3.out]
          go_wp2
          go_returns
          exact ⟨ret_int (by rw [R.out]; unfold cmSz; push_cast; omega), hB_w1⟩
        · have R := Lib.hid (szR_no (left := left) (s := cmSz x) (by unfold cmSz; push_cast; omega))
          have R3 := Lib.hid (szR_no (left := left - ((x.s.size : Nat) : Int) - ((x.nm.size : Nat) : Int) - ((x.tg.size : Nat) : Int)) (s := strsSz x.ch) (by omega))
          go_enter Try.func50, Try.ntmps50
          go_wp2_with fail
          refine (strsR_sz x.ch _ _ _ _ _ (h1.keep (by go_grown)) bd3 (by omega) (by omega)).mono ?_
          rintro e w1 ⟨rfl, hb1⟩
          obtain ⟨hc_w1, hf_w1⟩ := bcell hb1
          have hz_w1 := hb1.size
          try simp at hz_w1
          have hB_w1 : Below w.heap.size w w1 := bthen (by go_grown) hb1
          have hz_w1_0 : w.heap.size < w1.heap.size := by omega
          rw [R3.out]
          go_wp2
          go_returns
          exact ⟨ret_int R.out.symm, hB_w1⟩
      · have R := Lib.hid (szR_no (left := left) (s := cmSz x) (by unfold cmSz; push_cast; omega))
        go_enter Try.func50, Try.ntmps50
        go_wp2
        go_returns
        exact ⟨ret_int R.out.symm, by go_grown⟩
    · have R := Lib.hid (szR_no (left := left) (s := cmSz x) (by unfold cmSz; push_cast; omega))
      go_enter Try.func50, Try.ntmps50
      go_wp2
      go_returns
      exact ⟨ret_int R.out.symm, by go_grown⟩
  · have R := Lib.hid (szR_no (left := left) (s := cmSz x) (by unfold cmSz; push_cast; omega))
    go_enter Try.func50, Try.ntmps50
    go_wp2
    go_returns
    exact ⟨ret_int R.out.symm, by go_grown⟩
set_option maxRecDepth 8000 in
theorem cm_eq (x : Cm) (A1 : Option Addr) (n1 c1 : Nat) (A1' : Option Addr) (n1' c1' : Nat) (w : World) (h1 : StrR w A1 n1 c1 x.ch) (h1' : StrR w A1' n1' c1' x.ch) (hs : cmSz x ≤ 16777216) :
    Calls Try.prog 57 #[(cmV x (.slice A1 n1 c1)), (cmV x (.slice A1' n1' c1'))] w fun e w' => e = .returned (.bool true) ∧ Below w.heap.size w w' := by
  unfold cmSz at hs
  unfold cmV
  go_enter Try.func57, Try.ntmps57
  go_wp2_with fail
  refine (strsR_eq x.ch _ _ _ _ _ _ _ (h1.keep (by go_grown)) (h1'.keep (by go_grown)) (by omega)).mono ?_
  rintro e w1 ⟨rfl, hb1⟩
  obtain ⟨hc_w1, hf_w1⟩ := bcell hb1
  have hz_w1 := hb1.size
  try simp at hz_w1
  have hB_w1 : Below w.heap.size w w1 := bthen (by go_grown) hb1
  have hz_w1_0 : w.heap.size < w1.heap.size := by omega
  have hz_w1_1 : w.heap.size + 1 < w1.heap.size := by omega
  go_wp2
  go_returns
  exact ⟨rfl, hB_w1⟩
set_option maxRecDepth 8000 in
set_option maxHeartbeats 1000000 in
theorem cm_to (x : Cm) (A1 : Option Addr) (n1 c1 : Nat) (w : World) (h1 : StrR w A1 n1 c1 x.ch) (hs : cmSz x ≤ 1048576) :
    Calls Try.prog 53 #[(cmV x (.slice A1 n1 c1))] w fun e w' => ∃ (A1' : Option Addr) (n1' c1' : Nat) (f1' : List Nat), e = .returned (cmV x (.slice A1' n1' c1')) ∧ (f1').Nodup ∧ (∀ b ∈ f1', w.heap.size ≤ b ∧ b < w'.heap.size) ∧ StrO f1' w' A1' n1' c1' x.ch ∧ Below w.heap.size w w' := by
  unfold cmSz at hs
  unfold cmV
  go_enter Try.func53, Try.ntmps53
  go_wp2_with fail
  refine (strsR_to x.ch _ _ _ _ (h1.keep (by go_grown)) (by omega)).mono ?_
  rintro e w1 ⟨A1', n1', c1', rfl, ⟨f1', hN1, hF1, o1⟩, hb1⟩
  obtain ⟨hc_w1, hf_w1⟩ := bcell hb1
  have hz_w1 := hb1.size
  try simp at hz_w1
  have hB_w1 : Below w.heap.size w w1 := bthen (by go_grown) hb1
  have hz_w1_0 : w.heap.size < w1.heap.size := by omega
  have hz_w1_1 : w.heap.size + 1 < w1.heap.size := by omega
  have hz_w1_2 : w.heap.size + 1 + 1 < w1.heap.size := by omega
  have hG1 : ∀ b ∈ f1', w.heap.size + 3 ≤ b ∧ b < w1.heap.size := fun b hb => by have := hF1 b hb; have hzz := hz_w1; simp at this; omega
  have k0 : w1.cell? ⟨w.heap.size + 1, 0, none⟩ = some (.int .i64 0) := (keep_cell hb1 (by first | (simp [go_sem]; done) | (simp [go_sem]; rfl)))
  have k1 : w1.cell? ⟨w.heap.size + 1, 1, none⟩ = some (.int .i64 0) := (keep_cell hb1 (by first | (simp [go_sem]; done) | (simp [go_sem]; rfl)))
  have k2 : w1.cell? ⟨w.heap.size + 1, 2, none⟩ = some (.int .i64 0) := (keep_cell hb1 (by first | (simp [go_sem]; done) | (simp [go_sem]; rfl)))
  have k3 : w1.cell? ⟨w.heap.size + 1, 3, none⟩ = some (.string ByteArray.empty) := (keep_cell hb1 (by first | (simp [go_sem]; done) | (simp [go_sem]; rfl)))
  have k4 : w1.cell? ⟨w.heap.size + 1, 4, none⟩ = some (.string ByteArray.empty) := (keep_cell hb1 (by first | (simp [go_sem]; done) | (simp [go_sem]; rfl)))
  have k5 : w1.cell? ⟨w.heap.size + 1, 5, none⟩ = some (.string ByteArray.empty) := (keep_cell hb1 (by first | (simp [go_sem]; done) | (simp [go_sem]; rfl)))
  have k6 : w1.cell? ⟨w.heap.size + 1, 6, none⟩ = some (.int .i64 0) := (keep_cell hb1 (by first | (simp [go_sem]; done) | (simp [go_sem]; rfl)))
  have k7 : w1.cell? ⟨w.heap.size + 1, 7, none⟩ = some (.slice none 0 0) := (keep_cell hb1 (by first | (simp [go_sem]; done) | (simp [go_sem]; rfl)))
  have l0 : (w1.setCell ⟨w.heap.size + 1 + 1, 7, none⟩ (.slice A1' n1' c1')).cell? ⟨w.heap.size + 1, 0, none⟩ = some (.int .i64 0) := (setoff k0 (.inl (by omega)))
  have l1 : (w1.setCell ⟨w.heap.size + 1 + 1, 7, none⟩ (.slice A1' n1' c1')).cell? ⟨w.heap.size + 1, 1, none⟩ = some (.int .i64 0) := (setoff k1 (.inl (by omega)))
  have l2 : (w1.setCell ⟨w.heap.size + 1 + 1, 7, none⟩ (.slice A1' n1' c1')).cell? ⟨w.heap.size + 1, 2, none⟩ = some (.int .i64 0) := (setoff k2 (.inl (by omega)))
  have l3 : (w1.setCell ⟨w.heap.size + 1 + 1, 7, none⟩ (.slice A1' n1' c1')).cell? ⟨w.heap.size + 1, 3, none⟩ = some (.string ByteArray.empty) := (setoff k3 (.inl (by omega)))
  have l4 : (w1.setCell ⟨w.heap.size + 1 + 1, 7, none⟩ (.slice A1' n1' c1')).cell? ⟨w.heap.size + 1, 4, none⟩ = some (.string ByteArray.empty) := (setoff k4 (.inl (by omega)))
  have l5 : (w1.setCell ⟨w.heap.size + 1 + 1, 7, none⟩ (.slice A1' n1' c1')).cell? ⟨w.heap.size + 1, 5, none⟩ = some (.string ByteArray.empty) := (setoff k5 (.inl (by omega)))
  have l6 : (w1.setCell ⟨w.heap.size + 1 + 1, 7, none⟩ (.slice A1' n1' c1')).cell? ⟨w.heap.size + 1, 6, none⟩ = some (.int .i64 0) := (setoff k6 (.inl (by omega)))
  have l7 : (w1.setCell ⟨w.heap.size + 1 + 1, 7, none⟩ (.slice A1' n1' c1')).cell? ⟨w.heap.size + 1, 7, none⟩ = some (.slice none 0 0) := (setoff k7 (.inl (by omega)))
  obtain ⟨WF, hWF⟩ : ∃ WF, WF = setsW (w1.setCell ⟨w.heap.size + 1 + 1, 7, none⟩ (.slice A1' n1' c1')) (w.heap.size + 1) 0 [.int .i64 x.kd, .int .i64 x.cl, .int .i64 x.no, .string x.s, .string x.nm, .string x.tg, .int .i64 x.n, .slice A1' n1' c1'] := ⟨_, rfl⟩
  have hcs : ∀ j, j < [(.int .i64 x.kd : Value), (.int .i64 x.cl : Value), (.int .i64 x.no : Value), (.string x.s : Value), (.string x.nm : Value), (.string x.tg : Value), (.int .i64 x.n : Value), (.slice A1' n1' c1' : Value)].length → ∃ u, (w1.setCell ⟨w.heap.size + 1 + 1, 7, none⟩ (.slice A1' n1' c1')).cell? ⟨w.heap.size + 1, 0 + j, none⟩ = some u := fun j hj => by
    simp only [List.length_cons, List.length_nil] at hj
    rw [Nat.zero_add]
    rcases (show j = 0 ∨ j = 1 ∨ j = 2 ∨ j = 3 ∨ j = 4 ∨ j = 5 ∨ j = 6 ∨ j = 7 by omega) with rfl | rfl | rfl | rfl | rfl | rfl | rfl | rfl
    · exact ⟨_, l0⟩
    · exact ⟨_, l1⟩
    · exact ⟨_, l2⟩
    · exact ⟨_, l3⟩
    · exact ⟨_, l4⟩
    · exact ⟨_, l5⟩
    · exact ⟨_, l6⟩
    · exact ⟨_, l7⟩
  have r0 : WF.cell? ⟨w.heap.size + 1, 0, none⟩ = some (.int .i64 x.kd) := by rw [hWF]; have := setsW_cell _ 0 _ hcs 0 _ rfl; simpa using this
  have r1 : WF.cell? ⟨w.heap.size + 1, 1, none⟩ = some (.int .i64 x.cl) := by rw [hWF]; have := setsW_cell _ 0 _ hcs 1 _ rfl; simpa using this
  have r2 : WF.cell? ⟨w.heap.size + 1, 2, none⟩ = some (.int .i64 x.no) := by rw [hWF]; have := setsW_cell _ 0 _ hcs 2 _ rfl; simpa using this
  have r3 : WF.cell? ⟨w.heap.size + 1, 3, none⟩ = some (.string x.s) := by rw [hWF]; have := setsW_cell _ 0 _ hcs 3 _ rfl; simpa using this
  have r4 : WF.cell? ⟨w.heap.size + 1, 4, none⟩ = some (.string x.nm) := by rw [hWF]; have := setsW_cell _ 0 _ hcs 4 _ rfl; simpa using this
  have r5 : WF.cell? ⟨w.heap.size + 1, 5, none⟩ = some (.string x.tg) := by rw [hWF]; have := setsW_cell _ 0 _ hcs 5 _ rfl; simpa using this
  have r6 : WF.cell? ⟨w.heap.size + 1, 6, none⟩ = some (.int .i64 x.n) := by rw [hWF]; have := setsW_cell _ 0 _ hcs 6 _ rfl; simpa using this
  have r7 : WF.cell? ⟨w.heap.size + 1, 7, none⟩ = some (.slice A1' n1' c1') := by rw [hWF]; have := setsW_cell _ 0 _ hcs 7 _ rfl; simpa using this
  have hCW : Ch (fun b => b = w.heap.size + 1) (w1.setCell ⟨w.heap.size + 1 + 1, 7, none⟩ (.slice A1' n1' c1')) WF := by rw [hWF]; exact ch_setsW _ 0 _
  simp only [setsW, Nat.zero_add, Nat.reduceAdd] at hWF
  go_wp2
  rw [← hWF]
  clear hcs
  have hBF : Below w.heap.size w WF := (hB_w1.setCell (by dsimp only; omega) _).trans (hCW.below (fun k hk => by omega) ((hB_w1.setCell (by dsimp only; omega) _).size))
  have z1 := o1.ch (((Ch.refl (S := fun b => b < w.heap.size + 3) w1).setCell (by dsimp only; omega) _).trans (hCW.mono (fun b hb => by omega))) (fun b hb => by have := hG1 b (by simp [hb]); omega)
  have hsz : w1.heap.size ≤ WF.heap.size := by have := hCW.size; simpa using this
  have hND : (f1').Nodup := by
    have := hN1
    simpa only [List.append_assoc] using this
  have hBD : ∀ b ∈ f1', w.heap.size ≤ b ∧ b < WF.heap.size := fun b hb => by
    have := hG1 b (by simp [hb]); omega
  exact bodyPost_ret (v := .agg #[.int .i64 x.kd, .int .i64 x.cl, .int .i64 x.no, .string x.s, .string x.nm, .string x.tg, .int .i64 x.n, .slice A1' n1' c1']) (by simp [results, Try.results53, go_sem, r0, r1, r2, r3, r4, r5, r6, r7]) rfl ⟨A1', n1', c1', f1', rfl, hND, hBD, z1, hBF⟩
theorem cms_sz (l : List Cm) (A : Option Addr) (n c : Nat) (left : Int) (w : World) (h : RowR cmR 8 w A n c l) (hb : cmsB l) (hl0 : 0 ≤ left) (hl1 : left ≤ 4611686018427387904) :
    Calls Try.prog 10 #[.slice A n c, .int .i64 left] w fun e w' => e = .returned (.int .i64 (szR left (cmsSz l))) ∧ Below w.heap.size w w' := by
  have HL := Lib.hid h.len.symm
  have hn : n ≤ 9223372036854775807 := by have h1 := HL.out; have h2 := hb.1; omega
  by_cases h0 : left - n < 0
  · go_enter Try.func10, Try.ntmps10
    go_wp2
    go_returns
    refine ⟨ret_int (szR_no ?_).symm, Below.refl _ _⟩
    have := HL.out; unfold cmsSz; omega
  · go_enter Try.func10, Try.ntmps10
    go_wp2
    have E0 := Lib.hid (sumTo_zero cmSz l)
    go_loopw [1, 5] (fun u i wr => ∃ k : Nat, k ≤ n ∧ i = .int .i64 k ∧ u = .int .i64 (left - n - (sumTo cmSz l k : Nat)) ∧ 0 ≤ left - n - (sumTo cmSz l k : Nat) ∧ Below w.heap.size w wr) (fun _ i _ => n - (intOf i).toNat)
    case atStart => exact ⟨0, Nat.zero_le _, rfl, by rw [E0.out]; simp, by rw [E0.out]; omega, Below.refl _ _⟩
    case round =>
      obtain ⟨k, hk, rfl, rfl, hge, hbw⟩ := hrel
      by_cases hlt : k < n
      · obtain ⟨b, off, rfl⟩ := h.head (by omega)
        obtain ⟨bl, x, cs, hx, hR, hcell⟩ := h.elem_at hlt
        obtain ⟨A1, n1, c1, rfl, h1⟩ := hR
        have e0 := (hbw.cell (p := ⟨b, off + k * 8, none⟩) bl).trans (show w.cell? ⟨b, off + k * 8, none⟩ = some (.int .i64 x.kd) from hcell 0 _ rfl)
        have e1 := (hbw.cell (p := ⟨b, off + k * 8 + 1, none⟩) bl).trans (show w.cell? ⟨b, off + k * 8 + 1, none⟩ = some (.int .i64 x.cl) from hcell 1 _ rfl)
        have e2 := (hbw.cell (p := ⟨b, off + k * 8 + 2, none⟩) bl).trans (show w.cell? ⟨b, off + k * 8 + 2, none⟩ = some (.int .i64 x.no) from hcell 2 _ rfl)
        have e3 := (hbw.cell (p := ⟨b, off + k * 8 + 3, none⟩) bl).trans (show w.cell? ⟨b, off + k * 8 + 3, none⟩ = some (.string x.s) from hcell 3 _ rfl)
        have e4 := (hbw.cell (p := ⟨b, off + k * 8 + 4, none⟩) bl).trans (show w.cell? ⟨b, off + k * 8 + 4, none⟩ = some (.string x.nm) from hcell 4 _ rfl)
        have e5 := (hbw.cell (p := ⟨b, off + k * 8 + 5, none⟩) bl).trans (show w.cell? ⟨b, off + k * 8 + 5, none⟩ = some (.string x.tg) from hcell 5 _ rfl)
        have e6 := (hbw.cell (p := ⟨b, off + k * 8 + 6, none⟩) bl).trans (show w.cell? ⟨b, off + k * 8 + 6, none⟩ = some (.int .i64 x.n) from hcell 6 _ rfl)
        have e7 := (hbw.cell (p := ⟨b, off + k * 8 + 7, none⟩) bl).trans (show w.cell? ⟨b, off + k * 8 + 7, none⟩ = some (.slice A1 n1 c1) from hcell 7 _ rfl)
        clear hcell
        have hbx := bounds_el hb.2 hx
        obtain ⟨HSM, HSS⟩ := sum_el cmSz hx
        have HSU := Lib.hid HSS; clear HSS
        have HLE := Lib.hid (sumTo_le cmSz l (k + 1))
        by_cases hq : left - n - (sumTo cmSz l k : Nat) - ((cmSz x : Nat) : Int) < 0
        · have HR := Lib.hid (szR_no (left := left - n - (sumTo cmSz l k : Nat)) (s := cmSz x) (by omega))
          go_wp2_with fail
          refine (cm_sz x _ _ _ _ _ (h1.keep hbw) hbx (by omega) (by omega)).mono ?_
          rintro e w1 ⟨rfl, hb1⟩
          rw [HR.out]
          go_wp2
          go_returns
          refine ⟨ret_int (szR_no ?_).symm, bthen hbw hb1⟩
          have := HL.out; have := HSU.out; have := HLE.out; unfold cmsSz; omega
        · have HR := Lib.hid (szR_yes (left := left - n - (sumTo cmSz l k : Nat)) (s := cmSz x) (by omega))
          go_wp2_with fail
          refine (cm_sz x _ _ _ _ _ (h1.keep hbw) hbx (by omega) (by omega)).mono ?_
          rintro e w1 ⟨rfl, hb1⟩
          rw [HR.out]
          go_wp2
          refine ⟨⟨k + 1, by omega, by go_num, ?_, ?_, bthen hbw hb1⟩, by simp [intOf]; omega⟩
          · rw [HSU.out]; congr 1; push_cast; omega
          · rw [HSU.out]; push_cast; omega
      · go_wp2
        go_returns
        refine ⟨ret_int ?_, hbw⟩
        have h3 := sumTo_all cmSz l k (by have := HL.out; omega)
        have := HL.out
        rw [szR_yes (by unfold cmsSz; omega)]; unfold cmsSz; push_cast; omega
set_option maxRecDepth 8000 in
set_option maxHeartbeats 1000000 in
theorem cms_eq (l : List Cm) (A : Option Addr) (n c : Nat) (A' : Option Addr) (n' c' : Nat) (w : World) (h : RowR cmR 8 w A n c l) (h' : RowR cmR 8 w A' n' c' l) (hs : cmsSz l ≤ 16777216) :
    Calls Try.prog 15 #[.slice A n c, .slice A' n' c'] w fun e w' => e = .returned (.bool true) ∧ Below w.heap.size w w' := by
  obtain rfl : n = n' := h.len.trans h'.len.symm
  have hn : n ≤ 16777216 := by have h1 := h.len; unfold cmsSz at hs; omega
  go_enter Try.func15, Try.ntmps15
  go_wp2
  go_loopw [5] (fun i wr => ∃ (k : Nat), k ≤ n ∧ i = .int .i64 k ∧ Below w.heap.size w wr) (fun i _ => n - (intOf i).toNat)
  case atStart => exact ⟨0, Nat.zero_le _, rfl, Below.refl _ _⟩
  case round =>
    obtain ⟨k, hk, rfl, hb⟩ := hrel
    by_cases hlt : k < n
    · obtain ⟨b, off, rfl⟩ := h.head (by omega)
      obtain ⟨bl, x, cs, hx, hR, hcell⟩ := h.elem_at hlt
      obtain ⟨A1, n1, c1, rfl, h1⟩ := hR
      have e0 := (hb.cell (p := ⟨b, off + k * 8, none⟩) bl).trans (show w.cell? ⟨b, off + k * 8, none⟩ = some (.int .i64 x.kd) from hcell 0 _ rfl)
      have e1 := (hb.cell (p := ⟨b, off + k * 8 + 1, none⟩) bl).trans (show w.cell? ⟨b, off + k * 8 + 1, none⟩ = some (.int .i64 x.cl) from hcell 1 _ rfl)
      have e2 := (hb.cell (p := ⟨b, off + k * 8 + 2, none⟩) bl).trans (show w.cell? ⟨b, off + k * 8 + 2, none⟩ = some (.int .i64 x.no) from hcell 2 _ rfl)
      have e3 := (hb.cell (p := ⟨b, off + k * 8 + 3, none⟩) bl).trans (show w.cell? ⟨b, off + k * 8 + 3, none⟩ = some (.string x.s) from hcell 3 _ rfl)
      have e4 := (hb.cell (p := ⟨b, off + k * 8 + 4, none⟩) bl).trans (show w.cell? ⟨b, off + k * 8 + 4, none⟩ = some (.string x.nm) from hcell 4 _ rfl)
      have e5 := (hb.cell (p := ⟨b, off + k * 8 + 5, none⟩) bl).trans (show w.cell? ⟨b, off + k * 8 + 5, none⟩ = some (.string x.tg) from hcell 5 _ rfl)
      have e6 := (hb.cell (p := ⟨b, off + k * 8 + 6, none⟩) bl).trans (show w.cell? ⟨b, off + k * 8 + 6, none⟩ = some (.int .i64 x.n) from hcell 6 _ rfl)
      have e7 := (hb.cell (p := ⟨b, off + k * 8 + 7, none⟩) bl).trans (show w.cell? ⟨b, off + k * 8 + 7, none⟩ = some (.slice A1 n1 c1) from hcell 7 _ rfl)
      clear hcell
      obtain ⟨b', off', rfl⟩ := h'.head (by omega)
      obtain ⟨b'l, x', cs', hx', hR', hcell'⟩ := h'.elem_at hlt
      obtain rfl : x' = x := Option.some.inj (hx'.symm.trans hx)
      obtain ⟨A1', n1', c1', rfl, h1'⟩ := hR'
      have e0' := (hb.cell (p := ⟨b', off' + k * 8, none⟩) b'l).trans (show w.cell? ⟨b', off' + k * 8, none⟩ = some (.int .i64 x'.kd) from hcell' 0 _ rfl)
      have e1' := (hb.cell (p := ⟨b', off' + k * 8 + 1, none⟩) b'l).trans (show w.cell? ⟨b', off' + k * 8 + 1, none⟩ = some (.int .i64 x'.cl) from hcell' 1 _ rfl)
      have e2' := (hb.cell (p := ⟨b', off' + k * 8 + 2, none⟩) b'l).trans (show w.cell? ⟨b', off' + k * 8 + 2, none⟩ = some (.int .i64 x'.no) from hcell' 2 _ rfl)
      have e3' := (hb.cell (p := ⟨b', off' + k * 8 + 3, none⟩) b'l).trans (show w.cell? ⟨b', off' + k * 8 + 3, none⟩ = some (.string x'.s) from hcell' 3 _ rfl)
      have e4' := (hb.cell (p := ⟨b', off' + k * 8 + 4, none⟩) b'l).trans (show w.cell? ⟨b', off' + k * 8 + 4, none⟩ = some (.string x'.nm) from hcell' 4 _ rfl)
      have e5' := (hb.cell (p := ⟨b', off' + k * 8 + 5, none⟩) b'l).trans (show w.cell? ⟨b', off' + k * 8 + 5, none⟩ = some (.string x'.tg) from hcell' 5 _ rfl)
      have e6' := (hb.cell (p := ⟨b', off' + k * 8 + 6, none⟩) b'l).trans (show w.cell? ⟨b', off' + k * 8 + 6, none⟩ = some (.int .i64 x'.n) from hcell' 6 _ rfl)
      have e7' := (hb.cell (p := ⟨b', off' + k * 8 + 7, none⟩) b'l).trans (show w.cell? ⟨b', off' + k * 8 + 7, none⟩ = some (.slice A1' n1' c1') from hcell' 7 _ rfl)
      clear hcell' hx'
      have hek := cms_el hx
      have hn63 : (k : Int) < n := by omega
      go_wp2
      go_still_tail 8, (by kernel_rfl)
      change wpList _ _ _ _ _ wr.drew
      have hbd : Below w.heap.size w wr.drew := hb.drew
      generalize wr.drew = w2 at *
      go_wp2_with fail
      refine (cm_eq x' _ _ _ _ _ _ _ (h1.keep hbd) (h1'.keep hbd) (by omega)).mono ?_
      rintro e w3 ⟨rfl, hb3⟩
      go_wp2
      exact ⟨⟨k + 1, by omega, by go_num, bthen hbd hb3⟩, by simp [intOf]; omega⟩
    · go_wp2
      go_returns
      exact ⟨rfl, hb⟩
theorem infoCmd : (Try.prog.info? 47).map (fun i => (i.zero, i.size, i.bytes)) = some (some (.agg #[.int .i64 0, .int .i64 0, .int .i64 0, .string ByteArray.empty, .string ByteArray.empty, .string ByteArray.empty, .int .i64 0, .slice none 0 0]), 8, 104) := by kernel_rfl
set_option maxRecDepth 8000 in
set_option maxHeartbeats 2000000 in
theorem cms_to (l : List Cm) (A : Option Addr) (n c : Nat) (w : World) (h : RowR cmR 8 w A n c l) (hs : cmsSz l ≤ 1048576) :
    Calls Try.prog 12 #[.slice A n c] w fun e w' => ∃ A' n' c', e = .returned (.slice A' n' c') ∧ (∃ fp, fp.Nodup ∧ (∀ b ∈ fp, w.heap.size ≤ b ∧ b < w'.heap.size) ∧ RowO cmF 47 8 fp w' A' n' c' l) ∧ Below w.heap.size w w' := by
  have HL := Lib.hid h.len.symm
  have hn : n ≤ 1048576 := by have h1 := HL.out; unfold cmsSz at hs; omega
  go_enter Try.func12, Try.ntmps12
  go_wp2_with (refine wpList_mk (P := Try.prog) _ rfl _ _ 26 rfl w.heap.size 47 _ 8 104 Try.underlying26 infoCmd _ _ _ _ n rfl rfl rfl rfl (by omega) (by unfold maxLen; omega) (Nat.le_refl _) ?_; intro w1 hown1 hg1 hb1)
  clear hg1
  go_loopw [4] (fun i wr => ∃ (k : Nat) (rest : List Value) (css : List (List Value)) (fps : List (List Nat)), k ≤ n ∧ i = .int .i64 k ∧ wr.ownsRow w.heap.size 47 8 (.slice (some ⟨w.heap.size, 0, none⟩) n n) n (css.flatten ++ rest) ∧ Els cmF wr css fps (l.take k) ∧ fps.flatten.Nodup ∧ (∀ b ∈ fps.flatten, w.heap.size + 1 ≤ b ∧ b < wr.heap.size) ∧ w.heap.size < wr.heap.size ∧ Below w.heap.size w wr) (fun i _ => n - (intOf i).toNat)
  case atStart => exact ⟨0, _, [], [], Nat.zero_le _, rfl, by simpa using hown1, Els.nil, List.nodup_nil, (fun b hb => by cases hb), (own_lo hown1 w.heap.size (by simp [blkL])).2, hb1⟩
  case round =>
    obtain ⟨k, rest, css, fps, hk, rfl, hown, hE, hN, hF, hgw, hb⟩ := hrel
    have hlen : css.flatten.length = k * 8 := by rw [hE.flat cmK, List.length_take]; have := HL.out; rw [Nat.min_eq_left (by omega)]
    have hrl : rest.length = n * 8 - k * 8 := by have h1 := hown.1; rw [List.length_append] at h1; omega
    by_cases hlt : k < n
    · obtain ⟨b, off, rfl⟩ := h.head (by omega)
      obtain ⟨bl, x, cs, hx, hR, hcell⟩ := h.elem_at hlt
      obtain ⟨A1, n1, c1, rfl, h1⟩ := hR
      have e0 := (hb.cell (p := ⟨b, off + k * 8, none⟩) bl).trans (show w.cell? ⟨b, off + k * 8, none⟩ = some (.int .i64 x.kd) from hcell 0 _ rfl)
      have e1 := (hb.cell (p := ⟨b, off + k * 8 + 1, none⟩) bl).trans (show w.cell? ⟨b, off + k * 8 + 1, none⟩ = some (.int .i64 x.cl) from hcell 1 _ rfl)
      have e2 := (hb.cell (p := ⟨b, off + k * 8 + 2, none⟩) bl).trans (show w.cell? ⟨b, off + k * 8 + 2, none⟩ = some (.int .i64 x.no) from hcell 2 _ rfl)
      have e3 := (hb.cell (p := ⟨b, off + k * 8 + 3, none⟩) bl).trans (show w.cell? ⟨b, off + k * 8 + 3, none⟩ = some (.string x.s) from hcell 3 _ rfl)
      have e4 := (hb.cell (p := ⟨b, off + k * 8 + 4, none⟩) bl).trans (show w.cell? ⟨b, off + k * 8 + 4, none⟩ = some (.string x.nm) from hcell 4 _ rfl)
      have e5 := (hb.cell (p := ⟨b, off + k * 8 + 5, none⟩) bl).trans (show w.cell? ⟨b, off + k * 8 + 5, none⟩ = some (.string x.tg) from hcell 5 _ rfl)
      have e6 := (hb.cell (p := ⟨b, off + k * 8 + 6, none⟩) bl).trans (show w.cell? ⟨b, off + k * 8 + 6, none⟩ = some (.int .i64 x.n) from hcell 6 _ rfl)
      have e7 := (hb.cell (p := ⟨b, off + k * 8 + 7, none⟩) bl).trans (show w.cell? ⟨b, off + k * 8 + 7, none⟩ = some (.slice A1 n1 c1) from hcell 7 _ rfl)
      clear hcell
      have hek := cms_el hx
      go_wp2_with fail
      refine (cm_to x _ _ _ _ (h1.keep hb) (by omega)).mono ?_
      rintro e w2 ⟨B1, m1, d1, g1, rfl, hN2, hF2, o1, hb2⟩
      unfold cmV
      have hown2 := own_ch hown (Ch.of_below (S := fun _ => False) hb2) (fun _ _ h => h)
      have hz2 := hb2.size
      obtain ⟨o_0, ho_0⟩ := own_cell hown2 (j := k * 8) (by omega)
      have hf_0 := hown2.frozenAt (k * 8)
      obtain ⟨o_1, ho_1⟩ := own_cell hown2 (j := k * 8 + 1) (by omega)
      have hf_1 := hown2.frozenAt (k * 8 + 1)
      obtain ⟨o_2, ho_2⟩ := own_cell hown2 (j := k * 8 + 2) (by omega)
      have hf_2 := hown2.frozenAt (k * 8 + 2)
      obtain ⟨o_3, ho_3⟩ := own_cell hown2 (j := k * 8 + 3) (by omega)
      have hf_3 := hown2.frozenAt (k * 8 + 3)
      obtain ⟨o_4, ho_4⟩ := own_cell hown2 (j := k * 8 + 4) (by omega)
      have hf_4 := hown2.frozenAt (k * 8 + 4)
      obtain ⟨o_5, ho_5⟩ := own_cell hown2 (j := k * 8 + 5) (by omega)
      have hf_5 := hown2.frozenAt (k * 8 + 5)
      obtain ⟨o_6, ho_6⟩ := own_cell hown2 (j := k * 8 + 6) (by omega)
      have hf_6 := hown2.frozenAt (k * 8 + 6)
      obtain ⟨o_7, ho_7⟩ := own_cell hown2 (j := k * 8 + 7) (by omega)
      have hf_7 := hown2.frozenAt (k * 8 + 7)
      go_wp2
      obtain ⟨w3, hw3⟩ : ∃ W, W = ((((((((w2.setCell ⟨w.heap.size, k * 8, none⟩ (.int .i64 x.kd)).setCell ⟨w.heap.size, k * 8 + 1, none⟩ (.int .i64 x.cl)).setCell ⟨w.heap.size, k * 8 + 2, none⟩ (.int .i64 x.no)).setCell ⟨w.heap.size, k * 8 + 3, none⟩ (.string x.s)).setCell ⟨w.heap.size, k * 8 + 4, none⟩ (.string x.nm)).setCell ⟨w.heap.size, k * 8 + 5, none⟩ (.string x.tg)).setCell ⟨w.heap.size, k * 8 + 6, none⟩ (.int .i64 x.n)).setCell ⟨w.heap.size, k * 8 + 7, none⟩ (.slice B1 m1 d1)) := ⟨_, rfl⟩
      have hw4 : w3 = setsW w2 w.heap.size (k * 8) [.int .i64 x.kd, .int .i64 x.cl, .int .i64 x.no, .string x.s, .string x.nm, .string x.tg, .int .i64 x.n, .slice B1 m1 d1] := hw3
      rw [← hw3]
      clear hw3 ho_0 hf_0 ho_1 hf_1 ho_2 hf_2 ho_3 hf_3 ho_4 hf_4 ho_5 hf_5 ho_6 hf_6 ho_7 hf_7
      have q := own_setsW [.int .i64 x.kd, .int .i64 x.cl, .int .i64 x.no, .string x.s, .string x.nm, .string x.tg, .int .i64 x.n, .slice B1 m1 d1] (k * 8) w2 _ hown2
      have hC : Ch (fun b => b = w.heap.size) w2 w3 := by rw [hw4]; exact ch_setsW _ _ _
      rw [← hw4] at q
      have hrd : rest = rest.take 8 ++ rest.drop 8 := (List.take_append_drop _ _).symm
      have htk : (rest.take 8).length = 8 := by rw [List.length_take]; omega
      rw [hrd, setsL_at hlen (by rw [htk]; rfl)] at q
      clear hw4 hrd htk
      have q2 : w3.ownsRow w.heap.size 47 8 (.slice (some ⟨w.heap.size, 0, none⟩) n n) n ((css ++ [([.int .i64 x.kd, .int .i64 x.cl, .int .i64 x.no, .string x.s, .string x.nm, .string x.tg, .int .i64 x.n, .slice B1 m1 d1] : List Value)]).flatten ++ rest.drop 8) := by rw [flat_snoc, List.append_assoc]; exact q
      have hE2 := (hE.keep cmK hb2).ch cmK hC (fun b hb e => by have := hF b hb; omega)
      have z1 := o1.ch hC (fun b hb e => by have := hF2 b (by simp [hb]); omega)
      have hE3 := hE2.app (Els.one (⟨B1, m1, d1, g1, rfl, rfl, z1⟩ : cmF (g1) w3 [.int .i64 x.kd, .int .i64 x.cl, .int .i64 x.no, .string x.s, .string x.nm, .string x.tg, .int .i64 x.n, .slice B1 m1 d1] x))
      rw [← take_more hx] at hE3
      have hfl : (fps ++ [g1]).flatten = fps.flatten ++ (g1) := by simp
      have hz3 := hC.size
      refine ⟨⟨k + 1, _, _, _, by omega, by go_num, q2, hE3, ?_, ?_, by omega, (bthen hb hb2).trans (hC.below (fun b hb => by omega) (by omega))⟩, by simp [intOf]; omega⟩
      · rw [hfl]; exact nodup_new (m := wr.heap.size) hN hN2 (fun b hb => (hF b hb).2) (fun b hb => (hF2 b hb).1)
      · rw [hfl]; intro b hb
        rcases List.mem_append.1 hb with hb | hb
        · have := hF b hb; omega
        · have := hF2 b hb; omega
    · go_wp2
      go_returns
      have hkn : k = n := by omega
      subst hkn
      have hr0 : rest = [] := List.eq_nil_of_length_eq_zero (by omega)
      subst hr0
      rw [List.append_nil] at hown
      rw [List.take_of_length_le (by have := HL.out; omega)] at hE
      refine ⟨_, _, _, rfl, ⟨blkL (some ⟨w.heap.size, 0, none⟩) ++ fps.flatten, ?_, ?_, RowO.intro (own_up hown (Nat.zero_le _)) HL.out.symm hE⟩, hb⟩
      · exact List.nodup_cons.2 ⟨fun hm => by have := hF _ hm; simp at this; omega, hN⟩
      · intro b hb2
        rcases List.mem_append.1 hb2 with h1 | h1
        · have : b = w.heap.size := by simpa [blkL] using h1
          omega
        · have := hF b h1; omega
set_option maxRecDepth 8000 in
theorem cm_mark (x : Cm) (f1 : List Nat) (A1 : Option Addr) (n1 c1 : Nat) (k : Int) (w : World) (h1 : StrO f1 w A1 n1 c1 x.ch) (hN : (f1).Nodup) (hs : cmSz x ≤ 16777216) (hk0 : 0 < k) (hk1 : k ≤ 288230376151711744) :
    Calls Try.prog 89 #[(cmV x (.slice A1 n1 c1)), .int .i64 k] w fun e w' => e = .returned (.int .i64 (k + (cmTop x : Nat))) ∧ StrO f1 w' A1 n1 c1 (cmTopMk k x).ch ∧ Ch (fun b => b ∈ f1) w w' := by
  have htop := cm_top x
  have hsz := hs; unfold cmSz at hsz; unfold cmTop at htop
  unfold cmV
  have al := (Below.refl w.heap.size w).alloc (Nat.le_refl _) (.cells #[.int .i64 x.kd, .int .i64 x.cl, .int .i64 x.no, .string x.s, .string x.nm, .string x.tg, .int .i64 x.n, .slice A1 n1 c1] 47)
  have a1 := h1.keep al
  have hC0 : Ch (fun b => b ∈ f1) w (w.alloc (.cells #[.int .i64 x.kd, .int .i64 x.cl, .int .i64 x.no, .string x.s, .string x.nm, .string x.tg, .int .i64 x.n, .slice A1 n1 c1] 47)) := Ch.of_below al
  have e0 : (w.alloc (.cells #[.int .i64 x.kd, .int .i64 x.cl, .int .i64 x.no, .string x.s, .string x.nm, .string x.tg, .int .i64 x.n, .slice A1 n1 c1] 47)).cell? ⟨w.heap.size, 0, none⟩ = some (.int .i64 x.kd) := by simp [go_sem]
  have e1 : (w.alloc (.cells #[.int .i64 x.kd, .int .i64 x.cl, .int .i64 x.no, .string x.s, .string x.nm, .string x.tg, .int .i64 x.n, .slice A1 n1 c1] 47)).cell? ⟨w.heap.size, 1, none⟩ = some (.int .i64 x.cl) := by simp [go_sem]
  have e2 : (w.alloc (.cells #[.int .i64 x.kd, .int .i64 x.cl, .int .i64 x.no, .string x.s, .string x.nm, .string x.tg, .int .i64 x.n, .slice A1 n1 c1] 47)).cell? ⟨w.heap.size, 2, none⟩ = some (.int .i64 x.no) := by simp [go_sem]
  have e3 : (w.alloc (.cells #[.int .i64 x.kd, .int .i64 x.cl, .int .i64 x.no, .string x.s, .string x.nm, .string x.tg, .int .i64 x.n, .slice A1 n1 c1] 47)).cell? ⟨w.heap.size, 3, none⟩ = some (.string x.s) := by simp [go_sem]
  have e4 : (w.alloc (.cells #[.int .i64 x.kd, .int .i64 x.cl, .int .i64 x.no, .string x.s, .string x.nm, .string x.tg, .int .i64 x.n, .slice A1 n1 c1] 47)).cell? ⟨w.heap.size, 4, none⟩ = some (.string x.nm) := by simp [go_sem]
  have e5 : (w.alloc (.cells #[.int .i64 x.kd, .int .i64 x.cl, .int .i64 x.no, .string x.s, .string x.nm, .string x.tg, .int .i64 x.n, .slice A1 n1 c1] 47)).cell? ⟨w.heap.size, 5, none⟩ = some (.string x.tg) := by simp [go_sem]
  have e6 : (w.alloc (.cells #[.int .i64 x.kd, .int .i64 x.cl, .int .i64 x.no, .string x.s, .string x.nm, .string x.tg, .int .i64 x.n, .slice A1 n1 c1] 47)).cell? ⟨w.heap.size, 6, none⟩ = some (.int .i64 x.n) := by simp [go_sem]
  have e7 : (w.alloc (.cells #[.int .i64 x.kd, .int .i64 x.cl, .int .i64 x.no, .string x.s, .string x.nm, .string x.tg, .int .i64 x.n, .slice A1 n1 c1] 47)).cell? ⟨w.heap.size, 7, none⟩ = some (.slice A1 n1 c1) := by simp [go_sem]
  have lt1 := h1.lt
  go_enter Try.func89, Try.ntmps89
  go_wp2_with fail
  refine (strsR_mark x.ch f1 _ _ _ _ _ a1 (by omega) (by omega) (by omega)).mono ?_
  rintro e w1 ⟨rfl, b1, hc1⟩
  have hC1 : Ch (fun b => b ∈ f1) w w1 := hC0.trans hc1
  have e0' := hc1.cell e0 (by intro hb; have := lt1 _ hb; omega); clear e0; have e0 := e0'; clear e0'
  have e1' := hc1.cell e1 (by intro hb; have := lt1 _ hb; omega); clear e1; have e1 := e1'; clear e1'
  have e2' := hc1.cell e2 (by intro hb; have := lt1 _ hb; omega); clear e2; have e2 := e2'; clear e2'
  have e3' := hc1.cell e3 (by intro hb; have := lt1 _ hb; omega); clear e3; have e3 := e3'; clear e3'
  have e4' := hc1.cell e4 (by intro hb; have := lt1 _ hb; omega); clear e4; have e4 := e4'; clear e4'
  have e5' := hc1.cell e5 (by intro hb; have := lt1 _ hb; omega); clear e5; have e5 := e5'; clear e5'
  have e6' := hc1.cell e6 (by intro hb; have := lt1 _ hb; omega); clear e6; have e6 := e6'; clear e6'
  have e7' := hc1.cell e7 (by intro hb; have := lt1 _ hb; omega); clear e7; have e7 := e7'; clear e7'
  go_wp2
  go_returns
  refine ⟨ret_int (by unfold cmTop; push_cast; omega), b1, hC1⟩
set_option maxRecDepth 8000 in
theorem cm_held (x : Cm) (y : Cm) (A1 : Option Addr) (n1 c1 : Nat) (k : Int) (w : World) (h1 : StrR w A1 n1 c1 (cmTopMk k x).ch) (hs : cmSz x ≤ 16777216) (hk0 : 0 < k) (hk1 : k ≤ 288230376151711744) :
    Calls Try.prog 91 #[(cmV y (.slice A1 n1 c1)), .int .i64 k] w fun e w' => e = .returned (.int .i64 (k + (cmTop x : Nat))) ∧ Below w.heap.size w w' := by
  have htop := cm_top x
  have hsz := hs; unfold cmSz at hsz; unfold cmTop at htop
  unfold cmV
  go_enter Try.func91, Try.ntmps91
  go_wp2_with fail
  refine (strsR_held x.ch _ _ _ _ _ (h1.keep (by go_grown)) (by omega) (by omega) (by omega)).mono ?_
  rintro e w1 ⟨rfl, hb1⟩
  obtain ⟨hc_w1, hf_w1⟩ := bcell hb1
  have hz_w1 := hb1.size
  try simp at hz_w1
  have hB_w1 : Below w.heap.size w w1 := bthen (by go_grown) hb1
  have hz_w1_0 : w.heap.size < w1.heap.size := by omega
  go_wp2
  go_returns
  exact ⟨ret_int (by unfold cmTop; push_cast; omega), hB_w1⟩
set_option maxRecDepth 8000 in
set_option maxHeartbeats 4000000 in
theorem cms_mark (l : List Cm) (fp : List Nat) (A : Option Addr) (n c : Nat) (k : Int) (w : World) (h : RowO cmF 47 8 fp w A n c l) (hN : fp.Nodup) (hs : cmsSz l ≤ 16777216) (hk0 : 0 < k) (hk1 : k ≤ 288230376151711744) :
    Calls Try.prog 16 #[.slice A n c, .int .i64 k] w fun e w' => e = .returned (.int .i64 (k + (cmsCnt l : Nat))) ∧ RowO cmF 47 8 fp w' A n c (cmsMk k l) ∧ Ch (fun b => b ∈ fp) w w' := by
  obtain ⟨css0, fps0, rfl, hown0, hl0, hE0⟩ := h.ex
  have HL := Lib.hid hl0; clear hl0
  have hn : n ≤ 16777216 := by have h1 := HL.out; unfold cmsSz at hs; omega
  have hcs := cms_cnt l
  go_enter Try.func16, Try.ntmps16
  go_wp2
  go_loopw [1, 5] (fun u i wr => ∃ (q : Nat) (css1 css2 : List (List Value)) (fps1 fps2 : List (List Nat)), q ≤ n ∧ i = .int .i64 q ∧ u = .int .i64 (k + ((sumTo cmCnt l q : Nat) : Int)) ∧ fps0 = fps1 ++ fps2 ∧ wr.ownsRow 0 47 8 (.slice A n c) n (css1.flatten ++ css2.flatten) ∧ Els cmF wr css1 fps1 (cmsMk k (l.take q)) ∧ Els cmF wr css2 fps2 (l.drop q) ∧ Ch (fun b => b ∈ blkL A ++ fps0.flatten) w wr) (fun _ i _ => n - (intOf i).toNat)
  case atStart => exact ⟨0, [], css0, [], fps0, Nat.zero_le _, rfl, by rw [sumTo_zero]; simp, rfl, by simpa using hown0, Els.nil, by simpa using hE0, Ch.refl _⟩
  case round =>
    clear hown0 hE0 h
    obtain ⟨q, css1, css2, fps1, fps2, hq, rfl, rfl, rfl, ho, hE1, hE2, hC⟩ := hrel
    by_cases hlt : q < n
    · obtain ⟨x, hx⟩ : ∃ x, l[q]? = some x := ⟨_, List.getElem?_eq_getElem (by have := HL.out; omega)⟩
      rw [drop_one hx] at hE2
      obtain ⟨cs, css2, f, fps2, rfl, rfl, hF, hE2t⟩ := hE2.cons
      clear hE2
      obtain ⟨A1, n1, c1, f1, rfl, hf1, o1⟩ := hF
      replace hf1 := hf1.symm
      subst hf1
      obtain ⟨g, hA, hg0⟩ : ∃ g, A = some ⟨g, 0, none⟩ ∧ g < wr.heap.size := by rcases own_form ho with ⟨_, h0, _⟩ | ⟨g, h1, _, h2⟩ <;> first | omega | exact ⟨g, h1, h2⟩
      subst hA
      have hP : css1.flatten.length = q * 8 := by rw [hE1.flat cmK, cmsMk_len, List.length_take]; have := HL.out; rw [Nat.min_eq_left (by omega)]
      rw [List.flatten_cons] at ho
      unfold cmL at ho
      have hek := cms_el hx
      unfold cmSz at hek
      obtain ⟨HSM, HSS⟩ := sum_el cmCnt hx
      have HSU := Lib.hid HSS
      have hle := sumTo_le cmCnt l (q + 1)
      unfold cmsCnt at hcs
      have hcb : sumTo cmCnt l q + cmCnt x ≤ 117440512 := by omega
      clear HSM HSS hle
      have hcx : cmCnt x = 1 + 1 + 1 + 1 + 1 + 1 + 1 + strsCnt x.ch := rfl
      rw [hcx] at hcb
      have hN' := hN
      simp only [blkL, List.flatten_append, List.flatten_cons, List.nodup_append, List.nodup_cons, List.mem_append, List.mem_cons, List.not_mem_nil, or_false, not_or, List.append_assoc, List.cons_append, List.nil_append] at hN'
      have hg1 : ∀ b ∈ f1, ¬ b = g := fun b hb e => by subst e; grind
      have hx1 : ∀ b ∈ fps1.flatten, ¬ (b = g ∨ b ∈ f1) := fun b h1 h2 => by (try simp only [List.mem_append] at h2); grind
      have hx2 : ∀ b ∈ fps2.flatten, ¬ (b = g ∨ b ∈ f1) := fun b h1 h2 => by (try simp only [List.mem_append] at h2); grind
      clear hN'
      have hT : Ch (fun b => b = g ∨ b ∈ f1) wr wr := Ch.refl _
      have e0 : wr.cell? ⟨g, q * 8, none⟩ = some (.int .i64 x.kd) := own_mid ho hP (r := 0) rfl
      have y0 := ho.frozenAt (q * 8)
      have e1 : wr.cell? ⟨g, q * 8 + 1, none⟩ = some (.int .i64 x.cl) := own_mid ho hP (r := 1) rfl
      have y1 := ho.frozenAt (q * 8 + 1)
      have e2 : wr.cell? ⟨g, q * 8 + 2, none⟩ = some (.int .i64 x.no) := own_mid ho hP (r := 2) rfl
      have y2 := ho.frozenAt (q * 8 + 2)
      go_wp2_with fail
      obtain ⟨v1, hv1⟩ : ∃ W, W = (((wr.setCell ⟨g, q * 8, none⟩ (.int .i64 (k + ((sumTo cmCnt l q : Nat) : Int)))).setCell ⟨g, q * 8 + 1, none⟩ (.int .i64 (k + ((sumTo cmCnt l q : Nat) : Int) + 1))).setCell ⟨g, q * 8 + 2, none⟩ (.int .i64 (k + ((sumTo cmCnt l q : Nat) : Int) + 1 + 1))) := ⟨_, rfl⟩
      have hs1 : v1 = setsW wr g (q * 8 + 0) ([.int .i64 (k + ((sumTo cmCnt l q : Nat) : Int)), .int .i64 (k + ((sumTo cmCnt l q : Nat) : Int) + 1), .int .i64 (k + ((sumTo cmCnt l q : Nat) : Int) + 1 + 1)] : List Value) := hv1
      rw [← hv1]
      clear hv1
      have hc1 : Ch (fun b => b = g) wr v1 := by rw [hs1]; exact ch_setsW _ _ _
      have ho1 : v1.ownsRow 0 47 8 (.slice (some ⟨g, 0, none⟩) n c) n (css1.flatten ++ (([(.int .i64 (k + ((sumTo cmCnt l q : Nat) : Int))), (.int .i64 (k + ((sumTo cmCnt l q : Nat) : Int) + 1)), (.int .i64 (k + ((sumTo cmCnt l q : Nat) : Int) + 1 + 1)), (.string x.s), (.string x.nm), (.string x.tg), (.int .i64 x.n), (.slice A1 n1 c1)] : List Value) ++ css2.flatten)) := by
        have hh := own_setsW ([.int .i64 (k + ((sumTo cmCnt l q : Nat) : Int)), .int .i64 (k + ((sumTo cmCnt l q : Nat) : Int) + 1), .int .i64 (k + ((sumTo cmCnt l q : Nat) : Int) + 1 + 1)] : List Value) (q * 8 + 0) wr _ ho
        rw [setsL_in hP (r := 0) (vs := ([.int .i64 (k + ((sumTo cmCnt l q : Nat) : Int)), .int .i64 (k + ((sumTo cmCnt l q : Nat) : Int) + 1), .int .i64 (k + ((sumTo cmCnt l q : Nat) : Int) + 1 + 1)] : List Value)) (by simp)] at hh
        rw [hs1]; exact hh
      clear e0 y0
      clear e1 y1
      clear e2 y2
      clear hs1 ho
      have hT1 := hT.trans (hc1.mono (fun b hb => .inl hb)); clear hT; have hT := hT1; clear hT1
      have hgz1 : g < v1.heap.size := Nat.lt_of_lt_of_le hg0 hc1.size; clear hg0; have hg0 := hgz1; clear hgz1
      have o1' := o1.ch hc1 hg1; clear o1; have o1 := o1'; clear o1'
      clear hc1
      refine (markText_any _ _ (by omega) (by omega)).mono ?_
      rintro e v2 ⟨rfl, hb2⟩
      have ho2 := own_ch ho1 (Ch.of_below (S := fun _ => False) hb2) (fun _ _ h => h)
      clear ho1
      have hT2 := hT.trans (Ch.of_below hb2); clear hT; have hT := hT2; clear hT2
      have hgz2 : g < v2.heap.size := Nat.lt_of_lt_of_le hg0 hb2.size; clear hg0; have hg0 := hgz2; clear hgz2
      have o1' := o1.keep hb2; clear o1; have o1 := o1'; clear o1'
      clear hb2
      have e3 : v2.cell? ⟨g, q * 8 + 3, none⟩ = some (.string x.s) := own_mid ho2 hP (r := 3) rfl
      have y3 := ho2.frozenAt (q * 8 + 3)
      go_wp2_with fail
      obtain ⟨v3, hv3⟩ : ∃ W, W = (v2.setCell ⟨g, q * 8 + 3, none⟩ (.string (mtx (k + ((sumTo cmCnt l q : Nat) : Int) + 1 + 1 + 1)))) := ⟨_, rfl⟩
      have hs3 : v3 = setsW v2 g (q * 8 + 3) ([.string (mtx (k + ((sumTo cmCnt l q : Nat) : Int) + 1 + 1 + 1))] : List Value) := hv3
      rw [← hv3]
      clear hv3
      have hc3 : Ch (fun b => b = g) v2 v3 := by rw [hs3]; exact ch_setsW _ _ _
      have ho3 : v3.ownsRow 0 47 8 (.slice (some ⟨g, 0, none⟩) n c) n (css1.flatten ++ (([(.int .i64 (k + ((sumTo cmCnt l q : Nat) : Int))), (.int .i64 (k + ((sumTo cmCnt l q : Nat) : Int) + 1)), (.int .i64 (k + ((sumTo cmCnt l q : Nat) : Int) + 1 + 1)), (.string (mtx (k + ((sumTo cmCnt l q : Nat) : Int) + 1 + 1 + 1))), (.string x.nm), (.string x.tg), (.int .i64 x.n), (.slice A1 n1 c1)] : List Value) ++ css2.flatten)) := by
        have hh := own_setsW ([.string (mtx (k + ((sumTo cmCnt l q : Nat) : Int) + 1 + 1 + 1))] : List Value) (q * 8 + 3) v2 _ ho2
        rw [setsL_in hP (r := 3) (vs := ([.string (mtx (k + ((sumTo cmCnt l q : Nat) : Int) + 1 + 1 + 1))] : List Value)) (by simp)] at hh
        rw [hs3]; exact hh
      clear e3 y3
      clear hs3 ho2
      have hT3 := hT.trans (hc3.mono (fun b hb => .inl hb)); clear hT; have hT := hT3; clear hT3
      have hgz3 : g < v3.heap.size := Nat.lt_of_lt_of_le hg0 hc3.size; clear hg0; have hg0 := hgz3; clear hgz3
      have o1' := o1.ch hc3 hg1; clear o1; have o1 := o1'; clear o1'
      clear hc3
      refine (markText_any _ _ (by omega) (by omega)).mono ?_
      rintro e v4 ⟨rfl, hb4⟩
      have ho4 := own_ch ho3 (Ch.of_below (S := fun _ => False) hb4) (fun _ _ h => h)
      clear ho3
      have hT4 := hT.trans (Ch.of_below hb4); clear hT; have hT := hT4; clear hT4
      have hgz4 : g < v4.heap.size := Nat.lt_of_lt_of_le hg0 hb4.size; clear hg0; have hg0 := hgz4; clear hgz4
      have o1' := o1.keep hb4; clear o1; have o1 := o1'; clear o1'
      clear hb4
      have e4 : v4.cell? ⟨g, q * 8 + 4, none⟩ = some (.string x.nm) := own_mid ho4 hP (r := 4) rfl
      have y4 := ho4.frozenAt (q * 8 + 4)
      go_wp2_with fail
      obtain ⟨v5, hv5⟩ : ∃ W, W = (v4.setCell ⟨g, q * 8 + 4, none⟩ (.string (mtx (k + ((sumTo cmCnt l q : Nat) : Int) + 1 + 1 + 1 + 1)))) := ⟨_, rfl⟩
      have hs5 : v5 = setsW v4 g (q * 8 + 4) ([.string (mtx (k + ((sumTo cmCnt l q : Nat) : Int) + 1 + 1 + 1 + 1))] : List Value) := hv5
      rw [← hv5]
      clear hv5
      have hc5 : Ch (fun b => b = g) v4 v5 := by rw [hs5]; exact ch_setsW _ _ _
      have ho5 : v5.ownsRow 0 47 8 (.slice (some ⟨g, 0, none⟩) n c) n (css1.flatten ++ (([(.int .i64 (k + ((sumTo cmCnt l q : Nat) : Int))), (.int .i64 (k + ((sumTo cmCnt l q : Nat) : Int) + 1)), (.int .i64 (k + ((sumTo cmCnt l q : Nat) : Int) + 1 + 1)), (.string (mtx (k + ((sumTo cmCnt l q : Nat) : Int) + 1 + 1 + 1))), (.string (mtx (k + ((sumTo cmCnt l q : Nat) : Int) + 1 + 1 + 1 + 1))), (.string x.tg), (.int .i64 x.n), (.slice A1 n1 c1)] : List Value) ++ css2.flatten)) := by
        have hh := own_setsW ([.string (mtx (k + ((sumTo cmCnt l q : Nat) : Int) + 1 + 1 + 1 + 1))] : List Value) (q * 8 + 4) v4 _ ho4
        rw [setsL_in hP (r := 4) (vs := ([.string (mtx (k + ((sumTo cmCnt l q : Nat) : Int) + 1 + 1 + 1 + 1))] : List Value)) (by simp)] at hh
        rw [hs5]; exact hh
      clear e4 y4
      clear hs5 ho4
      have hT5 := hT.trans (hc5.mono (fun b hb => .inl hb)); clear hT; have hT := hT5; clear hT5
      have hgz5 : g < v5.heap.size := Nat.lt_of_lt_of_le hg0 hc5.size; clear hg0; have hg0 := hgz5; clear hgz5
      have o1' := o1.ch hc5 hg1; clear o1; have o1 := o1'; clear o1'
      clear hc5
      refine (markText_any _ _ (by omega) (by omega)).mono ?_
      rintro e v6 ⟨rfl, hb6⟩
      have ho6 := own_ch ho5 (Ch.of_below (S := fun _ => False) hb6) (fun _ _ h => h)
      clear ho5
      have hT6 := hT.trans (Ch.of_below hb6); clear hT; have hT := hT6; clear hT6
      have hgz6 : g < v6.heap.size := Nat.lt_of_lt_of_le hg0 hb6.size; clear hg0; have hg0 := hgz6; clear hgz6
      have o1' := o1.keep hb6; clear o1; have o1 := o1'; clear o1'
      clear hb6
      have e5 : v6.cell? ⟨g, q * 8 + 5, none⟩ = some (.string x.tg) := own_mid ho6 hP (r := 5) rfl
      have y5 := ho6.frozenAt (q * 8 + 5)
      have e6 : v6.cell? ⟨g, q * 8 + 6, none⟩ = some (.int .i64 x.n) := own_mid ho6 hP (r := 6) rfl
      have y6 := ho6.frozenAt (q * 8 + 6)
      have e7 : v6.cell? ⟨g, q * 8 + 7, none⟩ = some (.slice A1 n1 c1) := own_mid ho6 hP (r := 7) rfl
      go_wp2_with fail
      obtain ⟨v7, hv7⟩ : ∃ W, W = ((v6.setCell ⟨g, q * 8 + 5, none⟩ (.string (mtx (k + ((sumTo cmCnt l q : Nat) : Int) + 1 + 1 + 1 + 1 + 1)))).setCell ⟨g, q * 8 + 6, none⟩ (.int .i64 (k + ((sumTo cmCnt l q : Nat) : Int) + 1 + 1 + 1 + 1 + 1 + 1))) := ⟨_, rfl⟩
      have hs7 : v7 = setsW v6 g (q * 8 + 5) ([.string (mtx (k + ((sumTo cmCnt l q : Nat) : Int) + 1 + 1 + 1 + 1 + 1)), .int .i64 (k + ((sumTo cmCnt l q : Nat) : Int) + 1 + 1 + 1 + 1 + 1 + 1)] : List Value) := hv7
      rw [← hv7]
      clear hv7
      have hc7 : Ch (fun b => b = g) v6 v7 := by rw [hs7]; exact ch_setsW _ _ _
      have ho7 : v7.ownsRow 0 47 8 (.slice (some ⟨g, 0, none⟩) n c) n (css1.flatten ++ (([(.int .i64 (k + ((sumTo cmCnt l q : Nat) : Int))), (.int .i64 (k + ((sumTo cmCnt l q : Nat) : Int) + 1)), (.int .i64 (k + ((sumTo cmCnt l q : Nat) : Int) + 1 + 1)), (.string (mtx (k + ((sumTo cmCnt l q : Nat) : Int) + 1 + 1 + 1))), (.string (mtx (k + ((sumTo cmCnt l q : Nat) : Int) + 1 + 1 + 1 + 1))), (.string (mtx (k + ((sumTo cmCnt l q : Nat) : Int) + 1 + 1 + 1 + 1 + 1))), (.int .i64 (k + ((sumTo cmCnt l q : Nat) : Int) + 1 + 1 + 1 + 1 + 1 + 1)), (.slice A1 n1 c1)] : List Value) ++ css2.flatten)) := by
        have hh := own_setsW ([.string (mtx (k + ((sumTo cmCnt l q : Nat) : Int) + 1 + 1 + 1 + 1 + 1)), .int .i64 (k + ((sumTo cmCnt l q : Nat) : Int) + 1 + 1 + 1 + 1 + 1 + 1)] : List Value) (q * 8 + 5) v6 _ ho6
        rw [setsL_in hP (r := 5) (vs := ([.string (mtx (k + ((sumTo cmCnt l q : Nat) : Int) + 1 + 1 + 1 + 1 + 1)), .int .i64 (k + ((sumTo cmCnt l q : Nat) : Int) + 1 + 1 + 1 + 1 + 1 + 1)] : List Value)) (by simp)] at hh
        rw [hs7]; exact hh
      clear e5 y5
      clear e6 y6
      clear e7
      clear hs7 ho6
      have hT7 := hT.trans (hc7.mono (fun b hb => .inl hb)); clear hT; have hT := hT7; clear hT7
      have hgz7 : g < v7.heap.size := Nat.lt_of_lt_of_le hg0 hc7.size; clear hg0; have hg0 := hgz7; clear hgz7
      have o1' := o1.ch hc7 hg1; clear o1; have o1 := o1'; clear o1'
      clear hc7
      refine (strsR_mark x.ch f1 _ _ _ _ _ o1 (by omega) (by omega) (by omega)).mono ?_
      rintro e v8 ⟨rfl, o1', hc8⟩
      clear o1; have o1 := o1'; clear o1'
      have ho8 := own_ch ho7 hc8 (fun b hb h2 => hg1 b h2 (by simpa [Value.ownBlock, eq_comm] using hb))
      clear ho7
      have hT8 := hT.trans (hc8.mono (fun b hb => .inr (by simp [hb]))); clear hT; have hT := hT8; clear hT8
      have hgz8 : g < v8.heap.size := Nat.lt_of_lt_of_le hg0 hc8.size; clear hg0; have hg0 := hgz8; clear hgz8
      clear hc8
      go_wp2
      have hE1' := hE1.ch cmK hT hx1
      have hE2' := hE2t.ch cmK hT hx2
      have hE3 := hE1'.app (Els.one (⟨A1, n1, c1, f1, rfl, rfl, o1⟩ : cmF (f1) v8 ([(.int .i64 (k + ((sumTo cmCnt l q : Nat) : Int))), (.int .i64 (k + ((sumTo cmCnt l q : Nat) : Int) + 1)), (.int .i64 (k + ((sumTo cmCnt l q : Nat) : Int) + 1 + 1)), (.string (mtx (k + ((sumTo cmCnt l q : Nat) : Int) + 1 + 1 + 1))), (.string (mtx (k + ((sumTo cmCnt l q : Nat) : Int) + 1 + 1 + 1 + 1))), (.string (mtx (k + ((sumTo cmCnt l q : Nat) : Int) + 1 + 1 + 1 + 1 + 1))), (.int .i64 (k + ((sumTo cmCnt l q : Nat) : Int) + 1 + 1 + 1 + 1 + 1 + 1)), (.slice A1 n1 c1)] : List Value) (cmMk (k + ((sumTo cmCnt l q : Nat) : Int)) x)))
      have hsm := cmsMk_snoc k x (l.take q)
      rw [← take_more hx] at hsm
      have hct : ((cmsCnt (l.take q) : Nat) : Int) = ((sumTo cmCnt l q : Nat) : Int) := rfl
      rw [hct] at hsm
      rw [← hsm] at hE3
      refine ⟨⟨q + 1, css1 ++ [([(.int .i64 (k + ((sumTo cmCnt l q : Nat) : Int))), (.int .i64 (k + ((sumTo cmCnt l q : Nat) : Int) + 1)), (.int .i64 (k + ((sumTo cmCnt l q : Nat) : Int) + 1 + 1)), (.string (mtx (k + ((sumTo cmCnt l q : Nat) : Int) + 1 + 1 + 1))), (.string (mtx (k + ((sumTo cmCnt l q : Nat) : Int) + 1 + 1 + 1 + 1))), (.string (mtx (k + ((sumTo cmCnt l q : Nat) : Int) + 1 + 1 + 1 + 1 + 1))), (.int .i64 (k + ((sumTo cmCnt l q : Nat) : Int) + 1 + 1 + 1 + 1 + 1 + 1)), (.slice A1 n1 c1)] : List Value)], css2, fps1 ++ [f1], fps2, by omega, by go_num, ?_, by simp, ?_, hE3, hE2', hC.trans (hT.mono (fun b hb => ?_))⟩, by simp [intOf]; omega⟩
      · rw [HSU.out]; congr 1; rw [hcx]; push_cast; omega
      · rw [flat_snoc, List.append_assoc]; exact ho8
      · simp only [blkL, List.flatten_append, List.flatten_cons, List.mem_append, List.mem_cons, List.not_mem_nil, or_false] at hb ⊢
        grind
    · go_wp2
      go_returns
      have hqn : q = n := by omega
      subst hqn
      have hql : l.length ≤ q := by have := HL.out; omega
      rw [List.take_of_length_le hql] at hE1
      rw [List.drop_eq_nil_of_le hql] at hE2
      obtain ⟨rfl, rfl⟩ := hE2.nils
      refine ⟨ret_int ?_, ?_, hC⟩
      · rw [sumTo_all _ _ _ hql]; rfl
      · rw [List.append_nil]; exact RowO.intro (by simpa using ho) (by rw [cmsMk_len]; exact HL.out) hE1
end Go.Proofs.Ytdphdnllhmnelaa
/- [][]int: how it lies in memory, the laws' helpers on it. -/
namespace Go.Proofs.Ytdphdnllhmnelaa
open Go.RowKit
def intR (w : World) (cs : List Value) (x : List Int) : Prop := ∃ (A1 : Option Addr) (n1 c1 : Nat), cs = [.slice A1 n1 c1] ∧ IntR w A1 n1 c1 x
def intF (fp : List Nat) (w : World) (cs : List Value) (x : List Int) : Prop := ∃ (A1 : Option Addr) (n1 c1 : Nat), cs = [.slice A1 n1 c1] ∧ IntO fp w A1 n1 c1 x
theorem intK : KindOk intR intF 1 where
  rlen := fun h => by obtain ⟨A1, n1, c1, rfl, h1⟩ := h; rfl
  rkeep := fun h hb => by obtain ⟨A1, n1, c1, rfl, h1⟩ := h; exact ⟨A1, n1, c1, rfl, h1.keep hb⟩
  flt := fun h b hb => by obtain ⟨A1, n1, c1, rfl, h1⟩ := h; exact h1.lt b hb
  fch := fun h hc hS => by obtain ⟨A1, n1, c1, rfl, h1⟩ := h; exact ⟨A1, n1, c1, rfl, h1.ch hc hS⟩
  fr := fun h => by obtain ⟨A1, n1, c1, rfl, h1⟩ := h; exact ⟨A1, n1, c1, rfl, h1.at_⟩
  one := fun h v hv => by
    obtain ⟨A1, n1, c1, rfl, h1⟩ := h
    simp only [List.mem_cons, List.not_mem_nil, or_false] at hv
    subst hv; rfl
def intssB (l : List (List Int)) : Prop := l.length ≤ 9223372036854775807 ∧ ∀ y ∈ l, intB y
def intssSz (l : List (List Int)) : Nat := l.length + (l.map intsSz).sum
theorem intss_el {l : List (List Int)} {i : Nat} {x : List Int} (hx : l[i]? = some x) : intsSz x ≤ intssSz l := by have := (sum_el intsSz hx).1; unfold intssSz; omega
def intssCnt (l : List (List Int)) : Nat := (l.map intsCnt).sum
theorem intss_cnt (l : List (List Int)) : intssCnt l ≤ intssSz l := by
  have : (l.map intsCnt).sum = (l.map intsSz).sum := rfl
  unfold intssCnt intssSz; omega
def intssMk (k : Int) : List (List Int) → List (List Int)
  | [] => []
  | x :: l => intsMk k x :: intssMk (k + (intsCnt x : Nat)) l
theorem intssMk_len (k : Int) : ∀ l : List (List Int), (intssMk k l).length = l.length
  | [] => rfl
  | x :: l => by simp [intssMk, intssMk_len]
theorem intssMk_snoc (k : Int) (x : List Int) : ∀ l : List (List Int), intssMk k (l ++ [x]) = intssMk k l ++ [intsMk (k + (intssCnt l : Nat)) x]
  | [] => by simp [intssMk, intssCnt]
  | y :: l => by
    have := intssMk_snoc (k + (intsCnt y : Nat)) x l
    have e : k + (intsCnt y : Nat) + ((intssCnt l : Nat) : Int) = k + ((intssCnt (y :: l) : Nat) : Int) := by simp only [intssCnt, List.map_cons, List.sum_cons]; push_cast; omega
    simp only [List.cons_append, intssMk, this, e]
theorem intssMk_at (k : Int) : ∀ (l : List (List Int)) (i : Nat) (x : List Int), l[i]? = some x → (intssMk k l)[i]? = some (intsMk (k + (sumTo intsCnt l i : Nat)) x)
  | [], i, x, h => by simp at h
  | y :: l, 0, x, h => by simp at h; subst h; simp [intssMk, sumTo]
  | y :: l, i + 1, x, h => by
    have := intssMk_at (k + (intsCnt y : Nat)) l i x (by simpa using h)
    have e : k + (intsCnt y : Nat) + ((sumTo intsCnt l i : Nat) : Int) = k + ((sumTo intsCnt (y :: l) (i + 1) : Nat) : Int) := by simp only [sumTo, List.take_succ_cons, List.map_cons, List.sum_cons]; push_cast; omega
    simp only [intssMk, List.getElem?_cons_succ, this, e]
attribute [local irreducible] StrR IntR StrO IntO RowR RowO StrsAt IntsAt
theorem intss_sz (l : List (List Int)) (A : Option Addr) (n c : Nat) (left : Int) (w : World) (h : RowR intR 1 w A n c l) (hb : intssB l) (hl0 : 0 ≤ left) (hl1 : left ≤ 4611686018427387904) :
    Calls Try.prog 19 #[.slice A n c, .int .i64 left] w fun e w' => e = .returned (.int .i64 (szR left (intssSz l))) ∧ Below w.heap.size w w' := by
  have HL := Lib.hid h.len.symm
  have hn : n ≤ 9223372036854775807 := by have h1 := HL.out; have h2 := hb.1; omega
  by_cases h0 : left - n < 0
  · go_enter Try.func19, Try.ntmps19
    go_wp2
    go_returns
    refine ⟨ret_int (szR_no ?_).symm, Below.refl _ _⟩
    have := HL.out; unfold intssSz; omega
  · go_enter Try.func19, Try.ntmps19
    go_wp2
    have E0 := Lib.hid (sumTo_zero intsSz l)
    go_loopw [1, 5] (fun u i wr => ∃ k : Nat, k ≤ n ∧ i = .int .i64 k ∧ u = .int .i64 (left - n - (sumTo intsSz l k : Nat)) ∧ 0 ≤ left - n - (sumTo intsSz l k : Nat) ∧ Below w.heap.size w wr) (fun _ i _ => n - (intOf i).toNat)
    case atStart => exact ⟨0, Nat.zero_le _, rfl, by rw [E0.out]; simp, by rw [E0.out]; omega, Below.refl _ _⟩
    case round =>
      obtain ⟨k, hk, rfl, rfl, hge, hbw⟩ := hrel
      by_cases hlt : k < n
      · obtain ⟨b, off, rfl⟩ := h.head (by omega)
        obtain ⟨bl, x, cs, hx, hR, hcell⟩ := h.elem_at hlt
        obtain ⟨A1, n1, c1, rfl, h1⟩ := hR
        have e0 := (hbw.cell (p := ⟨b, off + k, none⟩) bl).trans (show w.cell? ⟨b, off + k, none⟩ = some (.slice A1 n1 c1) from by simpa using hcell 0 _ rfl)
        clear hcell
        have hbx := bounds_el hb.2 hx
        obtain ⟨HSM, HSS⟩ := sum_el intsSz hx
        have HSU := Lib.hid HSS; clear HSS
        have HLE := Lib.hid (sumTo_le intsSz l (k + 1))
        by_cases hq : left - n - (sumTo intsSz l k : Nat) - ((intsSz x : Nat) : Int) < 0
        · have HR := Lib.hid (szR_no (left := left - n - (sumTo intsSz l k : Nat)) (s := intsSz x) (by omega))
          go_wp2_with fail
          refine (intsR_sz x _ _ _ _ _ (h1.keep hbw) hbx (by omega) (by omega)).mono ?_
          rintro e w1 ⟨rfl, hb1⟩
          rw [HR.out]
          go_wp2
          go_returns
          refine ⟨ret_int (szR_no ?_).symm, bthen hbw hb1⟩
          have := HL.out; have := HSU.out; have := HLE.out; unfold intssSz; omega
        · have HR := Lib.hid (szR_yes (left := left - n - (sumTo intsSz l k : Nat)) (s := intsSz x) (by omega))
          go_wp2_with fail
          refine (intsR_sz x _ _ _ _ _ (h1.keep hbw) hbx (by omega) (by omega)).mono ?_
          rintro e w1 ⟨rfl, hb1⟩
          rw [HR.out]
          go_wp2
          refine ⟨⟨k + 1, by omega, by go_num, ?_, ?_, bthen hbw hb1⟩, by simp [intOf]; omega⟩
          · rw [HSU.out]; congr 1; push_cast; omega
          · rw [HSU.out]; push_cast; omega
      · go_wp2
        go_returns
        refine ⟨ret_int ?_, hbw⟩
        have h3 := sumTo_all intsSz l k (by have := HL.out; omega)
        have := HL.out
        rw [szR_yes (by unfold intssSz; omega)]; unfold intssSz; push_cast; omega
set_option maxRecDepth 8000 in
set_option maxHeartbeats 1000000 in
theorem intss_eq (l : List (List Int)) (A : Option Addr) (n c : Nat) (A' : Option Addr) (n' c' : Nat) (w : World) (h : RowR intR 1 w A n c l) (h' : RowR intR 1 w A' n' c' l) (hs : intssSz l ≤ 16777216) :
    Calls Try.prog 14 #[.slice A n c, .slice A' n' c'] w fun e w' => e = .returned (.bool true) ∧ Below w.heap.size w w' := by
  obtain rfl : n = n' := h.len.trans h'.len.symm
  have hn : n ≤ 16777216 := by have h1 := h.len; unfold intssSz at hs; omega
  go_enter Try.func14, Try.ntmps14
  go_wp2
  go_loopw [5] (fun i wr => ∃ (k : Nat), k ≤ n ∧ i = .int .i64 k ∧ Below w.heap.size w wr) (fun i _ => n - (intOf i).toNat)
  case atStart => exact ⟨0, Nat.zero_le _, rfl, Below.refl _ _⟩
  case round =>
    obtain ⟨k, hk, rfl, hb⟩ := hrel
    by_cases hlt : k < n
    · obtain ⟨b, off, rfl⟩ := h.head (by omega)
      obtain ⟨bl, x, cs, hx, hR, hcell⟩ := h.elem_at hlt
      obtain ⟨A1, n1, c1, rfl, h1⟩ := hR
      have e0 := (hb.cell (p := ⟨b, off + k, none⟩) bl).trans (show w.cell? ⟨b, off + k, none⟩ = some (.slice A1 n1 c1) from by simpa using hcell 0 _ rfl)
      clear hcell
      obtain ⟨b', off', rfl⟩ := h'.head (by omega)
      obtain ⟨b'l, x', cs', hx', hR', hcell'⟩ := h'.elem_at hlt
      obtain rfl : x' = x := Option.some.inj (hx'.symm.trans hx)
      obtain ⟨A1', n1', c1', rfl, h1'⟩ := hR'
      have e0' := (hb.cell (p := ⟨b', off' + k, none⟩) b'l).trans (show w.cell? ⟨b', off' + k, none⟩ = some (.slice A1' n1' c1') from by simpa using hcell' 0 _ rfl)
      clear hcell' hx'
      have hek := intss_el hx
      have hn63 : (k : Int) < n := by omega
      go_wp2
      go_still_tail 8, (by kernel_rfl)
      change wpList _ _ _ _ _ wr.drew
      have hbd : Below w.heap.size w wr.drew := hb.drew
      generalize wr.drew = w2 at *
      go_wp2_with fail
      refine (intsR_eq x' _ _ _ _ _ _ _ (h1.keep hbd) (h1'.keep hbd) (by omega)).mono ?_
      rintro e w3 ⟨rfl, hb3⟩
      go_wp2
      exact ⟨⟨k + 1, by omega, by go_num, bthen hbd hb3⟩, by simp [intOf]; omega⟩
    · go_wp2
      go_returns
      exact ⟨rfl, hb⟩
theorem infoIntS : (Try.prog.info? 78).map (fun i => (i.zero, i.size, i.bytes)) = some (some (.slice none 0 0), 1, 24) := by kernel_rfl
set_option maxRecDepth 8000 in
set_option maxHeartbeats 2000000 in
theorem intss_to (l : List (List Int)) (A : Option Addr) (n c : Nat) (w : World) (h : RowR intR 1 w A n c l) (hs : intssSz l ≤ 1048576) :
    Calls Try.prog 21 #[.slice A n c] w fun e w' => ∃ A' n' c', e = .returned (.slice A' n' c') ∧ (∃ fp, fp.Nodup ∧ (∀ b ∈ fp, w.heap.size ≤ b ∧ b < w'.heap.size) ∧ RowO intF 78 1 fp w' A' n' c' l) ∧ Below w.heap.size w w' := by
  have HL := Lib.hid h.len.symm
  have hn : n ≤ 1048576 := by have h1 := HL.out; unfold intssSz at hs; omega
  go_enter Try.func21, Try.ntmps21
  go_wp2_with (refine wpList_mk (P := Try.prog) _ rfl _ _ 24 rfl w.heap.size 78 _ 1 24 Try.underlying24 infoIntS _ _ _ _ n rfl rfl rfl rfl (by omega) (by unfold maxLen; omega) (Nat.le_refl _) ?_; intro w1 hown1 hg1 hb1)
  clear hg1
  go_loopw [4] (fun i wr => ∃ (k : Nat) (rest : List Value) (css : List (List Value)) (fps : List (List Nat)), k ≤ n ∧ i = .int .i64 k ∧ wr.ownsRow w.heap.size 78 1 (.slice (some ⟨w.heap.size, 0, none⟩) n n) n (css.flatten ++ rest) ∧ Els intF wr css fps (l.take k) ∧ fps.flatten.Nodup ∧ (∀ b ∈ fps.flatten, w.heap.size + 1 ≤ b ∧ b < wr.heap.size) ∧ w.heap.size < wr.heap.size ∧ Below w.heap.size w wr) (fun i _ => n - (intOf i).toNat)
  case atStart => exact ⟨0, _, [], [], Nat.zero_le _, rfl, by simpa using hown1, Els.nil, List.nodup_nil, (fun b hb => by cases hb), (own_lo hown1 w.heap.size (by simp [blkL])).2, hb1⟩
  case round =>
    obtain ⟨k, rest, css, fps, hk, rfl, hown, hE, hN, hF, hgw, hb⟩ := hrel
    have hlen : css.flatten.length = k := by rw [hE.flat intK, List.length_take]; have := HL.out; rw [Nat.min_eq_left (by omega)]; omega
    have hrl : rest.length = n - k := by have h1 := hown.1; rw [List.length_append] at h1; omega
    by_cases hlt : k < n
    · obtain ⟨b, off, rfl⟩ := h.head (by omega)
      obtain ⟨bl, x, cs, hx, hR, hcell⟩ := h.elem_at hlt
      obtain ⟨A1, n1, c1, rfl, h1⟩ := hR
      have e0 := (hb.cell (p := ⟨b, off + k, none⟩) bl).trans (show w.cell? ⟨b, off + k, none⟩ = some (.slice A1 n1 c1) from by simpa using hcell 0 _ rfl)
      clear hcell
      have hek := intss_el hx
      go_wp2_with fail
      refine (intsR_to x _ _ _ _ (h1.keep hb) (by omega)).mono ?_
      rintro e w2 ⟨B1, m1, d1, rfl, ⟨g1, hN2, hF2, o1⟩, hb2⟩
      have hown2 := own_ch hown (Ch.of_below (S := fun _ => False) hb2) (fun _ _ h => h)
      have hz2 := hb2.size
      obtain ⟨o_0, ho_0⟩ := own_cell hown2 (j := k) (by omega)
      have hf_0 := hown2.frozenAt k
      go_wp2
      obtain ⟨w3, hw3⟩ : ∃ W, W = w2.setCell ⟨w.heap.size, k, none⟩ (.slice B1 m1 d1) := ⟨_, rfl⟩
      have hw4 : w3 = setsW w2 w.heap.size k [.slice B1 m1 d1] := hw3
      rw [← hw3]
      clear hw3 ho_0 hf_0
      have q := own_setsW [.slice B1 m1 d1] k w2 _ hown2
      have hC : Ch (fun b => b = w.heap.size) w2 w3 := by rw [hw4]; exact ch_setsW _ _ _
      rw [← hw4] at q
      have hrd : rest = rest.take 1 ++ rest.drop 1 := (List.take_append_drop _ _).symm
      have htk : (rest.take 1).length = 1 := by rw [List.length_take]; omega
      rw [hrd, setsL_at hlen (by rw [htk]; rfl)] at q
      clear hw4 hrd htk
      have q2 : w3.ownsRow w.heap.size 78 1 (.slice (some ⟨w.heap.size, 0, none⟩) n n) n ((css ++ [([.slice B1 m1 d1] : List Value)]).flatten ++ rest.drop 1) := by rw [flat_snoc, List.append_assoc]; exact q
      have hE2 := (hE.keep intK hb2).ch intK hC (fun b hb e => by have := hF b hb; omega)
      have z1 := o1.ch hC (fun b hb e => by have := hF2 b (by simp [hb]); omega)
      have hE3 := hE2.app (Els.one (⟨B1, m1, d1, rfl, z1⟩ : intF g1 w3 [.slice B1 m1 d1] x))
      rw [← take_more hx] at hE3
      have hfl : (fps ++ [g1]).flatten = fps.flatten ++ g1 := by simp
      have hz3 := hC.size
      refine ⟨⟨k + 1, _, _, _, by omega, by go_num, q2, hE3, ?_, ?_, by omega, (bthen hb hb2).trans (hC.below (fun b hb => by omega) (by omega))⟩, by simp [intOf]; omega⟩
      · rw [hfl]; exact nodup_new (m := wr.heap.size) hN hN2 (fun b hb => (hF b hb).2) (fun b hb => (hF2 b hb).1)
      · rw [hfl]; intro b hb
        rcases List.mem_append.1 hb with hb | hb
        · have := hF b hb; omega
        · have := hF2 b hb; omega
    · go_wp2
      go_returns
      have hkn : k = n := by omega
      subst hkn
      have hr0 : rest = [] := List.eq_nil_of_length_eq_zero (by omega)
      subst hr0
      rw [List.append_nil] at hown
      rw [List.take_of_length_le (by have := HL.out; omega)] at hE
      refine ⟨_, _, _, rfl, ⟨blkL (some ⟨w.heap.size, 0, none⟩) ++ fps.flatten, ?_, ?_, RowO.intro (own_up hown (Nat.zero_le _)) HL.out.symm hE⟩, hb⟩
      · exact List.nodup_cons.2 ⟨fun hm => by have := hF _ hm; simp at this; omega, hN⟩
      · intro b hb2
        rcases List.mem_append.1 hb2 with h1 | h1
        · have : b = w.heap.size := by simpa [blkL] using h1
          omega
        · have := hF b h1; omega
set_option maxRecDepth 8000 in
set_option maxHeartbeats 4000000 in
theorem intss_mark (l : List (List Int)) (fp : List Nat) (A : Option Addr) (n c : Nat) (k : Int) (w : World) (h : RowO intF 78 1 fp w A n c l) (hN : fp.Nodup) (hs : intssSz l ≤ 16777216) (hk0 : 0 < k) (hk1 : k ≤ 288230376151711744) :
    Calls Try.prog 17 #[.slice A n c, .int .i64 k] w fun e w' => e = .returned (.int .i64 (k + (intssCnt l : Nat))) ∧ RowO intF 78 1 fp w' A n c (intssMk k l) ∧ Ch (fun b => b ∈ fp) w w' := by
  obtain ⟨css0, fps0, rfl, hown0, hl0, hE0⟩ := h.ex
  have HL := Lib.hid hl0; clear hl0
  have hn : n ≤ 16777216 := by have h1 := HL.out; unfold intssSz at hs; omega
  have hcs := intss_cnt l
  go_enter Try.func17, Try.ntmps17
  go_wp2
  go_loopw [1, 5] (fun u i wr => ∃ (q : Nat) (css1 css2 : List (List Value)) (fps1 fps2 : List (List Nat)), q ≤ n ∧ i = .int .i64 q ∧ u = .int .i64 (k + ((sumTo intsCnt l q : Nat) : Int)) ∧ fps0 = fps1 ++ fps2 ∧ wr.ownsRow 0 78 1 (.slice A n c) n (css1.flatten ++ css2.flatten) ∧ Els intF wr css1 fps1 (intssMk k (l.take q)) ∧ Els intF wr css2 fps2 (l.drop q) ∧ Ch (fun b => b ∈ blkL A ++ fps0.flatten) w wr) (fun _ i _ => n - (intOf i).toNat)
  case atStart => exact ⟨0, [], css0, [], fps0, Nat.zero_le _, rfl, by rw [sumTo_zero]; simp, rfl, by simpa using hown0, Els.nil, by simpa using hE0, Ch.refl _⟩
  case round =>
    clear hown0 hE0 h
    obtain ⟨q, css1, css2, fps1, fps2, hq, rfl, rfl, rfl, ho, hE1, hE2, hC⟩ := hrel
    by_cases hlt : q < n
    · obtain ⟨x, hx⟩ : ∃ x, l[q]? = some x := ⟨_, List.getElem?_eq_getElem (by have := HL.out; omega)⟩
      rw [drop_one hx] at hE2
      obtain ⟨cs, css2, f1, fps2, rfl, rfl, hF, hE2t⟩ := hE2.cons
      clear hE2
      obtain ⟨A1, n1, c1, rfl, o1⟩ := hF
      obtain ⟨g, hA, hg0⟩ : ∃ g, A = some ⟨g, 0, none⟩ ∧ g < wr.heap.size := by rcases own_form ho with ⟨_, h0, _⟩ | ⟨g, h1, _, h2⟩ <;> first | omega | exact ⟨g, h1, h2⟩
      subst hA
      have hP : css1.flatten.length = q := by rw [hE1.flat intK, intssMk_len, List.length_take]; have := HL.out; rw [Nat.min_eq_left (by omega)]; omega
      rw [List.flatten_cons] at ho
      have hek := intss_el hx
      obtain ⟨HSM, HSS⟩ := sum_el intsCnt hx
      have HSU := Lib.hid HSS
      have hle := sumTo_le intsCnt l (q + 1)
      unfold intssCnt at hcs
      have hcb : sumTo intsCnt l q + intsCnt x ≤ 16777216 := by omega
      clear HSM HSS hle
      have hN' := hN
      simp only [blkL, List.flatten_append, List.flatten_cons, List.nodup_append, List.nodup_cons, List.mem_append, List.mem_cons, List.not_mem_nil, or_false, not_or, List.append_assoc, List.cons_append, List.nil_append] at hN'
      have hg1 : ∀ b ∈ f1, ¬ b = g := fun b hb e => by subst e; grind
      have hx1 : ∀ b ∈ fps1.flatten, ¬ (b = g ∨ b ∈ f1) := fun b h1 h2 => by grind
      have hx2 : ∀ b ∈ fps2.flatten, ¬ (b = g ∨ b ∈ f1) := fun b h1 h2 => by grind
      clear hN'
      have e0 : wr.cell? ⟨g, q, none⟩ = some (.slice A1 n1 c1) := by have := own_mid ho hP (r := 0) rfl; simpa using this
      go_wp2_with fail
      refine (intsR_mark x f1 _ _ _ _ _ o1 (by omega) (by omega) (by omega)).mono ?_
      rintro e v1 ⟨rfl, o1', hc1⟩
      have ho1 := own_ch ho hc1 (fun b hb h2 => hg1 b h2 (by simpa [Value.ownBlock, eq_comm] using hb))
      clear ho o1 e0
      have hT : Ch (fun b => b = g ∨ b ∈ f1) wr v1 := hc1.mono (fun b hb => .inr hb)
      have hE1' := hE1.ch intK hT hx1
      have hE2' := hE2t.ch intK hT hx2
      have hE3 := hE1'.app (Els.one (⟨A1, n1, c1, rfl, o1'⟩ : intF f1 v1 [.slice A1 n1 c1] (intsMk (k + ((sumTo intsCnt l q : Nat) : Int)) x)))
      have hsm := intssMk_snoc k x (l.take q)
      rw [← take_more hx] at hsm
      have hct : ((intssCnt (l.take q) : Nat) : Int) = ((sumTo intsCnt l q : Nat) : Int) := rfl
      rw [hct] at hsm
      rw [← hsm] at hE3
      go_wp2
      refine ⟨⟨q + 1, css1 ++ [[.slice A1 n1 c1]], css2, fps1 ++ [f1], fps2, by omega, by go_num, ?_, by simp, ?_, hE3, hE2', hC.trans (hT.mono (fun b hb => ?_))⟩, by simp [intOf]; omega⟩
      · rw [HSU.out]; congr 1; push_cast; omega
      · rw [flat_snoc, List.append_assoc]; exact ho1
      · simp only [blkL, List.flatten_append, List.flatten_cons, List.mem_append, List.mem_cons, List.not_mem_nil, or_false] at hb ⊢
        grind
    · go_wp2
      go_returns
      have hqn : q = n := by omega
      subst hqn
      have hql : l.length ≤ q := by have := HL.out; omega
      rw [List.take_of_length_le hql] at hE1
      rw [List.drop_eq_nil_of_le hql] at hE2
      obtain ⟨rfl, rfl⟩ := hE2.nils
      refine ⟨ret_int ?_, ?_, hC⟩
      · rw [sumTo_all _ _ _ hql]; rfl
      · rw [List.append_nil]; exact RowO.intro (by simpa using ho) (by rw [intssMk_len]; exact HL.out) hE1
set_option maxRecDepth 8000 in
theorem intss_held (l : List (List Int)) (A : Option Addr) (n c : Nat) (k : Int) (w : World) (h : RowR intR 1 w A n c (intssMk k l)) (hs : intssSz l ≤ 16777216) (hk0 : 0 < k) (hk1 : k ≤ 288230376151711744) :
    Calls Try.prog 18 #[.slice A n c, .int .i64 k] w fun e w' => e = .returned (.int .i64 (k + (intssCnt l : Nat))) ∧ Below w.heap.size w w' := by
  have HL := Lib.hid (show n = l.length by rw [h.len, intssMk_len])
  have hn : n ≤ 16777216 := by have h1 := HL.out; unfold intssSz at hs; omega
  have hcs := intss_cnt l
  go_enter Try.func18, Try.ntmps18
  go_wp2
  go_loopw [1, 5] (fun u i wr => ∃ (q : Nat), q ≤ n ∧ i = .int .i64 q ∧ u = .int .i64 (k + ((sumTo intsCnt l q : Nat) : Int)) ∧ Below w.heap.size w wr) (fun _ i _ => n - (intOf i).toNat)
  case atStart => exact ⟨0, Nat.zero_le _, rfl, by rw [sumTo_zero]; simp, Below.refl _ _⟩
  case round =>
    obtain ⟨q, hq, rfl, rfl, hb⟩ := hrel
    by_cases hlt : q < n
    · obtain ⟨x, hx⟩ : ∃ x, l[q]? = some x := ⟨_, List.getElem?_eq_getElem (by have := HL.out; omega)⟩
      obtain ⟨b, off, rfl⟩ := h.head (by omega)
      obtain ⟨bl, x', cs, hx', hR, hcell⟩ := h.elem_at hlt
      obtain rfl : x' = intsMk (k + ((sumTo intsCnt l q : Nat) : Int)) x := Option.some.inj (hx'.symm.trans (intssMk_at k l q x hx))
      obtain ⟨A1, n1, c1, rfl, h1⟩ := hR
      have e0 := (hb.cell (p := ⟨b, off + q, none⟩) bl).trans (show w.cell? ⟨b, off + q, none⟩ = some (.slice A1 n1 c1) from by simpa using hcell 0 _ rfl)
      clear hcell hx'
      have hek := intss_el hx
      obtain ⟨HSM, HSS⟩ := sum_el intsCnt hx
      have HSU := Lib.hid HSS
      have hle := sumTo_le intsCnt l (q + 1)
      unfold intssCnt at hcs
      have hcb : sumTo intsCnt l q + intsCnt x ≤ 16777216 := by omega
      clear HSM HSS hle
      go_wp2_with fail
      refine (intsR_held x _ _ _ _ _ (h1.keep hb) (by omega) (by omega) (by omega)).mono ?_
      rintro e w1 ⟨rfl, hb1⟩
      go_wp2
      refine ⟨⟨q + 1, by omega, by go_num, ?_, bthen hb hb1⟩, by simp [intOf]; omega⟩
      rw [HSU.out]; congr 1; push_cast; omega
    · go_wp2
      go_returns
      have hql : l.length ≤ q := by have := HL.out; omega
      refine ⟨ret_int ?_, hb⟩
      rw [sumTo_all _ _ _ hql]; rfl
end Go.Proofs.Ytdphdnllhmnelaa
/- Rows of Cmd and of []int in the shape of the exact laws; []laws.Cmd opened. -/
namespace Go.Proofs.Ytdphdnllhmnelaa
open Go.RowKit

def CmsAt (w : World) (A : Option Addr) (n c : Nat) (l : List (Cm)) : Prop := RowR cmR 8 w A n c l
theorem CmsAt.keep {w w' : World} {A : Option Addr} {n c : Nat} {l : List (Cm)} (h : CmsAt w A n c l) (hb : Below w.heap.size w w') : CmsAt w' A n c l := RowR.keep cmK h hb
structure CmsOk (w : World) (A : Option Addr) (n c : Nat) (l : List (Cm)) : Prop where
  at_ : CmsAt w A n c l
  bd : cmsB l
theorem CmsOk.keep {w w' : World} {A : Option Addr} {n c : Nat} {l : List (Cm)} (h : CmsOk w A n c l) (hb : Below w.heap.size w w') : CmsOk w' A n c l := ⟨h.at_.keep hb, h.bd⟩
structure CmsIn (lo hi : Nat) (w : World) (A : Option Addr) (n c : Nat) (l : List (Cm)) : Prop where
  row : RowI cmF 47 8 lo hi w A n c l
section
variable {lo hi : Nat} {w w' : World} {A : Option Addr} {n c : Nat} {l : List (Cm)}
theorem CmsIn.keep (h : CmsIn lo hi w A n c l) (hb : Below w.heap.size w w') : CmsIn lo hi w' A n c l := ⟨h.row.keep cmK hb⟩
theorem CmsIn.ch {S : Nat → Prop} (h : CmsIn lo hi w A n c l) (hc : Ch S w w') (hS : ∀ k, Iv lo hi k → ¬ S k) : CmsIn lo hi w' A n c l := ⟨h.row.ch cmK hc hS⟩
theorem CmsIn.at_ (h : CmsIn lo hi w A n c l) : CmsAt w A n c l := h.row.at_ cmK (by omega)
theorem CmsIn.cap (h : CmsIn lo hi w A n c l) : n ≤ c := by obtain ⟨fp, _, _, h⟩ := h.row.ex; obtain ⟨_, _, _, ho, _⟩ := h.ex; exact (own_le ho).1
end
theorem cmsW_cnt (l : List (Cm)) : cmsCnt l ≤ 7 * cmsSz l := cms_cnt l
theorem cmsW_sz (l : List (Cm)) (A : Option Addr) (n c : Nat) (left : Int) (w : World) (h : CmsOk w A n c l) (hl0 : 0 ≤ left) (hl1 : left ≤ 4611686018427387904) :
    Calls Try.prog 10 #[.slice A n c, .int .i64 left] w fun e w' => e = .returned (.int .i64 (szR left (cmsSz l))) ∧ Below w.heap.size w w' := cms_sz l A n c left w h.at_ h.bd hl0 hl1
theorem cmsW_eq (l : List (Cm)) (A : Option Addr) (n c : Nat) (A' : Option Addr) (n' c' : Nat) (w : World) (h : CmsAt w A n c l) (h' : CmsAt w A' n' c' l) (hs : cmsSz l ≤ 16777216) :
    Calls Try.prog 15 #[.slice A n c, .slice A' n' c'] w fun e w' => e = .returned (.bool true) ∧ Below w.heap.size w w' := cms_eq l A n c A' n' c' w h h' hs
theorem cmsW_to (l : List (Cm)) (A : Option Addr) (n c : Nat) (w : World) (h : CmsAt w A n c l) (hs : cmsSz l ≤ 1048576) :
    Calls Try.prog 12 #[.slice A n c] w fun e w' => ∃ A' n' c', e = .returned (.slice A' n' c') ∧ CmsIn w.heap.size w'.heap.size w' A' n' c' l ∧ Below w.heap.size w w' := by
  refine (cms_to l A n c w h hs).mono ?_
  rintro e w' ⟨A', n', c', rfl, h1, h2⟩
  exact ⟨A', n', c', rfl, ⟨⟨h1⟩⟩, h2⟩
theorem cmsW_mark (lo hi : Nat) (l : List (Cm)) (A : Option Addr) (n c : Nat) (k : Int) (w : World) (h : CmsIn lo hi w A n c l) (hs : cmsSz l ≤ 16777216) (hk0 : 0 < k) (hk1 : k ≤ 288230376151711744) :
    Calls Try.prog 16 #[.slice A n c, .int .i64 k] w fun e w' => e = .returned (.int .i64 (k + (cmsCnt l : Nat))) ∧ CmsIn lo hi w' A n c (cmsMk k l) ∧ Ch (Iv lo hi) w w' := by
  obtain ⟨fp, hN, hB, hO⟩ := h.row.ex
  refine (cms_mark l fp A n c k w hO hN hs hk0 hk1).mono ?_
  rintro e w' ⟨rfl, h1, h2⟩
  exact ⟨rfl, ⟨⟨fp, hN, hB, h1⟩⟩, h2.mono (fun b hb => hB b hb)⟩

def IntzsAt (w : World) (A : Option Addr) (n c : Nat) (l : List (List Int)) : Prop := RowR intR 1 w A n c l
theorem IntzsAt.keep {w w' : World} {A : Option Addr} {n c : Nat} {l : List (List Int)} (h : IntzsAt w A n c l) (hb : Below w.heap.size w w') : IntzsAt w' A n c l := RowR.keep intK h hb
structure IntzsOk (w : World) (A : Option Addr) (n c : Nat) (l : List (List Int)) : Prop where
  at_ : IntzsAt w A n c l
  bd : intssB l
theorem IntzsOk.keep {w w' : World} {A : Option Addr} {n c : Nat} {l : List (List Int)} (h : IntzsOk w A n c l) (hb : Below w.heap.size w w') : IntzsOk w' A n c l := ⟨h.at_.keep hb, h.bd⟩
structure IntzsIn (lo hi : Nat) (w : World) (A : Option Addr) (n c : Nat) (l : List (List Int)) : Prop where
  row : RowI intF 78 1 lo hi w A n c l
section
variable {lo hi : Nat} {w w' : World} {A : Option Addr} {n c : Nat} {l : List (List Int)}
theorem IntzsIn.keep (h : IntzsIn lo hi w A n c l) (hb : Below w.heap.size w w') : IntzsIn lo hi w' A n c l := ⟨h.row.keep intK hb⟩
theorem IntzsIn.ch {S : Nat → Prop} (h : IntzsIn lo hi w A n c l) (hc : Ch S w w') (hS : ∀ k, Iv lo hi k → ¬ S k) : IntzsIn lo hi w' A n c l := ⟨h.row.ch intK hc hS⟩
theorem IntzsIn.at_ (h : IntzsIn lo hi w A n c l) : IntzsAt w A n c l := h.row.at_ intK (by omega)
theorem IntzsIn.cap (h : IntzsIn lo hi w A n c l) : n ≤ c := by obtain ⟨fp, _, _, h⟩ := h.row.ex; obtain ⟨_, _, _, ho, _⟩ := h.ex; exact (own_le ho).1
end
theorem intzs_cnt (l : List (List Int)) : intssCnt l ≤ intssSz l := intss_cnt l
theorem intzs_sz (l : List (List Int)) (A : Option Addr) (n c : Nat) (left : Int) (w : World) (h : IntzsOk w A n c l) (hl0 : 0 ≤ left) (hl1 : left ≤ 4611686018427387904) :
    Calls Try.prog 19 #[.slice A n c, .int .i64 left] w fun e w' => e = .returned (.int .i64 (szR left (intssSz l))) ∧ Below w.heap.size w w' := intss_sz l A n c left w h.at_ h.bd hl0 hl1
theorem intzs_eq (l : List (List Int)) (A : Option Addr) (n c : Nat) (A' : Option Addr) (n' c' : Nat) (w : World) (h : IntzsAt w A n c l) (h' : IntzsAt w A' n' c' l) (hs : intssSz l ≤ 16777216) :
    Calls Try.prog 14 #[.slice A n c, .slice A' n' c'] w fun e w' => e = .returned (.bool true) ∧ Below w.heap.size w w' := intss_eq l A n c A' n' c' w h h' hs
theorem intzs_to (l : List (List Int)) (A : Option Addr) (n c : Nat) (w : World) (h : IntzsAt w A n c l) (hs : intssSz l ≤ 1048576) :
    Calls Try.prog 21 #[.slice A n c] w fun e w' => ∃ A' n' c', e = .returned (.slice A' n' c') ∧ IntzsIn w.heap.size w'.heap.size w' A' n' c' l ∧ Below w.heap.size w w' := by
  refine (intss_to l A n c w h hs).mono ?_
  rintro e w' ⟨A', n', c', rfl, h1, h2⟩
  exact ⟨A', n', c', rfl, ⟨⟨h1⟩⟩, h2⟩
theorem intzs_mark (lo hi : Nat) (l : List (List Int)) (A : Option Addr) (n c : Nat) (k : Int) (w : World) (h : IntzsIn lo hi w A n c l) (hs : intssSz l ≤ 16777216) (hk0 : 0 < k) (hk1 : k ≤ 288230376151711744) :
    Calls Try.prog 17 #[.slice A n c, .int .i64 k] w fun e w' => e = .returned (.int .i64 (k + (intssCnt l : Nat))) ∧ IntzsIn lo hi w' A n c (intssMk k l) ∧ Ch (Iv lo hi) w w' := by
  obtain ⟨fp, hN, hB, hO⟩ := h.row.ex
  refine (intss_mark l fp A n c k w hO hN hs hk0 hk1).mono ?_
  rintro e w' ⟨rfl, h1, h2⟩
  exact ⟨rfl, ⟨⟨fp, hN, hB, h1⟩⟩, h2.mono (fun b hb => hB b hb)⟩
theorem intzs_held (l : List (List Int)) (A : Option Addr) (n c : Nat) (k : Int) (w : World) (h : IntzsAt w A n c (intssMk k l)) (hs : intssSz l ≤ 16777216) (hk0 : 0 < k) (hk1 : k ≤ 288230376151711744) :
    Calls Try.prog 18 #[.slice A n c, .int .i64 k] w fun e w' => e = .returned (.int .i64 (k + (intssCnt l : Nat))) ∧ Below w.heap.size w w' := intss_held l A n c k w h hs hk0 hk1

section
open Go.ChangeShapes Go.WideShapes Go.ChangeAt Go.Deep Go.Joins
variable {H : Type} {enc : TypeId × Value → H} {w : World} {base : Nat} {spare : Nat → Bool} {held : Bool}
theorem eight_of {cs : List Value} (h : cs.length = 8) : ∃ a b c d e f g i, cs = [a, b, c, d, e, f, g, i] := by
  match cs, h with
  | [a, b, c, d, e, f, g, i], _ => exact ⟨a, b, c, d, e, f, g, i, rfl⟩
theorem cellsCmdL : Try.prog.cellsOf 40 = 8 := by kernel_rfl
theorem cellsIntL : Try.prog.cellsOf 3 = 1 := by kernel_rfl
theorem cellsStringL : Try.prog.cellsOf 9 = 1 := by kernel_rfl
theorem cellsStrsL : Try.prog.cellsOf 38 = 1 := by kernel_rfl
set_option maxRecDepth 8000 in
theorem trod_strs {fu : Nat} {cs : List Value} {y : DataW H × List MemPlace} (h : DataW.trod enc Try.prog w base spare held fu 38 cs = some y) :
    ∃ A n c l, cs = [.slice A n c] ∧ StrsAt w A n l ∧ (A = none → c = 0) ∧ n ≤ 9223372036854775807 ∧ ∀ i, i < n → (sAt l i).size ≤ 9223372036854775807 := by
  obtain ⟨A, n, c, l, hcs, hr, hn, _, hc⟩ := open_rows_cs (C := fun _ cs (x : ByteArray) => cs = [.string x] ∧ x.size ≤ 9223372036854775807) Try.underlying38 cellsStringL (by omega) (fun fu cs y h => by obtain ⟨m, hm, hw⟩ := trod_str1 Try.underlying9 h; exact ⟨m, hm, hw⟩) h
  have hl := hr.1
  refine ⟨A, n, c, l, hcs, ?_, hc, hn, fun i hi => ?_⟩
  · unfold StrsAt
    refine ⟨hl, fun h0 => ?_⟩
    obtain ⟨b, off, rfl, hlt, hcell⟩ := hr.2 h0
    refine ⟨b, off, rfl, hlt, fun i hi => ?_⟩
    obtain ⟨cs', ⟨hx, _⟩, _, hc'⟩ := hcell i (sAt l i) (by rw [sAt_get (by omega)]; exact List.getElem?_eq_getElem (by omega))
    subst hx
    simpa using hc' 0 _ rfl
  · obtain ⟨b, off, rfl, hlt, hcell⟩ := hr.2 (by omega)
    obtain ⟨cs', ⟨_, hw⟩, _⟩ := hcell i (sAt l i) (by rw [sAt_get (by omega)]; exact List.getElem?_eq_getElem (by omega))
    exact hw
set_option maxRecDepth 8000 in
theorem trod_strR {fu : Nat} {cs : List Value} {y : DataW H × List MemPlace} (h : DataW.trod enc Try.prog w base spare held fu 38 cs = some y) :
    ∃ A n c l, cs = [.slice A n c] ∧ StrR w A n c l ∧ strB l := by
  obtain ⟨A, n, c, l, e, h1, h2, h3, h4⟩ := trod_strs h
  refine ⟨A, n, c, l, e, ⟨h1, h2⟩, by have := h1.1; omega, fun y hy => ?_⟩
  obtain ⟨i, hi, rfl⟩ := List.getElem_of_mem hy
  have hil : i < n := by have := h1.1; omega
  have := h4 i hil
  rwa [sAt_get hi] at this
set_option maxRecDepth 8000 in
theorem trod_cmd {fu : Nat} {cs : List Value} {y : DataW H × List MemPlace} (h : DataW.trod enc Try.prog w base spare held fu 40 cs = some y) : ∃ x, cmR w cs x ∧ cmB x := by
  obtain ⟨c0, c1, c2, c3, c4, c5, c6, c7, rfl⟩ := eight_of (trod_len Try.underlying40 cellsCmdL h)
  obtain ⟨_, _, h0⟩ := trod_fieldAt Try.underlying40 0 rfl cellsIntL h
  obtain ⟨_, _, h1⟩ := trod_fieldAt Try.underlying40 1 rfl cellsIntL h
  obtain ⟨_, _, h2⟩ := trod_fieldAt Try.underlying40 2 rfl cellsIntL h
  obtain ⟨_, _, h3⟩ := trod_fieldAt Try.underlying40 3 rfl cellsStringL h
  obtain ⟨_, _, h4⟩ := trod_fieldAt Try.underlying40 4 rfl cellsStringL h
  obtain ⟨_, _, h5⟩ := trod_fieldAt Try.underlying40 5 rfl cellsStringL h
  obtain ⟨_, _, h6⟩ := trod_fieldAt Try.underlying40 6 rfl cellsIntL h
  obtain ⟨_, _, h7⟩ := trod_fieldAt Try.underlying40 7 rfl cellsStrsL h
  obtain ⟨x0, e0, _⟩ := trod_int1 Try.underlying3 h0
  obtain ⟨x1, e1, _⟩ := trod_int1 Try.underlying3 h1
  obtain ⟨x2, e2, _⟩ := trod_int1 Try.underlying3 h2
  obtain ⟨x3, e3, b3⟩ := trod_str1 Try.underlying9 h3
  obtain ⟨x4, e4, b4⟩ := trod_str1 Try.underlying9 h4
  obtain ⟨x5, e5, b5⟩ := trod_str1 Try.underlying9 h5
  obtain ⟨x6, e6, _⟩ := trod_int1 Try.underlying3 h6
  obtain ⟨A, n, c, l, e7, q1, q2⟩ := trod_strR h7
  simp at e0 e1 e2 e3 e4 e5 e6 e7
  subst e0 e1 e2 e3 e4 e5 e6 e7
  exact ⟨⟨x0, x1, x2, x3, x4, x5, x6, l⟩, ⟨A, n, c, rfl, q1⟩, b3, b4, b5, q2⟩
/-- rows whose elements are read and bounded -/
theorem rowAt_and {α : Type} {R : World → List Value → α → Prop} {B : α → Prop} {sz n : Nat} {A : Option Addr} {l : List α} (h : RowAt (fun w cs x => R w cs x ∧ B x) sz w A n l) : RowAt R sz w A n l ∧ ∀ y ∈ l, B y := by
  refine ⟨⟨h.1, fun h0 => ?_⟩, fun y hy => ?_⟩
  · obtain ⟨b, off, e, hl, hc⟩ := h.2 h0
    refine ⟨b, off, e, hl, fun i x hx => ?_⟩
    obtain ⟨cs, ⟨h1, _⟩, h2⟩ := hc i x hx
    exact ⟨cs, h1, h2⟩
  · obtain ⟨i, hi, rfl⟩ := List.getElem_of_mem hy
    obtain ⟨b, off, e, hl, hc⟩ := h.2 (by have := h.1; omega)
    obtain ⟨cs, ⟨_, h1⟩, _⟩ := hc i l[i] (List.getElem?_eq_getElem hi)
    exact h1
set_option maxRecDepth 8000 in
theorem open_cms {r : Reach} {b0 : Nat} {v : Value} {d : DataW H} {p : List MemPlace}
    (hv : Value.okWide Try.prog w r b0 22 v) (h : DataW.Trod enc Try.prog w base spare held 22 v d p) :
    ∃ (A : Option Addr) (n c : Nat) (l : List Cm), v = .slice A n c ∧ CmsOk w A n c l := by
  obtain ⟨A, n, c, rfl⟩ := okWide_slice Try.underlying22 hv
  obtain ⟨fuel, hf⟩ := h
  obtain ⟨A', n', c', l, hcs, hr, hn, _, hc⟩ := open_rows_cs (C := fun w cs x => cmR w cs x ∧ cmB x) Try.underlying22 cellsCmdL (by omega) (fun _ _ _ h => trod_cmd h) hf
  simp [Value.cells] at hcs
  obtain ⟨rfl, rfl, rfl⟩ := hcs
  obtain ⟨h1, h2⟩ := rowAt_and hr
  exact ⟨_, _, _, l, rfl, ⟨h1, hc⟩, by have := h1.1; omega, h2⟩
end
end Go.Proofs.Ytdphdnllhmnelaa
/- What grew by an append. -/
namespace Go.Proofs.Ytdphdnllhmnelaa
open Go.RowKit
theorem Ch.of_grow {w w' : World} {o : Option Nat} (h : w.grownBy w' o) : Ch (fun k => o = some k) w w' := ⟨h.os, h.tape, h.output, h.size, fun k hk hn => h.block k hk (fun e => hn e.symm)⟩
end Go.Proofs.Ytdphdnllhmnelaa
