/- Contracts and lemmas: KCmd, KId. -/
import Derived.Test.YtdphdnllhmnelaaJ1
import Derived.Deep.RegionHeld3
import Derived.StillTailTactics
import Derived.BigQuiet
import Derived.Deep.QuietTactic
/- Cmd: how it lies in memory, the laws' helpers on it. -/
namespace Go.Proofs.Ytdphdnllhmnelaa
open Go.RowKit
structure Cm where
  kd : Int
  cl : Int
  no : Int
  s : ByteArray
  nm : ByteArray
  tg : ByteArray
  n : Int
  ch : List ByteArray
def cmNil : Cm := ⟨0, 0, 0, ByteArray.empty, ByteArray.empty, ByteArray.empty, 0, []⟩
def cmAt (l : List Cm) (i : Nat) : Cm := l.getD i cmNil
theorem cmAt_get {l : List Cm} {k : Nat} (h : k < l.length) : cmAt l k = l[k] := by simp [cmAt, h]
theorem cmAt_of {l : List Cm} {k : Nat} {x : Cm} (h : l[k]? = some x) : cmAt l k = x := by simp [cmAt, h]
/-- its cells, its value -/
def cmL (x : Cm) (s1 : Value) : List Value := [.int .i64 x.kd, .int .i64 x.cl, .int .i64 x.no, .string x.s, .string x.nm, .string x.tg, .int .i64 x.n, s1]
def cmV (x : Cm) (s1 : Value) : Value := .agg #[.int .i64 x.kd, .int .i64 x.cl, .int .i64 x.no, .string x.s, .string x.nm, .string x.tg, .int .i64 x.n, s1]
def cmR (w : World) (cs : List Value) (x : Cm) : Prop := ∃ (A1 : Option Addr) (n1 c1 : Nat), cs = cmL x (.slice A1 n1 c1) ∧ StrR w A1 n1 c1 x.ch
def cmF (fp : List Nat) (w : World) (cs : List Value) (x : Cm) : Prop := ∃ (A1 : Option Addr) (n1 c1 : Nat) (f1 : List Nat), cs = cmL x (.slice A1 n1 c1) ∧ fp = f1 ∧ StrO f1 w A1 n1 c1 x.ch
theorem cmK : KindOk cmR cmF 8 where
  rlen := fun h => by obtain ⟨A1, n1, c1, rfl, h1⟩ := h; rfl
  rkeep := fun h hb => by obtain ⟨A1, n1, c1, rfl, h1⟩ := h; exact ⟨A1, n1, c1, rfl, h1.keep hb⟩
  flt := fun h b hb => by
    obtain ⟨A1, n1, c1, f1, rfl, rfl, h1⟩ := h
    exact h1.lt b hb
  fch := fun h hc hS => by
    obtain ⟨A1, n1, c1, f1, rfl, rfl, h1⟩ := h
    exact ⟨A1, n1, c1, _, rfl, rfl, h1.ch hc (fun b hb => hS b (by simp [hb]))⟩
  fr := fun h => by obtain ⟨A1, n1, c1, f1, rfl, rfl, h1⟩ := h; exact ⟨A1, n1, c1, rfl, h1.at_⟩
  one := fun h v hv => by
    obtain ⟨A1, n1, c1, rfl, h1⟩ := h
    simp only [cmL, List.mem_cons, List.not_mem_nil, or_false] at hv
    rcases hv with rfl | rfl | rfl | rfl | rfl | rfl | rfl | rfl <;> rfl
/-- its bounds -/
def cmB (x : Cm) : Prop := x.s.size ≤ 9223372036854775807 ∧ x.nm.size ≤ 9223372036854775807 ∧ x.tg.size ≤ 9223372036854775807 ∧ strB x.ch
def cmsB (l : List Cm) : Prop := l.length ≤ 9223372036854775807 ∧ ∀ y ∈ l, cmB y
def cmSz (x : Cm) : Nat := x.s.size + x.nm.size + x.tg.size + strsSz x.ch
def cmsSz (l : List Cm) : Nat := l.length + (l.map cmSz).sum
theorem cms_el {l : List Cm} {i : Nat} {x : Cm} (hx : l[i]? = some x) : cmSz x ≤ cmsSz l := by have := (sum_el cmSz hx).1; unfold cmsSz; omega
/-- its marks -/
def cmCnt (x : Cm) : Nat := 1 + 1 + 1 + 1 + 1 + 1 + 1 + strsCnt x.ch
def cmTop (x : Cm) : Nat := strsCnt x.ch
def cmsCnt (l : List Cm) : Nat := (l.map cmCnt).sum
def cmMk (k : Int) (x : Cm) : Cm := ⟨k, (k + 1), (k + 1 + 1), mtx (k + 1 + 1 + 1), mtx (k + 1 + 1 + 1 + 1), mtx (k + 1 + 1 + 1 + 1 + 1), (k + 1 + 1 + 1 + 1 + 1 + 1), strsMk (k + 1 + 1 + 1 + 1 + 1 + 1 + 1) x.ch⟩
def cmsMk (k : Int) : List Cm → List Cm
  | [] => []
  | x :: l => cmMk k x :: cmsMk (k + (cmCnt x : Nat)) l
def cmTopMk (k : Int) (x : Cm) : Cm := ⟨x.kd, x.cl, x.no, x.s, x.nm, x.tg, x.n, strsMk k x.ch⟩
theorem cmsMk_len (k : Int) : ∀ l : List Cm, (cmsMk k l).length = l.length
  | [] => rfl
  | x :: l => by simp [cmsMk, cmsMk_len]
theorem cmsMk_snoc (k : Int) (x : Cm) : ∀ l : List Cm, cmsMk k (l ++ [x]) = cmsMk k l ++ [cmMk (k + (cmsCnt l : Nat)) x]
  | [] => by simp [cmsMk, cmsCnt]
  | y :: l => by
    have := cmsMk_snoc (k + (cmCnt y : Nat)) x l
    have e : k + (cmCnt y : Nat) + ((cmsCnt l : Nat) : Int) = k + ((cmsCnt (y :: l) : Nat) : Int) := by simp only [cmsCnt, List.map_cons, List.sum_cons]; push_cast; omega
    simp only [List.cons_append, cmsMk, this, e]
theorem cmsMk_at (k : Int) : ∀ (l : List Cm) (i : Nat) (x : Cm), l[i]? = some x → (cmsMk k l)[i]? = some (cmMk (k + (sumTo cmCnt l i : Nat)) x)
  | [], i, x, h => by simp at h
  | y :: l, 0, x, h => by simp at h; subst h; simp [cmsMk, sumTo]
  | y :: l, i + 1, x, h => by
    have := cmsMk_at (k + (cmCnt y : Nat)) l i x (by simpa using h)
    have e : k + (cmCnt y : Nat) + ((sumTo cmCnt l i : Nat) : Int) = k + ((sumTo cmCnt (y :: l) (i + 1) : Nat) : Int) := by simp only [sumTo, List.take_succ_cons, List.map_cons, List.sum_cons]; push_cast; omega
    simp only [cmsMk, List.getElem?_cons_succ, this, e]
theorem cm_cnt (x : Cm) : cmCnt x ≤ 7 * (1 + cmSz x) := by have g0 := strs_cnt x.ch; unfold cmCnt cmSz; omega
theorem cms_cnt : ∀ l : List Cm, cmsCnt l ≤ 7 * cmsSz l
  | [] => by simp [cmsCnt]
  | x :: l => by have h1 := cms_cnt l; have h2 := cm_cnt x; simp only [cmsCnt, cmsSz, List.map_cons, List.sum_cons, List.length_cons] at *; omega
theorem cm_top (x : Cm) : cmTop x ≤ 7 * cmSz x := by have t7 := strs_cnt x.ch; unfold cmTop cmSz; omega
attribute [local irreducible] StrR IntR StrO IntO RowR RowO StrsAt IntsAt
set_option maxRecDepth 8000 in
theorem cm_sz (x : Cm) (A1 : Option Addr) (n1 c1 : Nat) (left : Int) (w : World) (h1 : StrR w A1 n1 c1 x.ch) (hb : cmB x) (hl0 : 0 ≤ left) (hl1 : left ≤ 4611686018427387904) :
    Calls Try.prog 50 #[(cmV x (.slice A1 n1 c1)), .int .i64 left] w fun e w' => e = .returned (.int .i64 (szR left (cmSz x))) ∧ Below w.heap.size w w' := by
  obtain ⟨bd0, bd1, bd2, bd3⟩ := hb
  unfold cmV
  by_cases q0 : ((x.s.size : Nat) : Int) ≤ left
  · skip
    by_cases q1 : ((x.nm.size : Nat) : Int) ≤ left - ((x.s.size : Nat) : Int)
    · skip
      by_cases q2 : ((x.tg.size : Nat) : Int) ≤ left - ((x.s.size : Nat) : Int) - ((x.nm.size : Nat) : Int)
      · skip
        by_cases q3 : ((strsSz x.ch : Nat) : Int) ≤ left - ((x.s.size : Nat) : Int) - ((x.nm.size : Nat) : Int) - ((x.tg.size : Nat) : Int)
        · have R3 := Lib.hid (szR_yes (left := left - ((x.s.size : Nat) : Int) - ((x.nm.size : Nat) : Int) - ((x.tg.size : Nat) : Int)) (s := strsSz x.ch) q3)
          have R := Lib.hid (szR_yes (left := left) (s := cmSz x) (by unfold cmSz; push_cast; omega))
          go_enter Try.func50, Try.ntmps50
          go_wp2_with fail
          refine (strsR_sz x.ch _ _ _ _ _ (h1.keep (by go_grown)) bd3 (by omega) (by omega)).mono ?_
          rintro e w1 ⟨rfl, hb1⟩
          obtain ⟨hc_w1, hf_w1⟩ := bcell hb1
          have hz_w1 := hb1.size
          try simp at hz_w1
          have hB_w1 : Below w.heap.size w w1 := bthen (by go_grown) hb1
          have hz_w1_0 : w.heap.size < w1.heap.size := by omega
          rw [R3.out]
          go_wp2
          go_returns
          exact ⟨ret_int (by rw [R.out]; unfold cmSz; push_cast; omega), hB_w1⟩
        · have R := Lib.hid (szR_no (left := left) (s := cmSz x) (by unfold cmSz; push_cast; omega))
          have R3 := Lib.hid (szR_no (left := left - ((x.s.size : Nat) : Int) - ((x.nm.size : Nat) : Int) - ((x.tg.size : Nat) : Int)) (s := strsSz x.ch) (by omega))
          go_enter Try.func50, Try.ntmps50
          go_wp2_with fail
          refine (strsR_sz x.ch _ _ _ _ _ (h1.keep (by go_grown)) bd3 (by omega) (by omega)).mono ?_
          rintro e w1 ⟨rfl, hb1⟩
          obtain ⟨hc_w1, hf_w1⟩ := bcell hb1
          have hz_w1 := hb1.size
          try simp at hz_w1
          have hB_w1 : Below w.heap.size w w1 := bthen (by go_grown) hb1
          have hz_w1_0 : w.heap.size < w1.heap.size := by omega
          rw [R3.out]
          go_wp2
          go_returns
          exact ⟨ret_int R.out.symm, hB_w1⟩
      · have R := Lib.hid (szR_no (left := left) (s := cmSz x) (by unfold cmSz; push_cast; omega))
        go_enter Try.func50, Try.ntmps50
        go_wp2
        go_returns
        exact ⟨ret_int R.out.symm, by go_grown⟩
    · have R := Lib.hid (szR_no (left := left) (s := cmSz x) (by unfold cmSz; push_cast; omega))
      go_enter Try.func50, Try.ntmps50
      go_wp2
      go_returns
      exact ⟨ret_int R.out.symm, by go_grown⟩
  · have R := Lib.hid (szR_no (left := left) (s := cmSz x) (by unfold cmSz; push_cast; omega))
    go_enter Try.func50, Try.ntmps50
    go_wp2
    go_returns
    exact ⟨ret_int R.out.symm, by go_grown⟩
set_option maxRecDepth 8000 in
theorem cm_eq (x : Cm) (A1 : Option Addr) (n1 c1 : Nat) (A1' : Option Addr) (n1' c1' : Nat) (w : World) (h1 : StrR w A1 n1 c1 x.ch) (h1' : StrR w A1' n1' c1' x.ch) (hs : cmSz x ≤ 16777216) :
    Calls Try.prog 57 #[(cmV x (.slice A1 n1 c1)), (cmV x (.slice A1' n1' c1'))] w fun e w' => e = .returned (.bool true) ∧ Below w.heap.size w w' := by
  unfold cmSz at hs
  unfold cmV
  go_enter Try.func57, Try.ntmps57
  go_wp2_with fail
  refine (strsR_eq x.ch _ _ _ _ _ _ _ (h1.keep (by go_grown)) (h1'.keep (by go_grown)) (by omega)).mono ?_
  rintro e w1 ⟨rfl, hb1⟩
  obtain ⟨hc_w1, hf_w1⟩ := bcell hb1
  have hz_w1 := hb1.size
  try simp at hz_w1
  have hB_w1 : Below w.heap.size w w1 := bthen (by go_grown) hb1
  have hz_w1_0 : w.heap.size < w1.heap.size := by omega
  have hz_w1_1 : w.heap.size + 1 < w1.heap.size := by omega
  go_wp2
  go_returns
  exact ⟨rfl, hB_w1⟩
set_option maxRecDepth 8000 in
set_option maxHeartbeats 1000000 in
theorem cm_to (x : Cm) (A1 : Option Addr) (n1 c1 : Nat) (w : World) (h1 : StrR w A1 n1 c1 x.ch) (hs : cmSz x ≤ 1048576) :
    Calls Try.prog 53 #[(cmV x (.slice A1 n1 c1))] w fun e w' => ∃ (A1' : Option Addr) (n1' c1' : Nat) (f1' : List Nat), e = .returned (cmV x (.slice A1' n1' c1')) ∧ (f1').Nodup ∧ (∀ b ∈ f1', w.heap.size ≤ b ∧ b < w'.heap.size) ∧ StrO f1' w' A1' n1' c1' x.ch ∧ Below w.heap.size w w' := by
  unfold cmSz at hs
  unfold cmV
  go_enter Try.func53, Try.ntmps53
  go_wp2_with fail
  refine (strsR_to x.ch _ _ _ _ (h1.keep (by go_grown)) (by omega)).mono ?_
  rintro e w1 ⟨A1', n1', c1', rfl, ⟨f1', hN1, hF1, o1⟩, hb1⟩
  obtain ⟨hc_w1, hf_w1⟩ := bcell hb1
  have hz_w1 := hb1.size
  try simp at hz_w1
  have hB_w1 : Below w.heap.size w w1 := bthen (by go_grown) hb1
  have hz_w1_0 : w.heap.size < w1.heap.size := by omega
  have hz_w1_1 : w.heap.size + 1 < w1.heap.size := by omega
  have hz_w1_2 : w.heap.size + 1 + 1 < w1.heap.size := by omega
  have hG1 : ∀ b ∈ f1', w.heap.size + 3 ≤ b ∧ b < w1.heap.size := fun b hb => by have := hF1 b hb; have hzz := hz_w1; simp at this; omega
  have k0 : w1.cell? ⟨w.heap.size + 1, 0, none⟩ = some (.int .i64 0) := (keep_cell hb1 (by first | (simp [go_sem]; done) | (simp [go_sem]; rfl)))
  have k1 : w1.cell? ⟨w.heap.size + 1, 1, none⟩ = some (.int .i64 0) := (keep_cell hb1 (by first | (simp [go_sem]; done) | (simp [go_sem]; rfl)))
  have k2 : w1.cell? ⟨w.heap.size + 1, 2, none⟩ = some (.int .i64 0) := (keep_cell hb1 (by first | (simp [go_sem]; done) | (simp [go_sem]; rfl)))
  have k3 : w1.cell? ⟨w.heap.size + 1, 3, none⟩ = some (.string ByteArray.empty) := (keep_cell hb1 (by first | (simp [go_sem]; done) | (simp [go_sem]; rfl)))
  have k4 : w1.cell? ⟨w.heap.size + 1, 4, none⟩ = some (.string ByteArray.empty) := (keep_cell hb1 (by first | (simp [go_sem]; done) | (simp [go_sem]; rfl)))
  have k5 : w1.cell? ⟨w.heap.size + 1, 5, none⟩ = some (.string ByteArray.empty) := (keep_cell hb1 (by first | (simp [go_sem]; done) | (simp [go_sem]; rfl)))
  have k6 : w1.cell? ⟨w.heap.size + 1, 6, none⟩ = some (.int .i64 0) := (keep_cell hb1 (by first | (simp [go_sem]; done) | (simp [go_sem]; rfl)))
  have k7 : w1.cell? ⟨w.heap.size + 1, 7, none⟩ = some (.slice none 0 0) := (keep_cell hb1 (by first | (simp [go_sem]; done) | (simp [go_sem]; rfl)))
  have l0 : (w1.setCell ⟨w.heap.size + 1 + 1, 7, none⟩ (.slice A1' n1' c1')).cell? ⟨w.heap.size + 1, 0, none⟩ = some (.int .i64 0) := (setoff k0 (.inl (by omega)))
  have l1 : (w1.setCell ⟨w.heap.size + 1 + 1, 7, none⟩ (.slice A1' n1' c1')).cell? ⟨w.heap.size + 1, 1, none⟩ = some (.int .i64 0) := (setoff k1 (.inl (by omega)))
  have l2 : (w1.setCell ⟨w.heap.size + 1 + 1, 7, none⟩ (.slice A1' n1' c1')).cell? ⟨w.heap.size + 1, 2, none⟩ = some (.int .i64 0) := (setoff k2 (.inl (by omega)))
  have l3 : (w1.setCell ⟨w.heap.size + 1 + 1, 7, none⟩ (.slice A1' n1' c1')).cell? ⟨w.heap.size + 1, 3, none⟩ = some (.string ByteArray.empty) := (setoff k3 (.inl (by omega)))
  have l4 : (w1.setCell ⟨w.heap.size + 1 + 1, 7, none⟩ (.slice A1' n1' c1')).cell? ⟨w.heap.size + 1, 4, none⟩ = some (.string ByteArray.empty) := (setoff k4 (.inl (by omega)))
  have l5 : (w1.setCell ⟨w.heap.size + 1 + 1, 7, none⟩ (.slice A1' n1' c1')).cell? ⟨w.heap.size + 1, 5, none⟩ = some (.string ByteArray.empty) := (setoff k5 (.inl (by omega)))
  have l6 : (w1.setCell ⟨w.heap.size + 1 + 1, 7, none⟩ (.slice A1' n1' c1')).cell? ⟨w.heap.size + 1, 6, none⟩ = some (.int .i64 0) := (setoff k6 (.inl (by omega)))
  have l7 : (w1.setCell ⟨w.heap.size + 1 + 1, 7, none⟩ (.slice A1' n1' c1')).cell? ⟨w.heap.size + 1, 7, none⟩ = some (.slice none 0 0) := (setoff k7 (.inl (by omega)))
  obtain ⟨WF, hWF⟩ : ∃ WF, WF = setsW (w1.setCell ⟨w.heap.size + 1 + 1, 7, none⟩ (.slice A1' n1' c1')) (w.heap.size + 1) 0 [.int .i64 x.kd, .int .i64 x.cl, .int .i64 x.no, .string x.s, .string x.nm, .string x.tg, .int .i64 x.n, .slice A1' n1' c1'] := ⟨_, rfl⟩
  have hcs : ∀ j, j < [(.int .i64 x.kd : Value), (.int .i64 x.cl : Value), (.int .i64 x.no : Value), (.string x.s : Value), (.string x.nm : Value), (.string x.tg : Value), (.int .i64 x.n : Value), (.slice A1' n1' c1' : Value)].length → ∃ u, (w1.setCell ⟨w.heap.size + 1 + 1, 7, none⟩ (.slice A1' n1' c1')).cell? ⟨w.heap.size + 1, 0 + j, none⟩ = some u := fun j hj => by
    simp only [List.length_cons, List.length_nil] at hj
    rw [Nat.zero_add]
    rcases (show j = 0 ∨ j = 1 ∨ j = 2 ∨ j = 3 ∨ j = 4 ∨ j = 5 ∨ j = 6 ∨ j = 7 by omega) with rfl | rfl | rfl | rfl | rfl | rfl | rfl | rfl
    · exact ⟨_, l0⟩
    · exact ⟨_, l1⟩
    · exact ⟨_, l2⟩
    · exact ⟨_, l3⟩
    · exact ⟨_, l4⟩
    · exact ⟨_, l5⟩
    · exact ⟨_, l6⟩
    · exact ⟨_, l7⟩
  have r0 : WF.cell? ⟨w.heap.size + 1, 0, none⟩ = some (.int .i64 x.kd) := by rw [hWF]; have := setsW_cell _ 0 _ hcs 0 _ rfl; simpa using this
  have r1 : WF.cell? ⟨w.heap.size + 1, 1, none⟩ = some (.int .i64 x.cl) := by rw [hWF]; have := setsW_cell _ 0 _ hcs 1 _ rfl; simpa using this
  have r2 : WF.cell? ⟨w.heap.size + 1, 2, none⟩ = some (.int .i64 x.no) := by rw [hWF]; have := setsW_cell _ 0 _ hcs 2 _ rfl; simpa using this
  have r3 : WF.cell? ⟨w.heap.size + 1, 3, none⟩ = some (.string x.s) := by rw [hWF]; have := setsW_cell _ 0 _ hcs 3 _ rfl; simpa using this
  have r4 : WF.cell? ⟨w.heap.size + 1, 4, none⟩ = some (.string x.nm) := by rw [hWF]; have := setsW_cell _ 0 _ hcs 4 _ rfl; simpa using this
  have r5 : WF.cell? ⟨w.heap.size + 1, 5, none⟩ = some (.string x.tg) := by rw [hWF]; have := setsW_cell _ 0 _ hcs 5 _ rfl; simpa using this
  have r6 : WF.cell? ⟨w.heap.size + 1, 6, none⟩ = some (.int .i64 x.n) := by rw [hWF]; have := setsW_cell _ 0 _ hcs 6 _ rfl; simpa using this
  have r7 : WF.cell? ⟨w.heap.size + 1, 7, none⟩ = some (.slice A1' n1' c1') := by rw [hWF]; have := setsW_cell _ 0 _ hcs 7 _ rfl; simpa using this
  have hCW : Ch (fun b => b = w.heap.size + 1) (w1.setCell ⟨w.heap.size + 1 + 1, 7, none⟩ (.slice A1' n1' c1')) WF := by rw [hWF]; exact ch_setsW _ 0 _
  simp only [setsW, Nat.zero_add, Nat.reduceAdd] at hWF
  go_wp2
  rw [← hWF]
  clear hcs
  have hBF : Below w.heap.size w WF := (hB_w1.setCell (by dsimp only; omega) _).trans (hCW.below (fun k hk => by omega) ((hB_w1.setCell (by dsimp only; omega) _).size))
  have z1 := o1.ch (((Ch.refl (S := fun b => b < w.heap.size + 3) w1).setCell (by dsimp only; omega) _).trans (hCW.mono (fun b hb => by omega))) (fun b hb => by have := hG1 b (by simp [hb]); omega)
  have hsz : w1.heap.size ≤ WF.heap.size := by have := hCW.size; simpa using this
  have hND : (f1').Nodup := by
    have := hN1
    simpa only [List.append_assoc] using this
  have hBD : ∀ b ∈ f1', w.heap.size ≤ b ∧ b < WF.heap.size := fun b hb => by
    have := hG1 b (by simp [hb]); omega
  exact bodyPost_ret (v := .agg #[.int .i64 x.kd, .int .i64 x.cl, .int .i64 x.no, .string x.s, .string x.nm, .string x.tg, .int .i64 x.n, .slice A1' n1' c1']) (by simp [results, Try.results53, go_sem, r0, r1, r2, r3, r4, r5, r6, r7]) rfl ⟨A1', n1', c1', f1', rfl, hND, hBD, z1, hBF⟩
theorem cms_sz (l : List Cm) (A : Option Addr) (n c : Nat) (left : Int) (w : World) (h : RowR cmR 8 w A n c l) (hb : cmsB l) (hl0 : 0 ≤ left) (hl1 : left ≤ 4611686018427387904) :
    Calls Try.prog 10 #[.slice A n c, .int .i64 left] w fun e w' => e = .returned (.int .i64 (szR left (cmsSz l))) ∧ Below w.heap.size w w' := by
  have HL := Lib.hid h.len.symm
  have hn : n ≤ 9223372036854775807 := by have h1 := HL.out; have h2 := hb.1; omega
  by_cases h0 : left - n < 0
  · go_enter Try.func10, Try.ntmps10
    go_wp2
    go_returns
    refine ⟨ret_int (szR_no ?_).symm, Below.refl _ _⟩
    have := HL.out; unfold cmsSz; omega
  · go_enter Try.func10, Try.ntmps10
    go_wp2
    have E0 := Lib.hid (sumTo_zero cmSz l)
    go_loopw [1, 5] (fun u i wr => ∃ k : Nat, k ≤ n ∧ i = .int .i64 k ∧ u = .int .i64 (left - n - (sumTo cmSz l k : Nat)) ∧ 0 ≤ left - n - (sumTo cmSz l k : Nat) ∧ Below w.heap.size w wr) (fun _ i _ => n - (intOf i).toNat)
    case atStart => exact ⟨0, Nat.zero_le _, rfl, by rw [E0.out]; simp, by rw [E0.out]; omega, Below.refl _ _⟩
    case round =>
      obtain ⟨k, hk, rfl, rfl, hge, hbw⟩ := hrel
      by_cases hlt : k < n
      · obtain ⟨b, off, rfl⟩ := h.head (by omega)
        obtain ⟨bl, x, cs, hx, hR, hcell⟩ := h.elem_at hlt
        obtain ⟨A1, n1, c1, rfl, h1⟩ := hR
        have e0 := (hbw.cell (p := ⟨b, off + k * 8, none⟩) bl).trans (show w.cell? ⟨b, off + k * 8, none⟩ = some (.int .i64 x.kd) from hcell 0 _ rfl)
        have e1 := (hbw.cell (p := ⟨b, off + k * 8 + 1, none⟩) bl).trans (show w.cell? ⟨b, off + k * 8 + 1, none⟩ = some (.int .i64 x.cl) from hcell 1 _ rfl)
        have e2 := (hbw.cell (p := ⟨b, off + k * 8 + 2, none⟩) bl).trans (show w.cell? ⟨b, off + k * 8 + 2, none⟩ = some (.int .i64 x.no) from hcell 2 _ rfl)
        have e3 := (hbw.cell (p := ⟨b, off + k * 8 + 3, none⟩) bl).trans (show w.cell? ⟨b, off + k * 8 + 3, none⟩ = some (.string x.s) from hcell 3 _ rfl)
        have e4 := (hbw.cell (p := ⟨b, off + k * 8 + 4, none⟩) bl).trans (show w.cell? ⟨b, off + k * 8 + 4, none⟩ = some (.string x.nm) from hcell 4 _ rfl)
        have e5 := (hbw.cell (p := ⟨b, off + k * 8 + 5, none⟩) bl).trans (show w.cell? ⟨b, off + k * 8 + 5, none⟩ = some (.string x.tg) from hcell 5 _ rfl)
        have e6 := (hbw.cell (p := ⟨b, off + k * 8 + 6, none⟩) bl).trans (show w.cell? ⟨b, off + k * 8 + 6, none⟩ = some (.int .i64 x.n) from hcell 6 _ rfl)
        have e7 := (hbw.cell (p := ⟨b, off + k * 8 + 7, none⟩) bl).trans (show w.cell? ⟨b, off + k * 8 + 7, none⟩ = some (.slice A1 n1 c1) from hcell 7 _ rfl)
        clear hcell
        have hbx := bounds_el hb.2 hx
        obtain ⟨HSM, HSS⟩ := sum_el cmSz hx
        have HSU := Lib.hid HSS; clear HSS
        have HLE := Lib.hid (sumTo_le cmSz l (k + 1))
        by_cases hq : left - n - (sumTo cmSz l k : Nat) - ((cmSz x : Nat) : Int) < 0
        · have HR := Lib.hid (szR_no (left := left - n - (sumTo cmSz l k : Nat)) (s := cmSz x) (by omega))
          go_wp2_with fail
          refine (cm_sz x _ _ _ _ _ (h1.keep hbw) hbx (by omega) (by omega)).mono ?_
          rintro e w1 ⟨rfl, hb1⟩
          rw [HR.out]
          go_wp2
          go_returns
          refine ⟨ret_int (szR_no ?_).symm, bthen hbw hb1⟩
          have := HL.out; have := HSU.out; have := HLE.out; unfold cmsSz; omega
        · have HR := Lib.hid (szR_yes (left := left - n - (sumTo cmSz l k : Nat)) (s := cmSz x) (by omega))
          go_wp2_with fail
          refine (cm_sz x _ _ _ _ _ (h1.keep hbw) hbx (by omega) (by omega)).mono ?_
          rintro e w1 ⟨rfl, hb1⟩
          rw [HR.out]
          go_wp2
          refine ⟨⟨k + 1, by omega, by go_num, ?_, ?_, bthen hbw hb1⟩, by simp [intOf]; omega⟩
          · rw [HSU.out]; congr 1; push_cast; omega
          · rw [HSU.out]; push_cast; omega
      · go_wp2
        go_returns
        refine ⟨ret_int ?_, hbw⟩
        have h3 := sumTo_all cmSz l k (by have := HL.out; omega)
        have := HL.out
        rw [szR_yes (by unfold cmsSz; omega)]; unfold cmsSz; push_cast; omega
set_option maxRecDepth 8000 in
set_option maxHeartbeats 1000000 in
theorem cms_eq (l : List Cm) (A : Option Addr) (n c : Nat) (A' : Option Addr) (n' c' : Nat) (w : World) (h : RowR cmR 8 w A n c l) (h' : RowR cmR 8 w A' n' c' l) (hs : cmsSz l ≤ 16777216) :
    Calls Try.prog 15 #[.slice A n c, .slice A' n' c'] w fun e w' => e = .returned (.bool true) ∧ Below w.heap.size w w' := by
  obtain rfl : n = n' := h.len.trans h'.len.symm
  have hn : n ≤ 16777216 := by have h1 := h.len; unfold cmsSz at hs; omega
  go_enter Try.func15, Try.ntmps15
  go_wp2
  go_loopw [5] (fun i wr => ∃ (k : Nat), k ≤ n ∧ i = .int .i64 k ∧ Below w.heap.size w wr) (fun i _ => n - (intOf i).toNat)
  case atStart => exact ⟨0, Nat.zero_le _, rfl, Below.refl _ _⟩
  case round =>
    obtain ⟨k, hk, rfl, hb⟩ := hrel
    by_cases hlt : k < n
    · obtain ⟨b, off, rfl⟩ := h.head (by omega)
      obtain ⟨bl, x, cs, hx, hR, hcell⟩ := h.elem_at hlt
      obtain ⟨A1, n1, c1, rfl, h1⟩ := hR
      have e0 := (hb.cell (p := ⟨b, off + k * 8, none⟩) bl).trans (show w.cell? ⟨b, off + k * 8, none⟩ = some (.int .i64 x.kd) from hcell 0 _ rfl)
      have e1 := (hb.cell (p := ⟨b, off + k * 8 + 1, none⟩) bl).trans (show w.cell? ⟨b, off + k * 8 + 1, none⟩ = some (.int .i64 x.cl) from hcell 1 _ rfl)
      have e2 := (hb.cell (p := ⟨b, off + k * 8 + 2, none⟩) bl).trans (show w.cell? ⟨b, off + k * 8 + 2, none⟩ = some (.int .i64 x.no) from hcell 2 _ rfl)
      have e3 := (hb.cell (p := ⟨b, off + k * 8 + 3, none⟩) bl).trans (show w.cell? ⟨b, off + k * 8 + 3, none⟩ = some (.string x.s) from hcell 3 _ rfl)
      have e4 := (hb.cell (p := ⟨b, off + k * 8 + 4, none⟩) bl).trans (show w.cell? ⟨b, off + k * 8 + 4, none⟩ = some (.string x.nm) from hcell 4 _ rfl)
      have e5 := (hb.cell (p := ⟨b, off + k * 8 + 5, none⟩) bl).trans (show w.cell? ⟨b, off + k * 8 + 5, none⟩ = some (.string x.tg) from hcell 5 _ rfl)
      have e6 := (hb.cell (p := ⟨b, off + k * 8 + 6, none⟩) bl).trans (show w.cell? ⟨b, off + k * 8 + 6, none⟩ = some (.int .i64 x.n) from hcell 6 _ rfl)
      have e7 := (hb.cell (p := ⟨b, off + k * 8 + 7, none⟩) bl).trans (show w.cell? ⟨b, off + k * 8 + 7, none⟩ = some (.slice A1 n1 c1) from hcell 7 _ rfl)
      clear hcell
      obtain ⟨b', off', rfl⟩ := h'.head (by omega)
      obtain ⟨b'l, x', cs', hx', hR', hcell'⟩ := h'.elem_at hlt
      obtain rfl : x' = x := Option.some.inj (hx'.symm.trans hx)
      obtain ⟨A1', n1', c1', rfl, h1'⟩ := hR'
      have e0' := (hb.cell (p := ⟨b', off' + k * 8, none⟩) b'l).trans (show w.cell? ⟨b', off' + k * 8, none⟩ = some (.int .i64 x'.kd) from hcell' 0 _ rfl)
      have e1' := (hb.cell (p := ⟨b', off' + k * 8 + 1, none⟩) b'l).trans (show w.cell? ⟨b', off' + k * 8 + 1, none⟩ = some (.int .i64 x'.cl) from hcell' 1 _ rfl)
      have e2' := (hb.cell (p := ⟨b', off' + k * 8 + 2, none⟩) b'l).trans (show w.cell? ⟨b', off' + k * 8 + 2, none⟩ = some (.int .i64 x'.no) from hcell' 2 _ rfl)
      have e3' := (hb.cell (p := ⟨b', off' + k * 8 + 3, none⟩) b'l).trans (show w.cell? ⟨b', off' + k * 8 + 3, none⟩ = some (.string x'.s) from hcell' 3 _ rfl)
      have e4' := (hb.cell (p := ⟨b', off' + k * 8 + 4, none⟩) b'l).trans (show w.cell? ⟨b', off' + k * 8 + 4, none⟩ = some (.string x'.nm) from hcell' 4 _ rfl)
      have e5' := (hb.cell (p := ⟨b', off' + k * 8 + 5, none⟩) b'l).trans (show w.cell? ⟨b', off' + k * 8 + 5, none⟩ = some (.string x'.tg) from hcell' 5 _ rfl)
      have e6' := (hb.cell (p := ⟨b', off' + k * 8 + 6, none⟩) b'l).trans (show w.cell? ⟨b', off' + k * 8 + 6, none⟩ = some (.int .i64 x'.n) from hcell' 6 _ rfl)
      have e7' := (hb.cell (p := ⟨b', off' + k * 8 + 7, none⟩) b'l).trans (show w.cell? ⟨b', off' + k * 8 + 7, none⟩ = some (.slice A1' n1' c1') from hcell' 7 _ rfl)
      clear hcell' hx'
      have hek := cms_el hx
      have hn63 : (k : Int) < n := by omega
      go_wp2
      go_still_tail 8, (by kernel_rfl)
      change wpList _ _ _ _ _ wr.drew
      have hbd : Below w.heap.size w wr.drew := hb.drew
      generalize wr.drew = w2 at *
      go_wp2_with fail
      refine (cm_eq x' _ _ _ _ _ _ _ (h1.keep hbd) (h1'.keep hbd) (by omega)).mono ?_
      rintro e w3 ⟨rfl, hb3⟩
      go_wp2
      exact ⟨⟨k + 1, by omega, by go_num, bthen hbd hb3⟩, by simp [intOf]; omega⟩
    · go_wp2
      go_returns
      exact ⟨rfl, hb⟩
theorem infoCmd : (Try.prog.info? 47).map (fun i => (i.zero, i.size, i.bytes)) = some (some (.agg #[.int .i64 0, .int .i64 0, .int .i64 0, .string ByteArray.empty, .string ByteArray.empty, .string ByteArray.empty, .int .i64 0, .slice none 0 0]), 8, 104) := by kernel_rfl
set_option maxRecDepth 8000 in
set_option maxHeartbeats 2000000 in
theorem cms_to (l : List Cm) (A : Option Addr) (n c : Nat) (w : World) (h : RowR cmR 8 w A n c l) (hs : cmsSz l ≤ 1048576) :
    Calls Try.prog 12 #[.slice A n c] w fun e w' => ∃ A' n' c', e = .returned (.slice A' n' c') ∧ (∃ fp, fp.Nodup ∧ (∀ b ∈ fp, w.heap.size ≤ b ∧ b < w'.heap.size) ∧ RowO cmF 47 8 fp w' A' n' c' l) ∧ Below w.heap.size w w' := by
  have HL := Lib.hid h.len.symm
  have hn : n ≤ 1048576 := by have h1 := HL.out; unfold cmsSz at hs; omega
  go_enter Try.func12, Try.ntmps12
  go_wp2_with (refine wpList_mk (P := Try.prog) _ rfl _ _ 26 rfl w.heap.size 47 _ 8 104 Try.underlying26 infoCmd _ _ _ _ n rfl rfl rfl rfl (by omega) (by unfold maxLen; omega) (Nat.le_refl _) ?_; intro w1 hown1 hg1 hb1)
  clear hg1
  go_loopw [4] (fun i wr => ∃ (k : Nat) (rest : List Value) (css : List (List Value)) (fps : List (List Nat)), k ≤ n ∧ i = .int .i64 k ∧ wr.ownsRow w.heap.size 47 8 (.slice (some ⟨w.heap.size, 0, none⟩) n n) n (css.flatten ++ rest) ∧ Els cmF wr css fps (l.take k) ∧ fps.flatten.Nodup ∧ (∀ b ∈ fps.flatten, w.heap.size + 1 ≤ b ∧ b < wr.heap.size) ∧ w.heap.size < wr.heap.size ∧ Below w.heap.size w wr) (fun i _ => n - (intOf i).toNat)
  case atStart => exact ⟨0, _, [], [], Nat.zero_le _, rfl, by simpa using hown1, Els.nil, List.nodup_nil, (fun b hb => by cases hb), (own_lo hown1 w.heap.size (by simp [blkL])).2, hb1⟩
  case round =>
    obtain ⟨k, rest, css, fps, hk, rfl, hown, hE, hN, hF, hgw, hb⟩ := hrel
    have hlen : css.flatten.length = k * 8 := by rw [hE.flat cmK, List.length_take]; have := HL.out; rw [Nat.min_eq_left (by omega)]
    have hrl : rest.length = n * 8 - k * 8 := by have h1 := hown.1; rw [List.length_append] at h1; omega
    by_cases hlt : k < n
    · obtain ⟨b, off, rfl⟩ := h.head (by omega)
      obtain ⟨bl, x, cs, hx, hR, hcell⟩ := h.elem_at hlt
      obtain ⟨A1, n1, c1, rfl, h1⟩ := hR
      have e0 := (hb.cell (p := ⟨b, off + k * 8, none⟩) bl).trans (show w.cell? ⟨b, off + k * 8, none⟩ = some (.int .i64 x.kd) from hcell 0 _ rfl)
      have e1 := (hb.cell (p := ⟨b, off + k * 8 + 1, none⟩) bl).trans (show w.cell? ⟨b, off + k * 8 + 1, none⟩ = some (.int .i64 x.cl) from hcell 1 _ rfl)
      have e2 := (hb.cell (p := ⟨b, off + k * 8 + 2, none⟩) bl).trans (show w.cell? ⟨b, off + k * 8 + 2, none⟩ = some (.int .i64 x.no) from hcell 2 _ rfl)
      have e3 := (hb.cell (p := ⟨b, off + k * 8 + 3, none⟩) bl).trans (show w.cell? ⟨b, off + k * 8 + 3, none⟩ = some (.string x.s) from hcell 3 _ rfl)
      have e4 := (hb.cell (p := ⟨b, off + k * 8 + 4, none⟩) bl).trans (show w.cell? ⟨b, off + k * 8 + 4, none⟩ = some (.string x.nm) from hcell 4 _ rfl)
      have e5 := (hb.cell (p := ⟨b, off + k * 8 + 5, none⟩) bl).trans (show w.cell? ⟨b, off + k * 8 + 5, none⟩ = some (.string x.tg) from hcell 5 _ rfl)
      have e6 := (hb.cell (p := ⟨b, off + k * 8 + 6, none⟩) bl).trans (show w.cell? ⟨b, off + k * 8 + 6, none⟩ = some (.int .i64 x.n) from hcell 6 _ rfl)
      have e7 := (hb.cell (p := ⟨b, off + k * 8 + 7, none⟩) bl).trans (show w.cell? ⟨b, off + k * 8 + 7, none⟩ = some (.slice A1 n1 c1) from hcell 7 _ rfl)
      clear hcell
      have hek := cms_el hx
      go_wp2_with fail
      refine (cm_to x _ _ _ _ (h1.keep hb) (by omega)).mono ?_
      rintro e w2 ⟨B1, m1, d1, g1, rfl, hN2, hF2, o1, hb2⟩
      unfold cmV
      have hown2 := own_ch hown (Ch.of_below (S := fun _ => False) hb2) (fun _ _ h => h)
      have hz2 := hb2.size
      obtain ⟨o_0, ho_0⟩ := own_cell hown2 (j := k * 8) (by omega)
      have hf_0 := hown2.frozenAt (k * 8)
      obtain ⟨o_1, ho_1⟩ := own_cell hown2 (j := k * 8 + 1) (by omega)
      have hf_1 := hown2.frozenAt (k * 8 + 1)
      obtain ⟨o_2, ho_2⟩ := own_cell hown2 (j := k * 8 + 2) (by omega)
      have hf_2 := hown2.frozenAt (k * 8 + 2)
      obtain ⟨o_3, ho_3⟩ := own_cell hown2 (j := k * 8 + 3) (by omega)
      have hf_3 := hown2.frozenAt (k * 8 + 3)
      obtain ⟨o_4, ho_4⟩ := own_cell hown2 (j := k * 8 + 4) (by omega)
      have hf_4 := hown2.frozenAt (k * 8 + 4)
      obtain ⟨o_5, ho_5⟩ := own_cell hown2 (j := k * 8 + 5) (by omega)
      have hf_5 := hown2.frozenAt (k * 8 + 5)
      obtain ⟨o_6, ho_6⟩ := own_cell hown2 (j := k * 8 + 6) (by omega)
      have hf_6 := hown2.frozenAt (k * 8 + 6)
      obtain ⟨o_7, ho_7⟩ := own_cell hown2 (j := k * 8 + 7) (by omega)
      have hf_7 := hown2.frozenAt (k * 8 + 7)
      go_wp2
      obtain ⟨w3, hw3⟩ : ∃ W, W = ((((((((w2.setCell ⟨w.heap.size, k * 8, none⟩ (.int .i64 x.kd)).setCell ⟨w.heap.size, k * 8 + 1, none⟩ (.int .i64 x.cl)).setCell ⟨w.heap.size, k * 8 + 2, none⟩ (.int .i64 x.no)).setCell ⟨w.heap.size, k * 8 + 3, none⟩ (.string x.s)).setCell ⟨w.heap.size, k * 8 + 4, none⟩ (.string x.nm)).setCell ⟨w.heap.size, k * 8 + 5, none⟩ (.string x.tg)).setCell ⟨w.heap.size, k * 8 + 6, none⟩ (.int .i64 x.n)).setCell ⟨w.heap.size, k * 8 + 7, none⟩ (.slice B1 m1 d1)) := ⟨_, rfl⟩
      have hw4 : w3 = setsW w2 w.heap.size (k * 8) [.int .i64 x.kd, .int .i64 x.cl, .int .i64 x.no, .string x.s, .string x.nm, .string x.tg, .int .i64 x.n, .slice B1 m1 d1] := hw3
      rw [← hw3]
      clear hw3 ho_0 hf_0 ho_1 hf_1 ho_2 hf_2 ho_3 hf_3 ho_4 hf_4 ho_5 hf_5 ho_6 hf_6 ho_7 hf_7
      have q := own_setsW [.int .i64 x.kd, .int .i64 x.cl, .int .i64 x.no, .string x.s, .string x.nm, .string x.tg, .int .i64 x.n, .slice B1 m1 d1] (k * 8) w2 _ hown2
      have hC : Ch (fun b => b = w.heap.size) w2 w3 := by rw [hw4]; exact ch_setsW _ _ _
      rw [← hw4] at q
      have hrd : rest = rest.take 8 ++ rest.drop 8 := (List.take_append_drop _ _).symm
      have htk : (rest.take 8).length = 8 := by rw [List.length_take]; omega
      rw [hrd, setsL_at hlen (by rw [htk]; rfl)] at q
      clear hw4 hrd htk
      have q2 : w3.ownsRow w.heap.size 47 8 (.slice (some ⟨w.heap.size, 0, none⟩) n n) n ((css ++ [([.int .i64 x.kd, .int .i64 x.cl, .int .i64 x.no, .string x.s, .string x.nm, .string x.tg, .int .i64 x.n, .slice B1 m1 d1] : List Value)]).flatten ++ rest.drop 8) := by rw [flat_snoc, List.append_assoc]; exact q
      have hE2 := (hE.keep cmK hb2).ch cmK hC (fun b hb e => by have := hF b hb; omega)
      have z1 := o1.ch hC (fun b hb e => by have := hF2 b (by simp [hb]); omega)
      have hE3 := hE2.app (Els.one (⟨B1, m1, d1, g1, rfl, rfl, z1⟩ : cmF (g1) w3 [.int .i64 x.kd, .int .i64 x.cl, .int .i64 x.no, .string x.s, .string x.nm, .string x.tg, .int .i64 x.n, .slice B1 m1 d1] x))
      rw [← take_more hx] at hE3
      have hfl : (fps ++ [g1]).flatten = fps.flatten ++ (g1) := by simp
      have hz3 := hC.size
      refine ⟨⟨k + 1, _, _, _, by omega, by go_num, q2, hE3, ?_, ?_, by omega, (bthen hb hb2).trans (hC.below (fun b hb => by omega) (by omega))⟩, by simp [intOf]; omega⟩
      · rw [hfl]; exact nodup_new (m := wr.heap.size) hN hN2 (fun b hb => (hF b hb).2) (fun b hb => (hF2 b hb).1)
      · rw [hfl]; intro b hb
        rcases List.mem_append.1 hb with hb | hb
        · have := hF b hb; omega
        · have := hF2 b hb; omega
    · go_wp2
      go_returns
      have hkn : k = n := by omega
      subst hkn
      have hr0 : rest = [] := List.eq_nil_of_length_eq_zero (by omega)
      subst hr0
      rw [List.append_nil] at hown
      rw [List.take_of_length_le (by have := HL.out; omega)] at hE
      refine ⟨_, _, _, rfl, ⟨blkL (some ⟨w.heap.size, 0, none⟩) ++ fps.flatten, ?_, ?_, RowO.intro (own_up hown (Nat.zero_le _)) HL.out.symm hE⟩, hb⟩
      · exact List.nodup_cons.2 ⟨fun hm => by have := hF _ hm; simp at this; omega, hN⟩
      · intro b hb2
        rcases List.mem_append.1 hb2 with h1 | h1
        · have : b = w.heap.size := by simpa [blkL] using h1
          omega
        · have := hF b h1; omega
set_option maxRecDepth 8000 in
theorem cm_mark (x : Cm) (f1 : List Nat) (A1 : Option Addr) (n1 c1 : Nat) (k : Int) (w : World) (h1 : StrO f1 w A1 n1 c1 x.ch) (hN : (f1).Nodup) (hs : cmSz x ≤ 16777216) (hk0 : 0 < k) (hk1 : k ≤ 288230376151711744) :
    Calls Try.prog 89 #[(cmV x (.slice A1 n1 c1)), .int .i64 k] w fun e w' => e = .returned (.int .i64 (k + (cmTop x : Nat))) ∧ StrO f1 w' A1 n1 c1 (cmTopMk k x).ch ∧ Ch (fun b => b ∈ f1) w w' := by
  have htop := cm_top x
  have hsz := hs; unfold cmSz at hsz; unfold cmTop at htop
  unfold cmV
  have al := (Below.refl w.heap.size w).alloc (Nat.le_refl _) (.cells #[.int .i64 x.kd, .int .i64 x.cl, .int .i64 x.no, .string x.s, .string x.nm, .string x.tg, .int .i64 x.n, .slice A1 n1 c1] 47)
  have a1 := h1.keep al
  have hC0 : Ch (fun b => b ∈ f1) w (w.alloc (.cells #[.int .i64 x.kd, .int .i64 x.cl, .int .i64 x.no, .string x.s, .string x.nm, .string x.tg, .int .i64 x.n, .slice A1 n1 c1] 47)) := Ch.of_below al
  have e0 : (w.alloc (.cells #[.int .i64 x.kd, .int .i64 x.cl, .int .i64 x.no, .string x.s, .string x.nm, .string x.tg, .int .i64 x.n, .slice A1 n1 c1] 47)).cell? ⟨w.heap.size, 0, none⟩ = some (.int .i64 x.kd) := by simp [go_sem]
  have e1 : (w.alloc (.cells #[.int .i64 x.kd, .int .i64 x.cl, .int .i64 x.no, .string x.s, .string x.nm, .string x.tg, .int .i64 x.n, .slice A1 n1 c1] 47)).cell? ⟨w.heap.size, 1, none⟩ = some (.int .i64 x.cl) := by simp [go_sem]
  have e2 : (w.alloc (.cells #[.int .i64 x.kd, .int .i64 x.cl, .int .i64 x.no, .string x.s, .string x.nm, .string x.tg, .int .i64 x.n, .slice A1 n1 c1] 47)).cell? ⟨w.heap.size, 2, none⟩ = some (.int .i64 x.no) := by simp [go_sem]
  have e3 : (w.alloc (.cells #[.int .i64 x.kd, .int .i64 x.cl, .int .i64 x.no, .string x.s, .string x.nm, .string x.tg, .int .i64 x.n, .slice A1 n1 c1] 47)).cell? ⟨w.heap.size, 3, none⟩ = some (.string x.s) := by simp [go_sem]
  have e4 : (w.alloc (.cells #[.int .i64 x.kd, .int .i64 x.cl, .int .i64 x.no, .string x.s, .string x.nm, .string x.tg, .int .i64 x.n, .slice A1 n1 c1] 47)).cell? ⟨w.heap.size, 4, none⟩ = some (.string x.nm) := by simp [go_sem]
  have e5 : (w.alloc (.cells #[.int .i64 x.kd, .int .i64 x.cl, .int .i64 x.no, .string x.s, .string x.nm, .string x.tg, .int .i64 x.n, .slice A1 n1 c1] 47)).cell? ⟨w.heap.size, 5, none⟩ = some (.string x.tg) := by simp [go_sem]
  have e6 : (w.alloc (.cells #[.int .i64 x.kd, .int .i64 x.cl, .int .i64 x.no, .string x.s, .string x.nm, .string x.tg, .int .i64 x.n, .slice A1 n1 c1] 47)).cell? ⟨w.heap.size, 6, none⟩ = some (.int .i64 x.n) := by simp [go_sem]
  have e7 : (w.alloc (.cells #[.int .i64 x.kd, .int .i64 x.cl, .int .i64 x.no, .string x.s, .string x.nm, .string x.tg, .int .i64 x.n, .slice A1 n1 c1] 47)).cell? ⟨w.heap.size, 7, none⟩ = some (.slice A1 n1 c1) := by simp [go_sem]
  have lt1 := h1.lt
  go_enter Try.func89, Try.ntmps89
  go_wp2_with fail
  refine (strsR_mark x.ch f1 _ _ _ _ _ a1 (by omega) (by omega) (by omega)).mono ?_
  rintro e w1 ⟨rfl, b1, hc1⟩
  have hC1 : Ch (fun b => b ∈ f1) w w1 := hC0.trans hc1
  have e0' := hc1.cell e0 (by intro hb; have := lt1 _ hb; omega); clear e0; have e0 := e0'; clear e0'
  have e1' := hc1.cell e1 (by intro hb; have := lt1 _ hb; omega); clear e1; have e1 := e1'; clear e1'
  have e2' := hc1.cell e2 (by intro hb; have := lt1 _ hb; omega); clear e2; have e2 := e2'; clear e2'
  have e3' := hc1.cell e3 (by intro hb; have := lt1 _ hb; omega); clear e3; have e3 := e3'; clear e3'
  have e4' := hc1.cell e4 (by intro hb; have := lt1 _ hb; omega); clear e4; have e4 := e4'; clear e4'
  have e5' := hc1.cell e5 (by intro hb; have := lt1 _ hb; omega); clear e5; have e5 := e5'; clear e5'
  have e6' := hc1.cell e6 (by intro hb; have := lt1 _ hb; omega); clear e6; have e6 := e6'; clear e6'
  have e7' := hc1.cell e7 (by intro hb; have := lt1 _ hb; omega); clear e7; have e7 := e7'; clear e7'
  go_wp2
  go_returns
  refine ⟨ret_int (by unfold cmTop; push_cast; omega), b1, hC1⟩
set_option maxRecDepth 8000 in
theorem cm_held (x : Cm) (y : Cm) (A1 : Option Addr) (n1 c1 : Nat) (k : Int) (w : World) (h1 : StrR w A1 n1 c1 (cmTopMk k x).ch) (hs : cmSz x ≤ 16777216) (hk0 : 0 < k) (hk1 : k ≤ 288230376151711744) :
    Calls Try.prog 91 #[(cmV y (.slice A1 n1 c1)), .int .i64 k] w fun e w' => e = .returned (.int .i64 (k + (cmTop x : Nat))) ∧ Below w.heap.size w w' := by
  have htop := cm_top x
  have hsz := hs; unfold cmSz at hsz; unfold cmTop at htop
  unfold cmV
  go_enter Try.func91, Try.ntmps91
  go_wp2_with fail
  refine (strsR_held x.ch _ _ _ _ _ (h1.keep (by go_grown)) (by omega) (by omega) (by omega)).mono ?_
  rintro e w1 ⟨rfl, hb1⟩
  obtain ⟨hc_w1, hf_w1⟩ := bcell hb1
  have hz_w1 := hb1.size
  try simp at hz_w1
  have hB_w1 : Below w.heap.size w w1 := bthen (by go_grown) hb1
  have hz_w1_0 : w.heap.size < w1.heap.size := by omega
  go_wp2
  go_returns
  exact ⟨ret_int (by unfold cmTop; push_cast; omega), hB_w1⟩
set_option maxRecDepth 8000 in
set_option maxHeartbeats 4000000 in
theorem cms_mark (l : List Cm) (fp : List Nat) (A : Option Addr) (n c : Nat) (k : Int) (w : World) (h : RowO cmF 47 8 fp w A n c l) (hN : fp.Nodup) (hs : cmsSz l ≤ 16777216) (hk0 : 0 < k) (hk1 : k ≤ 288230376151711744) :
    Calls Try.prog 16 #[.slice A n c, .int .i64 k] w fun e w' => e = .returned (.int .i64 (k + (cmsCnt l : Nat))) ∧ RowO cmF 47 8 fp w' A n c (cmsMk k l) ∧ Ch (fun b => b ∈ fp) w w' := by
  obtain ⟨css0, fps0, rfl, hown0, hl0, hE0⟩ := h.ex
  have HL := Lib.hid hl0; clear hl0
  have hn : n ≤ 16777216 := by have h1 := HL.out; unfold cmsSz at hs; omega
  have hcs := cms_cnt l
  go_enter Try.func16, Try.ntmps16
  go_wp2
  go_loopw [1, 5] (fun u i wr => ∃ (q : Nat) (css1 css2 : List (List Value)) (fps1 fps2 : List (List Nat)), q ≤ n ∧ i = .int .i64 q ∧ u = .int .i64 (k + ((sumTo cmCnt l q : Nat) : Int)) ∧ fps0 = fps1 ++ fps2 ∧ wr.ownsRow 0 47 8 (.slice A n c) n (css1.flatten ++ css2.flatten) ∧ Els cmF wr css1 fps1 (cmsMk k (l.take q)) ∧ Els cmF wr css2 fps2 (l.drop q) ∧ Ch (fun b => b ∈ blkL A ++ fps0.flatten) w wr) (fun _ i _ => n - (intOf i).toNat)
  case atStart => exact ⟨0, [], css0, [], fps0, Nat.zero_le _, rfl, by rw [sumTo_zero]; simp, rfl, by simpa using hown0, Els.nil, by simpa using hE0, Ch.refl _⟩
  case round =>
    clear hown0 hE0 h
    obtain ⟨q, css1, css2, fps1, fps2, hq, rfl, rfl, rfl, ho, hE1, hE2, hC⟩ := hrel
    by_cases hlt : q < n
    · obtain ⟨x, hx⟩ : ∃ x, l[q]? = some x := ⟨_, List.getElem?_eq_getElem (by have := HL.out; omega)⟩
      rw [drop_one hx] at hE2
      obtain ⟨cs, css2, f, fps2, rfl, rfl, hF, hE2t⟩ := hE2.cons
      clear hE2
      obtain ⟨A1, n1, c1, f1, rfl, hf1, o1⟩ := hF
      replace hf1 := hf1.symm
      subst hf1
      obtain ⟨g, hA, hg0⟩ : ∃ g, A = some ⟨g, 0, none⟩ ∧ g < wr.heap.size := by rcases own_form ho with ⟨_, h0, _⟩ | ⟨g, h1, _, h2⟩ <;> first | omega | exact ⟨g, h1, h2⟩
      subst hA
      have hP : css1.flatten.length = q * 8 := by rw [hE1.flat cmK, cmsMk_len, List.length_take]; have := HL.out; rw [Nat.min_eq_left (by omega)]
      rw [List.flatten_cons] at ho
      unfold cmL at ho
      have hek := cms_el hx
      unfold cmSz at hek
      obtain ⟨HSM, HSS⟩ := sum_el cmCnt hx
      have HSU := Lib.hid HSS
      have hle := sumTo_le cmCnt l (q + 1)
      unfold cmsCnt at hcs
      have hcb : sumTo cmCnt l q + cmCnt x ≤ 117440512 := by omega
      clear HSM HSS hle
      have hcx : cmCnt x = 1 + 1 + 1 + 1 + 1 + 1 + 1 + strsCnt x.ch := rfl
      rw [hcx] at hcb
      have hN' := hN
      simp only [blkL, List.flatten_append, List.flatten_cons, List.nodup_append, List.nodup_cons, List.mem_append, List.mem_cons, List.not_mem_nil, or_false, not_or, List.append_assoc, List.cons_append, List.nil_append] at hN'
      have hg1 : ∀ b ∈ f1, ¬ b = g := fun b hb e => by subst e; grind
      have hx1 : ∀ b ∈ fps1.flatten, ¬ (b = g ∨ b ∈ f1) := fun b h1 h2 => by (try simp only [List.mem_append] at h2); grind
      have hx2 : ∀ b ∈ fps2.flatten, ¬ (b = g ∨ b ∈ f1) := fun b h1 h2 => by (try simp only [List.mem_append] at h2); grind
      clear hN'
      have hT : Ch (fun b => b = g ∨ b ∈ f1) wr wr := Ch.refl _
      have e0 : wr.cell? ⟨g, q * 8, none⟩ = some (.int .i64 x.kd) := own_mid ho hP (r := 0) rfl
      have y0 := ho.frozenAt (q * 8)
      have e1 : wr.cell? ⟨g, q * 8 + 1, none⟩ = some (.int .i64 x.cl) := own_mid ho hP (r := 1) rfl
      have y1 := ho.frozenAt (q * 8 + 1)
      have e2 : wr.cell? ⟨g, q * 8 + 2, none⟩ = some (.int .i64 x.no) := own_mid ho hP (r := 2) rfl
      have y2 := ho.frozenAt (q * 8 + 2)
      go_wp2_with fail
      obtain ⟨v1, hv1⟩ : ∃ W, W = (((wr.setCell ⟨g, q * 8, none⟩ (.int .i64 (k + ((sumTo cmCnt l q : Nat) : Int)))).setCell ⟨g, q * 8 + 1, none⟩ (.int .i64 (k + ((sumTo cmCnt l q : Nat) : Int) + 1))).setCell ⟨g, q * 8 + 2, none⟩ (.int .i64 (k + ((sumTo cmCnt l q : Nat) : Int) + 1 + 1))) := ⟨_, rfl⟩
      have hs1 : v1 = setsW wr g (q * 8 + 0) ([.int .i64 (k + ((sumTo cmCnt l q : Nat) : Int)), .int .i64 (k + ((sumTo cmCnt l q : Nat) : Int) + 1), .int .i64 (k + ((sumTo cmCnt l q : Nat) : Int) + 1 + 1)] : List Value) := hv1
      rw [← hv1]
      clear hv1
      have hc1 : Ch (fun b => b = g) wr v1 := by rw [hs1]; exact ch_setsW _ _ _
      have ho1 : v1.ownsRow 0 47 8 (.slice (some ⟨g, 0, none⟩) n c) n (css1.flatten ++ (([(.int .i64 (k + ((sumTo cmCnt l q : Nat) : Int))), (.int .i64 (k + ((sumTo cmCnt l q : Nat) : Int) + 1)), (.int .i64 (k + ((sumTo cmCnt l q : Nat) : Int) + 1 + 1)), (.string x.s), (.string x.nm), (.string x.tg), (.int .i64 x.n), (.slice A1 n1 c1)] : List Value) ++ css2.flatten)) := by
        have hh := own_setsW ([.int .i64 (k + ((sumTo cmCnt l q : Nat) : Int)), .int .i64 (k + ((sumTo cmCnt l q : Nat) : Int) + 1), .int .i64 (k + ((sumTo cmCnt l q : Nat) : Int) + 1 + 1)] : List Value) (q * 8 + 0) wr _ ho
        rw [setsL_in hP (r := 0) (vs := ([.int .i64 (k + ((sumTo cmCnt l q : Nat) : Int)), .int .i64 (k + ((sumTo cmCnt l q : Nat) : Int) + 1), .int .i64 (k + ((sumTo cmCnt l q : Nat) : Int) + 1 + 1)] : List Value)) (by simp)] at hh
        rw [hs1]; exact hh
      clear e0 y0
      clear e1 y1
      clear e2 y2
      clear hs1 ho
      have hT1 := hT.trans (hc1.mono (fun b hb => .inl hb)); clear hT; have hT := hT1; clear hT1
      have hgz1 : g < v1.heap.size := Nat.lt_of_lt_of_le hg0 hc1.size; clear hg0; have hg0 := hgz1; clear hgz1
      have o1' := o1.ch hc1 hg1; clear o1; have o1 := o1'; clear o1'
      clear hc1
      refine (markText_any _ _ (by omega) (by omega)).mono ?_
      rintro e v2 ⟨rfl, hb2⟩
      have ho2 := own_ch ho1 (Ch.of_below (S := fun _ => False) hb2) (fun _ _ h => h)
      clear ho1
      have hT2 := hT.trans (Ch.of_below hb2); clear hT; have hT := hT2; clear hT2
      have hgz2 : g < v2.heap.size := Nat.lt_of_lt_of_le hg0 hb2.size; clear hg0; have hg0 := hgz2; clear hgz2
      have o1' := o1.keep hb2; clear o1; have o1 := o1'; clear o1'
      clear hb2
      have e3 : v2.cell? ⟨g, q * 8 + 3, none⟩ = some (.string x.s) := own_mid ho2 hP (r := 3) rfl
      have y3 := ho2.frozenAt (q * 8 + 3)
      go_wp2_with fail
      obtain ⟨v3, hv3⟩ : ∃ W, W = (v2.setCell ⟨g, q * 8 + 3, none⟩ (.string (mtx (k + ((sumTo cmCnt l q : Nat) : Int) + 1 + 1 + 1)))) := ⟨_, rfl⟩
      have hs3 : v3 = setsW v2 g (q * 8 + 3) ([.string (mtx (k + ((sumTo cmCnt l q : Nat) : Int) + 1 + 1 + 1))] : List Value) := hv3
      rw [← hv3]
      clear hv3
      have hc3 : Ch (fun b => b = g) v2 v3 := by rw [hs3]; exact ch_setsW _ _ _
      have ho3 : v3.ownsRow 0 47 8 (.slice (some ⟨g, 0, none⟩) n c) n (css1.flatten ++ (([(.int .i64 (k + ((sumTo cmCnt l q : Nat) : Int))), (.int .i64 (k + ((sumTo cmCnt l q : Nat) : Int) + 1)), (.int .i64 (k + ((sumTo cmCnt l q : Nat) : Int) + 1 + 1)), (.string (mtx (k + ((sumTo cmCnt l q : Nat) : Int) + 1 + 1 + 1))), (.string x.nm), (.string x.tg), (.int .i64 x.n), (.slice A1 n1 c1)] : List Value) ++ css2.flatten)) := by
        have hh := own_setsW ([.string (mtx (k + ((sumTo cmCnt l q : Nat) : Int) + 1 + 1 + 1))] : List Value) (q * 8 + 3) v2 _ ho2
        rw [setsL_in hP (r := 3) (vs := ([.string (mtx (k + ((sumTo cmCnt l q : Nat) : Int) + 1 + 1 + 1))] : List Value)) (by simp)] at hh
        rw [hs3]; exact hh
      clear e3 y3
      clear hs3 ho2
      have hT3 := hT.trans (hc3.mono (fun b hb => .inl hb)); clear hT; have hT := hT3; clear hT3
      have hgz3 : g < v3.heap.size := Nat.lt_of_lt_of_le hg0 hc3.size; clear hg0; have hg0 := hgz3; clear hgz3
      have o1' := o1.ch hc3 hg1; clear o1; have o1 := o1'; clear o1'
      clear hc3
      refine (markText_any _ _ (by omega) (by omega)).mono ?_
      rintro e v4 ⟨rfl, hb4⟩
      have ho4 := own_ch ho3 (Ch.of_below (S := fun _ => False) hb4) (fun _ _ h => h)
      clear ho3
      have hT4 := hT.trans (Ch.of_below hb4); clear hT; have hT := hT4; clear hT4
      have hgz4 : g < v4.heap.size := Nat.lt_of_lt_of_le hg0 hb4.size; clear hg0; have hg0 := hgz4; clear hgz4
      have o1' := o1.keep hb4; clear o1; have o1 := o1'; clear o1'
      clear hb4
      have e4 : v4.cell? ⟨g, q * 8 + 4, none⟩ = some (.string x.nm) := own_mid ho4 hP (r := 4) rfl
      have y4 := ho4.frozenAt (q * 8 + 4)
      go_wp2_with fail
      obtain ⟨v5, hv5⟩ : ∃ W, W = (v4.setCell ⟨g, q * 8 + 4, none⟩ (.string (mtx (k + ((sumTo cmCnt l q : Nat) : Int) + 1 + 1 + 1 + 1)))) := ⟨_, rfl⟩
      have hs5 : v5 = setsW v4 g (q * 8 + 4) ([.string (mtx (k + ((sumTo cmCnt l q : Nat) : Int) + 1 + 1 + 1 + 1))] : List Value) := hv5
      rw [← hv5]
      clear hv5
      have hc5 : Ch (fun b => b = g) v4 v5 := by rw [hs5]; exact ch_setsW _ _ _
      have ho5 : v5.ownsRow 0 47 8 (.slice (some ⟨g, 0, none⟩) n c) n (css1.flatten ++ (([(.int .i64 (k + ((sumTo cmCnt l q : Nat) : Int))), (.int .i64 (k + ((sumTo cmCnt l q : Nat) : Int) + 1)), (.int .i64 (k + ((sumTo cmCnt l q : Nat) : Int) + 1 + 1)), (.string (mtx (k + ((sumTo cmCnt l q : Nat) : Int) + 1 + 1 + 1))), (.string (mtx (k + ((sumTo cmCnt l q : Nat) : Int) + 1 + 1 + 1 + 1))), (.string x.tg), (.int .i64 x.n), (.slice A1 n1 c1)] : List Value) ++ css2.flatten)) := by
        have hh := own_setsW ([.string (mtx (k + ((sumTo cmCnt l q : Nat) : Int) + 1 + 1 + 1 + 1))] : List Value) (q * 8 + 4) v4 _ ho4
        rw [setsL_in hP (r := 4) (vs := ([.string (mtx (k + ((sumTo cmCnt l q : Nat) : Int) + 1 + 1 + 1 + 1))] : List Value)) (by simp)] at hh
        rw [hs5]; exact hh
      clear e4 y4
      clear hs5 ho4
      have hT5 := hT.trans (hc5.mono (fun b hb => .inl hb)); clear hT; have hT := hT5; clear hT5
      have hgz5 : g < v5.heap.size := Nat.lt_of_lt_of_le hg0 hc5.size; clear hg0; have hg0 := hgz5; clear hgz5
      have o1' := o1.ch hc5 hg1; clear o1; have o1 := o1'; clear o1'
      clear hc5
      refine (markText_any _ _ (by omega) (by omega)).mono ?_
      rintro e v6 ⟨rfl, hb6⟩
      have ho6 := own_ch ho5 (Ch.of_below (S := fun _ => False) hb6) (fun _ _ h => h)
      clear ho5
      have hT6 := hT.trans (Ch.of_below hb6); clear hT; have hT := hT6; clear hT6
      have hgz6 : g < v6.heap.size := Nat.lt_of_lt_of_le hg0 hb6.size; clear hg0; have hg0 := hgz6; clear hgz6
      have o1' := o1.keep hb6; clear o1; have o1 := o1'; clear o1'
      clear hb6
      have e5 : v6.cell? ⟨g, q * 8 + 5, none⟩ = some (.string x.tg) := own_mid ho6 hP (r := 5) rfl
      have y5 := ho6.frozenAt (q * 8 + 5)
      have e6 : v6.cell? ⟨g, q * 8 + 6, none⟩ = some (.int .i64 x.n) := own_mid ho6 hP (r := 6) rfl
      have y6 := ho6.frozenAt (q * 8 + 6)
      have e7 : v6.cell? ⟨g, q * 8 + 7, none⟩ = some (.slice A1 n1 c1) := own_mid ho6 hP (r := 7) rfl
      go_wp2_with fail
      obtain ⟨v7, hv7⟩ : ∃ W, W = ((v6.setCell ⟨g, q * 8 + 5, none⟩ (.string (mtx (k + ((sumTo cmCnt l q : Nat) : Int) + 1 + 1 + 1 + 1 + 1)))).setCell ⟨g, q * 8 + 6, none⟩ (.int .i64 (k + ((sumTo cmCnt l q : Nat) : Int) + 1 + 1 + 1 + 1 + 1 + 1))) := ⟨_, rfl⟩
      have hs7 : v7 = setsW v6 g (q * 8 + 5) ([.string (mtx (k + ((sumTo cmCnt l q : Nat) : Int) + 1 + 1 + 1 + 1 + 1)), .int .i64 (k + ((sumTo cmCnt l q : Nat) : Int) + 1 + 1 + 1 + 1 + 1 + 1)] : List Value) := hv7
      rw [← hv7]
      clear hv7
      have hc7 : Ch (fun b => b = g) v6 v7 := by rw [hs7]; exact ch_setsW _ _ _
      have ho7 : v7.ownsRow 0 47 8 (.slice (some ⟨g, 0, none⟩) n c) n (css1.flatten ++ (([(.int .i64 (k + ((sumTo cmCnt l q : Nat) : Int))), (.int .i64 (k + ((sumTo cmCnt l q : Nat) : Int) + 1)), (.int .i64 (k + ((sumTo cmCnt l q : Nat) : Int) + 1 + 1)), (.string (mtx (k + ((sumTo cmCnt l q : Nat) : Int) + 1 + 1 + 1))), (.string (mtx (k + ((sumTo cmCnt l q : Nat) : Int) + 1 + 1 + 1 + 1))), (.string (mtx (k + ((sumTo cmCnt l q : Nat) : Int) + 1 + 1 + 1 + 1 + 1))), (.int .i64 (k + ((sumTo cmCnt l q : Nat) : Int) + 1 + 1 + 1 + 1 + 1 + 1)), (.slice A1 n1 c1)] : List Value) ++ css2.flatten)) := by
        have hh := own_setsW ([.string (mtx (k + ((sumTo cmCnt l q : Nat) : Int) + 1 + 1 + 1 + 1 + 1)), .int .i64 (k + ((sumTo cmCnt l q : Nat) : Int) + 1 + 1 + 1 + 1 + 1 + 1)] : List Value) (q * 8 + 5) v6 _ ho6
        rw [setsL_in hP (r := 5) (vs := ([.string (mtx (k + ((sumTo cmCnt l q : Nat) : Int) + 1 + 1 + 1 + 1 + 1)), .int .i64 (k + ((sumTo cmCnt l q : Nat) : Int) + 1 + 1 + 1 + 1 + 1 + 1)] : List Value)) (by simp)] at hh
        rw [hs7]; exact hh
      clear e5 y5
      clear e6 y6
      clear e7
      clear hs7 ho6
      have hT7 := hT.trans (hc7.mono (fun b hb => .inl hb)); clear hT; have hT := hT7; clear hT7
      have hgz7 : g < v7.heap.size := Nat.lt_of_lt_of_le hg0 hc7.size; clear hg0; have hg0 := hgz7; clear hgz7
      have o1' := o1.ch hc7 hg1; clear o1; have o1 := o1'; clear o1'
      clear hc7
      refine (strsR_mark x.ch f1 _ _ _ _ _ o1 (by omega) (by omega) (by omega)).mono ?_
      rintro e v8 ⟨rfl, o1', hc8⟩
      clear o1; have o1 := o1'; clear o1'
      have ho8 := own_ch ho7 hc8 (fun b hb h2 => hg1 b h2 (by simpa [Value.ownBlock, eq_comm] using hb))
      clear ho7
      have hT8 := hT.trans (hc8.mono (fun b hb => .inr (by simp [hb]))); clear hT; have hT := hT8; clear hT8
      have hgz8 : g < v8.heap.size := Nat.lt_of_lt_of_le hg0 hc8.size; clear hg0; have hg0 := hgz8; clear hgz8
      clear hc8
      go_wp2
      have hE1' := hE1.ch cmK hT hx1
      have hE2' := hE2t.ch cmK hT hx2
      have hE3 := hE1'.app (Els.one (⟨A1, n1, c1, f1, rfl, rfl, o1⟩ : cmF (f1) v8 ([(.int .i64 (k + ((sumTo cmCnt l q : Nat) : Int))), (.int .i64 (k + ((sumTo cmCnt l q : Nat) : Int) + 1)), (.int .i64 (k + ((sumTo cmCnt l q : Nat) : Int) + 1 + 1)), (.string (mtx (k + ((sumTo cmCnt l q : Nat) : Int) + 1 + 1 + 1))), (.string (mtx (k + ((sumTo cmCnt l q : Nat) : Int) + 1 + 1 + 1 + 1))), (.string (mtx (k + ((sumTo cmCnt l q : Nat) : Int) + 1 + 1 + 1 + 1 + 1))), (.int .i64 (k + ((sumTo cmCnt l q : Nat) : Int) + 1 + 1 + 1 + 1 + 1 + 1)), (.slice A1 n1 c1)] : List Value) (cmMk (k + ((sumTo cmCnt l q : Nat) : Int)) x)))
      have hsm := cmsMk_snoc k x (l.take q)
      rw [← take_more hx] at hsm
      have hct : ((cmsCnt (l.take q) : Nat) : Int) = ((sumTo cmCnt l q : Nat) : Int) := rfl
      rw [hct] at hsm
      rw [← hsm] at hE3
      refine ⟨⟨q + 1, css1 ++ [([(.int .i64 (k + ((sumTo cmCnt l q : Nat) : Int))), (.int .i64 (k + ((sumTo cmCnt l q : Nat) : Int) + 1)), (.int .i64 (k + ((sumTo cmCnt l q : Nat) : Int) + 1 + 1)), (.string (mtx (k + ((sumTo cmCnt l q : Nat) : Int) + 1 + 1 + 1))), (.string (mtx (k + ((sumTo cmCnt l q : Nat) : Int) + 1 + 1 + 1 + 1))), (.string (mtx (k + ((sumTo cmCnt l q : Nat) : Int) + 1 + 1 + 1 + 1 + 1))), (.int .i64 (k + ((sumTo cmCnt l q : Nat) : Int) + 1 + 1 + 1 + 1 + 1 + 1)), (.slice A1 n1 c1)] : List Value)], css2, fps1 ++ [f1], fps2, by omega, by go_num, ?_, by simp, ?_, hE3, hE2', hC.trans (hT.mono (fun b hb => ?_))⟩, by simp [intOf]; omega⟩
      · rw [HSU.out]; congr 1; rw [hcx]; push_cast; omega
      · rw [flat_snoc, List.append_assoc]; exact ho8
      · simp only [blkL, List.flatten_append, List.flatten_cons, List.mem_append, List.mem_cons, List.not_mem_nil, or_false] at hb ⊢
        grind
    · go_wp2
      go_returns
      have hqn : q = n := by omega
      subst hqn
      have hql : l.length ≤ q := by have := HL.out; omega
      rw [List.take_of_length_le hql] at hE1
      rw [List.drop_eq_nil_of_le hql] at hE2
      obtain ⟨rfl, rfl⟩ := hE2.nils
      refine ⟨ret_int ?_, ?_, hC⟩
      · rw [sumTo_all _ _ _ hql]; rfl
      · rw [List.append_nil]; exact RowO.intro (by simpa using ho) (by rw [cmsMk_len]; exact HL.out) hE1
end Go.Proofs.Ytdphdnllhmnelaa
/- Id: how it lies in memory, the laws' helpers on it. -/
namespace Go.Proofs.Ytdphdnllhmnelaa
open Go.RowKit
structure Idd where
  r : Int
  s : Int
def iddNil : Idd := ⟨0, 0⟩
def iddAt (l : List Idd) (i : Nat) : Idd := l.getD i iddNil
theorem iddAt_get {l : List Idd} {k : Nat} (h : k < l.length) : iddAt l k = l[k] := by simp [iddAt, h]
theorem iddAt_of {l : List Idd} {k : Nat} {x : Idd} (h : l[k]? = some x) : iddAt l k = x := by simp [iddAt, h]
/-- its cells, its value -/
def iddL (x : Idd) : List Value := [.int .i64 x.r, .int .i64 x.s]
def iddV (x : Idd) : Value := .agg #[.int .i64 x.r, .int .i64 x.s]
def iddR (w : World) (cs : List Value) (x : Idd) : Prop := cs = iddL x
def iddF (fp : List Nat) (w : World) (cs : List Value) (x : Idd) : Prop := cs = iddL x ∧ fp = []
theorem iddK : KindOk iddR iddF 2 where
  rlen := fun h => by obtain rfl := h; rfl
  rkeep := fun h hb => by obtain rfl := h; exact rfl
  flt := fun h b hb => by obtain ⟨rfl, rfl⟩ := h; cases hb
  fch := fun h _ _ => h
  fr := fun h => by obtain ⟨rfl, rfl⟩ := h; exact rfl
  one := fun h v hv => by
    obtain rfl := h
    simp only [iddL, List.mem_cons, List.not_mem_nil, or_false] at hv
    rcases hv with rfl | rfl <;> rfl
def iddsB (l : List Idd) : Prop := l.length ≤ 9223372036854775807
def iddsSz (l : List Idd) : Nat := l.length
/-- its marks -/
def iddCnt (x : Idd) : Nat := 1 + 1
def iddsCnt (l : List Idd) : Nat := (l.map iddCnt).sum
def iddMk (k : Int) (x : Idd) : Idd := ⟨k, (k + 1)⟩
def iddsMk (k : Int) : List Idd → List Idd
  | [] => []
  | x :: l => iddMk k x :: iddsMk (k + (iddCnt x : Nat)) l
theorem iddsMk_len (k : Int) : ∀ l : List Idd, (iddsMk k l).length = l.length
  | [] => rfl
  | x :: l => by simp [iddsMk, iddsMk_len]
theorem iddsMk_snoc (k : Int) (x : Idd) : ∀ l : List Idd, iddsMk k (l ++ [x]) = iddsMk k l ++ [iddMk (k + (iddsCnt l : Nat)) x]
  | [] => by simp [iddsMk, iddsCnt]
  | y :: l => by
    have := iddsMk_snoc (k + (iddCnt y : Nat)) x l
    have e : k + (iddCnt y : Nat) + ((iddsCnt l : Nat) : Int) = k + ((iddsCnt (y :: l) : Nat) : Int) := by simp only [iddsCnt, List.map_cons, List.sum_cons]; push_cast; omega
    simp only [List.cons_append, iddsMk, this, e]
theorem iddsMk_at (k : Int) : ∀ (l : List Idd) (i : Nat) (x : Idd), l[i]? = some x → (iddsMk k l)[i]? = some (iddMk (k + (sumTo iddCnt l i : Nat)) x)
  | [], i, x, h => by simp at h
  | y :: l, 0, x, h => by simp at h; subst h; simp [iddsMk, sumTo]
  | y :: l, i + 1, x, h => by
    have := iddsMk_at (k + (iddCnt y : Nat)) l i x (by simpa using h)
    have e : k + (iddCnt y : Nat) + ((sumTo iddCnt l i : Nat) : Int) = k + ((sumTo iddCnt (y :: l) (i + 1) : Nat) : Int) := by simp only [sumTo, List.take_succ_cons, List.map_cons, List.sum_cons]; push_cast; omega
    simp only [iddsMk, List.getElem?_cons_succ, this, e]
theorem idd_cnt (x : Idd) : iddCnt x ≤ 2 := by unfold iddCnt; omega
theorem idds_cnt : ∀ l : List Idd, iddsCnt l ≤ 2 * iddsSz l
  | [] => by simp [iddsCnt]
  | x :: l => by have h1 := idds_cnt l; have h2 := idd_cnt x; simp only [iddsCnt, iddsSz, List.map_cons, List.sum_cons, List.length_cons] at *; omega
attribute [local irreducible] StrR IntR StrO IntO RowR RowO StrsAt IntsAt

set_option maxRecDepth 8000 in
theorem idd_eq (x : Idd)   (w : World)   :
    Calls Try.prog 79 #[(iddV x), (iddV x)] w fun e w' => e = .returned (.bool true) ∧ Below w.heap.size w w' := by
  unfold iddV
  go_enter Try.func79, Try.ntmps79
  go_wp2
  go_returns
  exact ⟨rfl, by go_grown⟩
set_option maxRecDepth 8000 in
set_option maxHeartbeats 1000000 in
theorem idd_to (x : Idd)  (w : World)  :
    Calls Try.prog 73 #[(iddV x)] w fun e w' => e = .returned (iddV x) ∧ Below w.heap.size w w' := by
  unfold iddV
  go_enter Try.func73, Try.ntmps73
  go_wp2
  go_returns
  exact ⟨rfl, by go_grown⟩
theorem idds_sz (l : List Idd) (A : Option Addr) (n c : Nat) (left : Int) (w : World) (h : RowR iddR 2 w A n c l) (hb : iddsB l) (hl0 : 0 ≤ left) (hl1 : left ≤ 4611686018427387904) :
    Calls Try.prog 68 #[.slice A n c, .int .i64 left] w fun e w' => e = .returned (.int .i64 (szR left (iddsSz l))) ∧ Below w.heap.size w w' := by
  have HL := Lib.hid h.len.symm
  have hn : n ≤ 9223372036854775807 := by have h1 := HL.out; have h2 := hb; unfold iddsB at h2; omega
  by_cases h0 : left - n < 0
  · go_enter Try.func68, Try.ntmps68
    go_wp2
    go_returns
    refine ⟨ret_int (szR_no ?_).symm, Below.refl _ _⟩
    have := HL.out; unfold iddsSz; omega
  · go_enter Try.func68, Try.ntmps68
    go_wp2
    go_returns
    refine ⟨ret_int ?_, Below.refl _ _⟩
    have := HL.out; rw [szR_yes (by unfold iddsSz; omega)]; unfold iddsSz; omega
set_option maxRecDepth 8000 in
set_option maxHeartbeats 1000000 in
theorem idds_eq (l : List Idd) (A : Option Addr) (n c : Nat) (A' : Option Addr) (n' c' : Nat) (w : World) (h : RowR iddR 2 w A n c l) (h' : RowR iddR 2 w A' n' c' l) (hs : iddsSz l ≤ 16777216) :
    Calls Try.prog 80 #[.slice A n c, .slice A' n' c'] w fun e w' => e = .returned (.bool true) ∧ Below w.heap.size w w' := by
  obtain rfl : n = n' := h.len.trans h'.len.symm
  have hn : n ≤ 16777216 := by have h1 := h.len; unfold iddsSz at hs; omega
  go_enter Try.func80, Try.ntmps80
  go_wp2
  go_loopw [5] (fun i wr => ∃ (k : Nat), k ≤ n ∧ i = .int .i64 k ∧ Below w.heap.size w wr) (fun i _ => n - (intOf i).toNat)
  case atStart => exact ⟨0, Nat.zero_le _, rfl, Below.refl _ _⟩
  case round =>
    obtain ⟨k, hk, rfl, hb⟩ := hrel
    by_cases hlt : k < n
    · obtain ⟨b, off, rfl⟩ := h.head (by omega)
      obtain ⟨bl, x, cs, hx, hR, hcell⟩ := h.elem_at hlt
      obtain rfl := hR
      have e0 := (hb.cell (p := ⟨b, off + k * 2, none⟩) bl).trans (show w.cell? ⟨b, off + k * 2, none⟩ = some (.int .i64 x.r) from hcell 0 _ rfl)
      have e1 := (hb.cell (p := ⟨b, off + k * 2 + 1, none⟩) bl).trans (show w.cell? ⟨b, off + k * 2 + 1, none⟩ = some (.int .i64 x.s) from hcell 1 _ rfl)
      clear hcell
      obtain ⟨b', off', rfl⟩ := h'.head (by omega)
      obtain ⟨b'l, x', cs', hx', hR', hcell'⟩ := h'.elem_at hlt
      obtain rfl : x' = x := Option.some.inj (hx'.symm.trans hx)
      obtain rfl := hR'
      have e0' := (hb.cell (p := ⟨b', off' + k * 2, none⟩) b'l).trans (show w.cell? ⟨b', off' + k * 2, none⟩ = some (.int .i64 x'.r) from hcell' 0 _ rfl)
      have e1' := (hb.cell (p := ⟨b', off' + k * 2 + 1, none⟩) b'l).trans (show w.cell? ⟨b', off' + k * 2 + 1, none⟩ = some (.int .i64 x'.s) from hcell' 1 _ rfl)
      clear hcell' hx'
      have hn63 : (k : Int) < n := by omega
      go_wp2
      go_still_tail 8, (by kernel_rfl)
      change wpList _ _ _ _ _ wr.drew
      have hbd : Below w.heap.size w wr.drew := hb.drew
      generalize wr.drew = w2 at *
      go_wp2_with fail
      refine (idd_eq x'  _ ).mono ?_
      rintro e w3 ⟨rfl, hb3⟩
      go_wp2
      exact ⟨⟨k + 1, by omega, by go_num, bthen hbd hb3⟩, by simp [intOf]; omega⟩
    · go_wp2
      go_returns
      exact ⟨rfl, hb⟩
theorem infoId : (Try.prog.info? 46).map (fun i => (i.zero, i.size, i.bytes)) = some (some (.agg #[.int .i64 0, .int .i64 0]), 2, 16) := by kernel_rfl
set_option maxRecDepth 8000 in
set_option maxHeartbeats 2000000 in
theorem idds_to (l : List Idd) (A : Option Addr) (n c : Nat) (w : World) (h : RowR iddR 2 w A n c l) (hs : iddsSz l ≤ 1048576) :
    Calls Try.prog 74 #[.slice A n c] w fun e w' => ∃ A' n' c', e = .returned (.slice A' n' c') ∧ (∃ fp, fp.Nodup ∧ (∀ b ∈ fp, w.heap.size ≤ b ∧ b < w'.heap.size) ∧ RowO iddF 46 2 fp w' A' n' c' l) ∧ Below w.heap.size w w' := by
  have HL := Lib.hid h.len.symm
  have hn : n ≤ 1048576 := by have h1 := HL.out; unfold iddsSz at hs; omega
  go_enter Try.func74, Try.ntmps74
  go_wp2_with (refine wpList_mk (P := Try.prog) _ rfl _ _ 48 rfl w.heap.size 46 _ 2 16 Try.underlying48 infoId _ _ _ _ n rfl rfl rfl rfl (by omega) (by unfold maxLen; omega) (Nat.le_refl _) ?_; intro w1 hown1 hg1 hb1)
  clear hg1
  go_loopw [4] (fun i wr => ∃ (k : Nat) (rest : List Value) (css : List (List Value)) (fps : List (List Nat)), k ≤ n ∧ i = .int .i64 k ∧ wr.ownsRow w.heap.size 46 2 (.slice (some ⟨w.heap.size, 0, none⟩) n n) n (css.flatten ++ rest) ∧ Els iddF wr css fps (l.take k) ∧ fps.flatten.Nodup ∧ (∀ b ∈ fps.flatten, w.heap.size + 1 ≤ b ∧ b < wr.heap.size) ∧ w.heap.size < wr.heap.size ∧ Below w.heap.size w wr) (fun i _ => n - (intOf i).toNat)
  case atStart => exact ⟨0, _, [], [], Nat.zero_le _, rfl, by simpa using hown1, Els.nil, List.nodup_nil, (fun b hb => by cases hb), (own_lo hown1 w.heap.size (by simp [blkL])).2, hb1⟩
  case round =>
    obtain ⟨k, rest, css, fps, hk, rfl, hown, hE, hN, hF, hgw, hb⟩ := hrel
    have hlen : css.flatten.length = k * 2 := by rw [hE.flat iddK, List.length_take]; have := HL.out; rw [Nat.min_eq_left (by omega)]
    have hrl : rest.length = n * 2 - k * 2 := by have h1 := hown.1; rw [List.length_append] at h1; omega
    by_cases hlt : k < n
    · obtain ⟨b, off, rfl⟩ := h.head (by omega)
      obtain ⟨bl, x, cs, hx, hR, hcell⟩ := h.elem_at hlt
      obtain rfl := hR
      have e0 := (hb.cell (p := ⟨b, off + k * 2, none⟩) bl).trans (show w.cell? ⟨b, off + k * 2, none⟩ = some (.int .i64 x.r) from hcell 0 _ rfl)
      have e1 := (hb.cell (p := ⟨b, off + k * 2 + 1, none⟩) bl).trans (show w.cell? ⟨b, off + k * 2 + 1, none⟩ = some (.int .i64 x.s) from hcell 1 _ rfl)
      clear hcell
      go_wp2_with fail
      refine (idd_to x  _ ).mono ?_
      rintro e w2 ⟨rfl, hb2⟩
      unfold iddV
      have hown2 := own_ch hown (Ch.of_below (S := fun _ => False) hb2) (fun _ _ h => h)
      have hz2 := hb2.size
      obtain ⟨o_0, ho_0⟩ := own_cell hown2 (j := k * 2) (by omega)
      have hf_0 := hown2.frozenAt (k * 2)
      obtain ⟨o_1, ho_1⟩ := own_cell hown2 (j := k * 2 + 1) (by omega)
      have hf_1 := hown2.frozenAt (k * 2 + 1)
      go_wp2
      obtain ⟨w3, hw3⟩ : ∃ W, W = ((w2.setCell ⟨w.heap.size, k * 2, none⟩ (.int .i64 x.r)).setCell ⟨w.heap.size, k * 2 + 1, none⟩ (.int .i64 x.s)) := ⟨_, rfl⟩
      have hw4 : w3 = setsW w2 w.heap.size (k * 2) [.int .i64 x.r, .int .i64 x.s] := hw3
      rw [← hw3]
      clear hw3 ho_0 hf_0 ho_1 hf_1
      have q := own_setsW [.int .i64 x.r, .int .i64 x.s] (k * 2) w2 _ hown2
      have hC : Ch (fun b => b = w.heap.size) w2 w3 := by rw [hw4]; exact ch_setsW _ _ _
      rw [← hw4] at q
      have hrd : rest = rest.take 2 ++ rest.drop 2 := (List.take_append_drop _ _).symm
      have htk : (rest.take 2).length = 2 := by rw [List.length_take]; omega
      rw [hrd, setsL_at hlen (by rw [htk]; rfl)] at q
      clear hw4 hrd htk
      have q2 : w3.ownsRow w.heap.size 46 2 (.slice (some ⟨w.heap.size, 0, none⟩) n n) n ((css ++ [([.int .i64 x.r, .int .i64 x.s] : List Value)]).flatten ++ rest.drop 2) := by rw [flat_snoc, List.append_assoc]; exact q
      have hE2 := (hE.keep iddK hb2).ch iddK hC (fun b hb e => by have := hF b hb; omega)
      have hE3 := hE2.app (Els.one (⟨rfl, rfl⟩ : iddF ([]) w3 [.int .i64 x.r, .int .i64 x.s] x))
      rw [← take_more hx] at hE3
      have hfl : (fps ++ [[]]).flatten = fps.flatten ++ ([]) := by simp
      have hz3 := hC.size
      refine ⟨⟨k + 1, _, _, _, by omega, by go_num, q2, hE3, ?_, ?_, by omega, (bthen hb hb2).trans (hC.below (fun b hb => by omega) (by omega))⟩, by simp [intOf]; omega⟩
      · rw [hfl]; simpa using hN
      · rw [hfl]; intro b hb; have := hF b (by simpa using hb); omega
    · go_wp2
      go_returns
      have hkn : k = n := by omega
      subst hkn
      have hr0 : rest = [] := List.eq_nil_of_length_eq_zero (by omega)
      subst hr0
      rw [List.append_nil] at hown
      rw [List.take_of_length_le (by have := HL.out; omega)] at hE
      refine ⟨_, _, _, rfl, ⟨blkL (some ⟨w.heap.size, 0, none⟩) ++ fps.flatten, ?_, ?_, RowO.intro (own_up hown (Nat.zero_le _)) HL.out.symm hE⟩, hb⟩
      · exact List.nodup_cons.2 ⟨fun hm => by have := hF _ hm; simp at this; omega, hN⟩
      · intro b hb2
        rcases List.mem_append.1 hb2 with h1 | h1
        · have : b = w.heap.size := by simpa [blkL] using h1
          omega
        · have := hF b h1; omega


set_option maxRecDepth 8000 in
set_option maxHeartbeats 4000000 in
theorem idds_mark (l : List Idd) (fp : List Nat) (A : Option Addr) (n c : Nat) (k : Int) (w : World) (h : RowO iddF 46 2 fp w A n c l) (hN : fp.Nodup) (hs : iddsSz l ≤ 16777216) (hk0 : 0 < k) (hk1 : k ≤ 288230376151711744) :
    Calls Try.prog 90 #[.slice A n c, .int .i64 k] w fun e w' => e = .returned (.int .i64 (k + (iddsCnt l : Nat))) ∧ RowO iddF 46 2 fp w' A n c (iddsMk k l) ∧ Ch (fun b => b ∈ fp) w w' := by
  obtain ⟨css0, fps0, rfl, hown0, hl0, hE0⟩ := h.ex
  have HL := Lib.hid hl0; clear hl0
  have hn : n ≤ 16777216 := by have h1 := HL.out; unfold iddsSz at hs; omega
  have hcs := idds_cnt l
  go_enter Try.func90, Try.ntmps90
  go_wp2
  go_loopw [1, 5] (fun u i wr => ∃ (q : Nat) (css1 css2 : List (List Value)) (fps1 fps2 : List (List Nat)), q ≤ n ∧ i = .int .i64 q ∧ u = .int .i64 (k + ((sumTo iddCnt l q : Nat) : Int)) ∧ fps0 = fps1 ++ fps2 ∧ wr.ownsRow 0 46 2 (.slice A n c) n (css1.flatten ++ css2.flatten) ∧ Els iddF wr css1 fps1 (iddsMk k (l.take q)) ∧ Els iddF wr css2 fps2 (l.drop q) ∧ Ch (fun b => b ∈ blkL A ++ fps0.flatten) w wr) (fun _ i _ => n - (intOf i).toNat)
  case atStart => exact ⟨0, [], css0, [], fps0, Nat.zero_le _, rfl, by rw [sumTo_zero]; simp, rfl, by simpa using hown0, Els.nil, by simpa using hE0, Ch.refl _⟩
  case round =>
    clear hown0 hE0 h
    obtain ⟨q, css1, css2, fps1, fps2, hq, rfl, rfl, rfl, ho, hE1, hE2, hC⟩ := hrel
    by_cases hlt : q < n
    · obtain ⟨x, hx⟩ : ∃ x, l[q]? = some x := ⟨_, List.getElem?_eq_getElem (by have := HL.out; omega)⟩
      rw [drop_one hx] at hE2
      obtain ⟨cs, css2, f, fps2, rfl, rfl, hF, hE2t⟩ := hE2.cons
      clear hE2
      obtain ⟨rfl, rfl⟩ := hF
      obtain ⟨g, hA, hg0⟩ : ∃ g, A = some ⟨g, 0, none⟩ ∧ g < wr.heap.size := by rcases own_form ho with ⟨_, h0, _⟩ | ⟨g, h1, _, h2⟩ <;> first | omega | exact ⟨g, h1, h2⟩
      subst hA
      have hP : css1.flatten.length = q * 2 := by rw [hE1.flat iddK, iddsMk_len, List.length_take]; have := HL.out; rw [Nat.min_eq_left (by omega)]
      rw [List.flatten_cons] at ho
      unfold iddL at ho
      obtain ⟨HSM, HSS⟩ := sum_el iddCnt hx
      have HSU := Lib.hid HSS
      have hle := sumTo_le iddCnt l (q + 1)
      unfold iddsCnt at hcs
      have hcb : sumTo iddCnt l q + iddCnt x ≤ 33554432 := by omega
      clear HSM HSS hle
      have hcx : iddCnt x = 1 + 1 := rfl
      rw [hcx] at hcb
      have hN' := hN
      simp only [blkL, List.flatten_append, List.flatten_cons, List.nodup_append, List.nodup_cons, List.mem_append, List.mem_cons, List.not_mem_nil, or_false, not_or, List.append_assoc, List.cons_append, List.nil_append] at hN'
      have hx1 : ∀ b ∈ fps1.flatten, ¬ (b = g ∨ b ∈ []) := fun b h1 h2 => by (try simp only [List.mem_append] at h2); grind
      have hx2 : ∀ b ∈ fps2.flatten, ¬ (b = g ∨ b ∈ []) := fun b h1 h2 => by (try simp only [List.mem_append] at h2); grind
      clear hN'
      have hT : Ch (fun b => b = g ∨ b ∈ []) wr wr := Ch.refl _
      have e0 : wr.cell? ⟨g, q * 2, none⟩ = some (.int .i64 x.r) := own_mid ho hP (r := 0) rfl
      have y0 := ho.frozenAt (q * 2)
      have e1 : wr.cell? ⟨g, q * 2 + 1, none⟩ = some (.int .i64 x.s) := own_mid ho hP (r := 1) rfl
      have y1 := ho.frozenAt (q * 2 + 1)
      go_wp2
      obtain ⟨v1, hv1⟩ : ∃ W, W = ((wr.setCell ⟨g, q * 2, none⟩ (.int .i64 (k + ((sumTo iddCnt l q : Nat) : Int)))).setCell ⟨g, q * 2 + 1, none⟩ (.int .i64 (k + ((sumTo iddCnt l q : Nat) : Int) + 1))) := ⟨_, rfl⟩
      have hs1 : v1 = setsW wr g (q * 2 + 0) ([.int .i64 (k + ((sumTo iddCnt l q : Nat) : Int)), .int .i64 (k + ((sumTo iddCnt l q : Nat) : Int) + 1)] : List Value) := hv1
      rw [← hv1]
      clear hv1
      have hc1 : Ch (fun b => b = g) wr v1 := by rw [hs1]; exact ch_setsW _ _ _
      have ho1 : v1.ownsRow 0 46 2 (.slice (some ⟨g, 0, none⟩) n c) n (css1.flatten ++ (([(.int .i64 (k + ((sumTo iddCnt l q : Nat) : Int))), (.int .i64 (k + ((sumTo iddCnt l q : Nat) : Int) + 1))] : List Value) ++ css2.flatten)) := by
        have hh := own_setsW ([.int .i64 (k + ((sumTo iddCnt l q : Nat) : Int)), .int .i64 (k + ((sumTo iddCnt l q : Nat) : Int) + 1)] : List Value) (q * 2 + 0) wr _ ho
        rw [setsL_in hP (r := 0) (vs := ([.int .i64 (k + ((sumTo iddCnt l q : Nat) : Int)), .int .i64 (k + ((sumTo iddCnt l q : Nat) : Int) + 1)] : List Value)) (by simp)] at hh
        rw [hs1]; exact hh
      clear e0 y0
      clear e1 y1
      clear hs1 ho
      have hT1 := hT.trans (hc1.mono (fun b hb => .inl hb)); clear hT; have hT := hT1; clear hT1
      have hgz1 : g < v1.heap.size := Nat.lt_of_lt_of_le hg0 hc1.size; clear hg0; have hg0 := hgz1; clear hgz1
      clear hc1
      have hE1' := hE1.ch iddK hT hx1
      have hE2' := hE2t.ch iddK hT hx2
      have hE3 := hE1'.app (Els.one (⟨rfl, rfl⟩ : iddF ([]) v1 ([(.int .i64 (k + ((sumTo iddCnt l q : Nat) : Int))), (.int .i64 (k + ((sumTo iddCnt l q : Nat) : Int) + 1))] : List Value) (iddMk (k + ((sumTo iddCnt l q : Nat) : Int)) x)))
      have hsm := iddsMk_snoc k x (l.take q)
      rw [← take_more hx] at hsm
      have hct : ((iddsCnt (l.take q) : Nat) : Int) = ((sumTo iddCnt l q : Nat) : Int) := rfl
      rw [hct] at hsm
      rw [← hsm] at hE3
      refine ⟨⟨q + 1, css1 ++ [([(.int .i64 (k + ((sumTo iddCnt l q : Nat) : Int))), (.int .i64 (k + ((sumTo iddCnt l q : Nat) : Int) + 1))] : List Value)], css2, fps1 ++ [[]], fps2, by omega, by go_num, ?_, by simp, ?_, hE3, hE2', hC.trans (hT.mono (fun b hb => ?_))⟩, by simp [intOf]; omega⟩
      · rw [HSU.out]; congr 1; rw [hcx]; push_cast; omega
      · rw [flat_snoc, List.append_assoc]; exact ho1
      · simp only [blkL, List.flatten_append, List.flatten_cons, List.mem_append, List.mem_cons, List.not_mem_nil, or_false] at hb ⊢
        grind
    · go_wp2
      go_returns
      have hqn : q = n := by omega
      subst hqn
      have hql : l.length ≤ q := by have := HL.out; omega
      rw [List.take_of_length_le hql] at hE1
      rw [List.drop_eq_nil_of_le hql] at hE2
      obtain ⟨rfl, rfl⟩ := hE2.nils
      refine ⟨ret_int ?_, ?_, hC⟩
      · rw [sumTo_all _ _ _ hql]; rfl
      · rw [List.append_nil]; exact RowO.intro (by simpa using ho) (by rw [iddsMk_len]; exact HL.out) hE1
set_option maxRecDepth 8000 in
set_option maxHeartbeats 4000000 in
theorem idds_held (l : List Idd) (A : Option Addr) (n c : Nat) (k : Int) (w : World) (h : RowR iddR 2 w A n c (iddsMk k l)) (hs : iddsSz l ≤ 16777216) (hk0 : 0 < k) (hk1 : k ≤ 288230376151711744) :
    Calls Try.prog 92 #[.slice A n c, .int .i64 k] w fun e w' => e = .returned (.int .i64 (k + (iddsCnt l : Nat))) ∧ Below w.heap.size w w' := by
  have HL := Lib.hid (show n = l.length by rw [h.len, iddsMk_len])
  have hn : n ≤ 16777216 := by have h1 := HL.out; unfold iddsSz at hs; omega
  have hcs := idds_cnt l
  go_enter Try.func92, Try.ntmps92
  go_wp2
  go_loopw [1, 5] (fun u i wr => ∃ (q : Nat), q ≤ n ∧ i = .int .i64 q ∧ u = .int .i64 (k + ((sumTo iddCnt l q : Nat) : Int)) ∧ Below w.heap.size w wr) (fun _ i _ => n - (intOf i).toNat)
  case atStart => exact ⟨0, Nat.zero_le _, rfl, by rw [sumTo_zero]; simp, Below.refl _ _⟩
  case round =>
    obtain ⟨q, hq, rfl, rfl, hb⟩ := hrel
    by_cases hlt : q < n
    · obtain ⟨x, hx⟩ : ∃ x, l[q]? = some x := ⟨_, List.getElem?_eq_getElem (by have := HL.out; omega)⟩
      obtain ⟨b, off, rfl⟩ := h.head (by omega)
      obtain ⟨bl, x', cs, hx', hR, hcell⟩ := h.elem_at hlt
      obtain rfl : x' = iddMk (k + ((sumTo iddCnt l q : Nat) : Int)) x := Option.some.inj (hx'.symm.trans (iddsMk_at k l q x hx))
      obtain rfl := hR
      have k0 : w.cell? ⟨b, off + q * 2, none⟩ = some (.int .i64 (k + ((sumTo iddCnt l q : Nat) : Int))) := hcell 0 _ rfl
      have k1 : w.cell? ⟨b, off + q * 2 + 1, none⟩ = some (.int .i64 (k + ((sumTo iddCnt l q : Nat) : Int) + 1)) := hcell 1 _ rfl
      clear hcell hx'
      obtain ⟨HSM, HSS⟩ := sum_el iddCnt hx
      have HSU := Lib.hid HSS
      have hle := sumTo_le iddCnt l (q + 1)
      unfold iddsCnt at hcs
      have hcb : sumTo iddCnt l q + iddCnt x ≤ 33554432 := by omega
      clear HSM HSS hle
      have hcx : iddCnt x = 1 + 1 := rfl
      rw [hcx] at hcb
      have e0 := (hb.cell (p := ⟨b, off + q * 2, none⟩) bl).trans k0
      have e1 := (hb.cell (p := ⟨b, off + q * 2 + 1, none⟩) bl).trans k1
      go_wp2
      refine ⟨⟨q + 1, by omega, by go_num, ?_, hb⟩, by simp [intOf]; omega⟩
      rw [HSU.out]; congr 1; rw [hcx]; push_cast; omega
    · go_wp2
      go_returns
      have hql : l.length ≤ q := by have := HL.out; omega
      refine ⟨ret_int ?_, hb⟩
      rw [sumTo_all _ _ _ hql]; rfl
end Go.Proofs.Ytdphdnllhmnelaa
