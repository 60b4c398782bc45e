/- Contracts and lemmas: KindS, KCSnap, KCSet, KCatalog, KindA, RowApp, BoxL, RdApp. -/
import Derived.Test.YtdphdnllhmnelaaGreatJ12
import Derived.Test.YtdphdnllhmnelaaGreatJ11
import Derived.Deep.RegionHeld3
import Derived.StillTailTactics
import Derived.BigQuiet
import Derived.Deep.QuietTactic
import Derived.Test.YtdphdnllhmnelaaGreatJ1
import Derived.Deep.MidRow
/- The laws' helpers on []string and []int in the shape of kinds; rows read element by element. -/
namespace Go.Proofs.YtdphdnllhmnelaaGreat
open Go.RowKit

/-! ### texts -/
def StrR (w : World) (A : Option Addr) (n c : Nat) (l : List ByteArray) : Prop := StrsAt w A n l ∧ (A = none → c = 0)
def StrO (fp : List Nat) (w : World) (A : Option Addr) (n c : Nat) (l : List ByteArray) : Prop := fp = blkL A ∧ w.ownsRow 0 9 1 (.slice A n c) n (l.map Value.string)
def strB (l : List ByteArray) : Prop := l.length ≤ 9223372036854775807 ∧ ∀ y ∈ l, y.size ≤ 9223372036854775807
section
variable {fp : List Nat} {w w' : World} {A : Option Addr} {n c lo hi : Nat} {l : List ByteArray}
theorem StrR.len (h : StrR w A n c l) : n = l.length := h.1.1
theorem StrR.keep (h : StrR w A n c l) (hb : Below w.heap.size w w') : StrR w' A n c l := ⟨h.1.keep hb, h.2⟩
theorem StrR.ok (h : StrR w A n c l) (hb : strB l) : StrsOk w A n l := ⟨h.1, by have := h.len; have := hb.1; omega, fun i hi => by
  have hl : i < l.length := by have := h.len; omega
  have : sAt l i = l[i] := by simp [sAt, hl]
  rw [this]; exact hb.2 _ (List.getElem_mem hl)⟩
theorem StrO.ch {S : Nat → Prop} (h : StrO fp w A n c l) (hc : Ch S w w') (hS : ∀ b ∈ fp, ¬ S b) : StrO fp w' A n c l := by
  obtain ⟨rfl, h⟩ := h; exact ⟨rfl, own_chL h hc hS⟩
theorem StrO.keep (h : StrO fp w A n c l) (hb : Below w.heap.size w w') : StrO fp w' A n c l := h.ch (S := fun _ => False) (Ch.of_below hb) (fun _ _ h => h)
theorem StrO.lt (h : StrO fp w A n c l) : ∀ b ∈ fp, b < w.heap.size := by obtain ⟨rfl, h⟩ := h; exact fun b hb => (own_lo h b hb).2
theorem StrO.at_ (h : StrO fp w A n c l) : StrR w A n c l := ⟨(StrsIn.of_own h.2).at_, own_none h.2⟩
theorem StrO.nil : StrO [] w none 0 0 [] := ⟨rfl, World.ownsRow_nil w 0 _ 1⟩
theorem StrO.of_in (h : StrsIn lo hi w A n c l) : ∃ fp, fp.Nodup ∧ (∀ b ∈ fp, lo ≤ b ∧ b < hi) ∧ StrO fp w A n c l :=
  ⟨blkL A, by cases A <;> simp [blkL], fun b hb => (h.row.blk (mem_blkL.1 hb)).1, rfl, own_up h.row.own (Nat.zero_le _)⟩
theorem StrO.row (h : StrO fp w A n c l) (hf : ∀ b ∈ fp, lo ≤ b ∧ b < hi) : StrsIn lo hi w A n c l := by
  obtain ⟨rfl, h⟩ := h
  exact ⟨⟨own_raise h (fun b hb => (hf b hb).1), fun g hg => (hf g (mem_blkL.2 hg)).2⟩⟩
end
theorem strsR_sz (l : List ByteArray) (A : Option Addr) (n c : Nat) (left : Int) (w : World) (h : StrR w A n c l) (hb : strB l) (hl0 : 0 ≤ left) (hl1 : left ≤ 4611686018427387904) :
    Calls Tryz.prog 78 #[.slice A n c, .int .i64 left] w fun e w' => e = .returned (.int .i64 (szR left (strsSz l))) ∧ Below w.heap.size w w' := strs_sz A n c l left w (h.ok hb) hl0 hl1
theorem strsR_to (l : List ByteArray) (A : Option Addr) (n c : Nat) (w : World) (h : StrR w A n c l) (hs : strsSz l ≤ 1048576) :
    Calls Tryz.prog 80 #[.slice A n c] w fun e w' => ∃ A' n' c', e = .returned (.slice A' n' c') ∧ (∃ fp, fp.Nodup ∧ (∀ b ∈ fp, w.heap.size ≤ b ∧ b < w'.heap.size) ∧ StrO fp w' A' n' c' l) ∧ Below w.heap.size w w' :=
  (strs_to A n c l w h.1 hs).mono fun e w' ⟨A', n', c', h1, h2, h3⟩ => ⟨A', n', c', h1, StrO.of_in h2, h3⟩
theorem strsR_eq (l : List ByteArray) (A : Option Addr) (n c : Nat) (A' : Option Addr) (n' c' : Nat) (w : World) (h : StrR w A n c l) (h' : StrR w A' n' c' l) (hs : strsSz l ≤ 16777216) :
    Calls Tryz.prog 84 #[.slice A n c, .slice A' n' c'] w fun e w' => e = .returned (.bool true) ∧ Below w.heap.size w w' := strs_eq A n c A' n' c' l w h.1 h'.1 hs
theorem strsR_mark (l : List ByteArray) (fp : List Nat) (A : Option Addr) (n c : Nat) (k : Int) (w : World) (h : StrO fp w A n c l) (hs : strsSz l ≤ 16777216) (hk0 : 0 < k) (hk1 : k ≤ 576460752303423488) :
    Calls Tryz.prog 42 #[.slice A n c, .int .i64 k] w fun e w' => e = .returned (.int .i64 (k + (strsCnt l : Nat))) ∧ StrO fp w' A n c (strsMk k l) ∧ Ch (fun b => b ∈ fp) w w' := by
  obtain ⟨rfl, h⟩ := h
  have hin := StrsIn.of_own h
  refine (markStrs_row A n c _ k 0 w.heap.size _ w hin.row (strs_n hin.at_ hs) hk0 hk1).mono ?_
  rintro e w' ⟨h1, h2, h3⟩
  exact ⟨by rw [h1]; unfold strsCnt; rw [← hin.at_.1], ⟨rfl, by unfold strsMk; rw [← hin.at_.1]; exact h2.own⟩, h3.mono fun g hg => mem_blkL.2 hg⟩
theorem strsR_held (l : List ByteArray) (A : Option Addr) (n c : Nat) (k : Int) (w : World) (h : StrR w A n c (strsMk k l)) (hs : strsSz l ≤ 16777216) (hk0 : 0 < k) (hk1 : k ≤ 576460752303423488) :
    Calls Tryz.prog 181 #[.slice A n c, .int .i64 k] w fun e w' => e = .returned (.int .i64 (k + (strsCnt l : Nat))) ∧ Below w.heap.size w w' := strs_held A n c l k w h.1 hs hk0 hk1

/-! ### ints -/
def IntR (w : World) (A : Option Addr) (n c : Nat) (l : List Int) : Prop := IntsAt w A n l ∧ (A = none → c = 0)
def IntO (fp : List Nat) (w : World) (A : Option Addr) (n c : Nat) (l : List Int) : Prop := fp = blkL A ∧ w.ownsRow 0 3 1 (.slice A n c) n (l.map (Value.int .i64))
def intB (l : List Int) : Prop := l.length ≤ 9223372036854775807
section
variable {fp : List Nat} {w w' : World} {A : Option Addr} {n c lo hi : Nat} {l : List Int}
theorem IntR.len (h : IntR w A n c l) : n = l.length := h.1.1
theorem IntR.keep (h : IntR w A n c l) (hb : Below w.heap.size w w') : IntR w' A n c l := ⟨h.1.keep hb, h.2⟩
theorem IntR.ok (h : IntR w A n c l) (hb : intB l) : IntsOk w A n l := ⟨h.1, by have := h.len; unfold intB at hb; omega⟩
theorem IntO.ch {S : Nat → Prop} (h : IntO fp w A n c l) (hc : Ch S w w') (hS : ∀ b ∈ fp, ¬ S b) : IntO fp w' A n c l := by
  obtain ⟨rfl, h⟩ := h; exact ⟨rfl, own_chL h hc hS⟩
theorem IntO.keep (h : IntO fp w A n c l) (hb : Below w.heap.size w w') : IntO fp w' A n c l := h.ch (S := fun _ => False) (Ch.of_below hb) (fun _ _ h => h)
theorem IntO.lt (h : IntO fp w A n c l) : ∀ b ∈ fp, b < w.heap.size := by obtain ⟨rfl, h⟩ := h; exact fun b hb => (own_lo h b hb).2
theorem IntO.at_ (h : IntO fp w A n c l) : IntR w A n c l := ⟨(IntsIn.of_own h.2).at_, own_none h.2⟩
theorem IntO.nil : IntO [] w none 0 0 [] := ⟨rfl, World.ownsRow_nil w 0 _ 1⟩
theorem IntO.of_in (h : IntsIn lo hi w A n c l) : ∃ fp, fp.Nodup ∧ (∀ b ∈ fp, lo ≤ b ∧ b < hi) ∧ IntO fp w A n c l :=
  ⟨blkL A, by cases A <;> simp [blkL], fun b hb => (h.row.blk (mem_blkL.1 hb)).1, rfl, own_up h.row.own (Nat.zero_le _)⟩
theorem IntO.row (h : IntO fp w A n c l) (hf : ∀ b ∈ fp, lo ≤ b ∧ b < hi) : IntsIn lo hi w A n c l := by
  obtain ⟨rfl, h⟩ := h
  exact ⟨⟨own_raise h (fun b hb => (hf b hb).1), fun g hg => (hf g (mem_blkL.2 hg)).2⟩⟩
end
theorem intsR_to (l : List Int) (A : Option Addr) (n c : Nat) (w : World) (h : IntR w A n c l) (hs : intsSz l ≤ 1048576) :
    Calls Tryz.prog 8 #[.slice A n c] w fun e w' => ∃ A' n' c', e = .returned (.slice A' n' c') ∧ (∃ fp, fp.Nodup ∧ (∀ b ∈ fp, w.heap.size ≤ b ∧ b < w'.heap.size) ∧ IntO fp w' A' n' c' l) ∧ Below w.heap.size w w' :=
  (ints_to A n c l w h.1 hs).mono fun e w' ⟨A', n', c', h1, h2, h3⟩ => ⟨A', n', c', h1, IntO.of_in h2, h3⟩
theorem intsR_eq (l : List Int) (A : Option Addr) (n c : Nat) (A' : Option Addr) (n' c' : Nat) (w : World) (h : IntR w A n c l) (h' : IntR w A' n' c' l) (hs : intsSz l ≤ 16777216) :
    Calls Tryz.prog 12 #[.slice A n c, .slice A' n' c'] w fun e w' => e = .returned (.bool true) ∧ Below w.heap.size w w' := ints_eq A n c A' n' c' l w h.1 h'.1 hs
theorem intsR_mark (l : List Int) (fp : List Nat) (A : Option Addr) (n c : Nat) (k : Int) (w : World) (h : IntO fp w A n c l) (hs : intsSz l ≤ 16777216) (hk0 : 0 < k) (hk1 : k ≤ 576460752303423488) :
    Calls Tryz.prog 14 #[.slice A n c, .int .i64 k] w fun e w' => e = .returned (.int .i64 (k + (intsCnt l : Nat))) ∧ IntO fp w' A n c (intsMk k l) ∧ Ch (fun b => b ∈ fp) w w' := by
  obtain ⟨rfl, h⟩ := h
  have hin := IntsIn.of_own h
  refine (markInts_row A n c _ k 0 w.heap.size _ w hin.row (ints_n hin.at_ hs) (by omega) (by omega)).mono ?_
  rintro e w' ⟨h1, h2, h3⟩
  have hl := hin.len
  exact ⟨by rw [h1]; unfold intsCnt; rw [← hl], ⟨rfl, by
    have := h2.own
    unfold intsMk
    rw [List.map_map, ← hl]
    exact this⟩, h3.mono fun g hg => mem_blkL.2 hg⟩

section
variable {α : Type} {R : World → List Value → α → Prop} {sz n c : Nat} {w : World} {A : Option Addr} {l : List α}
/-- element i of a row that is read -/
theorem RowR.elem (h : RowR R sz w A n c l) {i : Nat} (hi : i < n) : ∃ b off x cs, A = some ⟨b, off, none⟩ ∧ b < w.heap.size ∧ l[i]? = some x ∧ R w cs x ∧ ∀ j u, cs[j]? = some u → w.cell? ⟨b, off + i * sz + j, none⟩ = some u := by
  obtain ⟨b, off, hA, hb, hc⟩ := h.1.2 (by omega)
  have hl := h.1.1
  have hx : l[i]? = some (l[i]'(by omega)) := List.getElem?_eq_getElem (by omega)
  obtain ⟨cs, h1, _, h3⟩ := hc i _ hx
  exact ⟨b, off, _, cs, hA, hb, hx, h1, h3⟩
/-- the same, with the row's place told ahead -/
theorem RowR.elem_at {b off : Nat} (h : RowR R sz w (some ⟨b, off, none⟩) n c l) {i : Nat} (hi : i < n) : b < w.heap.size ∧ ∃ x cs, l[i]? = some x ∧ R w cs x ∧ ∀ j u, cs[j]? = some u → w.cell? ⟨b, off + i * sz + j, none⟩ = some u := by
  obtain ⟨b', off', x, cs, hA, hb, h1⟩ := h.elem hi
  injection hA with hA; injection hA with e1 e2 _
  subst e1 e2
  exact ⟨hb, x, cs, h1⟩
theorem RowR.head (h : RowR R sz w A n c l) (hn : 0 < n) : ∃ b off, A = some ⟨b, off, none⟩ := by
  obtain ⟨b, off, hA, _⟩ := h.1.2 hn; exact ⟨b, off, hA⟩
end
theorem setsW_cell {g : Nat} : ∀ (vs : List Value) (o : Nat) (w : World), (∀ j, j < vs.length → ∃ u, w.cell? ⟨g, o + j, none⟩ = some u) → ∀ j v, vs[j]? = some v → (setsW w g o vs).cell? ⟨g, o + j, none⟩ = some v
  | [], _, _, _, j, v, h => by simp at h
  | u :: vs, o, w, hx, j, v, h => by
    show (setsW (w.setCell ⟨g, o, none⟩ u) g (o + 1) vs).cell? _ = _
    rcases j with _ | j
    · simp at h; subst h
      obtain ⟨u0, hu0⟩ := hx 0 (by simp)
      have h0 : (w.setCell ⟨g, o, none⟩ u).cell? ⟨g, o, none⟩ = some u := sethere hu0
      have : ∀ (ws : List Value) (p : Nat) (W : World), o < p → W.cell? ⟨g, o, none⟩ = some u → (setsW W g p ws).cell? ⟨g, o, none⟩ = some u := by
        intro ws
        induction ws with
        | nil => intro p W _ h; exact h
        | cons y ws ih => intro p W hp h; exact ih (p + 1) _ (by omega) (setoff h (.inr (by omega)))
      exact this vs (o + 1) _ (by omega) h0
    · have hx' : ∀ j, j < vs.length → ∃ u', (w.setCell ⟨g, o, none⟩ u).cell? ⟨g, o + 1 + j, none⟩ = some u' := fun j hj => by
        obtain ⟨u', hu'⟩ := hx (j + 1) (by simpa using hj)
        exact ⟨u', setoff (by rw [show o + 1 + j = o + (j + 1) by omega]; exact hu') (.inr (by omega))⟩
      have := setsW_cell vs (o + 1) _ hx' j v (by simpa using h)
      rwa [show o + 1 + j = o + (j + 1) by omega] at this
theorem bounds_el {α : Type} {P : α → Prop} {l : List α} {i : Nat} {x : α} (h : ∀ y ∈ l, P y) (hx : l[i]? = some x) : P x := h x (List.mem_of_getElem? hx)
/-- an element's size is below the row's -/
theorem sum_el {α : Type} (f : α → Nat) {l : List α} {i : Nat} {x : α} (hx : l[i]? = some x) : f x ≤ (l.map f).sum ∧ sumTo f l (i + 1) = sumTo f l i + f x := by
  obtain ⟨h1, h2⟩ := List.getElem?_eq_some_iff.1 hx
  have e := sumTo_succ f l i h1
  have e2 := sumTo_le f l (i + 1)
  rw [h2] at e
  exact ⟨by omega, e⟩
end Go.Proofs.YtdphdnllhmnelaaGreat
/- CSnap: how it lies in memory, the laws' helpers on it. -/
namespace Go.Proofs.YtdphdnllhmnelaaGreat
open Go.RowKit
structure Snp where
  nm : ByteArray
  tg : ByteArray
  ch : List ByteArray
def snpNil : Snp := ⟨ByteArray.empty, ByteArray.empty, []⟩
def snpAt (l : List Snp) (i : Nat) : Snp := l.getD i snpNil
theorem snpAt_get {l : List Snp} {k : Nat} (h : k < l.length) : snpAt l k = l[k] := by simp [snpAt, h]
theorem snpAt_of {l : List Snp} {k : Nat} {x : Snp} (h : l[k]? = some x) : snpAt l k = x := by simp [snpAt, h]
/-- its cells, its value -/
def snpL (x : Snp) (s1 : Value) : List Value := [.string x.nm, .string x.tg, s1]
def snpV (x : Snp) (s1 : Value) : Value := .agg #[.string x.nm, .string x.tg, s1]
def snpR (w : World) (cs : List Value) (x : Snp) : Prop := ∃ (A1 : Option Addr) (n1 c1 : Nat), cs = snpL x (.slice A1 n1 c1) ∧ StrR w A1 n1 c1 x.ch
def snpF (fp : List Nat) (w : World) (cs : List Value) (x : Snp) : Prop := ∃ (A1 : Option Addr) (n1 c1 : Nat) (f1 : List Nat), cs = snpL x (.slice A1 n1 c1) ∧ fp = f1 ∧ StrO f1 w A1 n1 c1 x.ch
theorem snpK : KindOk snpR snpF 3 where
  rlen := fun h => by obtain ⟨A1, n1, c1, rfl, h1⟩ := h; rfl
  rkeep := fun h hb => by obtain ⟨A1, n1, c1, rfl, h1⟩ := h; exact ⟨A1, n1, c1, rfl, h1.keep hb⟩
  flt := fun h b hb => by
    obtain ⟨A1, n1, c1, f1, rfl, rfl, h1⟩ := h
    exact h1.lt b hb
  fch := fun h hc hS => by
    obtain ⟨A1, n1, c1, f1, rfl, rfl, h1⟩ := h
    exact ⟨A1, n1, c1, _, rfl, rfl, h1.ch hc (fun b hb => hS b (by simp [hb]))⟩
  fr := fun h => by obtain ⟨A1, n1, c1, f1, rfl, rfl, h1⟩ := h; exact ⟨A1, n1, c1, rfl, h1.at_⟩
  one := fun h v hv => by
    obtain ⟨A1, n1, c1, rfl, h1⟩ := h
    simp only [snpL, List.mem_cons, List.not_mem_nil, or_false] at hv
    rcases hv with rfl | rfl | rfl <;> rfl
/-- its bounds -/
def snpB (x : Snp) : Prop := x.nm.size ≤ 9223372036854775807 ∧ x.tg.size ≤ 9223372036854775807 ∧ strB x.ch
def snpsB (l : List Snp) : Prop := l.length ≤ 9223372036854775807 ∧ ∀ y ∈ l, snpB y
def snpSz (x : Snp) : Nat := x.nm.size + x.tg.size + strsSz x.ch
def snpsSz (l : List Snp) : Nat := l.length + (l.map snpSz).sum
theorem snps_el {l : List Snp} {i : Nat} {x : Snp} (hx : l[i]? = some x) : snpSz x ≤ snpsSz l := by have := (sum_el snpSz hx).1; unfold snpsSz; omega
/-- its marks -/
def snpCnt (x : Snp) : Nat := 1 + 1 + strsCnt x.ch
def snpTop (x : Snp) : Nat := strsCnt x.ch
def snpsCnt (l : List Snp) : Nat := (l.map snpCnt).sum
def snpMk (k : Int) (x : Snp) : Snp := ⟨mtx k, mtx (k + 1), strsMk (k + 1 + 1) x.ch⟩
def snpsMk (k : Int) : List Snp → List Snp
  | [] => []
  | x :: l => snpMk k x :: snpsMk (k + (snpCnt x : Nat)) l
def snpTopMk (k : Int) (x : Snp) : Snp := ⟨x.nm, x.tg, strsMk k x.ch⟩
theorem snpsMk_len (k : Int) : ∀ l : List Snp, (snpsMk k l).length = l.length
  | [] => rfl
  | x :: l => by simp [snpsMk, snpsMk_len]
theorem snpsMk_snoc (k : Int) (x : Snp) : ∀ l : List Snp, snpsMk k (l ++ [x]) = snpsMk k l ++ [snpMk (k + (snpsCnt l : Nat)) x]
  | [] => by simp [snpsMk, snpsCnt]
  | y :: l => by
    have := snpsMk_snoc (k + (snpCnt y : Nat)) x l
    have e : k + (snpCnt y : Nat) + ((snpsCnt l : Nat) : Int) = k + ((snpsCnt (y :: l) : Nat) : Int) := by simp only [snpsCnt, List.map_cons, List.sum_cons]; push_cast; omega
    simp only [List.cons_append, snpsMk, this, e]
theorem snpsMk_at (k : Int) : ∀ (l : List Snp) (i : Nat) (x : Snp), l[i]? = some x → (snpsMk k l)[i]? = some (snpMk (k + (sumTo snpCnt l i : Nat)) x)
  | [], i, x, h => by simp at h
  | y :: l, 0, x, h => by simp at h; subst h; simp [snpsMk, sumTo]
  | y :: l, i + 1, x, h => by
    have := snpsMk_at (k + (snpCnt y : Nat)) l i x (by simpa using h)
    have e : k + (snpCnt y : Nat) + ((sumTo snpCnt l i : Nat) : Int) = k + ((sumTo snpCnt (y :: l) (i + 1) : Nat) : Int) := by simp only [sumTo, List.take_succ_cons, List.map_cons, List.sum_cons]; push_cast; omega
    simp only [snpsMk, List.getElem?_cons_succ, this, e]
theorem snp_cnt (x : Snp) : snpCnt x ≤ 2 * (1 + snpSz x) := by have g0 := strs_cnt x.ch; unfold snpCnt snpSz; omega
theorem snps_cnt : ∀ l : List Snp, snpsCnt l ≤ 2 * snpsSz l
  | [] => by simp [snpsCnt]
  | x :: l => by have h1 := snps_cnt l; have h2 := snp_cnt x; simp only [snpsCnt, snpsSz, List.map_cons, List.sum_cons, List.length_cons] at *; omega
theorem snp_top (x : Snp) : snpTop x ≤ 2 * snpSz x := by have t2 := strs_cnt x.ch; unfold snpTop snpSz; omega
attribute [local irreducible] StrR IntR StrO IntO RowR RowO StrsAt IntsAt
set_option maxRecDepth 8000 in
theorem snp_eq (x : Snp) (A1 : Option Addr) (n1 c1 : Nat) (A1' : Option Addr) (n1' c1' : Nat) (w : World) (h1 : StrR w A1 n1 c1 x.ch) (h1' : StrR w A1' n1' c1' x.ch) (hs : snpSz x ≤ 16777216) :
    Calls Tryz.prog 208 #[(snpV x (.slice A1 n1 c1)), (snpV x (.slice A1' n1' c1'))] w fun e w' => e = .returned (.bool true) ∧ Below w.heap.size w w' := by
  unfold snpSz at hs
  unfold snpV
  go_enter Tryz.func208, Tryz.ntmps208
  go_wp2_with fail
  refine (strsR_eq x.ch _ _ _ _ _ _ _ (h1.keep (by go_grown)) (h1'.keep (by go_grown)) (by omega)).mono ?_
  rintro e w1 ⟨rfl, hb1⟩
  obtain ⟨hc_w1, hf_w1⟩ := bcell hb1
  have hz_w1 := hb1.size
  try simp at hz_w1
  have hB_w1 : Below w.heap.size w w1 := bthen (by go_grown) hb1
  have hz_w1_0 : w.heap.size < w1.heap.size := by omega
  have hz_w1_1 : w.heap.size + 1 < w1.heap.size := by omega
  go_wp2
  go_returns
  exact ⟨rfl, hB_w1⟩
set_option maxRecDepth 8000 in
set_option maxHeartbeats 1000000 in
theorem snps_eq (l : List Snp) (A : Option Addr) (n c : Nat) (A' : Option Addr) (n' c' : Nat) (w : World) (h : RowR snpR 3 w A n c l) (h' : RowR snpR 3 w A' n' c' l) (hs : snpsSz l ≤ 16777216) :
    Calls Tryz.prog 180 #[.slice A n c, .slice A' n' c'] w fun e w' => e = .returned (.bool true) ∧ Below w.heap.size w w' := by
  obtain rfl : n = n' := h.len.trans h'.len.symm
  have hn : n ≤ 16777216 := by have h1 := h.len; unfold snpsSz at hs; omega
  go_enter Tryz.func180, Tryz.ntmps180
  go_wp2
  go_loopw [5] (fun i wr => ∃ (k : Nat), k ≤ n ∧ i = .int .i64 k ∧ Below w.heap.size w wr) (fun i _ => n - (intOf i).toNat)
  case atStart => exact ⟨0, Nat.zero_le _, rfl, Below.refl _ _⟩
  case round =>
    obtain ⟨k, hk, rfl, hb⟩ := hrel
    by_cases hlt : k < n
    · obtain ⟨b, off, rfl⟩ := h.head (by omega)
      obtain ⟨bl, x, cs, hx, hR, hcell⟩ := h.elem_at hlt
      obtain ⟨A1, n1, c1, rfl, h1⟩ := hR
      have e0 := (hb.cell (p := ⟨b, off + k * 3, none⟩) bl).trans (show w.cell? ⟨b, off + k * 3, none⟩ = some (.string x.nm) from hcell 0 _ rfl)
      have e1 := (hb.cell (p := ⟨b, off + k * 3 + 1, none⟩) bl).trans (show w.cell? ⟨b, off + k * 3 + 1, none⟩ = some (.string x.tg) from hcell 1 _ rfl)
      have e2 := (hb.cell (p := ⟨b, off + k * 3 + 2, none⟩) bl).trans (show w.cell? ⟨b, off + k * 3 + 2, none⟩ = some (.slice A1 n1 c1) from hcell 2 _ rfl)
      clear hcell
      obtain ⟨b', off', rfl⟩ := h'.head (by omega)
      obtain ⟨b'l, x', cs', hx', hR', hcell'⟩ := h'.elem_at hlt
      obtain rfl : x' = x := Option.some.inj (hx'.symm.trans hx)
      obtain ⟨A1', n1', c1', rfl, h1'⟩ := hR'
      have e0' := (hb.cell (p := ⟨b', off' + k * 3, none⟩) b'l).trans (show w.cell? ⟨b', off' + k * 3, none⟩ = some (.string x'.nm) from hcell' 0 _ rfl)
      have e1' := (hb.cell (p := ⟨b', off' + k * 3 + 1, none⟩) b'l).trans (show w.cell? ⟨b', off' + k * 3 + 1, none⟩ = some (.string x'.tg) from hcell' 1 _ rfl)
      have e2' := (hb.cell (p := ⟨b', off' + k * 3 + 2, none⟩) b'l).trans (show w.cell? ⟨b', off' + k * 3 + 2, none⟩ = some (.slice A1' n1' c1') from hcell' 2 _ rfl)
      clear hcell' hx'
      have hek := snps_el hx
      have hn63 : (k : Int) < n := by omega
      go_wp2
      go_still_tail 8, (by kernel_rfl)
      change wpList _ _ _ _ _ wr.drew
      have hbd : Below w.heap.size w wr.drew := hb.drew
      generalize wr.drew = w2 at *
      go_wp2_with fail
      refine (snp_eq x' _ _ _ _ _ _ _ (h1.keep hbd) (h1'.keep hbd) (by omega)).mono ?_
      rintro e w3 ⟨rfl, hb3⟩
      go_wp2
      exact ⟨⟨k + 1, by omega, by go_num, bthen hbd hb3⟩, by simp [intOf]; omega⟩
    · go_wp2
      go_returns
      exact ⟨rfl, hb⟩
set_option maxRecDepth 8000 in
set_option maxHeartbeats 4000000 in
theorem snps_mark (l : List Snp) (fp : List Nat) (A : Option Addr) (n c : Nat) (k : Int) (w : World) (h : RowO snpF 195 3 fp w A n c l) (hN : fp.Nodup) (hs : snpsSz l ≤ 16777216) (hk0 : 0 < k) (hk1 : k ≤ 288230376151711744) :
    Calls Tryz.prog 137 #[.slice A n c, .int .i64 k] w fun e w' => e = .returned (.int .i64 (k + (snpsCnt l : Nat))) ∧ RowO snpF 195 3 fp w' A n c (snpsMk k l) ∧ Ch (fun b => b ∈ fp) w w' := by
  obtain ⟨css0, fps0, rfl, hown0, hl0, hE0⟩ := h.ex
  have HL := Lib.hid hl0; clear hl0
  have hn : n ≤ 16777216 := by have h1 := HL.out; unfold snpsSz at hs; omega
  have hcs := snps_cnt l
  go_enter Tryz.func137, Tryz.ntmps137
  go_wp2
  go_loopw [1, 5] (fun u i wr => ∃ (q : Nat) (css1 css2 : List (List Value)) (fps1 fps2 : List (List Nat)), q ≤ n ∧ i = .int .i64 q ∧ u = .int .i64 (k + ((sumTo snpCnt l q : Nat) : Int)) ∧ fps0 = fps1 ++ fps2 ∧ wr.ownsRow 0 195 3 (.slice A n c) n (css1.flatten ++ css2.flatten) ∧ Els snpF wr css1 fps1 (snpsMk k (l.take q)) ∧ Els snpF wr css2 fps2 (l.drop q) ∧ Ch (fun b => b ∈ blkL A ++ fps0.flatten) w wr) (fun _ i _ => n - (intOf i).toNat)
  case atStart => exact ⟨0, [], css0, [], fps0, Nat.zero_le _, rfl, by rw [sumTo_zero]; simp, rfl, by simpa using hown0, Els.nil, by simpa using hE0, Ch.refl _⟩
  case round =>
    clear hown0 hE0 h
    obtain ⟨q, css1, css2, fps1, fps2, hq, rfl, rfl, rfl, ho, hE1, hE2, hC⟩ := hrel
    by_cases hlt : q < n
    · obtain ⟨x, hx⟩ : ∃ x, l[q]? = some x := ⟨_, List.getElem?_eq_getElem (by have := HL.out; omega)⟩
      rw [drop_one hx] at hE2
      obtain ⟨cs, css2, f, fps2, rfl, rfl, hF, hE2t⟩ := hE2.cons
      clear hE2
      obtain ⟨A1, n1, c1, f1, rfl, hf1, o1⟩ := hF
      replace hf1 := hf1.symm
      subst hf1
      obtain ⟨g, hA, hg0⟩ : ∃ g, A = some ⟨g, 0, none⟩ ∧ g < wr.heap.size := by rcases own_form ho with ⟨_, h0, _⟩ | ⟨g, h1, _, h2⟩ <;> first | omega | exact ⟨g, h1, h2⟩
      subst hA
      have hP : css1.flatten.length = q * 3 := by rw [hE1.flat snpK, snpsMk_len, List.length_take]; have := HL.out; rw [Nat.min_eq_left (by omega)]
      rw [List.flatten_cons] at ho
      unfold snpL at ho
      have hek := snps_el hx
      unfold snpSz at hek
      obtain ⟨HSM, HSS⟩ := sum_el snpCnt hx
      have HSU := Lib.hid HSS
      have hle := sumTo_le snpCnt l (q + 1)
      unfold snpsCnt at hcs
      have hcb : sumTo snpCnt l q + snpCnt x ≤ 33554432 := by omega
      clear HSM HSS hle
      have hcx : snpCnt x = 1 + 1 + strsCnt x.ch := rfl
      rw [hcx] at hcb
      have hN' := hN
      simp only [blkL, List.flatten_append, List.flatten_cons, List.nodup_append, List.nodup_cons, List.mem_append, List.mem_cons, List.not_mem_nil, or_false, not_or, List.append_assoc, List.cons_append, List.nil_append] at hN'
      have hg1 : ∀ b ∈ f1, ¬ b = g := fun b hb e => by subst e; grind
      have hx1 : ∀ b ∈ fps1.flatten, ¬ (b = g ∨ b ∈ f1) := fun b h1 h2 => by (try simp only [List.mem_append] at h2); grind
      have hx2 : ∀ b ∈ fps2.flatten, ¬ (b = g ∨ b ∈ f1) := fun b h1 h2 => by (try simp only [List.mem_append] at h2); grind
      clear hN'
      have hT : Ch (fun b => b = g ∨ b ∈ f1) wr wr := Ch.refl _
      go_wp2_with fail
      refine (markText_any _ _ (by omega) (by omega)).mono ?_
      rintro e v1 ⟨rfl, hb1⟩
      have ho1 := own_ch ho (Ch.of_below (S := fun _ => False) hb1) (fun _ _ h => h)
      clear ho
      have hT1 := hT.trans (Ch.of_below hb1); clear hT; have hT := hT1; clear hT1
      have hgz1 : g < v1.heap.size := Nat.lt_of_lt_of_le hg0 hb1.size; clear hg0; have hg0 := hgz1; clear hgz1
      have o1' := o1.keep hb1; clear o1; have o1 := o1'; clear o1'
      clear hb1
      have e0 : v1.cell? ⟨g, q * 3, none⟩ = some (.string x.nm) := own_mid ho1 hP (r := 0) rfl
      have y0 := ho1.frozenAt (q * 3)
      go_wp2_with fail
      obtain ⟨v2, hv2⟩ : ∃ W, W = (v1.setCell ⟨g, q * 3, none⟩ (.string (mtx (k + ((sumTo snpCnt l q : Nat) : Int))))) := ⟨_, rfl⟩
      have hs2 : v2 = setsW v1 g (q * 3 + 0) ([.string (mtx (k + ((sumTo snpCnt l q : Nat) : Int)))] : List Value) := hv2
      rw [← hv2]
      clear hv2
      have hc2 : Ch (fun b => b = g) v1 v2 := by rw [hs2]; exact ch_setsW _ _ _
      have ho2 : v2.ownsRow 0 195 3 (.slice (some ⟨g, 0, none⟩) n c) n (css1.flatten ++ (([(.string (mtx (k + ((sumTo snpCnt l q : Nat) : Int)))), (.string x.tg), (.slice A1 n1 c1)] : List Value) ++ css2.flatten)) := by
        have hh := own_setsW ([.string (mtx (k + ((sumTo snpCnt l q : Nat) : Int)))] : List Value) (q * 3 + 0) v1 _ ho1
        rw [setsL_in hP (r := 0) (vs := ([.string (mtx (k + ((sumTo snpCnt l q : Nat) : Int)))] : List Value)) (by simp)] at hh
        rw [hs2]; exact hh
      clear e0 y0
      clear hs2 ho1
      have hT2 := hT.trans (hc2.mono (fun b hb => .inl hb)); clear hT; have hT := hT2; clear hT2
      have hgz2 : g < v2.heap.size := Nat.lt_of_lt_of_le hg0 hc2.size; clear hg0; have hg0 := hgz2; clear hgz2
      have o1' := o1.ch hc2 hg1; clear o1; have o1 := o1'; clear o1'
      clear hc2
      refine (markText_any _ _ (by omega) (by omega)).mono ?_
      rintro e v3 ⟨rfl, hb3⟩
      have ho3 := own_ch ho2 (Ch.of_below (S := fun _ => False) hb3) (fun _ _ h => h)
      clear ho2
      have hT3 := hT.trans (Ch.of_below hb3); clear hT; have hT := hT3; clear hT3
      have hgz3 : g < v3.heap.size := Nat.lt_of_lt_of_le hg0 hb3.size; clear hg0; have hg0 := hgz3; clear hgz3
      have o1' := o1.keep hb3; clear o1; have o1 := o1'; clear o1'
      clear hb3
      have e1 : v3.cell? ⟨g, q * 3 + 1, none⟩ = some (.string x.tg) := own_mid ho3 hP (r := 1) rfl
      have y1 := ho3.frozenAt (q * 3 + 1)
      have e2 : v3.cell? ⟨g, q * 3 + 2, none⟩ = some (.slice A1 n1 c1) := own_mid ho3 hP (r := 2) rfl
      go_wp2_with fail
      obtain ⟨v4, hv4⟩ : ∃ W, W = (v3.setCell ⟨g, q * 3 + 1, none⟩ (.string (mtx (k + ((sumTo snpCnt l q : Nat) : Int) + 1)))) := ⟨_, rfl⟩
      have hs4 : v4 = setsW v3 g (q * 3 + 1) ([.string (mtx (k + ((sumTo snpCnt l q : Nat) : Int) + 1))] : List Value) := hv4
      rw [← hv4]
      clear hv4
      have hc4 : Ch (fun b => b = g) v3 v4 := by rw [hs4]; exact ch_setsW _ _ _
      have ho4 : v4.ownsRow 0 195 3 (.slice (some ⟨g, 0, none⟩) n c) n (css1.flatten ++ (([(.string (mtx (k + ((sumTo snpCnt l q : Nat) : Int)))), (.string (mtx (k + ((sumTo snpCnt l q : Nat) : Int) + 1))), (.slice A1 n1 c1)] : List Value) ++ css2.flatten)) := by
        have hh := own_setsW ([.string (mtx (k + ((sumTo snpCnt l q : Nat) : Int) + 1))] : List Value) (q * 3 + 1) v3 _ ho3
        rw [setsL_in hP (r := 1) (vs := ([.string (mtx (k + ((sumTo snpCnt l q : Nat) : Int) + 1))] : List Value)) (by simp)] at hh
        rw [hs4]; exact hh
      clear e1 y1
      clear e2
      clear hs4 ho3
      have hT4 := hT.trans (hc4.mono (fun b hb => .inl hb)); clear hT; have hT := hT4; clear hT4
      have hgz4 : g < v4.heap.size := Nat.lt_of_lt_of_le hg0 hc4.size; clear hg0; have hg0 := hgz4; clear hgz4
      have o1' := o1.ch hc4 hg1; clear o1; have o1 := o1'; clear o1'
      clear hc4
      refine (strsR_mark x.ch f1 _ _ _ _ _ o1 (by omega) (by omega) (by omega)).mono ?_
      rintro e v5 ⟨rfl, o1', hc5⟩
      clear o1; have o1 := o1'; clear o1'
      have ho5 := own_ch ho4 hc5 (fun b hb h2 => hg1 b h2 (by simpa [Value.ownBlock, eq_comm] using hb))
      clear ho4
      have hT5 := hT.trans (hc5.mono (fun b hb => .inr (by simp [hb]))); clear hT; have hT := hT5; clear hT5
      have hgz5 : g < v5.heap.size := Nat.lt_of_lt_of_le hg0 hc5.size; clear hg0; have hg0 := hgz5; clear hgz5
      clear hc5
      go_wp2
      have hE1' := hE1.ch snpK hT hx1
      have hE2' := hE2t.ch snpK hT hx2
      have hE3 := hE1'.app (Els.one (⟨A1, n1, c1, f1, rfl, rfl, o1⟩ : snpF (f1) v5 ([(.string (mtx (k + ((sumTo snpCnt l q : Nat) : Int)))), (.string (mtx (k + ((sumTo snpCnt l q : Nat) : Int) + 1))), (.slice A1 n1 c1)] : List Value) (snpMk (k + ((sumTo snpCnt l q : Nat) : Int)) x)))
      have hsm := snpsMk_snoc k x (l.take q)
      rw [← take_more hx] at hsm
      have hct : ((snpsCnt (l.take q) : Nat) : Int) = ((sumTo snpCnt l q : Nat) : Int) := rfl
      rw [hct] at hsm
      rw [← hsm] at hE3
      refine ⟨⟨q + 1, css1 ++ [([(.string (mtx (k + ((sumTo snpCnt l q : Nat) : Int)))), (.string (mtx (k + ((sumTo snpCnt l q : Nat) : Int) + 1))), (.slice A1 n1 c1)] : List Value)], css2, fps1 ++ [f1], fps2, by omega, by go_num, ?_, by simp, ?_, hE3, hE2', hC.trans (hT.mono (fun b hb => ?_))⟩, by simp [intOf]; omega⟩
      · rw [HSU.out]; congr 1; rw [hcx]; push_cast; omega
      · rw [flat_snoc, List.append_assoc]; exact ho5
      · simp only [blkL, List.flatten_append, List.flatten_cons, List.mem_append, List.mem_cons, List.not_mem_nil, or_false] at hb ⊢
        grind
    · go_wp2
      go_returns
      have hqn : q = n := by omega
      subst hqn
      have hql : l.length ≤ q := by have := HL.out; omega
      rw [List.take_of_length_le hql] at hE1
      rw [List.drop_eq_nil_of_le hql] at hE2
      obtain ⟨rfl, rfl⟩ := hE2.nils
      refine ⟨ret_int ?_, ?_, hC⟩
      · rw [sumTo_all _ _ _ hql]; rfl
      · rw [List.append_nil]; exact RowO.intro (by simpa using ho) (by rw [snpsMk_len]; exact HL.out) hE1
set_option maxRecDepth 8000 in
set_option maxHeartbeats 4000000 in
theorem snps_held (l : List Snp) (A : Option Addr) (n c : Nat) (k : Int) (w : World) (h : RowR snpR 3 w A n c (snpsMk k l)) (hs : snpsSz l ≤ 16777216) (hk0 : 0 < k) (hk1 : k ≤ 288230376151711744) :
    Calls Tryz.prog 138 #[.slice A n c, .int .i64 k] w fun e w' => e = .returned (.int .i64 (k + (snpsCnt l : Nat))) ∧ Below w.heap.size w w' := by
  have HL := Lib.hid (show n = l.length by rw [h.len, snpsMk_len])
  have hn : n ≤ 16777216 := by have h1 := HL.out; unfold snpsSz at hs; omega
  have hcs := snps_cnt l
  go_enter Tryz.func138, Tryz.ntmps138
  go_wp2
  go_loopw [1, 5] (fun u i wr => ∃ (q : Nat), q ≤ n ∧ i = .int .i64 q ∧ u = .int .i64 (k + ((sumTo snpCnt l q : Nat) : Int)) ∧ Below w.heap.size w wr) (fun _ i _ => n - (intOf i).toNat)
  case atStart => exact ⟨0, Nat.zero_le _, rfl, by rw [sumTo_zero]; simp, Below.refl _ _⟩
  case round =>
    obtain ⟨q, hq, rfl, rfl, hb⟩ := hrel
    by_cases hlt : q < n
    · obtain ⟨x, hx⟩ : ∃ x, l[q]? = some x := ⟨_, List.getElem?_eq_getElem (by have := HL.out; omega)⟩
      obtain ⟨b, off, rfl⟩ := h.head (by omega)
      obtain ⟨bl, x', cs, hx', hR, hcell⟩ := h.elem_at hlt
      obtain rfl : x' = snpMk (k + ((sumTo snpCnt l q : Nat) : Int)) x := Option.some.inj (hx'.symm.trans (snpsMk_at k l q x hx))
      obtain ⟨A1, n1, c1, rfl, h1⟩ := hR
      have k0 : w.cell? ⟨b, off + q * 3, none⟩ = some (.string (mtx (k + ((sumTo snpCnt l q : Nat) : Int)))) := hcell 0 _ rfl
      have k1 : w.cell? ⟨b, off + q * 3 + 1, none⟩ = some (.string (mtx (k + ((sumTo snpCnt l q : Nat) : Int) + 1))) := hcell 1 _ rfl
      have k2 : w.cell? ⟨b, off + q * 3 + 2, none⟩ = some (.slice A1 n1 c1) := hcell 2 _ rfl
      clear hcell hx'
      have hek := snps_el hx
      unfold snpSz at hek
      obtain ⟨HSM, HSS⟩ := sum_el snpCnt hx
      have HSU := Lib.hid HSS
      have hle := sumTo_le snpCnt l (q + 1)
      unfold snpsCnt at hcs
      have hcb : sumTo snpCnt l q + snpCnt x ≤ 33554432 := by omega
      clear HSM HSS hle
      have hcx : snpCnt x = 1 + 1 + strsCnt x.ch := rfl
      rw [hcx] at hcb
      have e0 := (hb.cell (p := ⟨b, off + q * 3, none⟩) bl).trans k0
      go_wp2
      go_region_held3 (fun w' => w'.cell? ⟨b, off + q * 3, none⟩ = some (.string (mtx (k + ((sumTo snpCnt l q : Nat) : Int)))) ∧ Below w.heap.size w w') (first | (have hh := ‹_ ∧ _›; exact ⟨keep_cell hbw hh.1, bthen hh.2 hbw⟩) | (have hh := ‹_ ∧ _›; exact ⟨hh.1, hh.2.drew⟩) | exact ⟨e0, hb.drew⟩ | exact ⟨e0, hb⟩) (first | (go_at_call 41; refine (markText_any _ _ (by omega) (by omega)).mono ?_; rintro e w1 ⟨rfl, hbw⟩))
      have hr1 := (by have hh := ‹_ ∧ _›; exact hh.2 : Below w.heap.size w _)
      clear e0
      replace hbw := hr1
      have e1 := (hr1.cell (p := ⟨b, off + q * 3 + 1, none⟩) bl).trans k1
      go_wp2
      go_region_held3 (fun w' => w'.cell? ⟨b, off + q * 3 + 1, none⟩ = some (.string (mtx (k + ((sumTo snpCnt l q : Nat) : Int) + 1))) ∧ Below w.heap.size w w') (first | (have hh := ‹_ ∧ _›; exact ⟨keep_cell hbw hh.1, bthen hh.2 hbw⟩) | (have hh := ‹_ ∧ _›; exact ⟨hh.1, hh.2.drew⟩) | exact ⟨e1, hr1.drew⟩ | exact ⟨e1, hr1⟩) (first | (go_at_call 41; refine (markText_any _ _ (by omega) (by omega)).mono ?_; rintro e w2 ⟨rfl, hbw⟩))
      have hr2 := (by have hh := ‹_ ∧ _›; exact hh.2 : Below w.heap.size w _)
      clear e1
      replace hbw := hr2
      have e2 := (hr2.cell (p := ⟨b, off + q * 3 + 2, none⟩) bl).trans k2
      go_wp2_with fail
      refine (strsR_held x.ch _ _ _ _ _ (h1.keep hr2) (by omega) (by omega) (by omega)).mono ?_
      rintro e w3 ⟨rfl, hb3⟩
      have hr3 := bthen hr2 hb3
      clear e2
      go_wp2
      refine ⟨⟨q + 1, by omega, by go_num, ?_, hr3⟩, by simp [intOf]; omega⟩
      rw [HSU.out]; congr 1; rw [hcx]; push_cast; omega
    · go_wp2
      go_returns
      have hql : l.length ≤ q := by have := HL.out; omega
      refine ⟨ret_int ?_, hb⟩
      rw [sumTo_all _ _ _ hql]; rfl
end Go.Proofs.YtdphdnllhmnelaaGreat
/- CSet: how it lies in memory, the laws' helpers on it. -/
namespace Go.Proofs.YtdphdnllhmnelaaGreat
open Go.RowKit
structure Cst where
  nm : ByteArray
  snaps : List Snp
def cstNil : Cst := ⟨ByteArray.empty, []⟩
def cstAt (l : List Cst) (i : Nat) : Cst := l.getD i cstNil
theorem cstAt_get {l : List Cst} {k : Nat} (h : k < l.length) : cstAt l k = l[k] := by simp [cstAt, h]
theorem cstAt_of {l : List Cst} {k : Nat} {x : Cst} (h : l[k]? = some x) : cstAt l k = x := by simp [cstAt, h]
/-- its cells, its value -/
def cstL (x : Cst) (s1 : Value) : List Value := [.string x.nm, s1]
def cstV (x : Cst) (s1 : Value) : Value := .agg #[.string x.nm, s1]
def cstR (w : World) (cs : List Value) (x : Cst) : Prop := ∃ (A1 : Option Addr) (n1 c1 : Nat), cs = cstL x (.slice A1 n1 c1) ∧ RowR snpR 3 w A1 n1 c1 x.snaps
def cstF (fp : List Nat) (w : World) (cs : List Value) (x : Cst) : Prop := ∃ (A1 : Option Addr) (n1 c1 : Nat) (f1 : List Nat), cs = cstL x (.slice A1 n1 c1) ∧ fp = f1 ∧ RowO snpF 195 3 f1 w A1 n1 c1 x.snaps
theorem cstK : KindOk cstR cstF 2 where
  rlen := fun h => by obtain ⟨A1, n1, c1, rfl, h1⟩ := h; rfl
  rkeep := fun h hb => by obtain ⟨A1, n1, c1, rfl, h1⟩ := h; exact ⟨A1, n1, c1, rfl, h1.keep snpK hb⟩
  flt := fun h b hb => by
    obtain ⟨A1, n1, c1, f1, rfl, rfl, h1⟩ := h
    exact h1.lt snpK b hb
  fch := fun h hc hS => by
    obtain ⟨A1, n1, c1, f1, rfl, rfl, h1⟩ := h
    exact ⟨A1, n1, c1, _, rfl, rfl, h1.ch snpK hc (fun b hb => hS b (by simp [hb]))⟩
  fr := fun h => by obtain ⟨A1, n1, c1, f1, rfl, rfl, h1⟩ := h; exact ⟨A1, n1, c1, rfl, h1.at_ snpK (by omega)⟩
  one := fun h v hv => by
    obtain ⟨A1, n1, c1, rfl, h1⟩ := h
    simp only [cstL, List.mem_cons, List.not_mem_nil, or_false] at hv
    rcases hv with rfl | rfl <;> rfl
/-- its bounds -/
def cstB (x : Cst) : Prop := x.nm.size ≤ 9223372036854775807 ∧ snpsB x.snaps
def cstsB (l : List Cst) : Prop := l.length ≤ 9223372036854775807 ∧ ∀ y ∈ l, cstB y
def cstSz (x : Cst) : Nat := x.nm.size + snpsSz x.snaps
def cstsSz (l : List Cst) : Nat := l.length + (l.map cstSz).sum
theorem csts_el {l : List Cst} {i : Nat} {x : Cst} (hx : l[i]? = some x) : cstSz x ≤ cstsSz l := by have := (sum_el cstSz hx).1; unfold cstsSz; omega
/-- its marks -/
def cstCnt (x : Cst) : Nat := 1 + snpsCnt x.snaps
def cstTop (x : Cst) : Nat := snpsCnt x.snaps
def cstsCnt (l : List Cst) : Nat := (l.map cstCnt).sum
def cstMk (k : Int) (x : Cst) : Cst := ⟨mtx k, snpsMk (k + 1) x.snaps⟩
def cstsMk (k : Int) : List Cst → List Cst
  | [] => []
  | x :: l => cstMk k x :: cstsMk (k + (cstCnt x : Nat)) l
def cstTopMk (k : Int) (x : Cst) : Cst := ⟨x.nm, snpsMk k x.snaps⟩
theorem cstsMk_len (k : Int) : ∀ l : List Cst, (cstsMk k l).length = l.length
  | [] => rfl
  | x :: l => by simp [cstsMk, cstsMk_len]
theorem cstsMk_snoc (k : Int) (x : Cst) : ∀ l : List Cst, cstsMk k (l ++ [x]) = cstsMk k l ++ [cstMk (k + (cstsCnt l : Nat)) x]
  | [] => by simp [cstsMk, cstsCnt]
  | y :: l => by
    have := cstsMk_snoc (k + (cstCnt y : Nat)) x l
    have e : k + (cstCnt y : Nat) + ((cstsCnt l : Nat) : Int) = k + ((cstsCnt (y :: l) : Nat) : Int) := by simp only [cstsCnt, List.map_cons, List.sum_cons]; push_cast; omega
    simp only [List.cons_append, cstsMk, this, e]
theorem cstsMk_at (k : Int) : ∀ (l : List Cst) (i : Nat) (x : Cst), l[i]? = some x → (cstsMk k l)[i]? = some (cstMk (k + (sumTo cstCnt l i : Nat)) x)
  | [], i, x, h => by simp at h
  | y :: l, 0, x, h => by simp at h; subst h; simp [cstsMk, sumTo]
  | y :: l, i + 1, x, h => by
    have := cstsMk_at (k + (cstCnt y : Nat)) l i x (by simpa using h)
    have e : k + (cstCnt y : Nat) + ((sumTo cstCnt l i : Nat) : Int) = k + ((sumTo cstCnt (y :: l) (i + 1) : Nat) : Int) := by simp only [sumTo, List.take_succ_cons, List.map_cons, List.sum_cons]; push_cast; omega
    simp only [cstsMk, List.getElem?_cons_succ, this, e]
theorem cst_cnt (x : Cst) : cstCnt x ≤ 2 * (1 + cstSz x) := by have g0 := snps_cnt x.snaps; unfold cstCnt cstSz; omega
theorem csts_cnt : ∀ l : List Cst, cstsCnt l ≤ 2 * cstsSz l
  | [] => by simp [cstsCnt]
  | x :: l => by have h1 := csts_cnt l; have h2 := cst_cnt x; simp only [cstsCnt, cstsSz, List.map_cons, List.sum_cons, List.length_cons] at *; omega
theorem cst_top (x : Cst) : cstTop x ≤ 2 * cstSz x := by have t1 := snps_cnt x.snaps; unfold cstTop cstSz; omega
attribute [local irreducible] StrR IntR StrO IntO RowR RowO StrsAt IntsAt
set_option maxRecDepth 8000 in
theorem cst_eq (x : Cst) (A1 : Option Addr) (n1 c1 : Nat) (A1' : Option Addr) (n1' c1' : Nat) (w : World) (h1 : RowR snpR 3 w A1 n1 c1 x.snaps) (h1' : RowR snpR 3 w A1' n1' c1' x.snaps) (hs : cstSz x ≤ 16777216) :
    Calls Tryz.prog 136 #[(cstV x (.slice A1 n1 c1)), (cstV x (.slice A1' n1' c1'))] w fun e w' => e = .returned (.bool true) ∧ Below w.heap.size w w' := by
  unfold cstSz at hs
  unfold cstV
  go_enter Tryz.func136, Tryz.ntmps136
  go_wp2_with fail
  refine (snps_eq x.snaps _ _ _ _ _ _ _ (h1.keep snpK (by go_grown)) (h1'.keep snpK (by go_grown)) (by omega)).mono ?_
  rintro e w1 ⟨rfl, hb1⟩
  obtain ⟨hc_w1, hf_w1⟩ := bcell hb1
  have hz_w1 := hb1.size
  try simp at hz_w1
  have hB_w1 : Below w.heap.size w w1 := bthen (by go_grown) hb1
  have hz_w1_0 : w.heap.size < w1.heap.size := by omega
  have hz_w1_1 : w.heap.size + 1 < w1.heap.size := by omega
  go_wp2
  go_returns
  exact ⟨rfl, hB_w1⟩
set_option maxRecDepth 8000 in
set_option maxHeartbeats 1000000 in
theorem csts_eq (l : List Cst) (A : Option Addr) (n c : Nat) (A' : Option Addr) (n' c' : Nat) (w : World) (h : RowR cstR 2 w A n c l) (h' : RowR cstR 2 w A' n' c' l) (hs : cstsSz l ≤ 16777216) :
    Calls Tryz.prog 82 #[.slice A n c, .slice A' n' c'] w fun e w' => e = .returned (.bool true) ∧ Below w.heap.size w w' := by
  obtain rfl : n = n' := h.len.trans h'.len.symm
  have hn : n ≤ 16777216 := by have h1 := h.len; unfold cstsSz at hs; omega
  go_enter Tryz.func82, Tryz.ntmps82
  go_wp2
  go_loopw [5] (fun i wr => ∃ (k : Nat), k ≤ n ∧ i = .int .i64 k ∧ Below w.heap.size w wr) (fun i _ => n - (intOf i).toNat)
  case atStart => exact ⟨0, Nat.zero_le _, rfl, Below.refl _ _⟩
  case round =>
    obtain ⟨k, hk, rfl, hb⟩ := hrel
    by_cases hlt : k < n
    · obtain ⟨b, off, rfl⟩ := h.head (by omega)
      obtain ⟨bl, x, cs, hx, hR, hcell⟩ := h.elem_at hlt
      obtain ⟨A1, n1, c1, rfl, h1⟩ := hR
      have e0 := (hb.cell (p := ⟨b, off + k * 2, none⟩) bl).trans (show w.cell? ⟨b, off + k * 2, none⟩ = some (.string x.nm) from hcell 0 _ rfl)
      have e1 := (hb.cell (p := ⟨b, off + k * 2 + 1, none⟩) bl).trans (show w.cell? ⟨b, off + k * 2 + 1, none⟩ = some (.slice A1 n1 c1) from hcell 1 _ rfl)
      clear hcell
      obtain ⟨b', off', rfl⟩ := h'.head (by omega)
      obtain ⟨b'l, x', cs', hx', hR', hcell'⟩ := h'.elem_at hlt
      obtain rfl : x' = x := Option.some.inj (hx'.symm.trans hx)
      obtain ⟨A1', n1', c1', rfl, h1'⟩ := hR'
      have e0' := (hb.cell (p := ⟨b', off' + k * 2, none⟩) b'l).trans (show w.cell? ⟨b', off' + k * 2, none⟩ = some (.string x'.nm) from hcell' 0 _ rfl)
      have e1' := (hb.cell (p := ⟨b', off' + k * 2 + 1, none⟩) b'l).trans (show w.cell? ⟨b', off' + k * 2 + 1, none⟩ = some (.slice A1' n1' c1') from hcell' 1 _ rfl)
      clear hcell' hx'
      have hek := csts_el hx
      have hn63 : (k : Int) < n := by omega
      go_wp2
      go_still_tail 8, (by kernel_rfl)
      change wpList _ _ _ _ _ wr.drew
      have hbd : Below w.heap.size w wr.drew := hb.drew
      generalize wr.drew = w2 at *
      go_wp2_with fail
      refine (cst_eq x' _ _ _ _ _ _ _ (h1.keep snpK hbd) (h1'.keep snpK hbd) (by omega)).mono ?_
      rintro e w3 ⟨rfl, hb3⟩
      go_wp2
      exact ⟨⟨k + 1, by omega, by go_num, bthen hbd hb3⟩, by simp [intOf]; omega⟩
    · go_wp2
      go_returns
      exact ⟨rfl, hb⟩
set_option maxRecDepth 8000 in
set_option maxHeartbeats 4000000 in
theorem csts_mark (l : List Cst) (fp : List Nat) (A : Option Addr) (n c : Nat) (k : Int) (w : World) (h : RowO cstF 165 2 fp w A n c l) (hN : fp.Nodup) (hs : cstsSz l ≤ 16777216) (hk0 : 0 < k) (hk1 : k ≤ 144115188075855872) :
    Calls Tryz.prog 85 #[.slice A n c, .int .i64 k] w fun e w' => e = .returned (.int .i64 (k + (cstsCnt l : Nat))) ∧ RowO cstF 165 2 fp w' A n c (cstsMk k l) ∧ Ch (fun b => b ∈ fp) w w' := by
  obtain ⟨css0, fps0, rfl, hown0, hl0, hE0⟩ := h.ex
  have HL := Lib.hid hl0; clear hl0
  have hn : n ≤ 16777216 := by have h1 := HL.out; unfold cstsSz at hs; omega
  have hcs := csts_cnt l
  go_enter Tryz.func85, Tryz.ntmps85
  go_wp2
  go_loopw [1, 5] (fun u i wr => ∃ (q : Nat) (css1 css2 : List (List Value)) (fps1 fps2 : List (List Nat)), q ≤ n ∧ i = .int .i64 q ∧ u = .int .i64 (k + ((sumTo cstCnt l q : Nat) : Int)) ∧ fps0 = fps1 ++ fps2 ∧ wr.ownsRow 0 165 2 (.slice A n c) n (css1.flatten ++ css2.flatten) ∧ Els cstF wr css1 fps1 (cstsMk k (l.take q)) ∧ Els cstF wr css2 fps2 (l.drop q) ∧ Ch (fun b => b ∈ blkL A ++ fps0.flatten) w wr) (fun _ i _ => n - (intOf i).toNat)
  case atStart => exact ⟨0, [], css0, [], fps0, Nat.zero_le _, rfl, by rw [sumTo_zero]; simp, rfl, by simpa using hown0, Els.nil, by simpa using hE0, Ch.refl _⟩
  case round =>
    clear hown0 hE0 h
    obtain ⟨q, css1, css2, fps1, fps2, hq, rfl, rfl, rfl, ho, hE1, hE2, hC⟩ := hrel
    by_cases hlt : q < n
    · obtain ⟨x, hx⟩ : ∃ x, l[q]? = some x := ⟨_, List.getElem?_eq_getElem (by have := HL.out; omega)⟩
      rw [drop_one hx] at hE2
      obtain ⟨cs, css2, f, fps2, rfl, rfl, hF, hE2t⟩ := hE2.cons
      clear hE2
      obtain ⟨A1, n1, c1, f1, rfl, hf1, o1⟩ := hF
      replace hf1 := hf1.symm
      subst hf1
      obtain ⟨g, hA, hg0⟩ : ∃ g, A = some ⟨g, 0, none⟩ ∧ g < wr.heap.size := by rcases own_form ho with ⟨_, h0, _⟩ | ⟨g, h1, _, h2⟩ <;> first | omega | exact ⟨g, h1, h2⟩
      subst hA
      have hP : css1.flatten.length = q * 2 := by rw [hE1.flat cstK, cstsMk_len, List.length_take]; have := HL.out; rw [Nat.min_eq_left (by omega)]
      rw [List.flatten_cons] at ho
      unfold cstL at ho
      have hek := csts_el hx
      unfold cstSz at hek
      obtain ⟨HSM, HSS⟩ := sum_el cstCnt hx
      have HSU := Lib.hid HSS
      have hle := sumTo_le cstCnt l (q + 1)
      unfold cstsCnt at hcs
      have hcb : sumTo cstCnt l q + cstCnt x ≤ 33554432 := by omega
      clear HSM HSS hle
      have hcx : cstCnt x = 1 + snpsCnt x.snaps := rfl
      rw [hcx] at hcb
      have hN' := hN
      simp only [blkL, List.flatten_append, List.flatten_cons, List.nodup_append, List.nodup_cons, List.mem_append, List.mem_cons, List.not_mem_nil, or_false, not_or, List.append_assoc, List.cons_append, List.nil_append] at hN'
      have hg1 : ∀ b ∈ f1, ¬ b = g := fun b hb e => by subst e; grind
      have hx1 : ∀ b ∈ fps1.flatten, ¬ (b = g ∨ b ∈ f1) := fun b h1 h2 => by (try simp only [List.mem_append] at h2); grind
      have hx2 : ∀ b ∈ fps2.flatten, ¬ (b = g ∨ b ∈ f1) := fun b h1 h2 => by (try simp only [List.mem_append] at h2); grind
      clear hN'
      have hT : Ch (fun b => b = g ∨ b ∈ f1) wr wr := Ch.refl _
      go_wp2_with fail
      refine (markText_any _ _ (by omega) (by omega)).mono ?_
      rintro e v1 ⟨rfl, hb1⟩
      have ho1 := own_ch ho (Ch.of_below (S := fun _ => False) hb1) (fun _ _ h => h)
      clear ho
      have hT1 := hT.trans (Ch.of_below hb1); clear hT; have hT := hT1; clear hT1
      have hgz1 : g < v1.heap.size := Nat.lt_of_lt_of_le hg0 hb1.size; clear hg0; have hg0 := hgz1; clear hgz1
      have o1' := o1.keep snpK hb1; clear o1; have o1 := o1'; clear o1'
      clear hb1
      have e0 : v1.cell? ⟨g, q * 2, none⟩ = some (.string x.nm) := own_mid ho1 hP (r := 0) rfl
      have y0 := ho1.frozenAt (q * 2)
      have e1 : v1.cell? ⟨g, q * 2 + 1, none⟩ = some (.slice A1 n1 c1) := own_mid ho1 hP (r := 1) rfl
      go_wp2_with fail
      obtain ⟨v2, hv2⟩ : ∃ W, W = (v1.setCell ⟨g, q * 2, none⟩ (.string (mtx (k + ((sumTo cstCnt l q : Nat) : Int))))) := ⟨_, rfl⟩
      have hs2 : v2 = setsW v1 g (q * 2 + 0) ([.string (mtx (k + ((sumTo cstCnt l q : Nat) : Int)))] : List Value) := hv2
      rw [← hv2]
      clear hv2
      have hc2 : Ch (fun b => b = g) v1 v2 := by rw [hs2]; exact ch_setsW _ _ _
      have ho2 : v2.ownsRow 0 165 2 (.slice (some ⟨g, 0, none⟩) n c) n (css1.flatten ++ (([(.string (mtx (k + ((sumTo cstCnt l q : Nat) : Int)))), (.slice A1 n1 c1)] : List Value) ++ css2.flatten)) := by
        have hh := own_setsW ([.string (mtx (k + ((sumTo cstCnt l q : Nat) : Int)))] : List Value) (q * 2 + 0) v1 _ ho1
        rw [setsL_in hP (r := 0) (vs := ([.string (mtx (k + ((sumTo cstCnt l q : Nat) : Int)))] : List Value)) (by simp)] at hh
        rw [hs2]; exact hh
      clear e0 y0
      clear e1
      clear hs2 ho1
      have hT2 := hT.trans (hc2.mono (fun b hb => .inl hb)); clear hT; have hT := hT2; clear hT2
      have hgz2 : g < v2.heap.size := Nat.lt_of_lt_of_le hg0 hc2.size; clear hg0; have hg0 := hgz2; clear hgz2
      have o1' := o1.ch snpK hc2 hg1; clear o1; have o1 := o1'; clear o1'
      clear hc2
      refine (snps_mark x.snaps f1 _ _ _ _ _ o1 (by grind) (by omega) (by omega) (by omega)).mono ?_
      rintro e v3 ⟨rfl, o1', hc3⟩
      clear o1; have o1 := o1'; clear o1'
      have ho3 := own_ch ho2 hc3 (fun b hb h2 => hg1 b h2 (by simpa [Value.ownBlock, eq_comm] using hb))
      clear ho2
      have hT3 := hT.trans (hc3.mono (fun b hb => .inr (by simp [hb]))); clear hT; have hT := hT3; clear hT3
      have hgz3 : g < v3.heap.size := Nat.lt_of_lt_of_le hg0 hc3.size; clear hg0; have hg0 := hgz3; clear hgz3
      clear hc3
      go_wp2
      have hE1' := hE1.ch cstK hT hx1
      have hE2' := hE2t.ch cstK hT hx2
      have hE3 := hE1'.app (Els.one (⟨A1, n1, c1, f1, rfl, rfl, o1⟩ : cstF (f1) v3 ([(.string (mtx (k + ((sumTo cstCnt l q : Nat) : Int)))), (.slice A1 n1 c1)] : List Value) (cstMk (k + ((sumTo cstCnt l q : Nat) : Int)) x)))
      have hsm := cstsMk_snoc k x (l.take q)
      rw [← take_more hx] at hsm
      have hct : ((cstsCnt (l.take q) : Nat) : Int) = ((sumTo cstCnt l q : Nat) : Int) := rfl
      rw [hct] at hsm
      rw [← hsm] at hE3
      refine ⟨⟨q + 1, css1 ++ [([(.string (mtx (k + ((sumTo cstCnt l q : Nat) : Int)))), (.slice A1 n1 c1)] : List Value)], css2, fps1 ++ [f1], fps2, by omega, by go_num, ?_, by simp, ?_, hE3, hE2', hC.trans (hT.mono (fun b hb => ?_))⟩, by simp [intOf]; omega⟩
      · rw [HSU.out]; congr 1; rw [hcx]; push_cast; omega
      · rw [flat_snoc, List.append_assoc]; exact ho3
      · simp only [blkL, List.flatten_append, List.flatten_cons, List.mem_append, List.mem_cons, List.not_mem_nil, or_false] at hb ⊢
        grind
    · go_wp2
      go_returns
      have hqn : q = n := by omega
      subst hqn
      have hql : l.length ≤ q := by have := HL.out; omega
      rw [List.take_of_length_le hql] at hE1
      rw [List.drop_eq_nil_of_le hql] at hE2
      obtain ⟨rfl, rfl⟩ := hE2.nils
      refine ⟨ret_int ?_, ?_, hC⟩
      · rw [sumTo_all _ _ _ hql]; rfl
      · rw [List.append_nil]; exact RowO.intro (by simpa using ho) (by rw [cstsMk_len]; exact HL.out) hE1
set_option maxRecDepth 8000 in
set_option maxHeartbeats 4000000 in
theorem csts_held (l : List Cst) (A : Option Addr) (n c : Nat) (k : Int) (w : World) (h : RowR cstR 2 w A n c (cstsMk k l)) (hs : cstsSz l ≤ 16777216) (hk0 : 0 < k) (hk1 : k ≤ 144115188075855872) :
    Calls Tryz.prog 86 #[.slice A n c, .int .i64 k] w fun e w' => e = .returned (.int .i64 (k + (cstsCnt l : Nat))) ∧ Below w.heap.size w w' := by
  have HL := Lib.hid (show n = l.length by rw [h.len, cstsMk_len])
  have hn : n ≤ 16777216 := by have h1 := HL.out; unfold cstsSz at hs; omega
  have hcs := csts_cnt l
  go_enter Tryz.func86, Tryz.ntmps86
  go_wp2
  go_loopw [1, 5] (fun u i wr => ∃ (q : Nat), q ≤ n ∧ i = .int .i64 q ∧ u = .int .i64 (k + ((sumTo cstCnt l q : Nat) : Int)) ∧ Below w.heap.size w wr) (fun _ i _ => n - (intOf i).toNat)
  case atStart => exact ⟨0, Nat.zero_le _, rfl, by rw [sumTo_zero]; simp, Below.refl _ _⟩
  case round =>
    obtain ⟨q, hq, rfl, rfl, hb⟩ := hrel
    by_cases hlt : q < n
    · obtain ⟨x, hx⟩ : ∃ x, l[q]? = some x := ⟨_, List.getElem?_eq_getElem (by have := HL.out; omega)⟩
      obtain ⟨b, off, rfl⟩ := h.head (by omega)
      obtain ⟨bl, x', cs, hx', hR, hcell⟩ := h.elem_at hlt
      obtain rfl : x' = cstMk (k + ((sumTo cstCnt l q : Nat) : Int)) x := Option.some.inj (hx'.symm.trans (cstsMk_at k l q x hx))
      obtain ⟨A1, n1, c1, rfl, h1⟩ := hR
      have k0 : w.cell? ⟨b, off + q * 2, none⟩ = some (.string (mtx (k + ((sumTo cstCnt l q : Nat) : Int)))) := hcell 0 _ rfl
      have k1 : w.cell? ⟨b, off + q * 2 + 1, none⟩ = some (.slice A1 n1 c1) := hcell 1 _ rfl
      clear hcell hx'
      have hek := csts_el hx
      unfold cstSz at hek
      obtain ⟨HSM, HSS⟩ := sum_el cstCnt hx
      have HSU := Lib.hid HSS
      have hle := sumTo_le cstCnt l (q + 1)
      unfold cstsCnt at hcs
      have hcb : sumTo cstCnt l q + cstCnt x ≤ 33554432 := by omega
      clear HSM HSS hle
      have hcx : cstCnt x = 1 + snpsCnt x.snaps := rfl
      rw [hcx] at hcb
      have e0 := (hb.cell (p := ⟨b, off + q * 2, none⟩) bl).trans k0
      go_wp2
      go_region_held3 (fun w' => w'.cell? ⟨b, off + q * 2, none⟩ = some (.string (mtx (k + ((sumTo cstCnt l q : Nat) : Int)))) ∧ Below w.heap.size w w') (first | (have hh := ‹_ ∧ _›; exact ⟨keep_cell hbw hh.1, bthen hh.2 hbw⟩) | (have hh := ‹_ ∧ _›; exact ⟨hh.1, hh.2.drew⟩) | exact ⟨e0, hb.drew⟩ | exact ⟨e0, hb⟩) (first | (go_at_call 41; refine (markText_any _ _ (by omega) (by omega)).mono ?_; rintro e w1 ⟨rfl, hbw⟩))
      have hr1 := (by have hh := ‹_ ∧ _›; exact hh.2 : Below w.heap.size w _)
      clear e0
      replace hbw := hr1
      have e1 := (hr1.cell (p := ⟨b, off + q * 2 + 1, none⟩) bl).trans k1
      go_wp2_with fail
      refine (snps_held x.snaps _ _ _ _ _ (h1.keep snpK hr1) (by omega) (by omega) (by omega)).mono ?_
      rintro e w2 ⟨rfl, hb2⟩
      have hr2 := bthen hr1 hb2
      clear e1
      go_wp2
      refine ⟨⟨q + 1, by omega, by go_num, ?_, hr2⟩, by simp [intOf]; omega⟩
      rw [HSU.out]; congr 1; rw [hcx]; push_cast; omega
    · go_wp2
      go_returns
      have hql : l.length ≤ q := by have := HL.out; omega
      refine ⟨ret_int ?_, hb⟩
      rw [sumTo_all _ _ _ hql]; rfl
end Go.Proofs.YtdphdnllhmnelaaGreat
/- Catalog: how it lies in memory, the laws' helpers on it. -/
namespace Go.Proofs.YtdphdnllhmnelaaGreat
open Go.RowKit
structure Ctl where
  sets : List Cst
def ctlNil : Ctl := ⟨[]⟩
def ctlAt (l : List Ctl) (i : Nat) : Ctl := l.getD i ctlNil
theorem ctlAt_get {l : List Ctl} {k : Nat} (h : k < l.length) : ctlAt l k = l[k] := by simp [ctlAt, h]
theorem ctlAt_of {l : List Ctl} {k : Nat} {x : Ctl} (h : l[k]? = some x) : ctlAt l k = x := by simp [ctlAt, h]
/-- its cells, its value -/
def ctlL (x : Ctl) (s1 : Value) : List Value := [s1]
def ctlV (x : Ctl) (s1 : Value) : Value := .agg #[s1]
def ctlR (w : World) (cs : List Value) (x : Ctl) : Prop := ∃ (A1 : Option Addr) (n1 c1 : Nat), cs = ctlL x (.slice A1 n1 c1) ∧ RowR cstR 2 w A1 n1 c1 x.sets
def ctlF (fp : List Nat) (w : World) (cs : List Value) (x : Ctl) : Prop := ∃ (A1 : Option Addr) (n1 c1 : Nat) (f1 : List Nat), cs = ctlL x (.slice A1 n1 c1) ∧ fp = f1 ∧ RowO cstF 165 2 f1 w A1 n1 c1 x.sets
theorem ctlK : KindOk ctlR ctlF 1 where
  rlen := fun h => by obtain ⟨A1, n1, c1, rfl, h1⟩ := h; rfl
  rkeep := fun h hb => by obtain ⟨A1, n1, c1, rfl, h1⟩ := h; exact ⟨A1, n1, c1, rfl, h1.keep cstK hb⟩
  flt := fun h b hb => by
    obtain ⟨A1, n1, c1, f1, rfl, rfl, h1⟩ := h
    exact h1.lt cstK b hb
  fch := fun h hc hS => by
    obtain ⟨A1, n1, c1, f1, rfl, rfl, h1⟩ := h
    exact ⟨A1, n1, c1, _, rfl, rfl, h1.ch cstK hc (fun b hb => hS b (by simp [hb]))⟩
  fr := fun h => by obtain ⟨A1, n1, c1, f1, rfl, rfl, h1⟩ := h; exact ⟨A1, n1, c1, rfl, h1.at_ cstK (by omega)⟩
  one := fun h v hv => by
    obtain ⟨A1, n1, c1, rfl, h1⟩ := h
    simp only [ctlL, List.mem_cons, List.not_mem_nil, or_false] at hv
    rcases hv with rfl <;> rfl
/-- its bounds -/
def ctlB (x : Ctl) : Prop := cstsB x.sets
def ctlsB (l : List Ctl) : Prop := l.length ≤ 9223372036854775807 ∧ ∀ y ∈ l, ctlB y
def ctlSz (x : Ctl) : Nat := cstsSz x.sets
def ctlsSz (l : List Ctl) : Nat := l.length + (l.map ctlSz).sum
theorem ctls_el {l : List Ctl} {i : Nat} {x : Ctl} (hx : l[i]? = some x) : ctlSz x ≤ ctlsSz l := by have := (sum_el ctlSz hx).1; unfold ctlsSz; omega
/-- its marks -/
def ctlCnt (x : Ctl) : Nat := cstsCnt x.sets
def ctlTop (x : Ctl) : Nat := cstsCnt x.sets
def ctlsCnt (l : List Ctl) : Nat := (l.map ctlCnt).sum
def ctlMk (k : Int) (x : Ctl) : Ctl := ⟨cstsMk k x.sets⟩
def ctlsMk (k : Int) : List Ctl → List Ctl
  | [] => []
  | x :: l => ctlMk k x :: ctlsMk (k + (ctlCnt x : Nat)) l
def ctlTopMk (k : Int) (x : Ctl) : Ctl := ⟨cstsMk k x.sets⟩
theorem ctlsMk_len (k : Int) : ∀ l : List Ctl, (ctlsMk k l).length = l.length
  | [] => rfl
  | x :: l => by simp [ctlsMk, ctlsMk_len]
theorem ctlsMk_snoc (k : Int) (x : Ctl) : ∀ l : List Ctl, ctlsMk k (l ++ [x]) = ctlsMk k l ++ [ctlMk (k + (ctlsCnt l : Nat)) x]
  | [] => by simp [ctlsMk, ctlsCnt]
  | y :: l => by
    have := ctlsMk_snoc (k + (ctlCnt y : Nat)) x l
    have e : k + (ctlCnt y : Nat) + ((ctlsCnt l : Nat) : Int) = k + ((ctlsCnt (y :: l) : Nat) : Int) := by simp only [ctlsCnt, List.map_cons, List.sum_cons]; push_cast; omega
    simp only [List.cons_append, ctlsMk, this, e]
theorem ctlsMk_at (k : Int) : ∀ (l : List Ctl) (i : Nat) (x : Ctl), l[i]? = some x → (ctlsMk k l)[i]? = some (ctlMk (k + (sumTo ctlCnt l i : Nat)) x)
  | [], i, x, h => by simp at h
  | y :: l, 0, x, h => by simp at h; subst h; simp [ctlsMk, sumTo]
  | y :: l, i + 1, x, h => by
    have := ctlsMk_at (k + (ctlCnt y : Nat)) l i x (by simpa using h)
    have e : k + (ctlCnt y : Nat) + ((sumTo ctlCnt l i : Nat) : Int) = k + ((sumTo ctlCnt (y :: l) (i + 1) : Nat) : Int) := by simp only [sumTo, List.take_succ_cons, List.map_cons, List.sum_cons]; push_cast; omega
    simp only [ctlsMk, List.getElem?_cons_succ, this, e]
theorem ctl_cnt (x : Ctl) : ctlCnt x ≤ 2 * (1 + ctlSz x) := by have g0 := csts_cnt x.sets; unfold ctlCnt ctlSz; omega
theorem ctls_cnt : ∀ l : List Ctl, ctlsCnt l ≤ 2 * ctlsSz l
  | [] => by simp [ctlsCnt]
  | x :: l => by have h1 := ctls_cnt l; have h2 := ctl_cnt x; simp only [ctlsCnt, ctlsSz, List.map_cons, List.sum_cons, List.length_cons] at *; omega
theorem ctl_top (x : Ctl) : ctlTop x ≤ 2 * ctlSz x := by have t0 := csts_cnt x.sets; unfold ctlTop ctlSz; omega
attribute [local irreducible] StrR IntR StrO IntO RowR RowO StrsAt IntsAt
set_option maxRecDepth 8000 in
theorem ctl_eq (x : Ctl) (A1 : Option Addr) (n1 c1 : Nat) (A1' : Option Addr) (n1' c1' : Nat) (w : World) (h1 : RowR cstR 2 w A1 n1 c1 x.sets) (h1' : RowR cstR 2 w A1' n1' c1' x.sets) (hs : ctlSz x ≤ 16777216) :
    Calls Tryz.prog 38 #[(ctlV x (.slice A1 n1 c1)), (ctlV x (.slice A1' n1' c1'))] w fun e w' => e = .returned (.bool true) ∧ Below w.heap.size w w' := by
  unfold ctlSz at hs
  unfold ctlV
  go_enter Tryz.func38, Tryz.ntmps38
  go_wp2_with fail
  refine (csts_eq x.sets _ _ _ _ _ _ _ (h1.keep cstK (by go_grown)) (h1'.keep cstK (by go_grown)) (by omega)).mono ?_
  rintro e w1 ⟨rfl, hb1⟩
  obtain ⟨hc_w1, hf_w1⟩ := bcell hb1
  have hz_w1 := hb1.size
  try simp at hz_w1
  have hB_w1 : Below w.heap.size w w1 := bthen (by go_grown) hb1
  have hz_w1_0 : w.heap.size < w1.heap.size := by omega
  have hz_w1_1 : w.heap.size + 1 < w1.heap.size := by omega
  go_wp2
  go_returns
  exact ⟨rfl, hB_w1⟩
set_option maxRecDepth 8000 in
theorem ctl_mark (x : Ctl) (f1 : List Nat) (A1 : Option Addr) (n1 c1 : Nat) (k : Int) (w : World) (h1 : RowO cstF 165 2 f1 w A1 n1 c1 x.sets) (hN : (f1).Nodup) (hs : ctlSz x ≤ 16777216) (hk0 : 0 < k) (hk1 : k ≤ 72057594037927936) :
    Calls Tryz.prog 43 #[(ctlV x (.slice A1 n1 c1)), .int .i64 k] w fun e w' => e = .returned (.int .i64 (k + (ctlTop x : Nat))) ∧ RowO cstF 165 2 f1 w' A1 n1 c1 (ctlTopMk k x).sets ∧ Ch (fun b => b ∈ f1) w w' := by
  have htop := ctl_top x
  have hsz := hs; unfold ctlSz at hsz; unfold ctlTop at htop
  unfold ctlV
  have al := (Below.refl w.heap.size w).alloc (Nat.le_refl _) (.cells #[.slice A1 n1 c1] 27)
  have a1 := h1.keep cstK al
  have hC0 : Ch (fun b => b ∈ f1) w (w.alloc (.cells #[.slice A1 n1 c1] 27)) := Ch.of_below al
  have e0 : (w.alloc (.cells #[.slice A1 n1 c1] 27)).cell? ⟨w.heap.size, 0, none⟩ = some (.slice A1 n1 c1) := by simp [go_sem]
  have lt1 := h1.lt cstK
  go_enter Tryz.func43, Tryz.ntmps43
  go_wp2_with fail
  refine (csts_mark x.sets f1 _ _ _ _ _ a1 (hN) (by omega) (by omega) (by omega)).mono ?_
  rintro e w1 ⟨rfl, b1, hc1⟩
  have hC1 : Ch (fun b => b ∈ f1) w w1 := hC0.trans hc1
  have e0' := hc1.cell e0 (by intro hb; have := lt1 _ hb; omega); clear e0; have e0 := e0'; clear e0'
  go_wp2
  go_returns
  refine ⟨ret_int (by unfold ctlTop; push_cast; omega), b1, hC1⟩
set_option maxRecDepth 8000 in
theorem ctl_held (x : Ctl) (y : Ctl) (A1 : Option Addr) (n1 c1 : Nat) (k : Int) (w : World) (h1 : RowR cstR 2 w A1 n1 c1 (ctlTopMk k x).sets) (hs : ctlSz x ≤ 16777216) (hk0 : 0 < k) (hk1 : k ≤ 72057594037927936) :
    Calls Tryz.prog 45 #[(ctlV y (.slice A1 n1 c1)), .int .i64 k] w fun e w' => e = .returned (.int .i64 (k + (ctlTop x : Nat))) ∧ Below w.heap.size w w' := by
  have htop := ctl_top x
  have hsz := hs; unfold ctlSz at hsz; unfold ctlTop at htop
  unfold ctlV
  go_enter Tryz.func45, Tryz.ntmps45
  go_wp2_with fail
  refine (csts_held x.sets _ _ _ _ _ (h1.keep cstK (by go_grown)) (by omega) (by omega) (by omega)).mono ?_
  rintro e w1 ⟨rfl, hb1⟩
  obtain ⟨hc_w1, hf_w1⟩ := bcell hb1
  have hz_w1 := hb1.size
  try simp at hz_w1
  have hB_w1 : Below w.heap.size w w1 := bthen (by go_grown) hb1
  have hz_w1_0 : w.heap.size < w1.heap.size := by omega
  go_wp2
  go_returns
  exact ⟨ret_int (by unfold ctlTop; push_cast; omega), hB_w1⟩
end Go.Proofs.YtdphdnllhmnelaaGreat
/- Rows that are owned: appending an element, changing an element. -/
namespace Go.Proofs.YtdphdnllhmnelaaGreat
open Go.RowKit
/-- the walk stands still here -/
def Stop (p : Prop) : Prop := p
theorem stop_of {p : Prop} (h : Stop p) : p := h
theorem IntO.mk' {w : World} {A : Option Addr} {n c : Nat} {l : List Int} (h : w.ownsRow 0 3 1 (.slice A n c) n (l.map (Value.int .i64))) : IntO (blkL A) w A n c l := ⟨rfl, h⟩
theorem IntO.own {fp : List Nat} {w : World} {A : Option Addr} {n c : Nat} {l : List Int} (h : IntO fp w A n c l) : fp = blkL A ∧ w.ownsRow 0 3 1 (.slice A n c) n (l.map (Value.int .i64)) := h
theorem IntR.at_r {w : World} {A : Option Addr} {n c : Nat} {l : List Int} (h : IntR w A n c l) : IntsAt w A n l := h.1
theorem StrO.mk' {w : World} {A : Option Addr} {n c : Nat} {l : List ByteArray} (h : w.ownsRow 0 9 1 (.slice A n c) n (l.map Value.string)) : StrO (blkL A) w A n c l := ⟨rfl, h⟩
theorem StrO.own {fp : List Nat} {w : World} {A : Option Addr} {n c : Nat} {l : List ByteArray} (h : StrO fp w A n c l) : fp = blkL A ∧ w.ownsRow 0 9 1 (.slice A n c) n (l.map Value.string) := h
section
variable {α : Type} {R : World → List Value → α → Prop} {F : List Nat → World → List Value → α → Prop} {e sz n c c' m : Nat} {w w' : World} {fps : List (List Nat)} {css : List (List Value)} {A A' : Option Addr} {l : List α} {cs : List Value} {f : List Nat} {x : α}
/-- one element more behind an append -/
theorem app_els (K : KindOk R F sz) (hE : Els F w css fps l) (hx : F f w cs x) (hN : (blkL A ++ (fps ++ [f]).flatten).Nodup) (hg : w.grownBy w' (Value.slice A n c).ownBlock)
    (hob : (Value.slice A' (n + 1) c').ownBlock = (Value.slice A n c).ownBlock ∨ (Value.slice A' (n + 1) c').ownBlock = some m) (hm : w.heap.size ≤ m) :
    Els F w' (css ++ [cs]) (fps ++ [f]) (l ++ [x]) ∧ (blkL A' ++ (fps ++ [f]).flatten).Nodup ∧ ∀ b ∈ blkL A', b ∈ blkL A ∨ b = m := by
  have hE2 := hE.app (Els.one hx)
  have hN2 := List.nodup_append.1 hN
  have hblk : ∀ b ∈ blkL A', b ∈ blkL A ∨ b = m := fun b hb => by
    have h1 := blk_own (n := n + 1) (c := c') (mem_blkL.1 hb)
    rcases hob with h2 | h2
    · exact .inl (mem_blkL.2 (blk_of (h2.symm.trans h1)))
    · exact .inr (Option.some.inj (h1.symm.trans h2))
  refine ⟨hE2.ch K (Ch.of_grow hg) (fun b hb e => hN2.2.2 b (mem_blkL.2 (blk_of e)) b hb rfl), ?_, hblk⟩
  refine List.nodup_append.2 ⟨by cases A' <;> simp [blkL], hN2.2.1, fun a ha b hb e => ?_⟩
  subst e
  rcases hblk a ha with h1 | h1
  · exact hN2.2.2 a h1 a hb rfl
  · have := hE2.lt K a hb; omega
/-- an element and what it leads to are changed -/
theorem upd_els {c1 c2 : List (List Value)} {f1 f2 : List (List Nat)} {l1 l2 : List α} {g : Nat} {cs' : List Value} {f' : List Nat} {x' : α} {w7 w8 : World} (K : KindOk R F sz)
    (ho : w.ownsRow 0 e sz (.slice (some ⟨g, 0, none⟩) n c) n (c1.flatten ++ (cs ++ c2.flatten))) (hE1 : Els F w c1 f1 l1) (hE2 : Els F w c2 f2 l2) (hcs : cs.length = sz) (hn : n = l1.length + 1 + l2.length)
    (hN : (g :: (f1.flatten ++ (f ++ f2.flatten))).Nodup) (hC : Ch (fun b => b ∈ f) w w7) (hx : F f' w7 cs' x') (hf' : ∀ b ∈ f', b ∈ f ∨ w.heap.size ≤ b) (hf'N : f'.Nodup) (hw8 : w8 = setsW w7 g (l1.length * sz) cs') :
    RowO F e sz (blkL (some ⟨g, 0, none⟩) ++ (f1 ++ f' :: f2).flatten) w8 (some ⟨g, 0, none⟩) n c (l1 ++ x' :: l2) ∧ (g :: (f1.flatten ++ (f' ++ f2.flatten))).Nodup ∧ Ch (fun b => b = g ∨ b ∈ f) w w8 := by
  have hgw : g < w.heap.size := (own_lo ho g (by simp [blkL])).2
  have lt1 := hE1.lt K
  have lt2 := hE2.lt K
  simp only [List.nodup_cons, List.nodup_append, List.mem_append, not_or] at hN
  have hgf : ¬ g ∈ f := by grind
  have d1 : ∀ b ∈ f1.flatten, ¬ b ∈ f := fun b h1 h2 => by grind
  have d2 : ∀ b ∈ f2.flatten, ¬ b ∈ f := fun b h1 h2 => by grind
  have e1 : ∀ b ∈ f1.flatten, ¬ b = g := fun b h1 h2 => by subst h2; grind
  have e2 : ∀ b ∈ f2.flatten, ¬ b = g := fun b h1 h2 => by subst h2; grind
  have e3 : ∀ b ∈ f', ¬ b = g := fun b h1 h2 => by
    subst h2
    rcases hf' b h1 with h | h
    · exact hgf h
    · omega
  have hC8 : Ch (fun b => b = g) w7 w8 := by rw [hw8]; exact ch_setsW _ _ _
  have o7 := own_ch ho hC (fun b hb h2 => hgf (by
    have : b = g := by simpa [Value.ownBlock, eq_comm] using hb
    rw [← this]; exact h2))
  have o8 := own_setsW cs' (l1.length * sz) w7 _ o7
  rw [setsL_at (hE1.flat K) (by rw [hcs, K.rlen (K.fr hx)]), ← hw8] at o8
  have E1 := (hE1.ch K hC d1).ch K hC8 e1
  have E2 := (hE2.ch K hC d2).ch K hC8 e2
  have X := K.fch hx hC8 e3
  refine ⟨RowO.intro (css := c1 ++ cs' :: c2) (by simpa using o8) (by simp; omega) (E1.app ⟨X, E2⟩), ?_, (hC.mono (fun b hb => .inr hb)).trans (hC8.mono (fun b hb => .inl hb))⟩
  simp only [List.nodup_cons, List.nodup_append, List.mem_append, not_or]
  refine ⟨⟨by grind, fun h => e3 g h rfl, by grind⟩, by grind, ⟨hf'N, by grind, fun a ha b hb hab => ?_⟩, fun a ha b hb hab => ?_⟩
  · subst hab
    rcases hf' a ha with h | h
    · exact d2 a hb h
    · have := lt2 a hb; omega
  · subst hab
    rcases hb with hb | hb
    · rcases hf' a hb with h | h
      · exact d1 a ha h
      · have := lt1 a ha; omega
    · grind
end
end Go.Proofs.YtdphdnllhmnelaaGreat
/- One element more in a row of the call's own, behind an append. -/
namespace Go.Proofs.YtdphdnllhmnelaaGreat
open Go.RowKit
section
variable {α : Type} {R : World → List Value → α → Prop} {F : List Nat → World → List Value → α → Prop} {e sz n c c' m : Nat} {w w' : World} {fps : List (List Nat)} {css : List (List Value)} {A A' : Option Addr} {l : List α} {cs : List Value} {f : List Nat} {x : α}
theorem row_app1 (K : KindOk R F sz) (hl : n = l.length) (E : Els F w css fps l) (hx : F f w cs x) (hN : ((blkL A ++ fps.flatten) ++ f).Nodup)
    (own' : w'.ownsRow 0 e sz (.slice A' (n + 1) c') (n + 1) (css.flatten ++ cs)) (hg : w.grownBy w' (Value.slice A n c).ownBlock)
    (hob : (Value.slice A' (n + 1) c').ownBlock = (Value.slice A n c).ownBlock ∨ (Value.slice A' (n + 1) c').ownBlock = some m) (hm : w.heap.size ≤ m) :
    ∃ fp', RowO F e sz fp' w' A' (n + 1) c' (l ++ [x]) ∧ fp'.Nodup ∧ (∀ b ∈ fp', b ∈ blkL A ++ fps.flatten ∨ b ∈ f ∨ b = m) ∧ Ch (fun b => b ∈ blkL A) w w' := by
  have hN6 : (blkL A ++ (fps ++ [f]).flatten).Nodup := by
    rw [List.flatten_append, ← List.append_assoc]
    simpa using hN
  obtain ⟨hE8, hN8, hO8⟩ := app_els (A := A) (n := n) (c := c) K E hx hN6 hg hob hm
  have own9 : w'.ownsRow 0 e sz (.slice A' (n + 1) c') (n + 1) (css ++ [cs]).flatten := by rw [List.flatten_append]; simpa using own'
  refine ⟨_, RowO.intro own9 (by rw [List.length_append, hl]; rfl) hE8, hN8, fun b hb => ?_, (Ch.of_grow hg).mono (fun b hb => mem_blkL.2 (blk_of hb))⟩
  rcases List.mem_append.1 hb with hb | hb
  · rcases hO8 b hb with h | h
    · exact .inl (List.mem_append_left _ h)
    · exact .inr (.inr h)
  · rw [List.flatten_append] at hb
    rcases List.mem_append.1 hb with hb | hb
    · exact .inl (List.mem_append_right _ hb)
    · exact .inr (.inl (by simpa using hb))
/-- one cell of an element and what it leads to are changed -/
theorem upd_els1 {c1 c2 : List (List Value)} {f1 f2 : List (List Nat)} {l1 l2 : List α} {g j : Nat} {v : Value} {f' : List Nat} {x' : α} {w7 w8 : World} (K : KindOk R F sz)
    (ho : w.ownsRow 0 e sz (.slice (some ⟨g, 0, none⟩) n c) n (c1.flatten ++ (cs ++ c2.flatten))) (hE1 : Els F w c1 f1 l1) (hE2 : Els F w c2 f2 l2) (hcs : cs.length = sz) (hj : j < sz) (hn : n = l1.length + 1 + l2.length)
    (hN : (g :: (f1.flatten ++ (f ++ f2.flatten))).Nodup) (hC : Ch (fun b => b ∈ f) w w7) (hx : F f' w7 (cs.set j v) x') (hf' : ∀ b ∈ f', b ∈ f ∨ w.heap.size ≤ b) (hf'N : f'.Nodup) (hw8 : w8 = w7.setCell ⟨g, l1.length * sz + j, none⟩ v) :
    RowO F e sz (blkL (some ⟨g, 0, none⟩) ++ (f1 ++ f' :: f2).flatten) w8 (some ⟨g, 0, none⟩) n c (l1 ++ x' :: l2) ∧ (g :: (f1.flatten ++ (f' ++ f2.flatten))).Nodup ∧ Ch (fun b => b = g ∨ b ∈ f) w w8 := by
  have hgw : g < w.heap.size := (own_lo ho g (by simp [blkL])).2
  have lt1 := hE1.lt K
  have lt2 := hE2.lt K
  simp only [List.nodup_cons, List.nodup_append, List.mem_append, not_or] at hN
  have hgf : ¬ g ∈ f := by grind
  have d1 : ∀ b ∈ f1.flatten, ¬ b ∈ f := fun b h1 h2 => by grind
  have d2 : ∀ b ∈ f2.flatten, ¬ b ∈ f := fun b h1 h2 => by grind
  have e1 : ∀ b ∈ f1.flatten, ¬ b = g := fun b h1 h2 => by subst h2; grind
  have e2 : ∀ b ∈ f2.flatten, ¬ b = g := fun b h1 h2 => by subst h2; grind
  have e3 : ∀ b ∈ f', ¬ b = g := fun b h1 h2 => by
    subst h2
    rcases hf' b h1 with h | h
    · exact hgf h
    · omega
  have hC8 : Ch (fun b => b = g) w7 w8 := by rw [hw8]; exact (Ch.refl (S := fun b => b = g) w7).setCell (p := ⟨g, l1.length * sz + j, none⟩) rfl v
  have o7 := own_ch ho hC (fun b hb h2 => hgf (by
    have : b = g := by simpa [Value.ownBlock, eq_comm] using hb
    rw [← this]; exact h2))
  have o8 := own_setsW [v] (l1.length * sz + j) w7 _ o7
  rw [setsL_in (hE1.flat K) (by simp; omega)] at o8
  have o9 : w8.ownsRow 0 e sz (.slice (some ⟨g, 0, none⟩) n c) n (c1.flatten ++ (cs.set j v ++ c2.flatten)) := by rw [hw8]; exact o8
  have E1 := (hE1.ch K hC d1).ch K hC8 e1
  have E2 := (hE2.ch K hC d2).ch K hC8 e2
  have X := K.fch hx hC8 e3
  refine ⟨RowO.intro (css := c1 ++ cs.set j v :: c2) (by simpa using o9) (by simp; omega) (E1.app ⟨X, E2⟩), ?_, (hC.mono (fun b hb => .inr hb)).trans (hC8.mono (fun b hb => .inl hb))⟩
  simp only [List.nodup_cons, List.nodup_append, List.mem_append, not_or]
  refine ⟨⟨by grind, fun h => e3 g h rfl, by grind⟩, by grind, ⟨hf'N, by grind, fun a ha b hb hab => ?_⟩, fun a ha b hb hab => ?_⟩
  · subst hab
    rcases hf' a ha with h | h
    · exact d2 a hb h
    · have := lt2 a hb; omega
  · subst hab
    rcases hb with hb | hb
    · rcases hf' a hb with h | h
      · exact d1 a ha h
      · have := lt1 a ha; omega
    · grind
end
end Go.Proofs.YtdphdnllhmnelaaGreat
/- A block of cells of the call's own: all of its cells, none frozen. -/
namespace Go.Proofs.YtdphdnllhmnelaaGreat
open Go.RowKit

structure BoxL (w : World) (h : Nat) (cs : List Value) : Prop where
  cell : ∀ j u, cs[j]? = some u → w.cell? ⟨h, j, none⟩ = some u
  fz : ∀ j, j < cs.length → w.frozen? ⟨h, j, none⟩ = false
  lt : h < w.heap.size
theorem ne_blk {g h : Nat} (hn : h ≠ g) : ¬ (fun k => k = g) h := hn
theorem BoxL.ch {S : Nat → Prop} {w w' : World} {h : Nat} {cs : List Value} (k : BoxL w h cs) (hc : Ch S w w') (hS : ¬ S h) : BoxL w' h cs :=
  ⟨fun j u hu => hc.cell (k.cell j u hu) hS, fun j hj => (World.frozen?_of_block (hc.block h k.lt hS)).trans (k.fz j hj), Nat.lt_of_lt_of_le k.lt hc.size⟩
theorem BoxL.keep {w w' : World} {h : Nat} {cs : List Value} (k : BoxL w h cs) (hb : Below w.heap.size w w') : BoxL w' h cs := k.ch (S := fun _ => False) (Ch.of_below hb) (fun h => h)
theorem Ch.set {w : World} {g o : Nat} {v : Value} : Ch (fun k => k = g) w (w.setCell ⟨g, o, none⟩ v) := (Ch.refl (S := fun k => k = g) w).setCell (p := ⟨g, o, none⟩) rfl v
theorem BoxL.set {w : World} {h j : Nat} {cs : List Value} {v : Value} (k : BoxL w h cs) (hj : j < cs.length) : BoxL (w.setCell ⟨h, j, none⟩ v) h (cs.set j v) := by
  refine ⟨fun i u hu => ?_, fun i hi => ?_, Nat.lt_of_lt_of_le k.lt (Ch.set (g := h) (o := j) (v := v)).size⟩
  · rw [List.getElem?_set] at hu
    by_cases e : j = i
    · subst e
      rw [if_pos rfl, if_pos hj] at hu
      obtain rfl := Option.some.inj hu
      exact sethere (k.cell j _ (List.getElem?_eq_getElem hj))
    · rw [if_neg e] at hu
      exact setoff (k.cell i u hu) (.inr e)
  · rw [List.length_set] at hi
    exact (World.frozen?_setCell _ _ _ _).trans (k.fz i hi)
theorem BoxL.new (w : World) (cs : List Value) (t : TypeId) : BoxL (w.alloc (.cells cs.toArray t)) w.heap.size cs :=
  ⟨fun j u hu => by rw [World.cell?_alloc_at cs.toArray t _ _ rfl]; simpa using hu, fun j _ => World.frozen?_alloc_at cs.toArray t _ _ rfl, by simp [go_sem]⟩
theorem setsW_fz {g : Nat} {p : Addr} : ∀ (vs : List Value) (o : Nat) (w : World), (setsW w g o vs).frozen? p = w.frozen? p
  | [], _, _ => rfl
  | v :: vs, o, w => (setsW_fz vs (o + 1) _).trans (World.frozen?_setCell _ _ _ _)
theorem BoxL.sets {w : World} {h : Nat} {cs vs : List Value} (k : BoxL w h cs) (hl : vs.length = cs.length) : BoxL (setsW w h 0 vs) h vs :=
  ⟨fun j u hu => by
    have := setsW_cell (g := h) vs 0 w (fun j hj => ⟨_, by rw [Nat.zero_add]; exact k.cell j _ (List.getElem?_eq_getElem (by omega))⟩) j u hu
    rwa [Nat.zero_add] at this, fun j hj => (setsW_fz vs 0 w).trans (k.fz j (by omega)), Nat.lt_of_lt_of_le k.lt (ch_setsW vs 0 w).size⟩
theorem BoxL.range {w : World} {h : Nat} {cs : List Value} (k : BoxL w h cs) : w.rangeAt h 0 cs := fun j v hv => by rw [Nat.zero_add]; exact k.cell j v hv
theorem BoxL.there {w : World} {h : Nat} {cs : List Value} (k : BoxL w h cs) {n : Nat} (hn : n = cs.length) : w.there h 0 n := fun j hj => by
  rw [Nat.zero_add]
  exact ⟨by rw [k.cell j _ (List.getElem?_eq_getElem (by omega))]; rfl, k.fz j (by omega)⟩
theorem ch_setCells {g : Nat} : ∀ (vs : List Value) (o : Nat) (w : World), Ch (fun b => b = g) w (w.setCells g o vs)
  | [], _, w => Ch.refl w
  | v :: vs, o, w => (Ch.set (g := g) (o := o) (v := v)).trans (ch_setCells vs (o + 1) _)
theorem BoxL.setCells {w : World} {h : Nat} {cs vs : List Value} (k : BoxL w h cs) (hl : vs.length = cs.length) : BoxL (w.setCells h 0 vs) h vs :=
  ⟨fun j u hu => by
    have hj : j < vs.length := (List.getElem?_eq_some_iff.1 hu).1
    have := World.cell?_setCells_in h vs 0 w (fun i hi => (k.there rfl i (by omega)).1) j hj
    rw [Nat.zero_add] at this
    rw [this, ← hu, List.getElem?_eq_getElem hj], fun j hj => (World.frozen?_setCells _ _ _ _ _).trans (k.fz j (by omega)), Nat.lt_of_lt_of_le k.lt (ch_setCells vs 0 w).size⟩
theorem BoxL.below {B : Nat} {w w' : World} {h : Nat} {cs : List Value} (k : BoxL w h cs) (hb : Below B w w') (hB : h < B) : BoxL w' h cs :=
  ⟨fun j u hu => (hb.cell (p := ⟨h, j, none⟩) hB).trans (k.cell j u hu), fun j hj => (hb.frozen (p := ⟨h, j, none⟩) hB).trans (k.fz j hj), Nat.lt_of_lt_of_le k.lt hb.size⟩
/-- a struct is read whole from its block, behind a guard or not -/
theorem wpList_load_g {P : Program} {ops : Array Oper} {rest : List Oper} {op : Oper} {a : Act} {w : World} {Q : Exit → Act → World → Prop} (hw : Region.wanted op (yielded ops a.tmps) = true) (ty : TypeId) (x : Operand) (ho : op.op = .load ty x)
    (b o : Nat) (hx : a.eval x = .pointer (some ⟨b, o, none⟩)) (cs : List Value) (d : TypeDesc) (hc : w.rangeAt b o cs)
    (hu : P.underlying ty = some d) (hd : d.isRow = true) (hi : (P.info? ty).map (·.size) = some cs.length)
    (h : wpList P ops Q rest (a.put op.dst (.agg cs.toArray)) w) : wpList P ops Q (op :: rest) a w :=
  wpList_step fun _ hK => by rw [if_pos hw]; exact wp_load_mid ty x ho b o hx cs d hc hu hd hi (hK _ _ h)
/-- a struct that lies in a block of its own and a second result are handed back -/
theorem results_cell_tmp {P : Program} {fn : Func} {c u : Tmp} {ty : TypeId} (h : fn.results = #[.cell c ty, .tmp u]) {tmps : Array Value} {w : World} {b : Nat} {cs : List Value} {d : TypeDesc} (hp : tmps.getD c undef = .pointer (some ⟨b, 0, none⟩))
    (hc : w.rangeAt b 0 cs) (hu : P.underlying ty = some d) (hd : d.isRow = true) (hi : (P.info? ty).map (·.size) = some cs.length) : (results fn tmps).run P w = .ok (.tuple #[.agg cs.toArray, tmps.getD u undef]) w := by
  have hl := run_loadVar_mid (P := P) w b 0 ty cs d hc hu hd hi
  have hp' : tmps[c]?.getD undef = .pointer (some ⟨b, 0, none⟩) := by simpa using hp
  simp [results, h, hp', asAddr, Sem.run_bind, hl]
/-- what lies in blocks from B on is changed: nothing below is -/
theorem Ch.belowB {S : Nat → Prop} {B : Nat} {w0 w w' : World} (hc : Ch S w w') (hb : Below B w0 w) (hB : B ≤ w.heap.size) (hS : ∀ k, S k → B ≤ k) : Below B w0 w' := hb.trans (hc.below hS hB)
end Go.Proofs.YtdphdnllhmnelaaGreat
/- append as an operation of a region that draws; a block made there. -/
namespace Go.Proofs.YtdphdnllhmnelaaGreat
open Go.RowKit
theorem step_app {P : Program} {ops : Array Oper} {o : Oper} {a : Act} {w : World} {K : Act → World → Prop} {Q : Exit → Act → World → Prop} {E : Prop} (hgd : o.guard = none) (s x : Operand) (t : TypeId)
    (ho : o.op = .call { callee := .builtin .append, args := #[s, x], argTypes := #[t, t] })
    (base : Nat) (e : TypeId) (z : Value) (size bytes : Nat) (ht : P.underlying t = some (.slice e)) (hinfo : (P.info? e).map (fun i => (i.zero, i.size, i.bytes)) = some (some z, size, bytes))
    (hzs : z.cells.size = size) (hsz : 0 < size) (v : Value) (n : Nat) (xs : List Value) (hs : a.eval s = v) (hown : w.ownsRow base e size v n xs)
    (A : Option Addr) (m c : Nat) (news : List Value) (hx : a.eval x = .slice A m c) (hsrc : CellsAt w A m size news) (h1 : ∀ u ∈ news, u.oneCell' = true) (hn : A = none → c = 0)
    (h63 : n + m ≤ maxLen) (hbytes : (n + m) * bytes ≤ 140737488355328) (hbase : base ≤ w.heap.size)
    (h : ∀ A' c' w', w'.ownsRow base e size (.slice A' (n + m) c') (n + m) (xs ++ news) → w.grownBy w' v.ownBlock → Below base w w' →
      ((Value.slice A' (n + m) c').ownBlock = v.ownBlock ∨ (Value.slice A' (n + m) c').ownBlock = some w.heap.size) → K (a.put o.dst (.slice A' (n + m) c')) w') :
    if Region.wanted o (yielded ops a.tmps) = true then Oper.wp P o a w K Q else E := by
  have hw : Region.wanted o (yielded ops a.tmps) = true := by simp [Region.wanted, hgd]
  rw [if_pos hw]
  obtain ⟨A', c', w', hr, h2, h3, h4⟩ := run_app (P := P) w base t o.type e z size bytes ht hinfo hzs hsz v n xs hown A m c news hsrc h1 hn h63 hbytes hbase
  unfold Oper.wp execOp
  simp only [ho, resolve, invoke, builtin, Sem.run_bind, Sem.run_pure, Result.andThen_ok, List.map_toArray, List.map_cons, List.map_nil, hs, hx, hr]
  exact h A' c' w' h2 h3 (below_own hown h3 hbase) h4
theorem new1c (w : World) (cs : List Value) (n : Nat) (hn : cs.length = n) (t : TypeId) : CellsAt (w.alloc (.cells cs.toArray t)) (some ⟨w.heap.size, 0, none⟩) 1 n cs := by
  refine ⟨by simpa using hn, fun _ => ⟨w.heap.size, 0, rfl, fun j u hu => ?_⟩⟩
  rw [Nat.zero_add, World.cell?_alloc_new]
  simpa using hu
end Go.Proofs.YtdphdnllhmnelaaGreat
