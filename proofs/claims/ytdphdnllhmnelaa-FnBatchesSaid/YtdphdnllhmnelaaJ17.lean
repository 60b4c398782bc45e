/- Contracts and lemmas: KindS, KCmd. -/
import Derived.Test.YtdphdnllhmnelaaJ16
import Derived.Test.YtdphdnllhmnelaaJ15
import Derived.Deep.RegionHeld3
import Derived.StillTailTactics
import Derived.BigQuiet
import Derived.Deep.QuietTactic
/- The laws' helpers on []string and []int in the shape of kinds; rows read element by element. -/
namespace Go.Proofs.Ytdphdnllhmnelaa
open Go.RowKit

/-! ### texts -/
def StrR (w : World) (A : Option Addr) (n c : Nat) (l : List ByteArray) : Prop := StrsAt w A n l ∧ (A = none → c = 0)
def StrO (fp : List Nat) (w : World) (A : Option Addr) (n c : Nat) (l : List ByteArray) : Prop := fp = blkL A ∧ w.ownsRow 0 9 1 (.slice A n c) n (l.map Value.string)
def strB (l : List ByteArray) : Prop := l.length ≤ 9223372036854775807 ∧ ∀ y ∈ l, y.size ≤ 9223372036854775807
section
variable {fp : List Nat} {w w' : World} {A : Option Addr} {n c lo hi : Nat} {l : List ByteArray}
theorem StrR.len (h : StrR w A n c l) : n = l.length := h.1.1
theorem StrR.keep (h : StrR w A n c l) (hb : Below w.heap.size w w') : StrR w' A n c l := ⟨h.1.keep hb, h.2⟩
theorem StrR.ok (h : StrR w A n c l) (hb : strB l) : StrsOk w A n l := ⟨h.1, by have := h.len; have := hb.1; omega, fun i hi => by
  have hl : i < l.length := by have := h.len; omega
  have : sAt l i = l[i] := by simp [sAt, hl]
  rw [this]; exact hb.2 _ (List.getElem_mem hl)⟩
theorem StrO.ch {S : Nat → Prop} (h : StrO fp w A n c l) (hc : Ch S w w') (hS : ∀ b ∈ fp, ¬ S b) : StrO fp w' A n c l := by
  obtain ⟨rfl, h⟩ := h; exact ⟨rfl, own_chL h hc hS⟩
theorem StrO.keep (h : StrO fp w A n c l) (hb : Below w.heap.size w w') : StrO fp w' A n c l := h.ch (S := fun _ => False) (Ch.of_below hb) (fun _ _ h => h)
theorem StrO.lt (h : StrO fp w A n c l) : ∀ b ∈ fp, b < w.heap.size := by obtain ⟨rfl, h⟩ := h; exact fun b hb => (own_lo h b hb).2
theorem StrO.at_ (h : StrO fp w A n c l) : StrR w A n c l := ⟨(StrsIn.of_own h.2).at_, own_none h.2⟩
theorem StrO.nil : StrO [] w none 0 0 [] := ⟨rfl, World.ownsRow_nil w 0 _ 1⟩
theorem StrO.of_in (h : StrsIn lo hi w A n c l) : ∃ fp, fp.Nodup ∧ (∀ b ∈ fp, lo ≤ b ∧ b < hi) ∧ StrO fp w A n c l :=
  ⟨blkL A, by cases A <;> simp [blkL], fun b hb => (h.row.blk (mem_blkL.1 hb)).1, rfl, own_up h.row.own (Nat.zero_le _)⟩
theorem StrO.row (h : StrO fp w A n c l) (hf : ∀ b ∈ fp, lo ≤ b ∧ b < hi) : StrsIn lo hi w A n c l := by
  obtain ⟨rfl, h⟩ := h
  exact ⟨⟨own_raise h (fun b hb => (hf b hb).1), fun g hg => (hf g (mem_blkL.2 hg)).2⟩⟩
end

/-! ### ints -/
def IntR (w : World) (A : Option Addr) (n c : Nat) (l : List Int) : Prop := IntsAt w A n l ∧ (A = none → c = 0)
def IntO (fp : List Nat) (w : World) (A : Option Addr) (n c : Nat) (l : List Int) : Prop := fp = blkL A ∧ w.ownsRow 0 3 1 (.slice A n c) n (l.map (Value.int .i64))
def intB (l : List Int) : Prop := l.length ≤ 9223372036854775807
section
variable {fp : List Nat} {w w' : World} {A : Option Addr} {n c lo hi : Nat} {l : List Int}
theorem IntR.len (h : IntR w A n c l) : n = l.length := h.1.1
theorem IntR.keep (h : IntR w A n c l) (hb : Below w.heap.size w w') : IntR w' A n c l := ⟨h.1.keep hb, h.2⟩
theorem IntR.ok (h : IntR w A n c l) (hb : intB l) : IntsOk w A n l := ⟨h.1, by have := h.len; unfold intB at hb; omega⟩
theorem IntO.ch {S : Nat → Prop} (h : IntO fp w A n c l) (hc : Ch S w w') (hS : ∀ b ∈ fp, ¬ S b) : IntO fp w' A n c l := by
  obtain ⟨rfl, h⟩ := h; exact ⟨rfl, own_chL h hc hS⟩
theorem IntO.keep (h : IntO fp w A n c l) (hb : Below w.heap.size w w') : IntO fp w' A n c l := h.ch (S := fun _ => False) (Ch.of_below hb) (fun _ _ h => h)
theorem IntO.lt (h : IntO fp w A n c l) : ∀ b ∈ fp, b < w.heap.size := by obtain ⟨rfl, h⟩ := h; exact fun b hb => (own_lo h b hb).2
theorem IntO.at_ (h : IntO fp w A n c l) : IntR w A n c l := ⟨(IntsIn.of_own h.2).at_, own_none h.2⟩
theorem IntO.nil : IntO [] w none 0 0 [] := ⟨rfl, World.ownsRow_nil w 0 _ 1⟩
theorem IntO.of_in (h : IntsIn lo hi w A n c l) : ∃ fp, fp.Nodup ∧ (∀ b ∈ fp, lo ≤ b ∧ b < hi) ∧ IntO fp w A n c l :=
  ⟨blkL A, by cases A <;> simp [blkL], fun b hb => (h.row.blk (mem_blkL.1 hb)).1, rfl, own_up h.row.own (Nat.zero_le _)⟩
theorem IntO.row (h : IntO fp w A n c l) (hf : ∀ b ∈ fp, lo ≤ b ∧ b < hi) : IntsIn lo hi w A n c l := by
  obtain ⟨rfl, h⟩ := h
  exact ⟨⟨own_raise h (fun b hb => (hf b hb).1), fun g hg => (hf g (mem_blkL.2 hg)).2⟩⟩
end

section
variable {α : Type} {R : World → List Value → α → Prop} {sz n c : Nat} {w : World} {A : Option Addr} {l : List α}
/-- element i of a row that is read -/
theorem RowR.elem (h : RowR R sz w A n c l) {i : Nat} (hi : i < n) : ∃ b off x cs, A = some ⟨b, off, none⟩ ∧ b < w.heap.size ∧ l[i]? = some x ∧ R w cs x ∧ ∀ j u, cs[j]? = some u → w.cell? ⟨b, off + i * sz + j, none⟩ = some u := by
  obtain ⟨b, off, hA, hb, hc⟩ := h.1.2 (by omega)
  have hl := h.1.1
  have hx : l[i]? = some (l[i]'(by omega)) := List.getElem?_eq_getElem (by omega)
  obtain ⟨cs, h1, _, h3⟩ := hc i _ hx
  exact ⟨b, off, _, cs, hA, hb, hx, h1, h3⟩
/-- the same, with the row's place told ahead -/
theorem RowR.elem_at {b off : Nat} (h : RowR R sz w (some ⟨b, off, none⟩) n c l) {i : Nat} (hi : i < n) : b < w.heap.size ∧ ∃ x cs, l[i]? = some x ∧ R w cs x ∧ ∀ j u, cs[j]? = some u → w.cell? ⟨b, off + i * sz + j, none⟩ = some u := by
  obtain ⟨b', off', x, cs, hA, hb, h1⟩ := h.elem hi
  injection hA with hA; injection hA with e1 e2 _
  subst e1 e2
  exact ⟨hb, x, cs, h1⟩
theorem RowR.head (h : RowR R sz w A n c l) (hn : 0 < n) : ∃ b off, A = some ⟨b, off, none⟩ := by
  obtain ⟨b, off, hA, _⟩ := h.1.2 hn; exact ⟨b, off, hA⟩
end
theorem setsW_cell {g : Nat} : ∀ (vs : List Value) (o : Nat) (w : World), (∀ j, j < vs.length → ∃ u, w.cell? ⟨g, o + j, none⟩ = some u) → ∀ j v, vs[j]? = some v → (setsW w g o vs).cell? ⟨g, o + j, none⟩ = some v
  | [], _, _, _, j, v, h => by simp at h
  | u :: vs, o, w, hx, j, v, h => by
    show (setsW (w.setCell ⟨g, o, none⟩ u) g (o + 1) vs).cell? _ = _
    rcases j with _ | j
    · simp at h; subst h
      obtain ⟨u0, hu0⟩ := hx 0 (by simp)
      have h0 : (w.setCell ⟨g, o, none⟩ u).cell? ⟨g, o, none⟩ = some u := sethere hu0
      have : ∀ (ws : List Value) (p : Nat) (W : World), o < p → W.cell? ⟨g, o, none⟩ = some u → (setsW W g p ws).cell? ⟨g, o, none⟩ = some u := by
        intro ws
        induction ws with
        | nil => intro p W _ h; exact h
        | cons y ws ih => intro p W hp h; exact ih (p + 1) _ (by omega) (setoff h (.inr (by omega)))
      exact this vs (o + 1) _ (by omega) h0
    · have hx' : ∀ j, j < vs.length → ∃ u', (w.setCell ⟨g, o, none⟩ u).cell? ⟨g, o + 1 + j, none⟩ = some u' := fun j hj => by
        obtain ⟨u', hu'⟩ := hx (j + 1) (by simpa using hj)
        exact ⟨u', setoff (by rw [show o + 1 + j = o + (j + 1) by omega]; exact hu') (.inr (by omega))⟩
      have := setsW_cell vs (o + 1) _ hx' j v (by simpa using h)
      rwa [show o + 1 + j = o + (j + 1) by omega] at this
theorem bounds_el {α : Type} {P : α → Prop} {l : List α} {i : Nat} {x : α} (h : ∀ y ∈ l, P y) (hx : l[i]? = some x) : P x := h x (List.mem_of_getElem? hx)
/-- an element's size is below the row's -/
theorem sum_el {α : Type} (f : α → Nat) {l : List α} {i : Nat} {x : α} (hx : l[i]? = some x) : f x ≤ (l.map f).sum ∧ sumTo f l (i + 1) = sumTo f l i + f x := by
  obtain ⟨h1, h2⟩ := List.getElem?_eq_some_iff.1 hx
  have e := sumTo_succ f l i h1
  have e2 := sumTo_le f l (i + 1)
  rw [h2] at e
  exact ⟨by omega, e⟩
end Go.Proofs.Ytdphdnllhmnelaa
/- Cmd: how it lies in memory, the laws' helpers on it. -/
namespace Go.Proofs.Ytdphdnllhmnelaa
open Go.RowKit
structure Cm where
  kd : Int
  cl : Int
  no : Int
  s : ByteArray
  nm : ByteArray
  tg : ByteArray
  n : Int
  ch : List ByteArray
def cmNil : Cm := ⟨0, 0, 0, ByteArray.empty, ByteArray.empty, ByteArray.empty, 0, []⟩
def cmAt (l : List Cm) (i : Nat) : Cm := l.getD i cmNil
theorem cmAt_of {l : List Cm} {k : Nat} {x : Cm} (h : l[k]? = some x) : cmAt l k = x := by simp [cmAt, h]
/-- its cells, its value -/
def cmL (x : Cm) (s1 : Value) : List Value := [.int .i64 x.kd, .int .i64 x.cl, .int .i64 x.no, .string x.s, .string x.nm, .string x.tg, .int .i64 x.n, s1]
def cmV (x : Cm) (s1 : Value) : Value := .agg #[.int .i64 x.kd, .int .i64 x.cl, .int .i64 x.no, .string x.s, .string x.nm, .string x.tg, .int .i64 x.n, s1]
def cmR (w : World) (cs : List Value) (x : Cm) : Prop := ∃ (A1 : Option Addr) (n1 c1 : Nat), cs = cmL x (.slice A1 n1 c1) ∧ StrR w A1 n1 c1 x.ch
def cmF (fp : List Nat) (w : World) (cs : List Value) (x : Cm) : Prop := ∃ (A1 : Option Addr) (n1 c1 : Nat) (f1 : List Nat), cs = cmL x (.slice A1 n1 c1) ∧ fp = f1 ∧ StrO f1 w A1 n1 c1 x.ch
theorem cmK : KindOk cmR cmF 8 where
  rlen := fun h => by obtain ⟨A1, n1, c1, rfl, h1⟩ := h; rfl
  rkeep := fun h hb => by obtain ⟨A1, n1, c1, rfl, h1⟩ := h; exact ⟨A1, n1, c1, rfl, h1.keep hb⟩
  flt := fun h b hb => by
    obtain ⟨A1, n1, c1, f1, rfl, rfl, h1⟩ := h
    exact h1.lt b hb
  fch := fun h hc hS => by
    obtain ⟨A1, n1, c1, f1, rfl, rfl, h1⟩ := h
    exact ⟨A1, n1, c1, _, rfl, rfl, h1.ch hc (fun b hb => hS b (by simp [hb]))⟩
  fr := fun h => by obtain ⟨A1, n1, c1, f1, rfl, rfl, h1⟩ := h; exact ⟨A1, n1, c1, rfl, h1.at_⟩
  one := fun h v hv => by
    obtain ⟨A1, n1, c1, rfl, h1⟩ := h
    simp only [cmL, List.mem_cons, List.not_mem_nil, or_false] at hv
    rcases hv with rfl | rfl | rfl | rfl | rfl | rfl | rfl | rfl <;> rfl
/-- its bounds -/
def cmB (x : Cm) : Prop := x.s.size ≤ 9223372036854775807 ∧ x.nm.size ≤ 9223372036854775807 ∧ x.tg.size ≤ 9223372036854775807 ∧ strB x.ch
def cmsB (l : List Cm) : Prop := l.length ≤ 9223372036854775807 ∧ ∀ y ∈ l, cmB y
def cmSz (x : Cm) : Nat := x.s.size + x.nm.size + x.tg.size + strsSz x.ch
def cmsSz (l : List Cm) : Nat := l.length + (l.map cmSz).sum
/-- its marks -/
def cmCnt (x : Cm) : Nat := 1 + 1 + 1 + 1 + 1 + 1 + 1 + strsCnt x.ch
def cmTop (x : Cm) : Nat := strsCnt x.ch
def cmsCnt (l : List Cm) : Nat := (l.map cmCnt).sum
def cmMk (k : Int) (x : Cm) : Cm := ⟨k, (k + 1), (k + 1 + 1), mtx (k + 1 + 1 + 1), mtx (k + 1 + 1 + 1 + 1), mtx (k + 1 + 1 + 1 + 1 + 1), (k + 1 + 1 + 1 + 1 + 1 + 1), strsMk (k + 1 + 1 + 1 + 1 + 1 + 1 + 1) x.ch⟩
def cmsMk (k : Int) : List Cm → List Cm
  | [] => []
  | x :: l => cmMk k x :: cmsMk (k + (cmCnt x : Nat)) l
def cmTopMk (k : Int) (x : Cm) : Cm := ⟨x.kd, x.cl, x.no, x.s, x.nm, x.tg, x.n, strsMk k x.ch⟩
attribute [local irreducible] StrR IntR StrO IntO RowR RowO StrsAt IntsAt
theorem infoCmd : (Try.prog.info? 47).map (fun i => (i.zero, i.size, i.bytes)) = some (some (.agg #[.int .i64 0, .int .i64 0, .int .i64 0, .string ByteArray.empty, .string ByteArray.empty, .string ByteArray.empty, .int .i64 0, .slice none 0 0]), 8, 104) := by kernel_rfl
end Go.Proofs.Ytdphdnllhmnelaa
