/- The laws' helpers on lists of entries in one shape. -/
import Derived.Test.YtmichbgiaoopgaaStrRow
import Derived.Test.YtmichbgiaoopgaaNest
import Derived.Test.YtmichbgiaoopgaaFrame
import Derived.Test.YtmichbgiaoopgaaRowAt
import Derived.Deep.RegionHeld3
import Derived.StillTailTactics
import Derived.BigQuiet
import Derived.Deep.QuietTactic
namespace Go.Proofs.Ytmichbgiaoopgaa
open Go.RowKit
attribute [local irreducible] StrsAt

/-- an entry: its path, its chunks -/
structure Ent where
  p : ByteArray
  ch : List ByteArray
def entNil : Ent := ⟨ByteArray.empty, []⟩
def enAt (l : List Ent) (i : Nat) : Ent := l.getD i entNil
theorem enAt_get {l : List Ent} {k : Nat} (h : k < l.length) : enAt l k = l[k] := by simp [enAt, h]
/-- a row of entries -/
def EntsAt (w : World) (A : Option Addr) (n : Nat) (l : List Ent) : Prop := n = l.length ∧ (0 < n → ∃ b off, A = some ⟨b, off, none⟩ ∧ b < w.heap.size ∧ ∀ i, i < n → w.cell? ⟨b, off + i * 2, none⟩ = some (.string (enAt l i).p) ∧
  ∃ A' n' c', w.cell? ⟨b, off + i * 2 + 1, none⟩ = some (.slice A' n' c') ∧ StrsAt w A' n' (enAt l i).ch ∧ (A' = none → c' = 0))
section
variable {w w' : World} {A : Option Addr} {n : Nat} {l : List Ent}
theorem EntsAt.keep (h : EntsAt w A n l) (hb : Below w.heap.size w w') : EntsAt w' A n l := by
  refine ⟨h.1, fun hn => ?_⟩
  obtain ⟨b, off, rfl, hlt, hc⟩ := h.2 hn
  refine ⟨b, off, rfl, Nat.lt_of_lt_of_le hlt hb.size, fun i hi => ?_⟩
  obtain ⟨h0, A', n', c', h1, h2, h3⟩ := hc i hi
  exact ⟨(hb.cell hlt).trans h0, A', n', c', (hb.cell hlt).trans h1, h2.keep hb, h3⟩
theorem EntsAt.at_ (h : EntsAt w A n l) (hn : 0 < n) : ∃ b off, A = some ⟨b, off, none⟩ ∧ b < w.heap.size ∧ ∀ i, i < n → w.cell? ⟨b, off + i * 2, none⟩ = some (.string (enAt l i).p) ∧
  ∃ A' n' c', w.cell? ⟨b, off + i * 2 + 1, none⟩ = some (.slice A' n' c') ∧ StrsAt w A' n' (enAt l i).ch ∧ (A' = none → c' = 0) := h.2 hn
end
/-- an entry's cells that came in -/
def CEnt (w : World) (cs : List Value) (x : Ent) : Prop := ∃ A n c, cs = [.string x.p, .slice A n c] ∧ StrsAt w A n x.ch ∧ (A = none → c = 0) ∧ n ≤ 9223372036854775807 ∧ x.p.size ≤ 9223372036854775807 ∧ ∀ i, i < n → (sAt x.ch i).size ≤ 9223372036854775807
theorem EntsAt.of_row {w : World} {A : Option Addr} {n : Nat} {l : List Ent} (h : RowAt CEnt 2 w A n l) : EntsAt w A n l := by
  have hl := h.1
  refine ⟨hl, fun hn => ?_⟩
  obtain ⟨b, off, rfl, hlt, hc⟩ := h.2 hn
  refine ⟨b, off, rfl, hlt, fun i hi => ?_⟩
  obtain ⟨cs, ⟨A', n', c', rfl, h2, h3, _⟩, _, hcell⟩ := hc i (enAt l i) (by rw [enAt_get (by omega)]; exact List.getElem?_eq_getElem (by omega))
  exact ⟨by simpa using hcell 0 _ rfl, A', n', c', by simpa using hcell 1 _ rfl, h2, h3⟩
structure EntsOk (w : World) (A : Option Addr) (n : Nat) (l : List Ent) : Prop where
  at_ : EntsAt w A n l
  bn : n ≤ 9223372036854775807
  bs : ∀ i, i < n → (enAt l i).p.size ≤ 9223372036854775807 ∧ (enAt l i).ch.length ≤ 9223372036854775807 ∧ ∀ j, j < (enAt l i).ch.length → (sAt (enAt l i).ch j).size ≤ 9223372036854775807
theorem EntsOk.keep {w w' : World} {A : Option Addr} {n : Nat} {l : List Ent} (h : EntsOk w A n l) (hb : Below w.heap.size w w') : EntsOk w' A n l := ⟨h.at_.keep hb, h.bn, h.bs⟩
section
attribute [local semireducible] StrsAt
theorem StrsAt.nn {w : World} {A : Option Addr} {n : Nat} {l : List ByteArray} (h : StrsAt w A n l) : n = l.length := h.1
end
theorem EntsOk.of_row {w : World} {A : Option Addr} {n : Nat} {l : List Ent} (h : RowAt CEnt 2 w A n l) (hn : n ≤ 9223372036854775807) : EntsOk w A n l := by
  refine ⟨EntsAt.of_row h, hn, fun i hi => ?_⟩
  obtain ⟨b, off, rfl, hlt, hc⟩ := h.2 (by omega)
  have hl := h.1
  obtain ⟨cs, ⟨A', n', c', rfl, h2, h3, h4, h5, h6⟩, _⟩ := hc i (enAt l i) (by rw [enAt_get (by omega)]; exact List.getElem?_eq_getElem (by omega))
  have := h2.nn
  exact ⟨h5, by omega, fun j hj => h6 j (by omega)⟩

/-- an entry of the call's own -/
def FEnt (lo hi : Nat) (w : World) (cs : List Value) (x : Ent) : Prop := ∃ A n c, cs = [.string x.p, .slice A n c] ∧ StrsIn lo hi w A n c x.ch
theorem leads2 {s : ByteArray} {v : Value} {b : Nat} (h : Leads [.string s, v] b) : v.ownBlock = some b := by
  obtain ⟨u, hu, hb⟩ := h
  simp at hu
  rcases hu with rfl | rfl
  · simp [Value.ownBlock] at hb
  · exact hb
theorem leads2_mk {s : ByteArray} {v : Value} {b : Nat} (h : v.ownBlock = some b) : Leads [.string s, v] b := ⟨v, by simp, h⟩
theorem elemEnt : Elem FEnt 2 where
  len := fun ⟨A, n, c, h, _⟩ => by subst h; rfl
  leads := fun ⟨A, n, c, h, hi⟩ hb => by subst h; exact hi.row.blk (blk_of (leads2 hb))
  ch := fun ⟨A, n, c, h, hi⟩ hc hS => by
    subst h
    exact ⟨A, n, c, rfl, ⟨⟨own_ch hi.row.own hc (fun k hk => hS k (leads2_mk hk)), hi.row.lt⟩⟩⟩
  wide := fun ⟨A, n, c, h, hi⟩ h1 h2 => ⟨A, n, c, h, hi.wide h1 h2⟩
structure EntsIn (lo hi : Nat) (w : World) (A : Option Addr) (n c : Nat) (l : List Ent) : Prop where
  ex : ∃ css, RowsIn FEnt 41 2 lo hi w A n c l css
theorem own_cap0 {w : World} {base e sz n c : Nat} {A : Option Addr} {xs : List Value} (h : w.ownsRow base e sz (.slice A n c) n xs) : A = none → c = 0 := fun hA => by
  rcases own_form h with ⟨_, _, h0, _⟩ | ⟨g, hg, _⟩
  · exact h0
  · rw [hA] at hg; cases hg
section
variable {lo hi lo' hi' n c : Nat} {w w' : World} {A : Option Addr} {l : List Ent}
theorem EntsIn.keep (h : EntsIn lo hi w A n c l) (hb : Below w.heap.size w w') : EntsIn lo hi w' A n c l := ⟨by obtain ⟨css, h⟩ := h.ex; exact ⟨css, h.keep elemEnt hb⟩⟩
theorem EntsIn.ch {S : Nat → Prop} (h : EntsIn lo hi w A n c l) (hc : Ch S w w') (hS : ∀ k, Iv lo hi k → ¬ S k) : EntsIn lo hi w' A n c l := ⟨by obtain ⟨css, h⟩ := h.ex; exact ⟨css, h.ch elemEnt hc hS⟩⟩
theorem EntsIn.wide (h : EntsIn lo hi w A n c l) (h1 : lo' ≤ lo) (h2 : hi ≤ hi') : EntsIn lo' hi' w A n c l := ⟨by obtain ⟨css, h⟩ := h.ex; exact ⟨css, h.wide elemEnt h1 h2⟩⟩
theorem EntsIn.len (h : EntsIn lo hi w A n c l) : n = l.length := by obtain ⟨css, h⟩ := h.ex; exact h.nl
theorem EntsIn.at_ (h : EntsIn lo hi w A n c l) : EntsAt w A n l := by
  obtain ⟨css, h⟩ := h.ex
  refine ⟨h.nl, fun h0 => ?_⟩
  obtain ⟨g, cs, x, hA, _⟩ := h.elem elemEnt h0
  subst hA
  have hg := (h.row.blk (g := g) (by simp [BlkOf])).2
  refine ⟨g, 0, rfl, hg, fun i hi => ?_⟩
  obtain ⟨g', cs, x, hA, hci, hxi, ⟨A', n', c', rfl, hin⟩, hcell⟩ := h.elem elemEnt hi
  injection hA with hA; injection hA with hA _ _; subst hA
  have hx : enAt l i = x := by simp [enAt, hxi]
  rw [hx]
  exact ⟨by simpa using hcell 0 _ rfl, A', n', c', by simpa using hcell 1 _ rfl, hin.at_, own_cap0 hin.row.own⟩
theorem EntsIn.nil : EntsIn lo hi w none 0 0 [] := ⟨⟨[], RowsIn.nil⟩⟩
end
/-- the answer is entries in memory of the call's own -/
def EntsR (l : List Ent) (w : World) (e : Ending) (w' : World) : Prop :=
  ∃ A n c, e = .returned (.slice A n c) ∧ EntsIn w.heap.size w'.heap.size w' A n c l ∧ Below w.heap.size w w'
def entSz (x : Ent) : Nat := x.p.size + strsSz x.ch
def entsSz (l : List Ent) : Nat := l.length + (l.map entSz).sum
theorem ents_n {w : World} {A : Option Addr} {n : Nat} {l : List Ent} {m : Nat} (h : EntsAt w A n l) (hs : entsSz l ≤ m) : n ≤ m := by
  have := h.1; unfold entsSz at hs; omega
theorem ents_el {l : List Ent} {m : Nat} (hs : entsSz l ≤ m) (i : Nat) : entSz (enAt l i) ≤ m := by
  rcases Nat.lt_or_ge i l.length with h | h
  · rw [enAt_get h]
    have h1 := sumTo_succ entSz l i h
    have h2 := sumTo_le entSz l (i + 1)
    unfold entsSz at hs; omega
  · simp [enAt, h, entSz, entNil, strsSz]

theorem szEntry_any (p : ByteArray) (A : Option Addr) (n c : Nat) (ch : List ByteArray) (left : Int) (w : World) (h : StrsOk w A n ch) (hp : p.size ≤ 9223372036854775807) (hl0 : 0 ≤ left) (hl1 : left ≤ 4611686018427387904) :
    Calls Try.prog 22 #[.agg #[.string p, .slice A n c], .int .i64 left] w fun e w' => e = .returned (.int .i64 (szR left (entSz ⟨p, ch⟩))) ∧ Below w.heap.size w w' := by
  by_cases q1 : (p.size : Int) ≤ left
  · by_cases q2 : ((strsSz ch : Nat) : Int) ≤ left - p.size
    · have R1 := Lib.hid (szR_yes (left := left - p.size) (s := strsSz ch) q2)
      have R := Lib.hid (szR_yes (left := left) (s := entSz ⟨p, ch⟩) (by unfold entSz; push_cast; omega))
      go_enter Try.func22, Try.ntmps22
      go_wp2_with fail
      refine (strs_sz _ _ _ _ _ _ (h.keep (by go_grown)) (by omega) (by omega)).mono ?_
      rintro e w1 ⟨rfl, hb1⟩
      obtain ⟨hc_w1, hf_w1⟩ := bcell hb1
      have hz_w1 := hb1.size
      try simp at hz_w1
      have hB_w1 : Below w.heap.size w w1 := bthen (by go_grown) hb1
      have hz_w1_w_0 : w.heap.size < w1.heap.size := by omega
      rw [R1.out]
      go_wp2
      go_returns
      exact ⟨ret_int (by rw [R.out]; unfold entSz; push_cast; omega), hB_w1⟩
    · have R1 := Lib.hid (szR_no (left := left - p.size) (s := strsSz ch) (by omega))
      have R := Lib.hid (szR_no (left := left) (s := entSz ⟨p, ch⟩) (by unfold entSz; push_cast; omega))
      go_enter Try.func22, Try.ntmps22
      go_wp2_with fail
      refine (strs_sz _ _ _ _ _ _ (h.keep (by go_grown)) (by omega) (by omega)).mono ?_
      rintro e w1 ⟨rfl, hb1⟩
      obtain ⟨hc_w1, hf_w1⟩ := bcell hb1
      have hz_w1 := hb1.size
      try simp at hz_w1
      have hB_w1 : Below w.heap.size w w1 := bthen (by go_grown) hb1
      have hz_w1_w_0 : w.heap.size < w1.heap.size := by omega
      rw [R1.out]
      go_wp2
      go_returns
      exact ⟨ret_int R.out.symm, hB_w1⟩
  · have R := Lib.hid (szR_no (left := left) (s := entSz ⟨p, ch⟩) (by unfold entSz; push_cast; omega))
    go_enter Try.func22, Try.ntmps22
    go_wp2
    go_returns
    exact ⟨ret_int R.out.symm, by go_grown⟩

theorem ents_sz (A : Option Addr) (n c : Nat) (l : List Ent) (left : Int) (w : World) (h : EntsOk w A n l) (hl0 : 0 ≤ left) (hl1 : left ≤ 4611686018427387904) :
    Calls Try.prog 11 #[.slice A n c, .int .i64 left] w fun e w' => e = .returned (.int .i64 (szR left (entsSz l))) ∧ Below w.heap.size w w' := by
  have HL := Lib.hid h.at_.1.symm
  have hn := h.bn
  by_cases h0 : left - n < 0
  · go_enter Try.func11, Try.ntmps11
    go_wp2
    go_returns
    refine ⟨ret_int (szR_no ?_).symm, Below.refl _ _⟩
    have := HL.out; unfold entsSz; omega
  · go_enter Try.func11, Try.ntmps11
    go_wp2
    have E0 := Lib.hid (sumTo_zero entSz l)
    go_loopw [1, 5] (fun u i wr => ∃ k : Nat, k ≤ n ∧ i = .int .i64 k ∧ u = .int .i64 (left - n - (sumTo entSz l k : Nat)) ∧ 0 ≤ left - n - (sumTo entSz l k : Nat) ∧ Below w.heap.size w wr) (fun _ i _ => n - (intOf i).toNat)
    case atStart => exact ⟨0, Nat.zero_le _, rfl, by rw [E0.out]; simp, by rw [E0.out]; omega, Below.refl _ _⟩
    case round =>
      obtain ⟨k, hk, rfl, rfl, hge, hb⟩ := hrel
      by_cases hlt : k < n
      · obtain ⟨b, off, rfl, hbl, hc⟩ := h.at_.at_ (by omega)
        obtain ⟨hp0, A', n', c', hc0, hat, _⟩ := hc k hlt
        obtain ⟨bp, bl, bs⟩ := h.bs k hlt
        have hpk := (hb.cell (p := ⟨b, off + k * 2, none⟩) hbl).trans hp0
        have hck := (hb.cell (p := ⟨b, off + k * 2 + 1, none⟩) hbl).trans hc0
        clear hc hc0 hp0
        have HN := Lib.hid hat.nn
        have HSU := Lib.hid (show sumTo entSz l (k + 1) = sumTo entSz l k + entSz (enAt l k) by
          rw [sumTo_succ _ _ _ (by have := HL.out; omega), enAt_get (by have := HL.out; omega)])
        have HLE := Lib.hid (sumTo_le entSz l (k + 1))
        by_cases hq : left - n - (sumTo entSz l k : Nat) - ((entSz (enAt l k)) : Nat) < 0
        · have HR := Lib.hid (szR_no (left := left - n - (sumTo entSz l k : Nat)) (s := entSz (enAt l k)) (by omega))
          go_wp2_with fail
          refine (szEntry_any _ _ _ _ (enAt l k).ch _ _ ⟨hat.keep hb, by have := HN.out; omega, fun i hi => bs i (by have := HN.out; omega)⟩ bp (by omega) (by omega)).mono ?_
          rintro e w1 ⟨rfl, hb1⟩
          rw [show (Ent.mk (enAt l k).p (enAt l k).ch) = enAt l k from rfl, HR.out]
          go_wp2
          go_returns
          refine ⟨ret_int (szR_no ?_).symm, bthen hb hb1⟩
          have := HL.out; have := HSU.out; have := HLE.out; unfold entsSz; omega
        · have HR := Lib.hid (szR_yes (left := left - n - (sumTo entSz l k : Nat)) (s := entSz (enAt l k)) (by omega))
          go_wp2_with fail
          refine (szEntry_any _ _ _ _ (enAt l k).ch _ _ ⟨hat.keep hb, by have := HN.out; omega, fun i hi => bs i (by have := HN.out; omega)⟩ bp (by omega) (by omega)).mono ?_
          rintro e w1 ⟨rfl, hb1⟩
          rw [show (Ent.mk (enAt l k).p (enAt l k).ch) = enAt l k from rfl, HR.out]
          go_wp2
          refine ⟨⟨k + 1, by omega, by go_num, ?_, ?_, bthen hb hb1⟩, by simp [intOf]; omega⟩
          · rw [HSU.out]; congr 1; push_cast; omega
          · rw [HSU.out]; push_cast; omega
      · go_wp2
        go_returns
        refine ⟨ret_int ?_, hb⟩
        have h3 := sumTo_all entSz l k (by have := HL.out; omega)
        have := HL.out
        rw [szR_yes (by unfold entsSz; omega)]; unfold entsSz; push_cast; omega

theorem set2c {W : World} {g : Nat} {u v a b : Value} (k0 : W.cell? ⟨g, 0, none⟩ = some a) (k1 : W.cell? ⟨g, 1, none⟩ = some b) :
    ∃ WF, WF = (W.setCell ⟨g, 0, none⟩ u).setCell ⟨g, 1, none⟩ v ∧ WF.cell? ⟨g, 0, none⟩ = some u ∧ WF.cell? ⟨g, 1, none⟩ = some v :=
  ⟨_, rfl, setoff (sethere k0) (.inr (by omega)), sethere (setoff k1 (.inr (by omega)))⟩

theorem toEntry_any (p : ByteArray) (A : Option Addr) (n c : Nat) (ch : List ByteArray) (w : World) (h : StrsAt w A n ch) (hs : strsSz ch ≤ 1048576) :
    Calls Try.prog 24 #[.agg #[.string p, .slice A n c]] w fun e w' => ∃ A' n' c', e = .returned (.agg #[.string p, .slice A' n' c']) ∧ StrsIn w.heap.size w'.heap.size w' A' n' c' ch ∧ Below w.heap.size w w' := by
  go_enter Try.func24, Try.ntmps24
  go_wp2_with fail
  refine (strs_to _ _ _ _ _ (h.keep (by go_grown)) hs).mono ?_
  rintro e w1 ⟨A1, n1, c1, rfl, ho1, hb1⟩
  obtain ⟨hc_w1, hf_w1⟩ := bcell hb1
  have hz_w1 := hb1.size
  try simp at hz_w1
  have hB_w1 : Below w.heap.size w w1 := bthen (by go_grown) hb1
  have hz_w1_w_0 : w.heap.size < w1.heap.size := by omega
  have hz_w1_w_1 : w.heap.size + 1 < w1.heap.size := by omega
  have hz_w1_w_2 : w.heap.size + 1 + 1 < w1.heap.size := by omega
  have V1 : StrsIn (w.heap.size + 3) w1.heap.size w1 A1 n1 c1 ch := by simpa using ho1
  clear ho1
  go_wp2
  have k0 : w1.cell? ⟨w.heap.size + 1, 0, none⟩ = some (.string ByteArray.empty) := keep_cell hb1 (by simp [go_sem]; rfl)
  have k1 : w1.cell? ⟨w.heap.size + 1, 1, none⟩ = some (.slice none 0 0) := keep_cell hb1 (by simp [go_sem])
  obtain ⟨WF, hWF, r0, r1⟩ := set2c (W := w1.setCell ⟨w.heap.size + 1 + 1, 1, none⟩ (.slice A1 n1 c1)) (u := .string p) (v := .slice A1 n1 c1) (setoff k0 (.inl (by omega))) (setoff k1 (.inl (by omega)))
  rw [← hWF]
  have C1 : Ch (fun k => k = w.heap.size + 1 ∨ k = w.heap.size + 1 + 1) w1 WF := by
    rw [hWF]; exact (((Ch.refl w1).setCell (.inr rfl) _).setCell (.inl rfl) _).setCell (.inl rfl) _
  have hBF : Below w.heap.size w WF := hB_w1.trans (C1.below (fun k hk => by rcases hk with h | h <;> omega) (by omega))
  exact bodyPost_ret (v := .agg #[.string p, .slice A1 n1 c1]) (by simp [results, Try.results24, go_sem, r0, r1]) rfl ⟨A1, n1, c1, rfl, (V1.ch C1 (fun k hk => by unfold Iv at hk; omega)).wide (by omega) C1.size, hBF⟩

theorem infoEntry : (Try.prog.info? 41).map (fun i => (i.zero, i.size, i.bytes)) = some (some (.agg #[.string ByteArray.empty, .slice none 0 0]), 2, 40) := by kernel_rfl

/-- two cells behind a row's first k elements -/
theorem fill2 {xs : List Value} {css : List (List Value)} {k n : Nat} {a b : Value} (hx : ∀ j, j < k * 2 → xs[j]? = css.flatten[j]?) (hl : xs.length = n * 2) (hk : k < n) (hf : css.flatten.length = k * 2) :
    ∀ j, j < (k + 1) * 2 → ((xs.set (k * 2) a).set (k * 2 + 1) b)[j]? = (css ++ [[a, b]]).flatten[j]? := by
  intro j hj
  rw [flat_snoc]
  simp only [List.getElem?_set, List.length_set]
  by_cases e : j < k * 2
  · rw [if_neg (by omega), if_neg (by omega), List.getElem?_append_left (by omega)]
    exact hx j e
  · rw [List.getElem?_append_right (by omega), hf]
    rcases (show j = k * 2 ∨ j = k * 2 + 1 by omega) with e | e
    · subst e; rw [if_neg (by omega), if_pos rfl, if_pos (by omega)]; simp
    · subst e; rw [if_pos rfl, if_pos (by omega)]; simp
theorem take_snoc2 {α : Type} (l : List α) (k : Nat) (h : k < l.length) : l.take (k + 1) = l.take k ++ [l[k]] := List.take_succ_eq_append_getElem h
theorem own_size {w : World} {base e sz n c g : Nat} {xs : List Value} (h : w.ownsRow base e sz (.slice (some ⟨g, 0, none⟩) n c) n xs) : g < w.heap.size :=
  (own_form h).elim (fun h => by obtain ⟨h, _⟩ := h; cases h) (fun ⟨g', hg, _, hlt⟩ => by injection hg with hg; injection hg with hg _ _; omega)

set_option maxHeartbeats 400000 in
theorem ents_to (A : Option Addr) (n c : Nat) (l : List Ent) (w : World) (h : EntsAt w A n l) (hs : entsSz l ≤ 1048576) :
    Calls Try.prog 13 #[.slice A n c] w fun e w' => ∃ A' n' c', e = .returned (.slice A' n' c') ∧ EntsIn w.heap.size w'.heap.size w' A' n' c' l ∧ Below w.heap.size w w' := by
  have HL := Lib.hid h.1.symm
  have hn := ents_n h hs
  have hel := ents_el hs
  go_enter Try.func13, Try.ntmps13
  go_wp2_with (refine wpList_mk (P := Try.prog) _ rfl _ _ 25 rfl w.heap.size 41 _ 2 40 Try.underlying25 infoEntry _ _ _ _ n rfl rfl rfl rfl (by omega) (by unfold maxLen; omega) (Nat.le_refl _) ?_; intro w1 hown1 hg1 hb1)
  clear hg1
  go_loopw [4] (fun i wr => ∃ (k : Nat) (xs : List Value) (css : List (List Value)), k ≤ n ∧ i = .int .i64 k ∧ wr.ownsRow w.heap.size 41 2 (.slice (some ⟨w.heap.size, 0, none⟩) n n) n xs ∧ (∀ j, j < k * 2 → xs[j]? = css.flatten[j]?) ∧
      SubsIn FEnt (w.heap.size + 1) wr.heap.size wr css (l.take k) ∧ Below w.heap.size w wr) (fun i _ => n - (intOf i).toNat)
  case atStart => exact ⟨0, _, [], Nat.zero_le _, rfl, hown1, fun j hj => absurd hj (by omega), SubsIn.nil, hb1⟩
  case round =>
    obtain ⟨k, xs, css, hk, rfl, hown, hx, hsub, hb⟩ := hrel
    have HX := Lib.hid hx; clear hx
    by_cases hlt : k < n
    · obtain ⟨b, off, rfl, hbl, hc⟩ := h.at_ (by omega)
      obtain ⟨hp0, A', n', c', hc0, hat, _⟩ := hc k hlt
      have hpk := (hb.cell (p := ⟨b, off + k * 2, none⟩) hbl).trans hp0
      have hck := (hb.cell (p := ⟨b, off + k * 2 + 1, none⟩) hbl).trans hc0
      clear hc hc0 hp0
      have hek := hel k
      unfold entSz at hek
      have hz0 := own_size hown
      go_wp2_with fail
      refine (toEntry_any _ _ _ _ (enAt l k).ch _ (hat.keep hb) (by omega)).mono ?_
      rintro e w2 ⟨A2, n2, c2, rfl, hin2, hb2⟩
      have hown2 := ((RowIn.of_own hown).keep hb2).own
      have hz2 := hb2.size
      obtain ⟨o0, ho0⟩ := own_cell hown2 (j := k * 2) (by omega)
      obtain ⟨o1, ho1⟩ := own_cell hown2 (j := k * 2 + 1) (by omega)
      have hf0 := hown2.frozenAt (k * 2)
      have hf1 := hown2.frozenAt (k * 2 + 1)
      go_wp2
      obtain ⟨q1, g1⟩ := hown2.stored (k * 2) (.string (enAt l k).p)
      obtain ⟨q2, g2⟩ := q1.stored (k * 2 + 1) (.slice A2 n2 c2)
      have hC : Ch (fun b => b = w.heap.size) w2 ((w2.setCell ⟨w.heap.size, k * 2, none⟩ (.string (enAt l k).p)).setCell ⟨w.heap.size, k * 2 + 1, none⟩ (.slice A2 n2 c2)) :=
        ((Ch.refl (S := fun b => b = w.heap.size) w2).setCell (p := ⟨w.heap.size, k * 2, none⟩) rfl _).setCell (p := ⟨w.heap.size, k * 2 + 1, none⟩) rfl _
      have hkl : k < l.length := by have := HL.out; omega
      have hlen : css.flatten.length = k * 2 := by
        rw [flat_len (hsub.lens elemEnt), hsub.len, List.length_take]; omega
      refine ⟨⟨k + 1, _, css ++ [[.string (enAt l k).p, .slice A2 n2 c2]], by omega, by go_num, q2, fill2 HX.out hown2.1 hlt hlen, ?_, ((bthen hb hb2).setCell (Nat.le_refl _) _).setCell (Nat.le_refl _) _⟩, by simp [intOf]; omega⟩
      rw [take_snoc2 l k hkl]
      have hsub2 := ((hsub.keep elemEnt hb2).wide elemEnt (Nat.le_refl _) hz2 : SubsIn FEnt (w.heap.size + 1) w2.heap.size w2 css (l.take k))
      have hx2 : FEnt (w.heap.size + 1) w2.heap.size w2 [.string (enAt l k).p, .slice A2 n2 c2] l[k] := ⟨A2, n2, c2, by rw [← enAt_get hkl], by rw [← enAt_get hkl]; exact hin2.wide (by omega) (Nat.le_refl _)⟩
      have hnew := hsub2.snoc_new elemEnt hx2 (m := wr.heap.size) (fun cs' h' b hb => (hsub.leads elemEnt h' hb).2) (fun b hb => (hin2.row.blk (blk_of (leads2 hb))).1.1)
      exact (hnew.chi elemEnt hC (fun b hb e => by unfold Iv at hb; omega)).wide elemEnt (Nat.le_refl _) (by simp)
    · go_wp2
      go_returns
      have hkn : k = n := by omega
      subst hkn
      have hlen : css.flatten.length = k * 2 := by
        rw [flat_len (hsub.lens elemEnt), hsub.len, List.length_take]; have := HL.out; omega
      have hxe : xs = css.flatten := by
        apply List.ext_getElem?
        intro j
        rcases Nat.lt_or_ge j (k * 2) with hj | hj
        · exact HX.out j hj
        · rw [List.getElem?_eq_none (by have := hown.1; omega), List.getElem?_eq_none (by omega)]
      subst hxe
      have ht : l.take k = l := List.take_of_length_le (by have := HL.out; omega)
      rw [ht] at hsub
      exact ⟨_, _, _, rfl, ⟨css, RowIn.of_own hown, hsub.wide elemEnt (by omega) (Nat.le_refl _), fun cs hcs b hb hA => by have := (hsub.leads elemEnt hcs hb).1; have := hA.eq; unfold Iv at *; omega, HL.out.symm⟩, hb⟩

theorem eqEntry_same (p : ByteArray) (A : Option Addr) (n c : Nat) (A' : Option Addr) (n' c' : Nat) (ch : List ByteArray) (w : World) (h : StrsAt w A n ch) (h' : StrsAt w A' n' ch) (hs : strsSz ch ≤ 16777216) :
    Calls Try.prog 26 #[.agg #[.string p, .slice A n c], .agg #[.string p, .slice A' n' c']] w fun e w' => e = .returned (.bool true) ∧ Below w.heap.size w w' := by
  go_enter Try.func26, Try.ntmps26
  go_wp2_with fail
  refine (strs_eq _ _ _ _ _ _ ch _ (h.keep (by go_grown)) (h'.keep (by go_grown)) hs).mono ?_
  rintro e w1 ⟨rfl, hb1⟩
  obtain ⟨hc_w1, hf_w1⟩ := bcell hb1
  have hz_w1 := hb1.size
  try simp at hz_w1
  have hB_w1 : Below w.heap.size w w1 := bthen (by go_grown) hb1
  have hz_w1_w_0 : w.heap.size < w1.heap.size := by omega
  have hz_w1_w_1 : w.heap.size + 1 < w1.heap.size := by omega
  go_wp2
  go_returns
  exact ⟨rfl, hB_w1⟩

set_option maxRecDepth 8000 in
theorem ents_eq (A : Option Addr) (n c : Nat) (A' : Option Addr) (n' c' : Nat) (l : List Ent) (w : World) (h : EntsAt w A n l) (h' : EntsAt w A' n' l) (hs : entsSz l ≤ 16777216) :
    Calls Try.prog 15 #[.slice A n c, .slice A' n' c'] w fun e w' => e = .returned (.bool true) ∧ Below w.heap.size w w' := by
  obtain rfl : n = n' := h.1.trans h'.1.symm
  have hn := ents_n h hs
  have hel := ents_el hs
  go_enter Try.func15, Try.ntmps15
  go_wp2
  go_loopw [5] (fun i wr => ∃ (k : Nat), k ≤ n ∧ i = .int .i64 k ∧ Below w.heap.size w wr) (fun i _ => n - (intOf i).toNat)
  case atStart => exact ⟨0, Nat.zero_le _, rfl, Below.refl _ _⟩
  case round =>
    obtain ⟨k, hk, rfl, hb⟩ := hrel
    by_cases hlt : k < n
    · obtain ⟨b, off, rfl, hbl, hc⟩ := h.at_ (by omega)
      obtain ⟨hp0, A1, n1, c1, hc0, hat, _⟩ := hc k hlt
      have hpk := (hb.cell (p := ⟨b, off + k * 2, none⟩) hbl).trans hp0
      have hck := (hb.cell (p := ⟨b, off + k * 2 + 1, none⟩) hbl).trans hc0
      clear hc hc0 hp0
      obtain ⟨b', off', rfl, hbl', hc'⟩ := h'.at_ (by omega)
      obtain ⟨hp0', A2, n2, c2, hc0', hat', _⟩ := hc' k hlt
      have hpk' := (hb.cell (p := ⟨b', off' + k * 2, none⟩) hbl').trans hp0'
      have hck' := (hb.cell (p := ⟨b', off' + k * 2 + 1, none⟩) hbl').trans hc0'
      clear hc' hc0' hp0'
      have hek := hel k
      unfold entSz at hek
      have hn63 : (k : Int) < n := by omega
      go_wp2
      go_still_tail 8, (by kernel_rfl)
      change wpList _ _ _ _ _ wr.drew
      have hbd : Below w.heap.size w wr.drew := hb.drew
      generalize wr.drew = w2 at *
      go_wp2_with fail
      refine (eqEntry_same _ _ _ _ _ _ _ (enAt l k).ch _ (hat.keep hbd) (hat'.keep hbd) (by omega)).mono ?_
      rintro e w3 ⟨rfl, hb3⟩
      go_wp2
      exact ⟨⟨k + 1, by omega, by go_num, bthen hbd hb3⟩, by simp [intOf]; omega⟩
    · go_wp2
      go_returns
      exact ⟨rfl, hb⟩

section
open Go.ChangeShapes Go.WideShapes Go.ChangeAt Go.Deep
variable {H : Type} {enc : TypeId × Value → H} {w : World} {base : Nat} {spare : Nat → Bool} {held : Bool}
theorem cellsEntryL : Try.prog.cellsOf 38 = 2 := by kernel_rfl
theorem cellsStringL : Try.prog.cellsOf 9 = 1 := by kernel_rfl
theorem cellsStrsL : Try.prog.cellsOf 36 = 1 := by kernel_rfl
theorem two_of {cs : List Value} (h : cs.length = 2) : ∃ a b, cs = [a, b] := by
  match cs, h with
  | [a, b], _ => exact ⟨a, b, rfl⟩
set_option maxRecDepth 8000 in
theorem trod_strs {fu : Nat} {cs : List Value} {y : DataW H × List MemPlace} (h : DataW.trod enc Try.prog w base spare held fu 36 cs = some y) :
    ∃ A n c l, cs = [.slice A n c] ∧ StrsAt w A n l ∧ (A = none → c = 0) ∧ n ≤ 9223372036854775807 ∧ ∀ i, i < n → (sAt l i).size ≤ 9223372036854775807 := by
  obtain ⟨A, n, c, l, hcs, hr, hn, _, hc⟩ := open_rows_cs (C := fun _ cs (x : ByteArray) => cs = [.string x] ∧ x.size ≤ 9223372036854775807) Try.underlying36 cellsStringL (by omega) (fun fu cs y h => by obtain ⟨m, hm, hw⟩ := trod_str1 Try.underlying9 h; exact ⟨m, hm, hw⟩) h
  have hl := hr.1
  refine ⟨A, n, c, l, hcs, ?_, hc, hn, fun i hi => ?_⟩
  · unfold StrsAt
    refine ⟨hl, fun h0 => ?_⟩
    obtain ⟨b, off, rfl, hlt, hcell⟩ := hr.2 h0
    refine ⟨b, off, rfl, hlt, fun i hi => ?_⟩
    obtain ⟨cs', ⟨hx, _⟩, _, hc'⟩ := hcell i (sAt l i) (by rw [sAt_get (by omega)]; exact List.getElem?_eq_getElem (by omega))
    subst hx
    simpa using hc' 0 _ rfl
  · obtain ⟨b, off, rfl, hlt, hcell⟩ := hr.2 (by omega)
    obtain ⟨cs', ⟨_, hw⟩, _⟩ := hcell i (sAt l i) (by rw [sAt_get (by omega)]; exact List.getElem?_eq_getElem (by omega))
    exact hw
set_option maxRecDepth 8000 in
theorem trod_entry {fu : Nat} {cs : List Value} {y : DataW H × List MemPlace} (h : DataW.trod enc Try.prog w base spare held fu 38 cs = some y) : ∃ e, CEnt w cs e := by
  obtain ⟨a, b, rfl⟩ := two_of (trod_len Try.underlying38 cellsEntryL h)
  obtain ⟨_, _, h0⟩ := trod_fieldAt Try.underlying38 0 rfl cellsStringL h
  obtain ⟨_, _, h1⟩ := trod_fieldAt Try.underlying38 1 rfl cellsStrsL h
  obtain ⟨x, e3, wx⟩ := trod_str1 Try.underlying9 h0
  obtain ⟨A, n, c, l, e1, q1, q2, q3, q4⟩ := trod_strs h1
  simp at e3 e1
  subst e3 e1
  exact ⟨⟨x, l⟩, A, n, c, rfl, q1, q2, q3, wx, q4⟩
set_option maxRecDepth 8000 in
theorem open_entries {r : Reach} {b0 : Nat} {v : Value} {d : DataW H} {p : List MemPlace}
    (hv : Value.okWide Try.prog w r b0 22 v) (h : DataW.Trod enc Try.prog w base spare held 22 v d p) :
    ∃ (A : Option Addr) (n c : Nat) (l : List Ent), v = .slice A n c ∧ RowAt CEnt 2 w A n l ∧ n ≤ 9223372036854775807 :=
  open_rows Try.underlying22 cellsEntryL (by omega) (fun _ _ _ h => trod_entry h) hv h
end
end Go.Proofs.Ytmichbgiaoopgaa
