/- The laws' helpers on [][]int in one shape. -/
import Derived.Test.YtjhkeknbbeckgaaIntList
import Derived.Test.YtjhkeknbbeckgaaNest
import Derived.Deep.RegionHeld3
namespace Go.Proofs.Ytjhkeknbbeckgaa
open Go.RowKit
attribute [local irreducible] IntsAt

def lAt (l : List (List Int)) (i : Nat) : List Int := l.getD i []
theorem lAt_get {l : List (List Int)} {k : Nat} (h : k < l.length) : lAt l k = l[k] := by simp [lAt, h]
/-- an element of [][]int that is read -/
def CInts (w : World) (cs : List Value) (x : List Int) : Prop := ∃ A n c, cs = [.slice A n c] ∧ IntsAt w A n x ∧ (A = none → c = 0) ∧ n ≤ 9223372036854775807
theorem CInts.keep {w w' : World} {cs : List Value} {x : List Int} (h : CInts w cs x) (hb : Below w.heap.size w w') : CInts w' cs x := by
  obtain ⟨A, n, c, h1, h2, h3⟩ := h
  exact ⟨A, n, c, h1, h2.keep hb, h3⟩
/-- a row of rows of ints -/
def IntssAt (w : World) (A : Option Addr) (n : Nat) (l : List (List Int)) : Prop := n = l.length ∧ (0 < n → ∃ b off, A = some ⟨b, off, none⟩ ∧ b < w.heap.size ∧ ∀ i, i < n → ∃ A' n' c', w.cell? ⟨b, off + i, none⟩ = some (.slice A' n' c') ∧ IntsAt w A' n' (lAt l i) ∧ (A' = none → c' = 0) ∧ n' ≤ 9223372036854775807)
section
variable {w w' : World} {A : Option Addr} {n : Nat} {l : List (List Int)}
theorem IntssAt.keep (h : IntssAt w A n l) (hb : Below w.heap.size w w') : IntssAt w' A n l := by
  refine ⟨h.1, fun hn => ?_⟩
  obtain ⟨b, off, rfl, hlt, hc⟩ := h.2 hn
  refine ⟨b, off, rfl, Nat.lt_of_lt_of_le hlt hb.size, fun i hi => ?_⟩
  obtain ⟨A', n', c', h1, h2, h3⟩ := hc i hi
  exact ⟨A', n', c', (hb.cell hlt).trans h1, h2.keep hb, h3⟩
theorem IntssAt.at_ (h : IntssAt w A n l) (hn : 0 < n) : ∃ b off, A = some ⟨b, off, none⟩ ∧ b < w.heap.size ∧ ∀ i, i < n → ∃ A' n' c', w.cell? ⟨b, off + i, none⟩ = some (.slice A' n' c') ∧ IntsAt w A' n' (lAt l i) ∧ (A' = none → c' = 0) ∧ n' ≤ 9223372036854775807 := h.2 hn
theorem IntssAt.of_row (h : RowAt CInts 1 w A n l) : IntssAt w A n l := by
  have hl := h.1
  refine ⟨hl, fun hn => ?_⟩
  obtain ⟨b, off, rfl, hlt, hc⟩ := h.2 hn
  refine ⟨b, off, rfl, hlt, fun i hi => ?_⟩
  obtain ⟨cs, ⟨A', n', c', rfl, h2, h3⟩, _, hcell⟩ := hc i (lAt l i) (by rw [lAt_get (by omega)]; exact List.getElem?_eq_getElem (by omega))
  exact ⟨A', n', c', by simpa using hcell 0 _ rfl, h2, h3⟩
end
structure IntssOk (w : World) (A : Option Addr) (n : Nat) (l : List (List Int)) : Prop where
  at_ : IntssAt w A n l
  bn : n ≤ 9223372036854775807
theorem IntssOk.keep {w w' : World} {A : Option Addr} {n : Nat} {l : List (List Int)} (h : IntssOk w A n l) (hb : Below w.heap.size w w') : IntssOk w' A n l := ⟨h.at_.keep hb, h.bn⟩

/-- an element of the call's own -/
def FInts (lo hi : Nat) (w : World) (cs : List Value) (x : List Int) : Prop := ∃ A n c, cs = [.slice A n c] ∧ IntsIn lo hi w A n c x
theorem leads1 {v : Value} {b : Nat} (h : Leads [v] b) : v.ownBlock = some b := by obtain ⟨u, hu, hb⟩ := h; simp at hu; subst hu; exact hb
theorem elemInts : Elem FInts 1 where
  len := fun ⟨A, n, c, h, _⟩ => by subst h; rfl
  leads := fun ⟨A, n, c, h, hi⟩ hb => by subst h; exact hi.row.blk (blk_of (leads1 hb))
  ch := fun ⟨A, n, c, h, hi⟩ hc hS => by
    subst h
    exact ⟨A, n, c, rfl, ⟨⟨own_ch hi.row.own hc (fun k hk => hS k ⟨_, List.mem_singleton.2 rfl, hk⟩), hi.row.lt⟩⟩⟩
  wide := fun ⟨A, n, c, h, hi⟩ h1 h2 => ⟨A, n, c, h, hi.wide h1 h2⟩
structure IntssIn (lo hi : Nat) (w : World) (A : Option Addr) (n c : Nat) (l : List (List Int)) : Prop where
  ex : ∃ css, RowsIn FInts 24 1 lo hi w A n c l css
theorem own_cap {w : World} {base e sz n c : Nat} {A : Option Addr} {xs : List Value} (h : w.ownsRow base e sz (.slice A n c) n xs) : A = none → c = 0 := fun hA => by
  rcases own_form h with ⟨_, _, h0, _⟩ | ⟨g, hg, _⟩
  · exact h0
  · rw [hA] at hg; cases hg
theorem own_max {w : World} {base e sz n c : Nat} {A : Option Addr} {xs : List Value} (h : w.ownsRow base e sz (.slice A n c) n xs) : n ≤ 9223372036854775807 := by
  rcases h.2 with ⟨_, h0⟩ | ⟨g, cap, cur, hv, hb, hg, h1, h2, _⟩
  · omega
  · unfold maxLen at h2; omega
section
variable {lo hi lo' hi' n c : Nat} {w w' : World} {A : Option Addr} {l : List (List Int)}
theorem IntssIn.keep (h : IntssIn lo hi w A n c l) (hb : Below w.heap.size w w') : IntssIn lo hi w' A n c l := ⟨by obtain ⟨css, h⟩ := h.ex; exact ⟨css, h.keep elemInts hb⟩⟩
theorem IntssIn.ch {S : Nat → Prop} (h : IntssIn lo hi w A n c l) (hc : Ch S w w') (hS : ∀ k, Iv lo hi k → ¬ S k) : IntssIn lo hi w' A n c l := ⟨by obtain ⟨css, h⟩ := h.ex; exact ⟨css, h.ch elemInts hc hS⟩⟩
theorem IntssIn.wide (h : IntssIn lo hi w A n c l) (h1 : lo' ≤ lo) (h2 : hi ≤ hi') : IntssIn lo' hi' w A n c l := ⟨by obtain ⟨css, h⟩ := h.ex; exact ⟨css, h.wide elemInts h1 h2⟩⟩
theorem IntssIn.at_ (h : IntssIn lo hi w A n c l) : IntssAt w A n l := by
  obtain ⟨css, h⟩ := h.ex
  refine ⟨h.nl, fun h0 => ?_⟩
  obtain ⟨g, cs, x, hA, _⟩ := h.elem elemInts h0
  subst hA
  have hg := (h.row.blk (g := g) (by simp [BlkOf])).2
  refine ⟨g, 0, rfl, hg, fun i hi => ?_⟩
  obtain ⟨g', cs, x, hA, hci, hxi, ⟨A', n', c', rfl, hin⟩, hcell⟩ := h.elem elemInts hi
  injection hA with hA; injection hA with hA _ _; subst hA
  have hx : lAt l i = x := by simp [lAt, hxi]
  rw [hx]
  exact ⟨A', n', c', by simpa using hcell 0 _ rfl, hin.at_, own_cap hin.row.own, own_max hin.row.own⟩
end
def intssSz (l : List (List Int)) : Nat := l.length + (l.map intsSz).sum
def intssCnt (l : List (List Int)) : Nat := (l.map intsSz).sum
theorem intss_cnt (l : List (List Int)) : intssCnt l ≤ intssSz l := by unfold intssCnt intssSz; omega
theorem intss_n {w : World} {A : Option Addr} {n : Nat} {l : List (List Int)} {m : Nat} (h : IntssAt w A n l) (hs : intssSz l ≤ m) : n ≤ m := by
  have := h.1; unfold intssSz at hs; omega
theorem intss_el {l : List (List Int)} {m : Nat} (hs : intssSz l ≤ m) (i : Nat) : intsSz (lAt l i) ≤ m := by
  rcases Nat.lt_or_ge i l.length with h | h
  · rw [lAt_get h]
    have h1 := sumTo_succ intsSz l i h
    have h2 := sumTo_le intsSz l (i + 1)
    unfold intssSz at hs; omega
  · simp [lAt, h, intsSz]
theorem intss_mem {l : List (List Int)} {m : Nat} (hs : intssSz l ≤ m) : ∀ x ∈ l, x.length ≤ m := fun x hx => by
  obtain ⟨i, hi, rfl⟩ := List.mem_iff_getElem.1 hx
  have := intss_el hs i
  rw [lAt_get hi] at this; exact this

theorem intss_sz (A : Option Addr) (n c : Nat) (l : List (List Int)) (left : Int) (w : World) (h : IntssOk w A n l) (hl0 : 0 ≤ left) (hl1 : left ≤ 4611686018427387904) :
    Calls Try.prog 22 #[.slice A n c, .int .i64 left] w fun e w' => e = .returned (.int .i64 (szR left (intssSz l))) ∧ Below w.heap.size w w' := by
  have HL := Lib.hid h.at_.1.symm
  have hn := h.bn
  by_cases h0 : left - n < 0
  · go_enter Try.func22, Try.ntmps22
    go_wp2
    go_returns
    refine ⟨ret_int (szR_no ?_).symm, Below.refl _ _⟩
    have := HL.out; unfold intssSz; omega
  · go_enter Try.func22, Try.ntmps22
    go_wp2
    have E0 := Lib.hid (sumTo_zero intsSz l)
    go_loopw [1, 5] (fun u i wr => ∃ k : Nat, k ≤ n ∧ i = .int .i64 k ∧ u = .int .i64 (left - n - (sumTo intsSz l k : Nat)) ∧ 0 ≤ left - n - (sumTo intsSz l k : Nat) ∧ Below w.heap.size w wr) (fun _ i _ => n - (intOf i).toNat)
    case atStart => exact ⟨0, Nat.zero_le _, rfl, by rw [E0.out]; simp, by rw [E0.out]; omega, Below.refl _ _⟩
    case round =>
      obtain ⟨k, hk, rfl, rfl, hge, hb⟩ := hrel
      by_cases hlt : k < n
      · obtain ⟨b, off, rfl, hbl, hc⟩ := h.at_.at_ (by omega)
        obtain ⟨A', n', c', hc0, hat, _, hn'⟩ := hc k hlt
        have hck := (hb.cell (p := ⟨b, off + k, none⟩) hbl).trans hc0
        clear hc hc0
        have HSU := Lib.hid (show sumTo intsSz l (k + 1) = sumTo intsSz l k + intsSz (lAt l k) by
          rw [sumTo_succ _ _ _ (by have := HL.out; omega), lAt_get (by have := HL.out; omega)])
        have HLE := Lib.hid (sumTo_le intsSz l (k + 1))
        by_cases hq : left - n - (sumTo intsSz l k : Nat) - ((intsSz (lAt l k)) : Nat) < 0
        · have HR := Lib.hid (szR_no (left := left - n - (sumTo intsSz l k : Nat)) (s := intsSz (lAt l k)) (by omega))
          go_wp2_with fail
          refine (ints_sz _ _ _ (lAt l k) _ _ ⟨hat.keep hb, hn'⟩ (by omega) (by omega)).mono ?_
          rintro e w1 ⟨rfl, hb1⟩
          rw [HR.out]
          go_wp2
          go_returns
          refine ⟨ret_int (szR_no ?_).symm, bthen hb hb1⟩
          have := HL.out; have := HSU.out; have := HLE.out; unfold intssSz; omega
        · have HR := Lib.hid (szR_yes (left := left - n - (sumTo intsSz l k : Nat)) (s := intsSz (lAt l k)) (by omega))
          go_wp2_with fail
          refine (ints_sz _ _ _ (lAt l k) _ _ ⟨hat.keep hb, hn'⟩ (by omega) (by omega)).mono ?_
          rintro e w1 ⟨rfl, hb1⟩
          rw [HR.out]
          go_wp2
          refine ⟨⟨k + 1, by omega, by go_num, ?_, ?_, bthen hb hb1⟩, by simp [intOf]; omega⟩
          · rw [HSU.out]; congr 1; push_cast; omega
          · rw [HSU.out]; push_cast; omega
      · go_wp2
        go_returns
        refine ⟨ret_int ?_, hb⟩
        have h3 := sumTo_all intsSz l k (by have := HL.out; omega)
        have := HL.out
        rw [szR_yes (by unfold intssSz; omega)]; unfold intssSz; push_cast; omega

theorem infoInts : (Try.prog.info? 24).map (fun i => (i.zero, i.size, i.bytes)) = some (some (.slice none 0 0), 1, 24) := by kernel_rfl
theorem take_snoc {α : Type} (l : List α) (k : Nat) (h : k < l.length) : l.take (k + 1) = l.take k ++ [l[k]] := List.take_succ_eq_append_getElem h

theorem intss_to (A : Option Addr) (n c : Nat) (l : List (List Int)) (w : World) (h : IntssAt w A n l) (hs : intssSz l ≤ 1048576) :
    Calls Try.prog 24 #[.slice A n c] w fun e w' => ∃ A' n' c', e = .returned (.slice A' n' c') ∧ IntssIn w.heap.size w'.heap.size w' A' n' c' l ∧ Below w.heap.size w w' := by
  have HL := Lib.hid h.1.symm
  have hn := intss_n h hs
  have hel := intss_el hs
  go_enter Try.func24, Try.ntmps24
  go_wp2_with (refine wpList_mk (P := Try.prog) _ rfl _ _ 36 rfl w.heap.size 24 _ 1 24 Try.underlying36 infoInts _ _ _ _ n rfl rfl rfl rfl (by omega) (by unfold maxLen; omega) (Nat.le_refl _) ?_; intro w1 hown1 hg1 hb1)
  clear hg1
  go_loopw [4] (fun i wr => ∃ (k : Nat) (xs : List Value) (css : List (List Value)), k ≤ n ∧ i = .int .i64 k ∧ wr.ownsRow w.heap.size 24 1 (.slice (some ⟨w.heap.size, 0, none⟩) n n) n xs ∧ (∀ j, j < k → xs[j]? = css.flatten[j]?) ∧
      SubsIn FInts (w.heap.size + 1) wr.heap.size wr css (l.take k) ∧ Below w.heap.size w wr) (fun i _ => n - (intOf i).toNat)
  case atStart => exact ⟨0, _, [], Nat.zero_le _, rfl, hown1, fun j hj => absurd hj (by omega), SubsIn.nil, hb1⟩
  case round =>
    obtain ⟨k, xs, css, hk, rfl, hown, hx, hsub, hb⟩ := hrel
    have HX := Lib.hid hx; clear hx
    by_cases hlt : k < n
    · obtain ⟨b, off, rfl, hbl, hc⟩ := h.at_ (by omega)
      obtain ⟨A', n', c', hc0, hat, _, hn'⟩ := hc k hlt
      have hck := (hb.cell (p := ⟨b, off + k, none⟩) hbl).trans hc0
      clear hc hc0
      have hek := hel k
      have hz0 : w.heap.size < wr.heap.size := (own_form hown).elim (fun h => by obtain ⟨h, _⟩ := h; cases h) (fun ⟨g, hg, _, hlt⟩ => by injection hg with hg; injection hg with hg _ _; omega)
      go_wp2_with fail
      refine (ints_to _ _ _ (lAt l k) _ (hat.keep hb) (by omega)).mono ?_
      rintro e w2 ⟨A2, n2, c2, rfl, hin2, hb2⟩
      have hown2 := ((RowIn.of_own hown).keep hb2).own
      have hz2 := hb2.size
      obtain ⟨old, hold⟩ := own_cell hown2 (j := k) (by omega)
      have hfr := hown2.frozenAt k
      go_wp2
      obtain ⟨hown3, hg3⟩ := hown2.stored k (.slice A2 n2 c2)
      have hC : Ch (fun b => b = w.heap.size) w2 (w2.setCell ⟨w.heap.size, k, none⟩ (.slice A2 n2 c2)) := (Ch.refl (S := fun b => b = w.heap.size) w2).setCell (p := ⟨w.heap.size, k, none⟩) rfl _
      refine ⟨⟨k + 1, _, css ++ [[.slice A2 n2 c2]], by omega, by go_num, hown3, ?_, ?_, (bthen hb hb2).grown hg3 (by have := hb.size; omega) (by simp)⟩, by simp [intOf]; omega⟩
      · have hlen : css.flatten.length = k := by
          rw [flat_len (hsub.lens elemInts), hsub.len, List.length_take]; have := HL.out; omega
        rw [flat_snoc]
        intro j hj
        rw [List.getElem?_set]
        by_cases e : k = j
        · subst e
          rw [if_pos rfl, if_pos (by have := hown2.1; omega), List.getElem?_append_right (by omega), hlen]
          simp
        · rw [if_neg e, List.getElem?_append_left (by omega)]
          exact HX.out j (by omega)
      · rw [take_snoc l k (by have := HL.out; omega)]
        have hsub2 := ((hsub.keep elemInts hb2).wide elemInts (Nat.le_refl _) hz2 : SubsIn FInts (w.heap.size + 1) w2.heap.size w2 css (l.take k))
        have hkl : k < l.length := by have := HL.out; omega
        have hx2 : FInts (w.heap.size + 1) w2.heap.size w2 [.slice A2 n2 c2] l[k] := ⟨A2, n2, c2, rfl, by rw [← lAt_get hkl]; exact hin2.wide (by omega) (Nat.le_refl _)⟩
        have hnew := hsub2.snoc_new elemInts hx2 (m := wr.heap.size) (fun cs' h' b hb => (hsub.leads elemInts h' hb).2) (fun b hb => (hin2.row.blk (blk_of (leads1 hb))).1.1)
        refine (hnew.chi elemInts hC (fun b hb e => by unfold Iv at hb; omega)).wide elemInts (Nat.le_refl _) (by simp)
    · go_wp2
      go_returns
      have hkn : k = n := by omega
      subst hkn
      have hlen : css.flatten.length = k := by
        rw [flat_len (hsub.lens elemInts), hsub.len, List.length_take]; have := HL.out; omega
      have hxe : xs = css.flatten := by
        apply List.ext_getElem?
        intro j
        rcases Nat.lt_or_ge j k with hj | hj
        · exact HX.out j hj
        · rw [List.getElem?_eq_none (by have := hown.1; omega), List.getElem?_eq_none (by omega)]
      subst hxe
      have ht : l.take k = l := List.take_of_length_le (by have := HL.out; omega)
      rw [ht] at hsub
      exact ⟨_, _, _, rfl, ⟨css, RowIn.of_own hown, hsub.wide elemInts (by omega) (Nat.le_refl _), fun cs hcs b hb hA => by have := (hsub.leads elemInts hcs hb).1; have := hA.eq; unfold Iv at *; omega, HL.out.symm⟩, hb⟩

theorem intss_eq (A : Option Addr) (n c : Nat) (A' : Option Addr) (n' c' : Nat) (l : List (List Int)) (w : World) (h : IntssAt w A n l) (h' : IntssAt w A' n' l) (hs : intssSz l ≤ 16777216) :
    Calls Try.prog 27 #[.slice A n c, .slice A' n' c'] w fun e w' => e = .returned (.bool true) ∧ Below w.heap.size w w' := by
  obtain rfl : n = n' := h.1.trans h'.1.symm
  have hn := intss_n h hs
  have hel := intss_el hs
  go_enter Try.func27, Try.ntmps27
  go_wp2
  go_loopw [5] (fun i wr => ∃ (k : Nat), k ≤ n ∧ i = .int .i64 k ∧ Below w.heap.size w wr) (fun i _ => n - (intOf i).toNat)
  case atStart => exact ⟨0, Nat.zero_le _, rfl, Below.refl _ _⟩
  case round =>
    obtain ⟨k, hk, rfl, hb⟩ := hrel
    by_cases hlt : k < n
    · obtain ⟨b, off, rfl, hbl, hc⟩ := h.at_ (by omega)
      obtain ⟨A1, n1, c1, hc0, hat, _, _⟩ := hc k hlt
      have hck := (hb.cell (p := ⟨b, off + k, none⟩) hbl).trans hc0
      clear hc hc0
      obtain ⟨b', off', rfl, hbl', hc'⟩ := h'.at_ (by omega)
      obtain ⟨A2, n2, c2, hc0', hat', _, _⟩ := hc' k hlt
      have hck' := (hb.cell (p := ⟨b', off' + k, none⟩) hbl').trans hc0'
      clear hc' hc0'
      have hek := hel k
      go_wp2
      go_region_held3 (fun w' => w'.cell? ⟨b, off + k, none⟩ = some (.slice A1 n1 c1) ∧ w'.cell? ⟨b', off' + k, none⟩ = some (.slice A2 n2 c2) ∧ Below w.heap.size w w') (first | (have hh := ‹_ ∧ _›; exact ⟨keep_cell hbw hh.1, keep_cell hbw hh.2.1, bthen hh.2.2 hbw⟩) | (have hh := ‹_ ∧ _›; exact ⟨hh.1, hh.2.1, hh.2.2.drew⟩) | exact ⟨hck, hck', hb.drew⟩ | exact ⟨hck, hck', hb⟩) (first | (go_at_call 26; refine (ints_eq _ _ _ _ _ _ (lAt l k) _ (hat.keep (by have hh := ‹_ ∧ _›; exact hh.2.2)) (hat'.keep (by have hh := ‹_ ∧ _›; exact hh.2.2)) hek).mono ?_; rintro e w1 ⟨rfl, hbw⟩))
      have hbr := (by have hh := ‹_ ∧ _›; exact hh.2.2 : Below w.heap.size w _)
      go_wp2
      exact ⟨⟨k + 1, by omega, by go_num, hbr⟩, by simp [intOf]; omega⟩
    · go_wp2
      go_returns
      exact ⟨rfl, hb⟩

theorem intss_mark (A : Option Addr) (n c : Nat) (l : List (List Int)) (k : Int) (lo hi : Nat) (w : World) (h : IntssIn lo hi w A n c l) (hs : intssSz l ≤ 16777216) (hk0 : 0 < k) (hk1 : k ≤ 288230376151711744) :
    Calls Try.prog 28 #[.slice A n c, .int .i64 k] w fun e w' => e = .returned (.int .i64 (k + (intssCnt l : Nat))) ∧ True ∧ Ch (Iv lo hi) w w' := by
  obtain ⟨css, h⟩ := h.ex
  have hnl := Lib.hid h.nl
  have hn : n ≤ 16777216 := by have := h.nl; unfold intssSz at hs; omega
  have hel := intss_el hs
  have htot := sumTo_le intsSz l
  go_enter Try.func28, Try.ntmps28
  go_wp2
  go_loopw [1, 5] (fun u i wr => ∃ (q : Nat) (l' : List (List Int)), q ≤ n ∧ i = .int .i64 q ∧ u = .int .i64 (k + (sumTo intsSz l q : Nat)) ∧ RowsIn FInts 24 1 lo hi wr A n c l' css ∧ (∀ j, intsSz (lAt l' j) = intsSz (lAt l j)) ∧ Ch (Iv lo hi) w wr) (fun _ i _ => n - (intOf i).toNat)
  case atStart => exact ⟨0, l, Nat.zero_le _, rfl, by rw [sumTo_zero]; simp, h, fun _ => rfl, Ch.refl _⟩
  case round =>
    obtain ⟨q, l', hq, rfl, rfl, hr, hl, hb⟩ := hrel
    have HLL := Lib.hid hl; clear hl
    by_cases hlt : q < n
    · obtain ⟨g, cs, x, rfl, hci, hxi, ⟨A1, n1, c1, rfl, hin⟩, hcell⟩ := hr.elem elemInts hlt
      have hck : wr.cell? ⟨g, q, none⟩ = some (.slice A1 n1 c1) := by simpa using hcell 0 _ rfl
      clear hcell
      have hxs : intsSz x = intsSz (lAt l q) := by rw [← HLL.out q]; simp [lAt, hxi]
      have hek := hel q
      have hle := htot q
      have hle1 := htot (q + 1)
      have HSU := Lib.hid (show sumTo intsSz l (q + 1) = sumTo intsSz l q + intsSz (lAt l q) by
        rw [sumTo_succ _ _ _ (by have := hnl.out; omega), lAt_get (by have := hnl.out; omega)])
      have hsl : (l.map intsSz).sum ≤ 16777216 := by unfold intssSz at hs; omega
      have HXS := Lib.hid hxs
      have hxb : intsSz x ≤ 16777216 := by omega
      clear hxs
      go_wp2_with fail
      refine (ints_markb _ _ _ x _ lo hi _ hin hxb (by omega) (by omega)).mono ?_
      rintro e w1 ⟨rfl, hin1, hc1⟩
      have hr1 : RowsIn FInts 24 1 lo hi w1 (some ⟨g, 0, none⟩) n c (l'.set q (intsMk (k + (sumTo intsSz l q : Nat)) x)) css := by
        have hld : Leads [.slice A1 n1 c1] = BlkOf A1 := by
          funext b
          exact propext ⟨fun hb => blk_of (leads1 hb), fun hb => ⟨_, List.mem_singleton.2 rfl, blk_own hb⟩⟩
        have hmem := List.mem_of_getElem? hci
        refine ⟨?_, ?_, hr.off, by simpa using hr.nl⟩
        · refine ⟨own_ch hr.row.own hc1 (fun b hb hb2 => ?_), hr.row.lt⟩
          exact hr.off _ hmem b (by rw [hld]; exact hb2) (blk_of hb)
        · have := hr.subs.set elemInts hci hc1 (fun b hb => .inl (by rw [hld]; exact hb)) (x := intsMk (k + (sumTo intsSz l q : Nat)) x) (cs' := [.slice A1 n1 c1]) ⟨A1, n1, c1, rfl, hin1⟩ (fun b hb => hb)
          rwa [show css.set q [.slice A1 n1 c1] = css from by
            apply List.ext_getElem?; intro j; rw [List.getElem?_set]
            by_cases e : q = j
            · subst e; rw [if_pos rfl, hci]; simp [(List.getElem?_eq_some_iff.1 hci).1]
            · rw [if_neg e]] at this
      go_wp2
      refine ⟨⟨q + 1, _, by omega, by go_num, ?_, hr1, ?_, hb.trans (hc1.mono fun b hb => (hin.row.blk hb).1)⟩, by simp [intOf]; omega⟩
      · rw [HSU.out, ← HXS.out]; unfold intsCnt intsSz; congr 1; push_cast; omega
      · intro j
        by_cases e : j = q
        · subst e
          have : lAt (l'.set j (intsMk (k + (sumTo intsSz l j : Nat)) x)) j = intsMk (k + (sumTo intsSz l j : Nat)) x := by
            simp [lAt, (List.getElem?_eq_some_iff.1 hxi).1]
          rw [this, ← HXS.out]; simp [intsMk, intsSz]
        · rw [← HLL.out j]; unfold lAt
          rw [List.getD_eq_getElem?_getD, List.getD_eq_getElem?_getD, List.getElem?_set, if_neg (Ne.symm e)]
    · go_wp2
      go_returns
      have hqn : l.length ≤ q := by have := hnl.out; omega
      refine ⟨ret_int ?_, trivial, hb⟩
      rw [sumTo_all _ _ _ hqn]; rfl
end Go.Proofs.Ytjhkeknbbeckgaa
