/- Contracts and lemmas: TreeListS, IntRow, IntList, Same. -/
import Derived.Test.YtbijkdpifnncmaaJ7
import Derived.Test.YtbijkdpifnncmaaJ0
import Derived.Test.YtbijkdpifnncmaaJ2
/- Contract of the reference's TreeList. -/
namespace Go.Proofs.Ytbijkdpifnncmaa
open Go.RowKit
attribute [local irreducible] StrsAt treeOkB underB beginsB splitS

theorem l15Put_name (A : Option Addr) (n c : Nat) (bs : List By) (nm : ByteArray) (w : World) (h : StrsAt w A n (txs bs)) (hn : n ≤ 16777215) :
    Calls Try.prog 56 #[.slice A n c, .string nm] w (StrsR (txs (putB bs (toL nm))) w) := by
  have := l15Put_any A n c bs (toL nm) w h hn
  rwa [ofL_toL] at this

set_option maxRecDepth 8000 in
set_option maxHeartbeats 2000000 in
theorem treeList_spec (A : Option Addr) (n c : Nat) (l : List Ent) (q : ByteArray) (w : World) (h : EntsAt w A n l) (hs : entsSz l ≤ 1048576) (hq : q.size ≤ 1048576) :
    Calls Try.prog 22 #[.slice A n c, .string q] w (StrsR (treeList l q) w) := by
  have HL := Lib.hid h.1
  have hn := ents_n h hs
  have hel := ents_el hs
  have NZ := Lib.hid (show nms (l.take 0) q = [] by simp [nms])
  have al0 := (Below.refl w.heap.size w).alloc (Nat.le_refl _) (.cells #[] 9)
  have hout0 : StrsIn w.heap.size (w.alloc (.cells #[] 9)).heap.size (w.alloc (.cells #[] 9)) (some ⟨w.heap.size, 0, none⟩) 0 0 (txs []) := StrsIn.of_own (own_str w (Nat.le_refl _))
  obtain ⟨t, ht⟩ : ∃ t, treeOkB l = t := ⟨_, rfl⟩
  have HQ := Lib.hid ht
  cases t
  · have HR := Lib.hid (show treeList l q = txs [] by simp [treeList, ht, txs])
    clear ht
    rw [HR.out]
    go_enter Try.func22, Try.ntmps22
    go_wp2
    go_loopw [5, 6] (fun o i wr => ∃ (m : Nat) (O : Option Addr) (cap : Nat), m = 0 ∧ i = .int .i64 0 ∧ o = .slice O m cap ∧ StrsIn w.heap.size wr.heap.size wr O m cap (txs []) ∧ Below w.heap.size w wr) (fun _ i _ => n - (intOf i).toNat)
    case atStart => exact ⟨0, _, 0, rfl, rfl, rfl, hout0, al0⟩
    case round =>
      obtain ⟨m, O, cap, rfl, rfl, rfl, hin, hb⟩ := hrel
      by_cases h0 : 0 < n
      · go_wp2_with fail
        refine (treeOk_spec _ _ _ l _ (h.keep hb) hs).mono ?_
        rintro e w1 ⟨rfl, hb1⟩; rw [HQ.out]
        go_wp2
        go_returns
        exact ⟨O, 0, cap, rfl, (hin.keep hb1).wide (Nat.le_refl _) hb1.size, bthen hb hb1⟩
      · go_wp2
        go_returns
        exact ⟨O, 0, cap, rfl, hin, hb⟩
  · have HR := Lib.hid (show treeList l q = txs (putsB ((nms l q).map toL)) by simp [treeList, ht])
    clear ht
    go_enter Try.func22, Try.ntmps22
    go_wp2
    go_loopw [5, 6] (fun o i wr => ∃ (k m : Nat) (O : Option Addr) (cap : Nat), k ≤ n ∧ i = .int .i64 k ∧ o = .slice O m cap ∧ StrsIn w.heap.size wr.heap.size wr O m cap (txs (putsB ((nms (l.take k) q).map toL))) ∧ Below w.heap.size w wr) (fun _ i _ => n - (intOf i).toNat)
    case atStart => exact ⟨0, 0, _, 0, Nat.zero_le _, rfl, rfl, by rw [NZ.out]; exact hout0, al0⟩
    case round =>
      obtain ⟨k, m, O, cap, hk, rfl, rfl, hin, hb⟩ := hrel
      by_cases hlt : k < n
      · have hkl : k < l.length := by have := HL.out; omega
        obtain ⟨b, off, rfl, hbb, hc⟩ := h.at_ (by omega)
        obtain ⟨hp0, A', n', c', hc0, _, _⟩ := hc k hlt
        clear hc
        have hek := hel k
        unfold entSz at hek
        have HN := Lib.hid (nms_take (q := q) hkl)
        go_wp2_with fail
        refine (treeOk_spec _ _ _ l _ (h.keep hb) hs).mono ?_
        rintro e w1 ⟨rfl, hb1⟩; rw [HQ.out]
        have hb1w := bthen hb hb1
        have hin1 := hin.keep hb1
        have hpk := (hb1w.cell (p := ⟨b, off + k * 2, none⟩) hbb).trans hp0
        clear hin hp0 hc0
        generalize (enAt l k).p = x at *
        have hxs : x.size ≤ 1048576 := by omega
        clear hek
        by_cases hq0 : q.size = 0
        · have g0 := str_nil (s := q) (by omega)
          have HQ0 := Lib.hid hq0
          have HSEL := Lib.hid (show selB q x = true by simp [selB, hq0])
          clear hq0
          have hl3 := splitS_len (x) 47
          go_wp2_with fail
          refine (l30Cut_spec (x) _ (by omega)).mono ?_
          rintro e w3 ⟨A3, n3, c3, rfl, hown3, hb3⟩
          have hn3 : n3 = (splitS (x) 47).length := by have := hown3.1; simpa using this.symm
          have HN3 := Lib.hid hn3
          have hn31 : 1 ≤ n3 := by omega
          have hn32 : n3 ≤ 1048577 := by have := hxs; omega
          obtain ⟨g3, rfl⟩ := (RowIn.of_own hown3).head (by omega)
          have hc3 := hown3.cellAt 0 (by omega)
          have hw0 := sAt_splitS_size (x) 47 0
          rw [show ((splitS (x) 47).map Value.string)[0]? = some (.string (sAt (splitS (x) 47) 0)) by
            rw [List.getElem?_map, sAt_get (show 0 < (splitS (x) 47).length by omega), List.getElem?_eq_getElem (show 0 < (splitS (x) 47).length by omega)]; rfl] at hc3
          have hin3 := hin1.keep hb3
          have hb3w := bthen hb1w hb3
          have HNM := Lib.hid (name_eq q x)
          rw [show offOf q = 0 by simp [offOf, HQ0.out], ext_all] at HNM
          have hw1 : (sAt (splitS (x) 47) 0).size ≤ 1048576 := by omega
          clear hl3 hn3 hown3 hw0
          generalize sAt (splitS (x) 47) 0 = w0 at *
          have hml := putsB_len ((nms (l.take k) q).map toL)
          have hml2 := nms_len (l.take k) q
          have hm3 : m ≤ 1048576 := by have := strsLen hin3.at_; rw [txs_len] at this; rw [List.length_map] at hml; rw [List.length_take] at hml2; omega
          clear hml hml2
          by_cases h1 : 1 < n3
          · have HNX := Lib.hid (show nameOf q x = w0 ++ ⟨#[47]⟩ by rw [HNM.out, if_pos (by have := HN3.out; omega)])
            have hbs : w0.size + 1 ≤ 9223372036854775807 := by omega
            have h1z : (1 : Int) < (n3 : Int) := by omega
            go_wp2_with fail
            refine (l15Put_name _ _ _ (putsB ((nms (l.take k) q).map toL)) _ _ hin3.at_ (by omega)).mono ?_
            rintro e w5 ⟨A5, n5, c5, rfl, hin5, hb5⟩
            have hz5 := hb3w.size
            go_wp2
            refine ⟨⟨k + 1, n5, A5, c5, by omega, by go_num, rfl, ?_, bthen hb3w hb5⟩, by simp [intOf]; omega⟩
            rw [HN.out, if_pos HSEL.out, List.map_append, List.map_singleton, putsB_snoc, HNX.out]
            exact hin5.wide hz5 (Nat.le_refl _)
          · have HNX := Lib.hid (show nameOf q x = w0 by rw [HNM.out, if_neg (by have := HN3.out; omega)])
            have h1z : ¬ (1 : Int) < (n3 : Int) := by omega
            go_wp2_with fail
            refine (l15Put_name _ _ _ (putsB ((nms (l.take k) q).map toL)) w0 _ hin3.at_ (by omega)).mono ?_
            rintro e w5 ⟨A5, n5, c5, rfl, hin5, hb5⟩
            have hz5 := hb3w.size
            go_wp2
            refine ⟨⟨k + 1, n5, A5, c5, by omega, by go_num, rfl, ?_, bthen hb3w hb5⟩, by simp [intOf]; omega⟩
            rw [HN.out, if_pos HSEL.out, List.map_append, List.map_singleton, putsB_snoc, HNX.out]
            exact hin5.wide hz5 (Nat.le_refl _)
        · have g0 := str_ne (s := q) (by omega)
          have happ : ¬ 9223372036854775807 < q.size + 1 := by omega
          obtain ⟨sl, hsl⟩ : ∃ s, underB x q = s := ⟨_, rfl⟩
          have HSL := Lib.hid hsl
          have HTO := Lib.hid (fun (h : underB x q = true) => under_size h)
          clear hsl
          cases sl
          · have HSEL := Lib.hid (show selB q x = false by simp [selB, hq0, HSL.out])
            go_wp2_with fail
            refine (l30Under_any _ _ _ (by omega) (by omega)).mono ?_
            rintro e w2 ⟨rfl, rfl⟩; rw [HSL.out]
            go_wp2
            refine ⟨⟨k + 1, m, O, cap, by omega, by go_num, rfl, ?_, hb1w⟩, by simp [intOf]; omega⟩
            rw [HN.out, HSEL.out]
            simpa using hin1.wide (Nat.le_refl _) hb1.size
          · have HSEL := Lib.hid (show selB q x = true by simp [selB, hq0, HSL.out])
            have hto := HTO.out HSL.out
            go_wp2_with fail
            refine (l30Under_any _ _ _ (by omega) (by omega)).mono ?_
            rintro e w2 ⟨rfl, rfl⟩; rw [HSL.out]
            have hl3 := splitS_len (x.extract (q.size + 1) x.size) 47
            go_wp2_with fail
            refine (l30Cut_spec (x.extract (q.size + 1) x.size) _ (by have := ext_size x (q.size + 1); omega)).mono ?_
            rintro e w3 ⟨A3, n3, c3, rfl, hown3, hb3⟩
            have hn3 : n3 = (splitS (x.extract (q.size + 1) x.size) 47).length := by have := hown3.1; simpa using this.symm
            have HN3 := Lib.hid hn3
            have hn31 : 1 ≤ n3 := by omega
            have hn32 : n3 ≤ 1048577 := by have := ext_size x (q.size + 1); omega
            obtain ⟨g3, rfl⟩ := (RowIn.of_own hown3).head (by omega)
            have hc3 := hown3.cellAt 0 (by omega)
            have hw0 := sAt_splitS_size (x.extract (q.size + 1) x.size) 47 0
            rw [show ((splitS (x.extract (q.size + 1) x.size) 47).map Value.string)[0]? = some (.string (sAt (splitS (x.extract (q.size + 1) x.size) 47) 0)) by
              rw [List.getElem?_map, sAt_get (show 0 < (splitS (x.extract (q.size + 1) x.size) 47).length by omega), List.getElem?_eq_getElem (show 0 < (splitS (x.extract (q.size + 1) x.size) 47).length by omega)]; rfl] at hc3
            have hin3 := hin1.keep hb3
            have hb3w := bthen hb1w hb3
            have HNM := Lib.hid (name_eq q x)
            rw [show offOf q = q.size + 1 by simp [offOf, hq0]] at HNM
            have hw1 : (sAt (splitS (x.extract (q.size + 1) x.size) 47) 0).size ≤ 1048576 := by have := ext_size x (q.size + 1); omega
            clear hl3 hn3 hown3 hw0
            generalize sAt (splitS (x.extract (q.size + 1) x.size) 47) 0 = w0 at *
            have hml := putsB_len ((nms (l.take k) q).map toL)
            have hml2 := nms_len (l.take k) q
            have hm3 : m ≤ 1048576 := by have := strsLen hin3.at_; rw [txs_len] at this; rw [List.length_map] at hml; rw [List.length_take] at hml2; omega
            clear hml hml2
            by_cases h1 : 1 < n3
            · have HNX := Lib.hid (show nameOf q x = w0 ++ ⟨#[47]⟩ by rw [HNM.out, if_pos (by have := HN3.out; omega)])
              have hbs : w0.size + 1 ≤ 9223372036854775807 := by omega
              have h1z : (1 : Int) < (n3 : Int) := by omega
              go_wp2_with fail
              refine (l15Put_name _ _ _ (putsB ((nms (l.take k) q).map toL)) _ _ hin3.at_ (by omega)).mono ?_
              rintro e w5 ⟨A5, n5, c5, rfl, hin5, hb5⟩
              have hz5 := hb3w.size
              go_wp2
              refine ⟨⟨k + 1, n5, A5, c5, by omega, by go_num, rfl, ?_, bthen hb3w hb5⟩, by simp [intOf]; omega⟩
              rw [HN.out, if_pos HSEL.out, List.map_append, List.map_singleton, putsB_snoc, HNX.out]
              exact hin5.wide hz5 (Nat.le_refl _)
            · have HNX := Lib.hid (show nameOf q x = w0 by rw [HNM.out, if_neg (by have := HN3.out; omega)])
              have h1z : ¬ (1 : Int) < (n3 : Int) := by omega
              go_wp2_with fail
              refine (l15Put_name _ _ _ (putsB ((nms (l.take k) q).map toL)) w0 _ hin3.at_ (by omega)).mono ?_
              rintro e w5 ⟨A5, n5, c5, rfl, hin5, hb5⟩
              have hz5 := hb3w.size
              go_wp2
              refine ⟨⟨k + 1, n5, A5, c5, by omega, by go_num, rfl, ?_, bthen hb3w hb5⟩, by simp [intOf]; omega⟩
              rw [HN.out, if_pos HSEL.out, List.map_append, List.map_singleton, putsB_snoc, HNX.out]
              exact hin5.wide hz5 (Nat.le_refl _)
      · have ht : l.take k = l := List.take_of_length_le (by have := HL.out; omega)
        rw [ht, ← HR.out] at hin
        go_wp2
        go_returns
        exact ⟨O, m, cap, rfl, hin, hb⟩
end Go.Proofs.Ytbijkdpifnncmaa
/- Contracts of the laws' helpers on []int and []bool of the call's own: copy, marks. -/
namespace Go.Proofs.Ytbijkdpifnncmaa
open Go.RowKit

/-- a row of one cell each, given by the place -/
def RowF (e lo hi : Nat) (w : World) (A : Option Addr) (n c : Nat) (f : Nat → Value) : Prop := RowIn e 1 lo hi w A n c ((List.range n).map f)
section
variable {e lo hi lo' hi' n c : Nat} {w w' : World} {A : Option Addr} {f : Nat → Value}
theorem RowF.ch {S : Nat → Prop} (h : RowF e lo hi w A n c f) (hc : Ch S w w') (hS : ∀ k, Iv lo hi k → ¬ S k) : RowF e lo hi w' A n c f := RowIn.ch h hc hS
theorem RowF.chb {S : Nat → Prop} (h : RowF e lo hi w A n c f) (hc : Ch S w w') (hS : ∀ k, BlkOf A k → ¬ S k) : RowF e lo hi w' A n c f :=
  ⟨own_ch (RowIn.own h) hc (fun k hk => hS k (blk_of hk)), RowIn.lt h⟩
theorem RowF.keep (h : RowF e lo hi w A n c f) (hb : Below w.heap.size w w') : RowF e lo hi w' A n c f := RowIn.keep h hb
theorem RowF.wide (h : RowF e lo hi w A n c f) (h1 : lo' ≤ lo) (h2 : hi ≤ hi') : RowF e lo' hi' w A n c f := RowIn.wide h h1 h2
theorem RowF.vals (h : RowF e lo hi w A n c f) : ValsAt w A n f := ValsAt.of_own (RowIn.own h) (fun j hj => by simp [hj])
theorem RowF.of_own {xs : List Value} (h : w.ownsRow lo e 1 (.slice A n c) n xs) (hx : ∀ j, j < n → xs[j]? = some (f j)) : RowF e lo w.heap.size w A n c f := by
  have e1 := list_of_get (n := n) (by simpa using h.1) hx
  subst e1
  exact RowIn.of_own h
theorem RowF.nil : RowF e lo hi w none 0 0 f := RowIn.nil
theorem RowF.blk (h : RowF e lo hi w A n c f) {g : Nat} (hg : BlkOf A g) : Iv lo hi g ∧ g < w.heap.size := RowIn.blk h hg
theorem RowF.congr {f' : Nat → Value} (h : RowF e lo hi w A n c f) (hf : ∀ j, j < n → f j = f' j) : RowF e lo hi w A n c f' := by
  unfold RowF at h ⊢
  rwa [List.map_congr_left (fun j hj => hf j (List.mem_range.1 hj))] at h
/-- a cell of a row is stored -/
theorem RowF.store {g : Nat} (h : RowF e lo hi w (some ⟨g, 0, none⟩) n c f) (j : Nat) (v : Value) :
    RowF e lo hi (w.setCell ⟨g, j, none⟩ v) (some ⟨g, 0, none⟩) n c (fun i => if i = j then v else f i) := by
  have h2 := (RowIn.store h j v).1
  unfold RowF
  have e2 : ((List.range n).map f).set j v = (List.range n).map (fun i => if i = j then v else f i) := by
    apply List.ext_getElem?
    intro i
    rw [List.getElem?_set]
    by_cases hij : j = i
    · subst hij
      by_cases hj : j < n <;> simp [hj]
    · rw [if_neg hij]
      by_cases hi : i < n
      · simp [hi, Ne.symm hij]
      · simp [hi]
  rwa [e2] at h2
end

def mkI (k : Int) (j : Nat) : Int := k + (j : Int)
def mkB (k : Int) (j : Nat) : Bool := (k + (j : Int)) % 3 == 0


end Go.Proofs.Ytbijkdpifnncmaa
/- The laws' helpers on []int in one shape. -/
namespace Go.Proofs.Ytbijkdpifnncmaa
open Go.RowKit

def iAt (l : List Int) (i : Nat) : Int := l.getD i 0
theorem iAt_get {l : List Int} {k : Nat} (h : k < l.length) : iAt l k = l[k] := by simp [iAt, h]
theorem map_iAt (l : List Int) : (List.range l.length).map (intV (iAt l)) = l.map (Value.int .i64) := by
  apply List.ext_getElem?
  intro j
  rcases Nat.lt_or_ge j l.length with hj | hj
  · simp [hj, iAt, intV]
  · rw [List.getElem?_eq_none (by simp; omega), List.getElem?_eq_none (by simp; omega)]
/-- a row of ints -/
def IntsAt (w : World) (A : Option Addr) (n : Nat) (l : List Int) : Prop := n = l.length ∧ ValsAt w A n (intV (iAt l))
theorem IntsAt.keep {w w' : World} {A : Option Addr} {n : Nat} {l : List Int} (h : IntsAt w A n l) (hb : Below w.heap.size w w') : IntsAt w' A n l := ⟨h.1, h.2.keep hb⟩
theorem IntsAt.at_ {w : World} {A : Option Addr} {n : Nat} {l : List Int} (h : IntsAt w A n l) (hn : 0 < n) :
    ∃ b off, A = some ⟨b, off, none⟩ ∧ b < w.heap.size ∧ ∀ i, i < n → w.cell? ⟨b, off + i, none⟩ = some (.int .i64 (iAt l i)) := h.2 hn
structure IntsOk (w : World) (A : Option Addr) (n : Nat) (l : List Int) : Prop where
  at_ : IntsAt w A n l
  bn : n ≤ 9223372036854775807
theorem IntsOk.keep {w w' : World} {A : Option Addr} {n : Nat} {l : List Int} (h : IntsOk w A n l) (hb : Below w.heap.size w w') : IntsOk w' A n l := ⟨h.at_.keep hb, h.bn⟩
structure IntsIn (lo hi : Nat) (w : World) (A : Option Addr) (n c : Nat) (l : List Int) : Prop where
  row : RowIn 3 1 lo hi w A n c (l.map (Value.int .i64))
section
variable {lo hi lo' hi' n c : Nat} {w w' : World} {A : Option Addr} {l : List Int}
theorem IntsIn.keep (h : IntsIn lo hi w A n c l) (hb : Below w.heap.size w w') : IntsIn lo hi w' A n c l := ⟨h.row.keep hb⟩
theorem IntsIn.ch {S : Nat → Prop} (h : IntsIn lo hi w A n c l) (hc : Ch S w w') (hS : ∀ k, Iv lo hi k → ¬ S k) : IntsIn lo hi w' A n c l := ⟨h.row.ch hc hS⟩
theorem IntsIn.wide (h : IntsIn lo hi w A n c l) (h1 : lo' ≤ lo) (h2 : hi ≤ hi') : IntsIn lo' hi' w A n c l := ⟨h.row.wide h1 h2⟩
theorem IntsIn.len (h : IntsIn lo hi w A n c l) : n = l.length := by have := h.row.len; simp at this; omega
theorem IntsIn.rowF (h : IntsIn lo hi w A n c l) : RowF 3 lo hi w A n c (intV (iAt l)) := by
  have hr := h.row
  unfold RowF
  rw [h.len, map_iAt]
  rwa [h.len] at hr
theorem IntsIn.of_rowF (h : RowF 3 lo hi w A n c (intV (iAt l))) (hn : n = l.length) : IntsIn lo hi w A n c l := by
  subst hn
  unfold RowF at h
  rw [map_iAt] at h
  exact ⟨h⟩
theorem IntsIn.at_ (h : IntsIn lo hi w A n c l) : IntsAt w A n l := ⟨h.len, h.rowF.vals⟩
theorem IntsIn.of_own (h : w.ownsRow lo 3 1 (.slice A n c) n (l.map (Value.int .i64))) : IntsIn lo w.heap.size w A n c l := ⟨RowIn.of_own h⟩
theorem IntsIn.nil : IntsIn lo hi w none 0 0 [] := ⟨RowIn.nil⟩
end
/-- the answer is ints in memory of the call's own -/
def IntsR (l : List Int) (w : World) (e : Ending) (w' : World) : Prop :=
  ∃ A n c, e = .returned (.slice A n c) ∧ IntsIn w.heap.size w'.heap.size w' A n c l ∧ Below w.heap.size w w'
def intsSz (l : List Int) : Nat := l.length
def intsMk (k : Int) (l : List Int) : List Int := (List.range l.length).map (mkI k)
def intsCnt (l : List Int) : Nat := l.length
theorem ints_cnt (l : List Int) : intsCnt l ≤ intsSz l := Nat.le_refl _
theorem iAt_mk {k : Int} {l : List Int} {j : Nat} (h : j < l.length) : iAt (intsMk k l) j = mkI k j := by simp [iAt, intsMk, h]
theorem ints_n {w : World} {A : Option Addr} {n : Nat} {l : List Int} {m : Nat} (h : IntsAt w A n l) (hs : intsSz l ≤ m) : n ≤ m := by
  have := h.1; unfold intsSz at hs; omega
end Go.Proofs.Ytbijkdpifnncmaa
/- Contracts of the laws' helpers sameTexts, sameInts, hasText. -/
namespace Go.Proofs.Ytbijkdpifnncmaa
open Go.RowKit
theorem sameTexts_yes (A A' : Option Addr) (n n' c c' : Nat) (l : List ByteArray) (w : World) (h : StrsAt w A n l) (h' : StrsAt w A' n' l) (hn : n ≤ 16777216) :
    Calls Try.prog 16 #[.slice A n c, .slice A' n' c'] w fun e w' => e = .returned (.bool true) ∧ Below w.heap.size w w' := by
  obtain rfl : n' = n := h'.1.trans h.1.symm
  go_enter Try.func16, Try.ntmps16
  go_wp2
  go_loopw [5] (fun i wr => ∃ (k : Nat), k ≤ n' ∧ i = .int .i64 k ∧ Below w.heap.size w wr) (fun i _ => n' - (intOf i).toNat)
  case atStart => exact ⟨0, Nat.zero_le _, rfl, Below.refl _ _⟩
  case round =>
    obtain ⟨k, hk, rfl, hb⟩ := hrel
    by_cases hlt : k < n'
    · obtain ⟨b, off, rfl, hbl, hc⟩ := h.at_ (by omega)
      have hck := (hb.cell (p := ⟨b, off + k, none⟩) hbl).trans (hc k hlt)
      clear hc
      obtain ⟨b', off', rfl, hbl', hc'⟩ := h'.at_ (by omega)
      have hck' := (hb.cell (p := ⟨b', off' + k, none⟩) hbl').trans (hc' k hlt)
      clear hc'
      go_wp2
      go_quiet (fail)
      go_wp2
      exact ⟨⟨k + 1, by omega, by go_num, below_drewN hb _⟩, by simp [intOf]; omega⟩
    · go_wp2
      go_returns
      exact ⟨rfl, hb⟩
end Go.Proofs.Ytbijkdpifnncmaa
