/- The laws' helpers on lists of entries of the call's own: marks. -/
import Derived.Test.YtmichbgiaoopgaaEnts
namespace Go.Proofs.Ytmichbgiaoopgaa
open Go.RowKit
attribute [local irreducible] StrsAt

section
variable {α : Type} {F : Nat → Nat → World → List Value → α → Prop} {e sz lo hi n c g q r : Nat} {w w' : World} {A : Option Addr} {css : List (List Value)} {l : List α} {cs : List Value} {x x' : α} {v : Value}
/-- a cell of element q that leads nowhere is stored -/
theorem RowsIn.stc (E : Elem F sz) (h : RowsIn F e sz lo hi w (some ⟨g, 0, none⟩) n c l css) (hq : css[q]? = some cs) (hr : r < sz) (hx : F lo hi (w.setCell ⟨g, q * sz + r, none⟩ v) (cs.set r v) x') (hv : v.ownBlock = none) :
    RowsIn F e sz lo hi (w.setCell ⟨g, q * sz + r, none⟩ v) (some ⟨g, 0, none⟩) n c (l.set q x') (css.set q (cs.set r v)) := by
  have hl : ∀ b, Leads (cs.set r v) b → Leads cs b := fun b ⟨u, hu, hb⟩ => by
    rcases List.mem_or_eq_of_mem_set hu with hu | rfl
    · exact ⟨u, hu, hb⟩
    · rw [hv] at hb; cases hb
  have hC : Ch (fun b => b = g) w (w.setCell ⟨g, q * sz + r, none⟩ v) := (Ch.refl (S := fun b => b = g) w).setCell (p := ⟨g, q * sz + r, none⟩) rfl v
  refine ⟨?_, h.subs.set E hq hC (fun b hb => .inr (fun cs'' h'' h3 => h.off cs'' h'' b h3 (by subst hb; simp [BlkOf]))) hx hl, fun cs' h' b hb => ?_, by simpa using h.nl⟩
  · rw [flat_set (h.subs.lens E) hq hr]
    exact (h.row.store (q * sz + r) v).1
  · rcases List.mem_or_eq_of_mem_set h' with h' | rfl
    · exact h.off cs' h' b hb
    · exact h.off cs (List.mem_of_getElem? hq) b (hl b hb)
theorem set_same {β : Type} {l : List β} {q : Nat} {x : β} (h : l[q]? = some x) : l.set q x = l := by
  apply List.ext_getElem?; intro j; rw [List.getElem?_set]
  by_cases e : q = j
  · subst e; rw [if_pos rfl, h]; simp [(List.getElem?_eq_some_iff.1 h).1]
  · rw [if_neg e]
/-- what element q leads to is changed -/
theorem RowsIn.stl (E : Elem F sz) {S : Nat → Prop} (h : RowsIn F e sz lo hi w A n c l css) (hq : css[q]? = some cs) (hc : Ch S w w') (hS : ∀ b, S b → Leads cs b) (hx : F lo hi w' cs x') : RowsIn F e sz lo hi w' A n c (l.set q x') css := by
  have hmem := List.mem_of_getElem? hq
  refine ⟨⟨own_ch h.row.own hc (fun b hb hb2 => h.off _ hmem b (hS b hb2) (blk_of hb)), h.row.lt⟩, ?_, h.off, by simpa using h.nl⟩
  have := h.subs.set E hq hc (fun b hb => .inl (hS b hb)) hx (fun b hb => hb)
  rwa [set_same hq] at this
end

def entCnt (x : Ent) : Nat := 1 + x.ch.length
def mkEnt (k : Int) (x : Ent) : Ent := ⟨mtx k, marks (k + 1) x.ch.length⟩
def entsMk (k : Int) (l : List Ent) : List Ent := (List.range l.length).map (fun j => mkEnt (k + (sumTo entCnt l j : Nat)) (enAt l j))
def entsCnt (l : List Ent) : Nat := (l.map entCnt).sum
theorem entCnt_le (x : Ent) : entCnt x ≤ 1 + entSz x := by unfold entCnt entSz strsSz; omega
theorem sumTo_cnt_le (l : List Ent) : entsCnt l ≤ entsSz l := by
  unfold entsCnt entsSz
  induction l with
  | nil => simp
  | cons a l ih => simp only [List.map_cons, List.sum_cons, List.length_cons]; have := entCnt_le a; omega
theorem ents_cnt (l : List Ent) : entsCnt l ≤ entsSz l := sumTo_cnt_le l
theorem entsMk_len (k : Int) (l : List Ent) : (entsMk k l).length = l.length := by simp [entsMk]
theorem enAt_mk {k : Int} {l : List Ent} {j : Nat} (h : j < l.length) : enAt (entsMk k l) j = mkEnt (k + (sumTo entCnt l j : Nat)) (enAt l j) := by simp [enAt, entsMk, h]
theorem ents_ext {l l' : List Ent} (hl : l.length = l'.length) (h : ∀ j, j < l.length → enAt l j = enAt l' j) : l = l' := by
  apply List.ext_getElem hl
  intro i h1 h2
  have := h i h1
  rwa [enAt_get h1, enAt_get h2] at this
theorem enAt_set {l : List Ent} {q j : Nat} {x : Ent} (h : q < l.length) : enAt (l.set q x) j = if q = j then x else enAt l j := by
  unfold enAt
  rw [List.getD_eq_getElem?_getD, List.getD_eq_getElem?_getD, List.getElem?_set]
  by_cases e : q = j
  · subst e; simp [h]
  · rw [if_neg e, if_neg e]

set_option maxHeartbeats 400000 in
theorem ents_mark (A : Option Addr) (n c : Nat) (l : List Ent) (k : Int) (lo hi : Nat) (w : World) (h : EntsIn lo hi w A n c l) (hs : entsSz l ≤ 16777216) (hk0 : 0 < k) (hk1 : k ≤ 288230376151711744) :
    Calls Try.prog 18 #[.slice A n c, .int .i64 k] w fun e w' => e = .returned (.int .i64 (k + (entsCnt l : Nat))) ∧ EntsIn lo hi w' A n c (entsMk k l) ∧ Ch (Iv lo hi) w w' := by
  obtain ⟨css, h⟩ := h.ex
  have hnl := Lib.hid h.nl
  have hn : n ≤ 16777216 := by have := h.nl; unfold entsSz at hs; omega
  have hel := ents_el hs
  have htot := sumTo_le entCnt l
  have hcs := ents_cnt l
  go_enter Try.func18, Try.ntmps18
  go_wp2
  go_loopw [1, 5] (fun u i wr => ∃ (q : Nat) (l' : List Ent) (css : List (List Value)), q ≤ n ∧ i = .int .i64 q ∧ u = .int .i64 (k + (sumTo entCnt l q : Nat)) ∧ RowsIn FEnt 41 2 lo hi wr A n c l' css ∧ (∀ j, j < n → enAt l' j = if j < q then enAt (entsMk k l) j else enAt l j) ∧ Ch (Iv lo hi) w wr) (fun _ i _ => n - (intOf i).toNat)
  case atStart => exact ⟨0, l, css, Nat.zero_le _, rfl, by rw [sumTo_zero]; simp, h, fun _ _ => by simp, Ch.refl _⟩
  case round =>
    obtain ⟨q, l', css, hq, rfl, rfl, hr, hl, hb⟩ := hrel
    have HLL := Lib.hid hl; clear hl
    by_cases hlt : q < n
    · obtain ⟨g, cs, x, rfl, hci, hxi, hF, hcell⟩ := hr.elem elemEnt hlt
      obtain ⟨A1, n1, c1, rfl, hin⟩ := hF
      have hql' : q < l'.length := (List.getElem?_eq_some_iff.1 hxi).1
      have hxe : x = enAt l q := by
        have e1 := HLL.out q hlt
        rw [if_neg (by omega)] at e1
        rw [← e1]; simp [enAt, hxi]
      subst hxe
      have hc0 : wr.cell? ⟨g, q * 2, none⟩ = some (.string (enAt l q).p) := by simpa using hcell 0 _ rfl
      have hc1 : wr.cell? ⟨g, q * 2 + 1, none⟩ = some (.slice A1 n1 c1) := by simpa using hcell 1 _ rfl
      clear hcell
      have hf0 := hr.row.own.frozenAt (q * 2)
      have hek := hel q
      have hle := htot q
      have hle1 := htot (q + 1)
      have hsl : (l.map entCnt).sum ≤ 16777216 := by unfold entsCnt at hcs; omega
      have HSU := Lib.hid (show sumTo entCnt l (q + 1) = sumTo entCnt l q + (1 + (enAt l q).ch.length) by
        rw [sumTo_succ _ _ _ (by have := hnl.out; omega), enAt_get (by have := hnl.out; omega)]; rfl)
      have hg : lo ≤ g := (hr.row.blk (g := g) (by simp [BlkOf])).1.1
      have hg2 : g < wr.heap.size := (hr.row.blk (g := g) (by simp [BlkOf])).2
      have hchs : strsSz (enAt l q).ch ≤ 16777216 := by unfold entSz at hek; omega
      clear hek
      go_wp2_with fail
      refine (markText_any _ _ (by omega) (by omega)).mono ?_
      rintro e w1 ⟨rfl, hb1⟩
      have hr1 := hr.keep elemEnt hb1
      have hin1 := hin.keep hb1
      have hk0' := keep_cell hb1 hc0
      have hk1' := keep_cell hb1 hc1
      have hf1 : w1.frozen? ⟨g, q * 2, none⟩ = false := (hb1.frozen (p := ⟨g, q * 2, none⟩) hg2).trans hf0
      clear hc0 hc1 hf0
      have hoff : ∀ b, BlkOf A1 b → ¬ b = g := fun b h1 h2 => hr.off _ (List.mem_of_getElem? hci) b (leads2_mk (blk_own h1)) (by subst h2; simp [BlkOf])
      have hC2 : Ch (fun b => b = g) w1 (w1.setCell ⟨g, q * 2, none⟩ (.string (mtx (k + (sumTo entCnt l q : Nat))))) := (Ch.refl (S := fun b => b = g) w1).setCell (p := ⟨g, q * 2, none⟩) rfl _
      have hin2 : StrsIn lo hi (w1.setCell ⟨g, q * 2, none⟩ (.string (mtx (k + (sumTo entCnt l q : Nat))))) A1 n1 c1 (enAt l q).ch := ⟨⟨own_ch hin1.row.own hC2 (fun b hb => hoff b (blk_of hb)), hin1.row.lt⟩⟩
      have hr2 := hr1.stc elemEnt (r := 0) (v := .string (mtx (k + (sumTo entCnt l q : Nat)))) (x' := ⟨mtx (k + (sumTo entCnt l q : Nat)), (enAt l q).ch⟩) hci (by omega) ⟨A1, n1, c1, rfl, hin2⟩ rfl
      have hk2 : (w1.setCell ⟨g, q * 2, none⟩ (.string (mtx (k + (sumTo entCnt l q : Nat))))).cell? ⟨g, q * 2 + 1, none⟩ = some (.slice A1 n1 c1) := setoff hk1' (.inr (by omega))
      have hCC : Ch (Iv lo hi) w (w1.setCell ⟨g, q * 2, none⟩ (.string (mtx (k + (sumTo entCnt l q : Nat))))) := (hb.trans (Ch.of_below hb1)).trans (hC2.mono fun b hb => by subst hb; exact (hr.row.blk (by simp [BlkOf])).1)
      clear hC2 hin1 hr1 hr hin
      go_wp2_with fail
      refine (markStrs_row _ _ _ _ _ lo hi _ _ hin2.row (by have := hin2.at_.nn; unfold strsSz at hchs; omega) (by omega) (by omega)).mono ?_
      rintro e w3 ⟨rfl, hrow3, hc3⟩
      have hn1 := Lib.hid hin2.at_.nn
      have hin3 : StrsIn lo hi w3 A1 n1 c1 (marks (k + (sumTo entCnt l q : Nat) + 1) (enAt l q).ch.length) := ⟨by rw [← hn1.out]; exact hrow3⟩
      have hcl : q < css.length := (List.getElem?_eq_some_iff.1 hci).1
      have hr3 := hr2.stl elemEnt (q := q) (cs := [.string (mtx (k + (sumTo entCnt l q : Nat))), .slice A1 n1 c1]) (by simp [hcl]) hc3 (fun b hb => leads2_mk (blk_own hb)) (x' := mkEnt (k + (sumTo entCnt l q : Nat)) (enAt l q)) ⟨A1, n1, c1, rfl, hin3⟩
      rw [List.set_set] at hr3
      have hiv : Ch (Iv lo hi) (w1.setCell ⟨g, q * 2, none⟩ (.string (mtx (k + (sumTo entCnt l q : Nat))))) w3 := hc3.mono fun b hb => (hin2.row.blk hb).1
      clear hin2 hin3 hr2
      go_wp2
      refine ⟨⟨q + 1, _, _, by omega, by go_num, ?_, hr3, fun j hj => ?_, hCC.trans hiv⟩, by simp [intOf]; omega⟩
      · rw [HSU.out, hn1.out]; congr 1; push_cast; omega
      · rw [enAt_set hql']
        by_cases e : q = j
        · subst e; rw [if_pos rfl, if_pos (by omega), enAt_mk (by have := hnl.out; omega)]
        · rw [if_neg e, HLL.out j hj]
          by_cases e2 : j < q
          · rw [if_pos e2, if_pos (by omega)]
          · rw [if_neg e2, if_neg (by omega)]
    · go_wp2
      go_returns
      have hqn : q = n := by omega
      subst hqn
      have he : l' = entsMk k l := by
        have hn1 := hr.nl
        have hn2 := hnl.out
        refine ents_ext (by rw [entsMk_len]; omega) (fun j hj => ?_)
        rw [HLL.out j (by omega), if_pos (by omega)]
      subst he
      refine ⟨ret_int ?_, ⟨_, hr⟩, hb⟩
      rw [sumTo_all _ _ _ (by have := hnl.out; omega)]; rfl

theorem ents_held (A : Option Addr) (n c : Nat) (l : List Ent) (k : Int) (w : World) (h : EntsAt w A n (entsMk k l)) (hs : entsSz l ≤ 16777216) (hk0 : 0 < k) (hk1 : k ≤ 288230376151711744) :
    Calls Try.prog 19 #[.slice A n c, .int .i64 k] w fun e w' => e = .returned (.int .i64 (k + (entsCnt l : Nat))) ∧ Below w.heap.size w w' := by
  have HL := Lib.hid (show n = l.length by have := h.1; rwa [entsMk_len] at this)
  have hn : n ≤ 16777216 := by have := HL.out; unfold entsSz at hs; omega
  have hel := ents_el hs
  have htot := sumTo_le entCnt l
  have hcs := ents_cnt l
  go_enter Try.func19, Try.ntmps19
  go_wp2
  go_loopw [1, 5] (fun u i wr => ∃ (q : Nat), q ≤ n ∧ i = .int .i64 q ∧ u = .int .i64 (k + (sumTo entCnt l q : Nat)) ∧ Below w.heap.size w wr) (fun _ i _ => n - (intOf i).toNat)
  case atStart => exact ⟨0, Nat.zero_le _, rfl, by rw [sumTo_zero]; simp, Below.refl _ _⟩
  case round =>
    obtain ⟨q, hq, rfl, rfl, hb⟩ := hrel
    by_cases hlt : q < n
    · obtain ⟨b, off, rfl, hbl, hc⟩ := h.at_ (by omega)
      have hc2 := hc q hlt
      rw [enAt_mk (by have := HL.out; omega)] at hc2
      unfold mkEnt at hc2
      obtain ⟨hp0, A', n', c', hc0, hat, _⟩ := hc2
      have hpk := (hb.cell (p := ⟨b, off + q * 2, none⟩) hbl).trans hp0
      have hck := (hb.cell (p := ⟨b, off + q * 2 + 1, none⟩) hbl).trans hc0
      simp only at hpk hat
      clear hc hp0
      have hek := hel q
      have hle := htot q
      have hsl : (l.map entCnt).sum ≤ 16777216 := by unfold entsCnt at hcs; omega
      have HSU := Lib.hid (show sumTo entCnt l (q + 1) = sumTo entCnt l q + (1 + (enAt l q).ch.length) by
        rw [sumTo_succ _ _ _ (by have := HL.out; omega), enAt_get (by have := HL.out; omega)]; rfl)
      have hchs : (enAt l q).ch.length ≤ 16777216 := by unfold entSz strsSz at hek; omega
      have hn' : n' = (enAt l q).ch.length := by have := hat.nn; rwa [marks_len] at this
      subst hn'
      go_wp2
      go_region_held3 (fun w' => w'.cell? ⟨b, off + q * 2, none⟩ = some (.string (mtx (k + (sumTo entCnt l q : Nat)))) ∧ Below w.heap.size w w') (first | (have hh := ‹_ ∧ _›; exact ⟨keep_cell hbw hh.1, bthen hh.2 hbw⟩) | (have hh := ‹_ ∧ _›; exact ⟨hh.1, hh.2.drew⟩) | exact ⟨hpk, hb.drew⟩ | exact ⟨hpk, hb⟩) (first | (go_at_call 70; refine (markText_any _ _ (by omega) (by omega)).mono ?_; rintro e w1 ⟨rfl, hbw⟩))
      have hbr := (by have hh := ‹_ ∧ _›; exact hh.2 : Below w.heap.size w _)
      have hck2 := (hbr.cell (p := ⟨b, off + q * 2 + 1, none⟩) hbl).trans hc0
      go_wp2_with fail
      refine (heldStrs_row _ _ _ _ _ (hat.keep hbr) (by omega) (by omega) (by omega)).mono ?_
      rintro e w3 ⟨rfl, hb3⟩
      go_wp2
      refine ⟨⟨q + 1, by omega, by go_num, ?_, bthen hbr hb3⟩, by simp [intOf]; omega⟩
      rw [HSU.out]; congr 1; push_cast; omega
    · go_wp2
      go_returns
      have hqn : l.length ≤ q := by have := HL.out; omega
      refine ⟨ret_int ?_, hb⟩
      rw [sumTo_all _ _ _ hqn]; rfl
end Go.Proofs.Ytmichbgiaoopgaa
