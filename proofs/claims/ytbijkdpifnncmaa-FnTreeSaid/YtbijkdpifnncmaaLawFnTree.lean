/- The law FnTree holds: what is put into a tree stands where it was put; what is thrown away is gone with all below it; a directory lists what is in it. Conditions: none. -/
import Derived.Test.YtbijkdpifnncmaaJ7
import Derived.Test.YtbijkdpifnncmaaJ5
import Derived.Test.YtbijkdpifnncmaaJ4
import Derived.Test.YtbijkdpifnncmaaJ8
import Derived.Test.YtbijkdpifnncmaaJ1
namespace Go.Proofs.Ytbijkdpifnncmaa
open Go.ChangeShapes Go.WideShapes Go.ChangeAt Go.RowKit Go.Joins
attribute [local go_sem] Grow.cell Grow.frozen
attribute [local irreducible] EntsAt StrsAt

theorem sameTexts_any (A A' : Option Addr) (n n' c c' : Nat) (l l' : List ByteArray) (w : World) (h : StrsAt w A n l) (h' : StrsAt w A' n' l') (hn : n ≤ 16777216) (hn' : n' ≤ 16777216) :
    Calls Try.prog 16 #[.slice A n c, .slice A' n' c'] w fun e w' => e = .returned (.bool (decide (l = l'))) ∧ Below w.heap.size w w' := by
  have hl := h.nn
  have hl' := h'.nn
  have HL := Lib.hid hl
  have HL' := Lib.hid hl'
  clear hl hl'
  by_cases hne : n = n'
  · subst hne
    by_cases he : l = l'
    · subst he
      refine (sameTexts_yes A A' n n c c' l w h h' hn).mono ?_
      rintro e w1 ⟨rfl, hb⟩
      exact ⟨by simp, hb⟩
    · have HE := Lib.hid he
      go_enter Try.func16, Try.ntmps16
      go_wp2
      go_loopw [5] (fun i wr => ∃ (k : Nat), k ≤ n ∧ i = .int .i64 k ∧ (∀ j, j < k → sAt l j = sAt l' j) ∧ Below w.heap.size w wr) (fun i _ => n - (intOf i).toNat)
      case atStart => exact ⟨0, Nat.zero_le _, rfl, fun j hj => absurd hj (by omega), Below.refl _ _⟩
      case round =>
        obtain ⟨k, hk, rfl, hj, hb⟩ := hrel
        have HJ := Lib.hid hj; clear hj
        by_cases hlt : k < n
        · obtain ⟨b, off, rfl, hbl, hc⟩ := h.at_ (by omega)
          have hck := (hb.cell (p := ⟨b, off + k, none⟩) hbl).trans (hc k hlt)
          clear hc
          obtain ⟨b', off', rfl, hbl', hc'⟩ := h'.at_ (by omega)
          have hck' := (hb.cell (p := ⟨b', off' + k, none⟩) hbl').trans (hc' k hlt)
          clear hc'
          by_cases hs : sAt l k = sAt l' k
          · have hd : ((sAt l k).toList == (sAt l' k).toList) = true := by rw [str_beq]; simpa using hs
            have HS := Lib.hid hs
            clear hs
            go_wp2
            go_quiet (fail)
            go_wp2
            refine ⟨⟨k + 1, by omega, by go_num, fun j hj => ?_, below_drewN hb _⟩, by simp [intOf]; omega⟩
            rcases Nat.lt_or_ge j k with h1 | h1
            · exact HJ.out j h1
            · have : j = k := by omega
              subst this; exact HS.out
          · have hd : ((sAt l k).toList == (sAt l' k).toList) = false := by rw [str_beq]; simpa using hs
            clear hs
            go_wp2
            go_quiet (fail)
            go_wp2
            go_returns
            exact ⟨ret_bool (by simp [HE.out]), below_drewN hb _⟩
        · exfalso
          apply HE.out
          apply List.ext_getElem (by rw [← HL.out, ← HL'.out])
          intro i h1 h2
          have := HJ.out i (by have := HL.out; omega)
          simpa [sAt, h1, h2] using this
  · have HE := Lib.hid (show l ≠ l' from fun e => hne (by rw [HL.out, HL'.out, e]))
    have hni : ¬ ((n : Int) = (n' : Int)) := by omega
    go_enter Try.func16, Try.ntmps16
    go_wp2
    go_returns
    exact ⟨ret_bool (by simp [HE.out]), Below.refl _ _⟩

theorem begins_laws (p q : ByteArray) (w : World) (hp : p.size ≤ 9223372036854775807) (hq : q.size ≤ 9223372036854775807) :
    Calls Try.prog 19 #[.string q, .string p] w fun e w' => e = .returned (.bool (beginsB p q)) ∧ w = w' := by
  by_cases h : q.size ≤ p.size
  · have HB := Lib.hid (show beginsB p q = ((p.extract 0 q.size).toList == q.toList) by unfold beginsB; rw [str_beq]; simp [h])
    go_enter Try.func19, Try.ntmps19
    go_wp2
    go_returns
    exact ⟨ret_bool (by rw [HB.out]), rfl⟩
  · have HB := Lib.hid (show beginsB p q = false by unfold beginsB; simp [h])
    go_enter Try.func19, Try.ntmps19
    go_wp2
    go_returns
    exact ⟨ret_bool (by rw [HB.out]), rfl⟩

def pthD : List ByteArray := [⟨#[97]⟩, ⟨#[98]⟩, ⟨#[100, 105, 114]⟩, ⟨#[97, 47, 98]⟩, ⟨#[120, 47, 102]⟩, ⟨#[]⟩]
def pthE : List ByteArray := [⟨#[]⟩, ⟨#[97]⟩, ⟨#[98]⟩, ⟨#[100, 105, 114]⟩, ⟨#[97, 47, 98]⟩, ⟨#[120]⟩]
theorem pthD_le (i : Nat) : (sAt pthD i).size ≤ 3 := sAt_le (by decide) i
theorem pthE_le (i : Nat) : (sAt pthE i).size ≤ 3 := sAt_le (by decide) i
set_option maxRecDepth 4000 in
theorem drawTreeDrop_any (A : Option Addr) (n c : Nat) (f : Nat → Int) (w : World) (h : CodeAt w A n f) (hn : n ≤ 1048576) :
    Calls Try.prog 17 #[.slice A n c] w fun e w' => ∃ A0 n0 c0 l p, e = .returned (.tuple #[.slice A0 n0 c0, .string p]) ∧ EntsIn w.heap.size w'.heap.size w' A0 n0 c0 l ∧ l.length ≤ 11 ∧ smallE l ∧ p.size ≤ 3 ∧ Below w.heap.size w w' := by
  go_enter Try.func17, Try.ntmps17
  go_wp2_with fail
  refine (l1New_any _ _ _ _ _ h hn).mono ?_
  rintro e w1 ⟨rfl, hc1, hb1⟩
  have hz := hc1.lt
  have hz1 := hb1.size
  go_wp2_with fail
  refine (l30Some_any _ _ hc1).mono ?_
  rintro e w2 ⟨A0, n0, c0, l, rfl, hr2, hl0, hs0, hc2, hch2⟩
  have al := (Below.refl w2.heap.size w2).alloc (Nat.le_refl _) (.cells (pthD.map Value.string).toArray 9)
  have hlt2 := hc2.lt
  have hz2 := hch2.size
  go_wp2_with fail
  refine (l1Pick_any _ _ 6 _ pthD _ (hc2.keep al) (strs_new _ _ pthD) (by omega) (by omega) (blk_ne hlt2)).mono ?_
  rintro e w3 ⟨i, hi, rfl, hc3, hch3⟩
  have hp := pthD_le i
  generalize sAt pthD i = p at *
  go_wp2
  go_returns
  have hr3 := ((hr2.keep al).wide (Nat.le_refl _) al.size).ch hch3 (fun k hk e => by unfold Iv at hk; omega)
  exact ⟨A0, n0, c0, l, p, rfl, hr3.wide (by omega) hch3.size, hl0, hs0, hp, hb1.trans (((hch2.trans (Ch.of_below al)).trans hch3).below (B := w.heap.size) (fun k hk => by omega) hb1.size)⟩
set_option maxRecDepth 4000 in
theorem drawTreeList_any (A : Option Addr) (n c : Nat) (f : Nat → Int) (w : World) (h : CodeAt w A n f) (hn : n ≤ 1048576) :
    Calls Try.prog 20 #[.slice A n c] w fun e w' => ∃ A0 n0 c0 l p, e = .returned (.tuple #[.slice A0 n0 c0, .string p]) ∧ EntsIn w.heap.size w'.heap.size w' A0 n0 c0 l ∧ l.length ≤ 11 ∧ smallE l ∧ p.size ≤ 3 ∧ Below w.heap.size w w' := by
  go_enter Try.func20, Try.ntmps20
  go_wp2_with fail
  refine (l1New_any _ _ _ _ _ h hn).mono ?_
  rintro e w1 ⟨rfl, hc1, hb1⟩
  have hz := hc1.lt
  have hz1 := hb1.size
  go_wp2_with fail
  refine (l30Some_any _ _ hc1).mono ?_
  rintro e w2 ⟨A0, n0, c0, l, rfl, hr2, hl0, hs0, hc2, hch2⟩
  have al := (Below.refl w2.heap.size w2).alloc (Nat.le_refl _) (.cells (pthE.map Value.string).toArray 9)
  have hlt2 := hc2.lt
  have hz2 := hch2.size
  go_wp2_with fail
  refine (l1Pick_any _ _ 6 _ pthE _ (hc2.keep al) (strs_new _ _ pthE) (by omega) (by omega) (blk_ne hlt2)).mono ?_
  rintro e w3 ⟨i, hi, rfl, hc3, hch3⟩
  have hp := pthE_le i
  generalize sAt pthE i = p at *
  go_wp2
  go_returns
  have hr3 := ((hr2.keep al).wide (Nat.le_refl _) al.size).ch hch3 (fun k hk e => by unfold Iv at hk; omega)
  exact ⟨A0, n0, c0, l, p, rfl, hr3.wide (by omega) hch3.size, hl0, hs0, hp, hb1.trans (((hch2.trans (Ch.of_below al)).trans hch3).below (B := w.heap.size) (fun k hk => by omega) hb1.size)⟩

/-! ### plain laws -/
theorem putL_has {l : List Ent} {e : Ent} (h : putOk l e = true) : e ∈ putL l e := by
  unfold putOk at h
  simp only [Bool.and_eq_true] at h
  unfold putL
  rw [if_pos h.1, if_pos h.2]
  unfold insL
  simp
theorem putL_ok {l : List Ent} {e : Ent} (h : treeOkB l = true) : treeOkB (putL l e) = true := by
  unfold putL
  rw [if_pos h]
  split
  · assumption
  · exact h
theorem putL_no {l : List Ent} {e : Ent} (h : treeOkB l = false) : putL l e = [] := by
  unfold putL
  rw [h]; rfl
theorem dropL_none {l : List Ent} {q : ByteArray} {x : Ent} (h : x ∈ dropL l q) : x.p ≠ q ∧ underB x.p q = false := by
  unfold dropL at h
  split at h
  · have := (List.mem_filter.1 h).2
    unfold dropB at this
    simpa using this
  · cases h
theorem dropL_len {l : List Ent} {q : ByteArray} (h : treeOkB l = true) {n : Nat} (hn : n = (dropL l q).length) {m : Nat} (hm : m = l.length) : ((n : Int) + dropN l q == (m : Int)) = true := by
  unfold dropN
  rw [if_pos h, hn, hm]
  simp only [beq_iff_eq]
  omega
theorem dropN_in (l : List Ent) (q : ByteArray) (h : l.length ≤ 1000) : 0 ≤ dropN l q ∧ dropN l q ≤ 1000 := by
  unfold dropN dropL
  split
  · have := List.length_filter_le (fun x : Ent => !dropB q x.p) l
    omega
  · omega
theorem enAt_mem {l : List Ent} {k : Nat} (h : k < l.length) : enAt l k ∈ l := by rw [enAt_get h]; exact List.getElem_mem h

attribute [local irreducible] treeOkB putL putOk dropL dropN treeList pathOkB underB beginsB
set_option maxRecDepth 20000 in
set_option maxHeartbeats 8000000 in
theorem fnTree_any (A : Option Addr) (n c : Nat) (f : Nat → Int) (w : World) (h : CodeAt w A n f) (hn : n ≤ 9223372036854775807) :
    Calls Try.prog 4 #[.slice A n c] w fun e w' => e = .returned (.bool true) ∧ Below w.heap.size w w' := by
  by_cases hbig : (n : Int) > 1048576
  · have hd : decide ((n : Int) > 1048576) = true := by simpa using hbig
    go_enter Try.func4, Try.ntmps4
    go_wp2_with fail
    refine (big_any _ _ _ _).mono ?_
    rintro e w1 ⟨rfl, rfl⟩
    rw [hd]
    go_wp2
    go_returns
    exact ⟨rfl, Below.refl _ _⟩
  · have hd : decide ((n : Int) > 1048576) = false := by simpa using hbig
    have hn2 : n ≤ 1048576 := by omega
    go_enter Try.func4, Try.ntmps4
    go_wp2_with fail
    refine (big_any _ _ _ _).mono ?_
    rintro e w1 ⟨rfl, rfl⟩
    rw [hd]
    go_wp2_with fail
    refine (drawTreePut_any _ _ _ _ _ h hn2).mono ?_
    rintro e w1 ⟨A0, n0, c0, l, p, A1, n1, c1, ch, rfl, hl1, hcs1, hlen, hsm, hp, hcl, hc9, hb1⟩
    have hsz := smallE_sz hsm
    have hes := small_ent (e := ⟨p, ch⟩) ⟨hp, hcl, hc9⟩
    have hcap := own_cap0 hcs1.row.own
    have hcn : n1 ≤ 16777216 := by have := hcs1.at_.nn; omega
    have al := (Below.refl w1.heap.size w1).alloc (Nat.le_refl _) (.cells #[.string p, .slice A1 n1 c1] 33)
    have hb2w := bthen hb1 al
    have L2 := hl1.at_.keep al
    have C2 := hcs1.at_.keep al
    have H2 := (h.keep hb1).keep al
    have hpl := putL_len l ⟨p, ch⟩
    have hps := putL_sz l ⟨p, ch⟩ (m := 1000) (by omega)
    clear hl1 hcs1
    go_wp2_with fail
    obtain ⟨W1, hW1⟩ : ∃ W, W = w1.alloc (.cells #[.string p, .slice A1 n1 c1] 33) := ⟨_, rfl⟩
    obtain ⟨gE, hgE⟩ : ∃ g, w1.heap.size = g := ⟨_, rfl⟩
    have bE0 : W1.cell? ⟨gE, 0, none⟩ = some (.string p) := by rw [hW1, ← hgE]; simp [go_sem]
    have bE1 : W1.cell? ⟨gE, 1, none⟩ = some (.slice A1 n1 c1) := by rw [hW1, ← hgE]; simp [go_sem]
    rw [← hW1] at hb2w L2 C2 H2 ⊢
    rw [hgE]
    clear hW1 hgE al
    refine (treePut_impl _ _ _ l p _ _ _ ch _ L2 C2 hcap (by omega)).mono ?_
    rintro e w3 ⟨A3, n3, c3, rfl, hx3, hb3⟩
    have hb3w := bthen hb2w hb3
    have L3 := L2.keep hb3
    have C3 := C2.keep hb3
    have H3 := H2.keep hb3
    have bE0' := keep_cell hb3 bE0
    have bE1' := keep_cell hb3 bE1
    have X3 := hx3.at_
    have hxl := Lib.hid hx3.len
    clear L2 C2 H2 bE0 bE1 hx3 hb2w
    go_wp2_with fail
    refine (treePut_spec _ _ _ l p _ _ _ ch _ L3 C3 hcap (by omega)).mono ?_
    rintro e w4 ⟨A4, n4, c4, rfl, _, hb4⟩
    have hb4w := bthen hb3w hb4
    have L4 := L3.keep hb4
    have C4 := C3.keep hb4
    have H4 := H3.keep hb4
    have bE0 := keep_cell hb4 bE0'
    have bE1 := keep_cell hb4 bE1'
    have X4 := X3.keep hb4
    clear L3 C3 H3 bE0' bE1' X3 hb3w
    obtain ⟨pk, hpk⟩ : ∃ b, putOk l ⟨p, ch⟩ = b := ⟨_, rfl⟩
    rw [hpk]
    have HP := Lib.hid (show pk = true → (⟨p, ch⟩ : Ent) ∈ putL l ⟨p, ch⟩ from fun h1 => putL_has (by rw [hpk]; exact h1))
    clear hpk
    go_wp2_with fail
    refine (treeOk_spec _ _ _ l _ L4 (by omega)).mono ?_
    rintro e w5 ⟨rfl, hb5⟩
    have hb5w := bthen hb4w hb5
    have C5 := C4.keep hb5
    have H5 := H4.keep hb5
    have bE0' := keep_cell hb5 bE0
    have bE1' := keep_cell hb5 bE1
    have X5 := X4.keep hb5
    clear L4 C4 H4 bE0 bE1 X4 hb4w
    obtain ⟨b1, hb1'⟩ : ∃ b, treeOkB l = b := ⟨_, rfl⟩
    rw [hb1']
    cases b1
    · have h0 : n3 = 0 := by rw [hxl.out, putL_no hb1']; rfl
      subst h0
      clear hb1' hxl HP
      go_wp2
      go_returns
      exact ⟨rfl, hb5w⟩
    · have HX := Lib.hid (putL_ok (e := ⟨p, ch⟩) hb1')
      clear hb1'
      go_wp2_with fail
      refine (treeOk_spec1 _ _ _ _ _ X5 (by omega)).mono ?_
      rintro e w6 ⟨rfl, hb6⟩
      rw [HX.out]
      have hb6w := bthen hb5w hb6
      have C6 := C5.keep hb6
      have H6 := H5.keep hb6
      have bE0 := keep_cell hb6 bE0'
      have bE1 := keep_cell hb6 bE1'
      have X6 := X5.keep hb6
      clear C5 H5 bE0' bE1' X5 hb5w HX
      have hn3 : n3 ≤ 12 := by rw [hxl.out]; omega
      have hsx := ents_el (l := putL l ⟨p, ch⟩) (m := 1000) hps
      generalize hx : putL l ⟨p, ch⟩ = x at *
      have hgw : gE < w6.heap.size := cell_lt bE0
      go_wp2
      go_loopw [9, 10] (fun fd i wr => ∃ (k : Nat) (b : Bool), k ≤ n3 ∧ i = .int .i64 k ∧ fd = .bool b ∧ (∀ j, j < k → enAt x j = ⟨p, ch⟩ → b = true) ∧ Below w6.heap.size w6 wr) (fun _ i _ => n3 - (intOf i).toNat)
      case atStart => exact ⟨0, false, Nat.zero_le _, rfl, rfl, fun j hj => absurd hj (by omega), Below.refl _ _⟩
      case round =>
        obtain ⟨k, b, hk, rfl, rfl, hfd, hb⟩ := hrel
        have HF := Lib.hid hfd; clear hfd
        have e0 := keep_cell hb bE0
        have e1 := keep_cell hb bE1
        by_cases hlt : k < n3
        · obtain ⟨bx, ox, rfl, hbx, hcx⟩ := X6.at_ (by omega)
          obtain ⟨hp0, A7, n7, c7, hc0, hat, _⟩ := hcx k hlt
          have hpk := (hb.cell (p := ⟨bx, ox + k * 2, none⟩) hbx).trans hp0
          have hck := (hb.cell (p := ⟨bx, ox + k * 2 + 1, none⟩) hbx).trans hc0
          have hek := hsx k
          unfold entSz at hek
          have hn7 : n7 ≤ 16777216 := by have := hat.nn; unfold strsSz at hek; omega
          have hatr := hat.keep hb
          have hcr := C6.keep hb
          have hbr : bx < wr.heap.size := Nat.lt_of_lt_of_le hbx hb.size
          have hgr : gE < wr.heap.size := Nat.lt_of_lt_of_le hgw hb.size
          clear hcx hp0 hc0 hat
          cases b
          · by_cases hpp : (enAt x k).p = p
            · have hd : ((enAt x k).p.toList == p.toList) = true := by rw [str_beq]; simpa using hpp
              obtain ⟨q, hq⟩ : ∃ q, decide ((enAt x k).ch = ch) = q := ⟨_, rfl⟩
              have HQ := Lib.hid hq
              have HPP := Lib.hid hpp
              clear hq hpp
              go_wp2
              refine wp_region_grow (by kernel_rfl) (by kernel_rfl) ?_
              repeat (go_big_quiet_step ((go_at_call 16; exact grow_of (known HQ.out (sameTexts_any _ _ _ _ _ _ _ _ _ (hatr.keep (Grow.below _)) (hcr.keep (Grow.below _)) (by omega) (by omega))))))
              refine wpQuiet_nil ?_
              intro _ hw'
              obtain ⟨⟨U1, hbu⟩, hw''⟩ := hw'
              change _ = U1 at hw''
              subst hw''
              go_wp2
              refine ⟨⟨k + 1, q, by omega, by go_num, rfl, fun j hj hje => ?_, bthen hb hbu⟩, by simp [intOf]; omega⟩
              rcases Nat.lt_or_ge j k with h1 | h1
              · have := HF.out j h1 hje; cases this
              · have : j = k := by omega
                subst this
                rw [← HQ.out, hje]; simp
            · have hd : ((enAt x k).p.toList == p.toList) = false := by rw [str_beq]; simpa using hpp
              have HPP := Lib.hid hpp
              clear hpp
              go_wp2
              refine wp_region_grow (by kernel_rfl) (by kernel_rfl) ?_
              repeat (go_big_quiet_step (fail))
              refine wpQuiet_nil ?_
              intro _ hw'
              obtain ⟨⟨U1, hbu⟩, hw''⟩ := hw'
              change _ = U1 at hw''
              subst hw''
              go_wp2
              refine ⟨⟨k + 1, false, by omega, by go_num, rfl, fun j hj hje => ?_, bthen hb hbu⟩, by simp [intOf]; omega⟩
              rcases Nat.lt_or_ge j k with h1 | h1
              · exact HF.out j h1 hje
              · have : j = k := by omega
                subst this
                exact absurd (by rw [hje]) HPP.out
          · go_wp2
            refine wp_region_grow (by kernel_rfl) (by kernel_rfl) ?_
            repeat (go_big_quiet_step (fail))
            refine wpQuiet_nil ?_
            intro _ hw'
            obtain ⟨⟨U1, hbu⟩, hw''⟩ := hw'
            change _ = U1 at hw''
            subst hw''
            go_wp2
            exact ⟨⟨k + 1, true, by omega, by go_num, rfl, fun _ _ _ => rfl, bthen hb hbu⟩, by simp [intOf]; omega⟩
        · have HFD := Lib.hid (show pk = true → b = true from fun h1 => by
            have hm := HP.out h1
            obtain ⟨j, hj, hje⟩ := List.mem_iff_getElem.1 hm
            exact HF.out j (by have := hxl.out; omega) (by rw [enAt_get hj]; exact hje))
          have hb7w := bthen hb6w hb
          have H7 := H6.keep hb
          have hgz : gE < wr.heap.size := Nat.lt_of_lt_of_le hgw hb.size
          clear HP HF hx hxl X6 C6 H6 bE0 bE1 hb6w hpl hps hsx
          have main : (pk = false ∨ (pk = true ∧ b = true)) := by
            cases pk
            · exact .inl rfl
            · exact .inr ⟨rfl, HFD.out rfl⟩
          clear HFD
          rcases main with rfl | ⟨rfl, rfl⟩
          · go_wp2_with fail
            refine (drawTreeDrop_any _ _ _ _ _ H7 hn2).mono ?_
            rintro e w8 ⟨Am, nm, cm, m, pd, rfl, hm8, hml, hms, hpd, hb8⟩
            have hb8w := bthen hb7w hb8
            have H8 := H7.keep hb8
            have f0 := keep_cell hb8 e0
            have M8 := hm8.at_
            have hmz := smallE_sz hms
            have hmn := Lib.hid hm8.len
            clear H7 e0 e1 hm8 hb7w
            go_wp2_with fail
            refine (treeDrop_impl _ _ _ m pd _ M8 (by omega) (by omega)).mono ?_
            rintro e w9 ⟨Ay, ny, cy, rfl, hy9, hb9⟩
            have hb9w := bthen hb8w hb9
            have H9 := H8.keep hb9
            have f0' := keep_cell hb9 f0
            have M9 := M8.keep hb9
            have Y9 := hy9.at_
            have hyn := Lib.hid hy9.len
            have hyz := dropL_sz m pd (m := 1000) (by omega)
            have hyz2 := ents_el hyz
            have hny : ny ≤ 1000 := ents_n Y9 hyz
            clear H8 f0 M8 hy9 hb8w
            obtain ⟨dn, hdn⟩ : ∃ d, dropN m pd = d := ⟨_, rfl⟩
            have HD := Lib.hid (show treeOkB m = true → ((ny : Int) + dn == (nm : Int)) = true from fun h1 => by rw [← hdn]; exact dropL_len h1 hyn.out hmn.out)
            have hdn0 := dropN_in m pd (by omega)
            rw [hdn] at hdn0
            rw [hdn]
            clear hdn
            go_wp2
            go_loopw [15] (fun i wr2 => ∃ (k : Nat), k ≤ ny ∧ i = .int .i64 k ∧ Below w9.heap.size w9 wr2) (fun i _ => ny - (intOf i).toNat)
            case atStart => exact ⟨0, Nat.zero_le _, rfl, Below.refl _ _⟩
            case round =>
              obtain ⟨k, hk, rfl, hb⟩ := hrel
              have e0 := keep_cell hb f0'
              by_cases hlt : k < ny
              · obtain ⟨bx, ox, rfl, hbx, hcx⟩ := Y9.at_ (by omega)
                obtain ⟨hp0, A7, n7, c7, hc0, hat, _⟩ := hcx k hlt
                have hpk := (hb.cell (p := ⟨bx, ox + k * 2, none⟩) hbx).trans hp0
                have hek := hyz2 k
                unfold entSz at hek
                have hnone := dropL_none (enAt_mem (l := dropL m pd) (k := k) (by have := hyn.out; omega))
                have hd : ((enAt (dropL m pd) k).p.toList == pd.toList) = false := by rw [str_beq]; simpa using hnone.1
                have HU := Lib.hid (show beginsB (enAt (dropL m pd) k).p (pd ++ ⟨#[47]⟩) = false by
                  have := begins_slash (enAt (dropL m pd) k).p pd
                  unfold slash at this
                  rw [this]; exact hnone.2)
                have hsl : (pd ++ ⟨#[47]⟩ : ByteArray).size = pd.size + 1 := slash_size pd
                clear hcx hp0 hc0 hat hnone
                generalize enAt (dropL m pd) k = yk at *
                have hone : (⟨#[47]⟩ : ByteArray).size = 1 := rfl
                go_wp2_with fail
                refine (begins_laws _ _ _ (by omega) (by omega)).mono ?_
                rintro e w10 ⟨rfl, rfl⟩
                rw [HU.out]
                go_wp2
                exact ⟨⟨k + 1, by omega, by go_num, hb⟩, by simp [intOf]; omega⟩
              · have hb10w := bthen hb9w hb
                have H10 := H9.keep hb
                have M10 := M9.keep hb
                clear H9 M9 Y9 hb9w f0'
                go_wp2_with fail
                refine (drawTreeList_any _ _ _ _ _ H10 hn2).mono ?_
                rintro e w11 ⟨Aq, nq, cq, q, dir, rfl, hq11, hql, hqs, hdir, hb11⟩
                have hb11w := bthen hb10w hb11
                have M11 := M10.keep hb11
                have Q11 := hq11.at_
                have f0 := keep_cell hb11 e0
                have hqz := smallE_sz hqs
                have hgl := cell_lt f0
                have hts := treeList_sz q dir (by omega)
                clear H10 M10 e0 hq11 hb10w
                obtain ⟨okm, hokm⟩ : ∃ b, treeOkB m = b := ⟨_, rfl⟩
                have HOK := Lib.hid hokm
                clear hokm
                go_wp2
                cases okm
                · refine wp_region_dagb [120, 121, 122, 123, 124, 125, 126, 127, 128, 129, 130, 131, 132, 133, 134, 135, 136, 137, 138, 139, 140, 141, 142, 143, 144, 145, 146, 147, 148, 149, 2] (by kernel_rfl) (by kernel_rfl) (fun D vs w' => ∃ v120 v121 v122 v123 v124 v125 v126 v127 v128 v129 v130 v131 v132 v133 v134 v135 v136 v137 v138 v139 v140 v141 v142 v143 v144 v145 v146 v147 v148 v149 v2 : Value, vs = [v120, v121, v122, v123, v124, v125, v126, v127, v128, v129, v130, v131, v132, v133, v134, v135, v136, v137, v138, v139, v140, v141, v142, v143, v144, v145, v146, v147, v148, v149, v2] ∧ Below w11.heap.size w11 w' ∧ (D 0 = true → v120 = .slice Am nm cm) ∧ (D 1 = true → v121 = .bool false) ∧ (D 2 = true → v122 = .bool true) ∧ (D 3 = true → v123 = .bool true) ∧ (D 11 = true → v131 = .bool true) ∧ (D 12 = true → v132 = .bool true) ∧ (D 13 = true → v133 = .slice Aq nq cq) ∧ (D 14 = true → v134 = .string dir) ∧ (D 15 = true → ∃ (A' : Option Addr) (n' c' : Nat), v135 = .slice A' n' c' ∧ StrsAt w' A' n' (treeList q dir)) ∧ (D 16 = true → v136 = .slice Aq nq cq) ∧ (D 17 = true → v137 = .string dir) ∧ (D 18 = true → ∃ (A' : Option Addr) (n' c' : Nat), v138 = .slice A' n' c' ∧ StrsAt w' A' n' (treeList q dir)) ∧ (D 19 = true → v139 = .bool true) ∧ (D 20 = true → v140 = .bool true) ∧ (D 21 = true → v141 = .bool true) ∧ (D 22 = true → v142 = .pointer (some ⟨gE, 0, none⟩)) ∧ (D 23 = true → v143 = .string p) ∧ (D 24 = true → v144 = .bool (pathOkB p)) ∧ (D 25 = true → v145 = .pointer (some ⟨gE, 0, none⟩)) ∧ (D 26 = true → v146 = .string p) ∧ (D 27 = true → v147 = .bool (pathOkB p)) ∧ (D 28 = true → v148 = .bool true) ∧ (D 29 = true → v149 = .bool true) ∧ (D 30 = true → v2 = .bool true))
                    ⟨_, _, _, _, _, _, _, _, _, _, _, _, _, _, _, _, _, _, _, _, _, _, _, _, _, _, _, _, _, _, _, rfl, (Below.refl _ _).drew, (fun h => by cases h), (fun h => by cases h), (fun h => by cases h), (fun h => by cases h), (fun h => by cases h), (fun h => by cases h), (fun h => by cases h), (fun h => by cases h), (fun h => by cases h), (fun h => by cases h), (fun h => by cases h), (fun h => by cases h), (fun h => by cases h), (fun h => by cases h), (fun h => by cases h), (fun h => by cases h), (fun h => by cases h), (fun h => by cases h), (fun h => by cases h), (fun h => by cases h), (fun h => by cases h), (fun h => by cases h), (fun h => by cases h), (fun h => by cases h)⟩ ?_ ?_
                  · intro i D vs w' hi hD hdep hcl hI
                    have hi' : i < 31 := hi
                    obtain ⟨v120, v121, v122, v123, v124, v125, v126, v127, v128, v129, v130, v131, v132, v133, v134, v135, v136, v137, v138, v139, v140, v141, v142, v143, v144, v145, v146, v147, v148, v149, v2, rfl, hb, k0, k1, k2, k3, k11, k12, k13, k14, k15, k16, k17, k18, k19, k20, k21, k22, k23, k24, k25, k26, k27, k28, k29, k30⟩ := hI
                    simp only [putAll, List.setIfInBounds_toArray, List.set_cons_succ, List.set_cons_zero]
                    rcases (show i = 0 ∨ i = 1 ∨ i = 2 ∨ i = 3 ∨ i = 4 ∨ i = 5 ∨ i = 6 ∨ i = 7 ∨ i = 8 ∨ i = 9 ∨ i = 10 ∨ i = 11 ∨ i = 12 ∨ i = 13 ∨ i = 14 ∨ i = 15 ∨ i = 16 ∨ i = 17 ∨ i = 18 ∨ i = 19 ∨ i = 20 ∨ i = 21 ∨ i = 22 ∨ i = 23 ∨ i = 24 ∨ i = 25 ∨ i = 26 ∨ i = 27 ∨ i = 28 ∨ i = 29 ∨ i = 30 by omega) with rfl | rfl | rfl | rfl | rfl | rfl | rfl | rfl | rfl | rfl | rfl | rfl | rfl | rfl | rfl | rfl | rfl | rfl | rfl | rfl | rfl | rfl | rfl | rfl | rfl | rfl | rfl | rfl | rfl | rfl | rfl
                    · refine wpOp_step (by simp only [List.getElem?_toArray, List.getElem?_cons_zero]; rfl) (fun K hK => ?_)
                      go_simp
                      refine hK _ _ ⟨[.slice Am nm cm, v121, v122, v123, v124, v125, v126, v127, v128, v129, v130, v131, v132, v133, v134, v135, v136, v137, v138, v139, v140, v141, v142, v143, v144, v145, v146, v147, v148, v149, v2], ?_, _, _, _, _, _, _, _, _, _, _, _, _, _, _, _, _, _, _, _, _, _, _, _, _, _, _, _, _, _, _, _, rfl, hb, (fun _ => rfl), k1, k2, k3, k11, k12, k13, k14, k15, k16, k17, k18, k19, k20, k21, k22, k23, k24, k25, k26, k27, k28, k29, k30⟩
                      simp only [putAll, List.setIfInBounds_toArray, List.set_cons_succ, List.set_cons_zero]
                    · have e0 := k0 (hdep 0 (by kernel_rfl))
                      subst e0
                      refine wpOp_step (by simp only [List.getElem?_toArray, List.getElem?_cons_succ, List.getElem?_cons_zero]; rfl) (fun K hK => ?_)
                      go_simp
                      refine (treeOk_spec _ _ _ m _ (M11.keep hb) (by omega)).mono ?_
                      rintro e w4 ⟨rfl, hb4⟩
                      rw [HOK.out]
                      refine hK _ _ ⟨[.slice Am nm cm, .bool false, v122, v123, v124, v125, v126, v127, v128, v129, v130, v131, v132, v133, v134, v135, v136, v137, v138, v139, v140, v141, v142, v143, v144, v145, v146, v147, v148, v149, v2], ?_, _, _, _, _, _, _, _, _, _, _, _, _, _, _, _, _, _, _, _, _, _, _, _, _, _, _, _, _, _, _, _, rfl, (bthen hb hb4), (fun _ => rfl), (fun _ => rfl), k2, k3, k11, k12, k13, k14, (fun h => by obtain ⟨A9, n9, c9, e9, hs9⟩ := k15 h; exact ⟨A9, n9, c9, e9, hs9.keep hb4⟩), k16, k17, (fun h => by obtain ⟨A9, n9, c9, e9, hs9⟩ := k18 h; exact ⟨A9, n9, c9, e9, hs9.keep hb4⟩), k19, k20, k21, k22, k23, k24, k25, k26, k27, k28, k29, k30⟩
                      simp only [putAll, List.setIfInBounds_toArray, List.set_cons_succ, List.set_cons_zero]
                    · have e1 := k1 (hdep 1 (by kernel_rfl))
                      subst e1
                      refine wpOp_step (by simp only [List.getElem?_toArray, List.getElem?_cons_succ, List.getElem?_cons_zero]; rfl) (fun K hK => ?_)
                      go_simp
                      refine hK _ _ ⟨[v120, .bool false, .bool true, v123, v124, v125, v126, v127, v128, v129, v130, v131, v132, v133, v134, v135, v136, v137, v138, v139, v140, v141, v142, v143, v144, v145, v146, v147, v148, v149, v2], ?_, _, _, _, _, _, _, _, _, _, _, _, _, _, _, _, _, _, _, _, _, _, _, _, _, _, _, _, _, _, _, _, rfl, hb, k0, (fun _ => rfl), (fun _ => rfl), k3, k11, k12, k13, k14, k15, k16, k17, k18, k19, k20, k21, k22, k23, k24, k25, k26, k27, k28, k29, k30⟩
                      simp only [putAll, List.setIfInBounds_toArray, List.set_cons_succ, List.set_cons_zero]
                    · have e2 := k2 (hdep 2 (by kernel_rfl))
                      subst e2
                      refine wpOp_step (by simp only [List.getElem?_toArray, List.getElem?_cons_succ, List.getElem?_cons_zero]; rfl) (fun K hK => ?_)
                      go_simp
                      refine hK _ _ ⟨[v120, v121, .bool true, .bool true, v124, v125, v126, v127, v128, v129, v130, v131, v132, v133, v134, v135, v136, v137, v138, v139, v140, v141, v142, v143, v144, v145, v146, v147, v148, v149, v2], ?_, _, _, _, _, _, _, _, _, _, _, _, _, _, _, _, _, _, _, _, _, _, _, _, _, _, _, _, _, _, _, _, rfl, hb, k0, k1, (fun _ => rfl), (fun _ => rfl), k11, k12, k13, k14, k15, k16, k17, k18, k19, k20, k21, k22, k23, k24, k25, k26, k27, k28, k29, k30⟩
                      simp only [putAll, List.setIfInBounds_toArray, List.set_cons_succ, List.set_cons_zero]
                    · have e3 := k3 (hdep 3 (by kernel_rfl))
                      subst e3
                      refine wpOp_step (by simp only [List.getElem?_toArray, List.getElem?_cons_succ, List.getElem?_cons_zero]; rfl) (fun K hK => ?_)
                      go_simp
                      refine hK _ _ ⟨[v120, v121, v122, .bool true, undef, v125, v126, v127, v128, v129, v130, v131, v132, v133, v134, v135, v136, v137, v138, v139, v140, v141, v142, v143, v144, v145, v146, v147, v148, v149, v2], ?_, _, _, _, _, _, _, _, _, _, _, _, _, _, _, _, _, _, _, _, _, _, _, _, _, _, _, _, _, _, _, _, rfl, hb, k0, k1, k2, (fun _ => rfl), k11, k12, k13, k14, k15, k16, k17, k18, k19, k20, k21, k22, k23, k24, k25, k26, k27, k28, k29, k30⟩
                      simp only [putAll, List.setIfInBounds_toArray, List.set_cons_succ, List.set_cons_zero]
                    · have e3 := k3 (hdep 3 (by kernel_rfl))
                      subst e3
                      refine wpOp_step (by simp only [List.getElem?_toArray, List.getElem?_cons_succ, List.getElem?_cons_zero]; rfl) (fun K hK => ?_)
                      go_simp
                      refine hK _ _ ⟨[v120, v121, v122, .bool true, v124, undef, v126, v127, v128, v129, v130, v131, v132, v133, v134, v135, v136, v137, v138, v139, v140, v141, v142, v143, v144, v145, v146, v147, v148, v149, v2], ?_, _, _, _, _, _, _, _, _, _, _, _, _, _, _, _, _, _, _, _, _, _, _, _, _, _, _, _, _, _, _, _, rfl, hb, k0, k1, k2, (fun _ => rfl), k11, k12, k13, k14, k15, k16, k17, k18, k19, k20, k21, k22, k23, k24, k25, k26, k27, k28, k29, k30⟩
                      simp only [putAll, List.setIfInBounds_toArray, List.set_cons_succ, List.set_cons_zero]
                    · have e3 := k3 (hdep 3 (by kernel_rfl))
                      subst e3
                      refine wpOp_step (by simp only [List.getElem?_toArray, List.getElem?_cons_succ, List.getElem?_cons_zero]; rfl) (fun K hK => ?_)
                      go_simp
                      refine hK _ _ ⟨[v120, v121, v122, .bool true, v124, v125, undef, v127, v128, v129, v130, v131, v132, v133, v134, v135, v136, v137, v138, v139, v140, v141, v142, v143, v144, v145, v146, v147, v148, v149, v2], ?_, _, _, _, _, _, _, _, _, _, _, _, _, _, _, _, _, _, _, _, _, _, _, _, _, _, _, _, _, _, _, _, rfl, hb, k0, k1, k2, (fun _ => rfl), k11, k12, k13, k14, k15, k16, k17, k18, k19, k20, k21, k22, k23, k24, k25, k26, k27, k28, k29, k30⟩
                      simp only [putAll, List.setIfInBounds_toArray, List.set_cons_succ, List.set_cons_zero]
                    · have e3 := k3 (hdep 3 (by kernel_rfl))
                      subst e3
                      refine wpOp_step (by simp only [List.getElem?_toArray, List.getElem?_cons_succ, List.getElem?_cons_zero]; rfl) (fun K hK => ?_)
                      go_simp
                      refine hK _ _ ⟨[v120, v121, v122, .bool true, v124, v125, v126, undef, v128, v129, v130, v131, v132, v133, v134, v135, v136, v137, v138, v139, v140, v141, v142, v143, v144, v145, v146, v147, v148, v149, v2], ?_, _, _, _, _, _, _, _, _, _, _, _, _, _, _, _, _, _, _, _, _, _, _, _, _, _, _, _, _, _, _, _, rfl, hb, k0, k1, k2, (fun _ => rfl), k11, k12, k13, k14, k15, k16, k17, k18, k19, k20, k21, k22, k23, k24, k25, k26, k27, k28, k29, k30⟩
                      simp only [putAll, List.setIfInBounds_toArray, List.set_cons_succ, List.set_cons_zero]
                    · have e3 := k3 (hdep 3 (by kernel_rfl))
                      subst e3
                      refine wpOp_step (by simp only [List.getElem?_toArray, List.getElem?_cons_succ, List.getElem?_cons_zero]; rfl) (fun K hK => ?_)
                      go_simp
                      refine hK _ _ ⟨[v120, v121, v122, .bool true, v124, v125, v126, v127, undef, v129, v130, v131, v132, v133, v134, v135, v136, v137, v138, v139, v140, v141, v142, v143, v144, v145, v146, v147, v148, v149, v2], ?_, _, _, _, _, _, _, _, _, _, _, _, _, _, _, _, _, _, _, _, _, _, _, _, _, _, _, _, _, _, _, _, rfl, hb, k0, k1, k2, (fun _ => rfl), k11, k12, k13, k14, k15, k16, k17, k18, k19, k20, k21, k22, k23, k24, k25, k26, k27, k28, k29, k30⟩
                      simp only [putAll, List.setIfInBounds_toArray, List.set_cons_succ, List.set_cons_zero]
                    · have e3 := k3 (hdep 3 (by kernel_rfl))
                      subst e3
                      refine wpOp_step (by simp only [List.getElem?_toArray, List.getElem?_cons_succ, List.getElem?_cons_zero]; rfl) (fun K hK => ?_)
                      go_simp
                      refine hK _ _ ⟨[v120, v121, v122, .bool true, v124, v125, v126, v127, v128, undef, v130, v131, v132, v133, v134, v135, v136, v137, v138, v139, v140, v141, v142, v143, v144, v145, v146, v147, v148, v149, v2], ?_, _, _, _, _, _, _, _, _, _, _, _, _, _, _, _, _, _, _, _, _, _, _, _, _, _, _, _, _, _, _, _, rfl, hb, k0, k1, k2, (fun _ => rfl), k11, k12, k13, k14, k15, k16, k17, k18, k19, k20, k21, k22, k23, k24, k25, k26, k27, k28, k29, k30⟩
                      simp only [putAll, List.setIfInBounds_toArray, List.set_cons_succ, List.set_cons_zero]
                    · have e3 := k3 (hdep 3 (by kernel_rfl))
                      subst e3
                      refine wpOp_step (by simp only [List.getElem?_toArray, List.getElem?_cons_succ, List.getElem?_cons_zero]; rfl) (fun K hK => ?_)
                      go_simp
                      refine hK _ _ ⟨[v120, v121, v122, .bool true, v124, v125, v126, v127, v128, v129, undef, v131, v132, v133, v134, v135, v136, v137, v138, v139, v140, v141, v142, v143, v144, v145, v146, v147, v148, v149, v2], ?_, _, _, _, _, _, _, _, _, _, _, _, _, _, _, _, _, _, _, _, _, _, _, _, _, _, _, _, _, _, _, _, rfl, hb, k0, k1, k2, (fun _ => rfl), k11, k12, k13, k14, k15, k16, k17, k18, k19, k20, k21, k22, k23, k24, k25, k26, k27, k28, k29, k30⟩
                      simp only [putAll, List.setIfInBounds_toArray, List.set_cons_succ, List.set_cons_zero]
                    · have e3 := k3 (hdep 3 (by kernel_rfl))
                      subst e3
                      refine wpOp_step (by simp only [List.getElem?_toArray, List.getElem?_cons_succ, List.getElem?_cons_zero]; rfl) (fun K hK => ?_)
                      go_simp
                      refine hK _ _ ⟨[v120, v121, v122, .bool true, v124, v125, v126, v127, v128, v129, v130, .bool true, v132, v133, v134, v135, v136, v137, v138, v139, v140, v141, v142, v143, v144, v145, v146, v147, v148, v149, v2], ?_, _, _, _, _, _, _, _, _, _, _, _, _, _, _, _, _, _, _, _, _, _, _, _, _, _, _, _, _, _, _, _, rfl, hb, k0, k1, k2, (fun _ => rfl), (fun _ => rfl), k12, k13, k14, k15, k16, k17, k18, k19, k20, k21, k22, k23, k24, k25, k26, k27, k28, k29, k30⟩
                      simp only [putAll, List.setIfInBounds_toArray, List.set_cons_succ, List.set_cons_zero]
                    · have e11 := k11 (hdep 11 (by kernel_rfl))
                      subst e11
                      refine wpOp_step (by simp only [List.getElem?_toArray, List.getElem?_cons_succ, List.getElem?_cons_zero]; rfl) (fun K hK => ?_)
                      go_simp
                      refine hK _ _ ⟨[v120, v121, v122, v123, v124, v125, v126, v127, v128, v129, v130, .bool true, .bool true, v133, v134, v135, v136, v137, v138, v139, v140, v141, v142, v143, v144, v145, v146, v147, v148, v149, v2], ?_, _, _, _, _, _, _, _, _, _, _, _, _, _, _, _, _, _, _, _, _, _, _, _, _, _, _, _, _, _, _, _, rfl, hb, k0, k1, k2, k3, (fun _ => rfl), (fun _ => rfl), k13, k14, k15, k16, k17, k18, k19, k20, k21, k22, k23, k24, k25, k26, k27, k28, k29, k30⟩
                      simp only [putAll, List.setIfInBounds_toArray, List.set_cons_succ, List.set_cons_zero]
                    · have e12 := k12 (hdep 12 (by kernel_rfl))
                      subst e12
                      refine wpOp_step (by simp only [List.getElem?_toArray, List.getElem?_cons_succ, List.getElem?_cons_zero]; rfl) (fun K hK => ?_)
                      go_simp
                      refine hK _ _ ⟨[v120, v121, v122, v123, v124, v125, v126, v127, v128, v129, v130, v131, .bool true, .slice Aq nq cq, v134, v135, v136, v137, v138, v139, v140, v141, v142, v143, v144, v145, v146, v147, v148, v149, v2], ?_, _, _, _, _, _, _, _, _, _, _, _, _, _, _, _, _, _, _, _, _, _, _, _, _, _, _, _, _, _, _, _, rfl, hb, k0, k1, k2, k3, k11, (fun _ => rfl), (fun _ => rfl), k14, k15, k16, k17, k18, k19, k20, k21, k22, k23, k24, k25, k26, k27, k28, k29, k30⟩
                      simp only [putAll, List.setIfInBounds_toArray, List.set_cons_succ, List.set_cons_zero]
                    · have e12 := k12 (hdep 12 (by kernel_rfl))
                      subst e12
                      refine wpOp_step (by simp only [List.getElem?_toArray, List.getElem?_cons_succ, List.getElem?_cons_zero]; rfl) (fun K hK => ?_)
                      go_simp
                      refine hK _ _ ⟨[v120, v121, v122, v123, v124, v125, v126, v127, v128, v129, v130, v131, .bool true, v133, .string dir, v135, v136, v137, v138, v139, v140, v141, v142, v143, v144, v145, v146, v147, v148, v149, v2], ?_, _, _, _, _, _, _, _, _, _, _, _, _, _, _, _, _, _, _, _, _, _, _, _, _, _, _, _, _, _, _, _, rfl, hb, k0, k1, k2, k3, k11, (fun _ => rfl), k13, (fun _ => rfl), k15, k16, k17, k18, k19, k20, k21, k22, k23, k24, k25, k26, k27, k28, k29, k30⟩
                      simp only [putAll, List.setIfInBounds_toArray, List.set_cons_succ, List.set_cons_zero]
                    · have e12 := k12 (hdep 12 (by kernel_rfl))
                      subst e12
                      have e13 := k13 (hdep 13 (by kernel_rfl))
                      subst e13
                      have e14 := k14 (hdep 14 (by kernel_rfl))
                      subst e14
                      refine wpOp_step (by simp only [List.getElem?_toArray, List.getElem?_cons_succ, List.getElem?_cons_zero]; rfl) (fun K hK => ?_)
                      go_simp
                      refine (treeList_impl _ _ _ q dir _ (Q11.keep hb) (by omega) (by omega)).mono ?_
                      rintro e w4 ⟨A4, n4, c4, rfl, hs4, hb4⟩
                      refine hK _ _ ⟨[v120, v121, v122, v123, v124, v125, v126, v127, v128, v129, v130, v131, .bool true, .slice Aq nq cq, .string dir, .slice A4 n4 c4, v136, v137, v138, v139, v140, v141, v142, v143, v144, v145, v146, v147, v148, v149, v2], ?_, _, _, _, _, _, _, _, _, _, _, _, _, _, _, _, _, _, _, _, _, _, _, _, _, _, _, _, _, _, _, _, rfl, (bthen hb hb4), k0, k1, k2, k3, k11, (fun _ => rfl), (fun _ => rfl), (fun _ => rfl), (fun _ => ⟨A4, n4, c4, rfl, hs4.at_⟩), k16, k17, (fun h => by obtain ⟨A9, n9, c9, e9, hs9⟩ := k18 h; exact ⟨A9, n9, c9, e9, hs9.keep hb4⟩), k19, k20, k21, k22, k23, k24, k25, k26, k27, k28, k29, k30⟩
                      simp only [putAll, List.setIfInBounds_toArray, List.set_cons_succ, List.set_cons_zero]
                    · have e12 := k12 (hdep 12 (by kernel_rfl))
                      subst e12
                      refine wpOp_step (by simp only [List.getElem?_toArray, List.getElem?_cons_succ, List.getElem?_cons_zero]; rfl) (fun K hK => ?_)
                      go_simp
                      refine hK _ _ ⟨[v120, v121, v122, v123, v124, v125, v126, v127, v128, v129, v130, v131, .bool true, v133, v134, v135, .slice Aq nq cq, v137, v138, v139, v140, v141, v142, v143, v144, v145, v146, v147, v148, v149, v2], ?_, _, _, _, _, _, _, _, _, _, _, _, _, _, _, _, _, _, _, _, _, _, _, _, _, _, _, _, _, _, _, _, rfl, hb, k0, k1, k2, k3, k11, (fun _ => rfl), k13, k14, k15, (fun _ => rfl), k17, k18, k19, k20, k21, k22, k23, k24, k25, k26, k27, k28, k29, k30⟩
                      simp only [putAll, List.setIfInBounds_toArray, List.set_cons_succ, List.set_cons_zero]
                    · have e12 := k12 (hdep 12 (by kernel_rfl))
                      subst e12
                      refine wpOp_step (by simp only [List.getElem?_toArray, List.getElem?_cons_succ, List.getElem?_cons_zero]; rfl) (fun K hK => ?_)
                      go_simp
                      refine hK _ _ ⟨[v120, v121, v122, v123, v124, v125, v126, v127, v128, v129, v130, v131, .bool true, v133, v134, v135, v136, .string dir, v138, v139, v140, v141, v142, v143, v144, v145, v146, v147, v148, v149, v2], ?_, _, _, _, _, _, _, _, _, _, _, _, _, _, _, _, _, _, _, _, _, _, _, _, _, _, _, _, _, _, _, _, rfl, hb, k0, k1, k2, k3, k11, (fun _ => rfl), k13, k14, k15, k16, (fun _ => rfl), k18, k19, k20, k21, k22, k23, k24, k25, k26, k27, k28, k29, k30⟩
                      simp only [putAll, List.setIfInBounds_toArray, List.set_cons_succ, List.set_cons_zero]
                    · have e12 := k12 (hdep 12 (by kernel_rfl))
                      subst e12
                      have e16 := k16 (hdep 16 (by kernel_rfl))
                      subst e16
                      have e17 := k17 (hdep 17 (by kernel_rfl))
                      subst e17
                      refine wpOp_step (by simp only [List.getElem?_toArray, List.getElem?_cons_succ, List.getElem?_cons_zero]; rfl) (fun K hK => ?_)
                      go_simp
                      refine (treeList_spec _ _ _ q dir _ (Q11.keep hb) (by omega) (by omega)).mono ?_
                      rintro e w4 ⟨A4, n4, c4, rfl, hs4, hb4⟩
                      refine hK _ _ ⟨[v120, v121, v122, v123, v124, v125, v126, v127, v128, v129, v130, v131, .bool true, v133, v134, v135, .slice Aq nq cq, .string dir, .slice A4 n4 c4, v139, v140, v141, v142, v143, v144, v145, v146, v147, v148, v149, v2], ?_, _, _, _, _, _, _, _, _, _, _, _, _, _, _, _, _, _, _, _, _, _, _, _, _, _, _, _, _, _, _, _, rfl, (bthen hb hb4), k0, k1, k2, k3, k11, (fun _ => rfl), k13, k14, (fun h => by obtain ⟨A9, n9, c9, e9, hs9⟩ := k15 h; exact ⟨A9, n9, c9, e9, hs9.keep hb4⟩), (fun _ => rfl), (fun _ => rfl), (fun _ => ⟨A4, n4, c4, rfl, hs4.at_⟩), k19, k20, k21, k22, k23, k24, k25, k26, k27, k28, k29, k30⟩
                      simp only [putAll, List.setIfInBounds_toArray, List.set_cons_succ, List.set_cons_zero]
                    · have e12 := k12 (hdep 12 (by kernel_rfl))
                      subst e12
                      obtain ⟨A5, n5, c5, rfl, hs5⟩ := k15 (hdep 15 (by kernel_rfl))
                      obtain ⟨A8, n8, c8, rfl, hs8⟩ := k18 (hdep 18 (by kernel_rfl))
                      refine wpOp_step (by simp only [List.getElem?_toArray, List.getElem?_cons_succ, List.getElem?_cons_zero]; rfl) (fun K hK => ?_)
                      go_simp
                      refine (sameTexts_yes _ _ _ _ _ _ (treeList q dir) _ hs5 hs8 (strs_n hs5 hts)).mono ?_
                      rintro e w4 ⟨rfl, hb4⟩
                      refine hK _ _ ⟨[v120, v121, v122, v123, v124, v125, v126, v127, v128, v129, v130, v131, .bool true, v133, v134, .slice A5 n5 c5, v136, v137, .slice A8 n8 c8, .bool true, v140, v141, v142, v143, v144, v145, v146, v147, v148, v149, v2], ?_, _, _, _, _, _, _, _, _, _, _, _, _, _, _, _, _, _, _, _, _, _, _, _, _, _, _, _, _, _, _, _, rfl, (bthen hb hb4), k0, k1, k2, k3, k11, (fun _ => rfl), k13, k14, (fun _ => ⟨A5, n5, c5, rfl, hs5.keep hb4⟩), k16, k17, (fun _ => ⟨A8, n8, c8, rfl, hs8.keep hb4⟩), (fun _ => rfl), k20, k21, k22, k23, k24, k25, k26, k27, k28, k29, k30⟩
                      simp only [putAll, List.setIfInBounds_toArray, List.set_cons_succ, List.set_cons_zero]
                    · have e12 := k12 (hdep 12 (by kernel_rfl))
                      subst e12
                      have e19 := k19 (hdep 19 (by kernel_rfl))
                      subst e19
                      refine wpOp_step (by simp only [List.getElem?_toArray, List.getElem?_cons_succ, List.getElem?_cons_zero]; rfl) (fun K hK => ?_)
                      go_simp
                      refine hK _ _ ⟨[v120, v121, v122, v123, v124, v125, v126, v127, v128, v129, v130, v131, .bool true, v133, v134, v135, v136, v137, v138, .bool true, .bool true, v141, v142, v143, v144, v145, v146, v147, v148, v149, v2], ?_, _, _, _, _, _, _, _, _, _, _, _, _, _, _, _, _, _, _, _, _, _, _, _, _, _, _, _, _, _, _, _, rfl, hb, k0, k1, k2, k3, k11, (fun _ => rfl), k13, k14, k15, k16, k17, k18, (fun _ => rfl), (fun _ => rfl), k21, k22, k23, k24, k25, k26, k27, k28, k29, k30⟩
                      simp only [putAll, List.setIfInBounds_toArray, List.set_cons_succ, List.set_cons_zero]
                    · have e20 := k20 (hdep 20 (by kernel_rfl))
                      subst e20
                      refine wpOp_step (by simp only [List.getElem?_toArray, List.getElem?_cons_succ, List.getElem?_cons_zero]; rfl) (fun K hK => ?_)
                      go_simp
                      refine hK _ _ ⟨[v120, v121, v122, v123, v124, v125, v126, v127, v128, v129, v130, v131, v132, v133, v134, v135, v136, v137, v138, v139, .bool true, .bool true, v142, v143, v144, v145, v146, v147, v148, v149, v2], ?_, _, _, _, _, _, _, _, _, _, _, _, _, _, _, _, _, _, _, _, _, _, _, _, _, _, _, _, _, _, _, _, rfl, hb, k0, k1, k2, k3, k11, k12, k13, k14, k15, k16, k17, k18, k19, (fun _ => rfl), (fun _ => rfl), k22, k23, k24, k25, k26, k27, k28, k29, k30⟩
                      simp only [putAll, List.setIfInBounds_toArray, List.set_cons_succ, List.set_cons_zero]
                    · have e21 := k21 (hdep 21 (by kernel_rfl))
                      subst e21
                      refine wpOp_step (by simp only [List.getElem?_toArray, List.getElem?_cons_succ, List.getElem?_cons_zero]; rfl) (fun K hK => ?_)
                      go_simp
                      refine hK _ _ ⟨[v120, v121, v122, v123, v124, v125, v126, v127, v128, v129, v130, v131, v132, v133, v134, v135, v136, v137, v138, v139, v140, .bool true, .pointer (some ⟨gE, 0, none⟩), v143, v144, v145, v146, v147, v148, v149, v2], ?_, _, _, _, _, _, _, _, _, _, _, _, _, _, _, _, _, _, _, _, _, _, _, _, _, _, _, _, _, _, _, _, rfl, hb, k0, k1, k2, k3, k11, k12, k13, k14, k15, k16, k17, k18, k19, k20, (fun _ => rfl), (fun _ => rfl), k23, k24, k25, k26, k27, k28, k29, k30⟩
                      simp only [putAll, List.setIfInBounds_toArray, List.set_cons_succ, List.set_cons_zero]
                    · have e21 := k21 (hdep 21 (by kernel_rfl))
                      subst e21
                      have e22 := k22 (hdep 22 (by kernel_rfl))
                      subst e22
                      have fc := keep_cell hb f0
                      refine wpOp_step (by simp only [List.getElem?_toArray, List.getElem?_cons_succ, List.getElem?_cons_zero]; rfl) (fun K hK => ?_)
                      go_simp
                      refine hK _ _ ⟨[v120, v121, v122, v123, v124, v125, v126, v127, v128, v129, v130, v131, v132, v133, v134, v135, v136, v137, v138, v139, v140, .bool true, .pointer (some ⟨gE, 0, none⟩), .string p, v144, v145, v146, v147, v148, v149, v2], ?_, _, _, _, _, _, _, _, _, _, _, _, _, _, _, _, _, _, _, _, _, _, _, _, _, _, _, _, _, _, _, _, rfl, hb, k0, k1, k2, k3, k11, k12, k13, k14, k15, k16, k17, k18, k19, k20, (fun _ => rfl), (fun _ => rfl), (fun _ => rfl), k24, k25, k26, k27, k28, k29, k30⟩
                      simp only [putAll, List.setIfInBounds_toArray, List.set_cons_succ, List.set_cons_zero]
                    · have e21 := k21 (hdep 21 (by kernel_rfl))
                      subst e21
                      have e23 := k23 (hdep 23 (by kernel_rfl))
                      subst e23
                      refine wpOp_step (by simp only [List.getElem?_toArray, List.getElem?_cons_succ, List.getElem?_cons_zero]; rfl) (fun K hK => ?_)
                      go_simp
                      refine (pathOk_impl _ _ (by omega)).mono ?_
                      rintro e w4 ⟨rfl, hb4⟩
                      refine hK _ _ ⟨[v120, v121, v122, v123, v124, v125, v126, v127, v128, v129, v130, v131, v132, v133, v134, v135, v136, v137, v138, v139, v140, .bool true, v142, .string p, .bool (pathOkB p), v145, v146, v147, v148, v149, v2], ?_, _, _, _, _, _, _, _, _, _, _, _, _, _, _, _, _, _, _, _, _, _, _, _, _, _, _, _, _, _, _, _, rfl, (bthen hb hb4), k0, k1, k2, k3, k11, k12, k13, k14, (fun h => by obtain ⟨A9, n9, c9, e9, hs9⟩ := k15 h; exact ⟨A9, n9, c9, e9, hs9.keep hb4⟩), k16, k17, (fun h => by obtain ⟨A9, n9, c9, e9, hs9⟩ := k18 h; exact ⟨A9, n9, c9, e9, hs9.keep hb4⟩), k19, k20, (fun _ => rfl), k22, (fun _ => rfl), (fun _ => rfl), k25, k26, k27, k28, k29, k30⟩
                      simp only [putAll, List.setIfInBounds_toArray, List.set_cons_succ, List.set_cons_zero]
                    · have e21 := k21 (hdep 21 (by kernel_rfl))
                      subst e21
                      refine wpOp_step (by simp only [List.getElem?_toArray, List.getElem?_cons_succ, List.getElem?_cons_zero]; rfl) (fun K hK => ?_)
                      go_simp
                      refine hK _ _ ⟨[v120, v121, v122, v123, v124, v125, v126, v127, v128, v129, v130, v131, v132, v133, v134, v135, v136, v137, v138, v139, v140, .bool true, v142, v143, v144, .pointer (some ⟨gE, 0, none⟩), v146, v147, v148, v149, v2], ?_, _, _, _, _, _, _, _, _, _, _, _, _, _, _, _, _, _, _, _, _, _, _, _, _, _, _, _, _, _, _, _, rfl, hb, k0, k1, k2, k3, k11, k12, k13, k14, k15, k16, k17, k18, k19, k20, (fun _ => rfl), k22, k23, k24, (fun _ => rfl), k26, k27, k28, k29, k30⟩
                      simp only [putAll, List.setIfInBounds_toArray, List.set_cons_succ, List.set_cons_zero]
                    · have e21 := k21 (hdep 21 (by kernel_rfl))
                      subst e21
                      have e25 := k25 (hdep 25 (by kernel_rfl))
                      subst e25
                      have fc := keep_cell hb f0
                      refine wpOp_step (by simp only [List.getElem?_toArray, List.getElem?_cons_succ, List.getElem?_cons_zero]; rfl) (fun K hK => ?_)
                      go_simp
                      refine hK _ _ ⟨[v120, v121, v122, v123, v124, v125, v126, v127, v128, v129, v130, v131, v132, v133, v134, v135, v136, v137, v138, v139, v140, .bool true, v142, v143, v144, .pointer (some ⟨gE, 0, none⟩), .string p, v147, v148, v149, v2], ?_, _, _, _, _, _, _, _, _, _, _, _, _, _, _, _, _, _, _, _, _, _, _, _, _, _, _, _, _, _, _, _, rfl, hb, k0, k1, k2, k3, k11, k12, k13, k14, k15, k16, k17, k18, k19, k20, (fun _ => rfl), k22, k23, k24, (fun _ => rfl), (fun _ => rfl), k27, k28, k29, k30⟩
                      simp only [putAll, List.setIfInBounds_toArray, List.set_cons_succ, List.set_cons_zero]
                    · have e21 := k21 (hdep 21 (by kernel_rfl))
                      subst e21
                      have e26 := k26 (hdep 26 (by kernel_rfl))
                      subst e26
                      refine wpOp_step (by simp only [List.getElem?_toArray, List.getElem?_cons_succ, List.getElem?_cons_zero]; rfl) (fun K hK => ?_)
                      go_simp
                      refine (pathOk_spec _ _ (by omega)).mono ?_
                      rintro e w4 ⟨rfl, hb4⟩
                      refine hK _ _ ⟨[v120, v121, v122, v123, v124, v125, v126, v127, v128, v129, v130, v131, v132, v133, v134, v135, v136, v137, v138, v139, v140, .bool true, v142, v143, v144, v145, .string p, .bool (pathOkB p), v148, v149, v2], ?_, _, _, _, _, _, _, _, _, _, _, _, _, _, _, _, _, _, _, _, _, _, _, _, _, _, _, _, _, _, _, _, rfl, (bthen hb hb4), k0, k1, k2, k3, k11, k12, k13, k14, (fun h => by obtain ⟨A9, n9, c9, e9, hs9⟩ := k15 h; exact ⟨A9, n9, c9, e9, hs9.keep hb4⟩), k16, k17, (fun h => by obtain ⟨A9, n9, c9, e9, hs9⟩ := k18 h; exact ⟨A9, n9, c9, e9, hs9.keep hb4⟩), k19, k20, (fun _ => rfl), k22, k23, k24, k25, (fun _ => rfl), (fun _ => rfl), k28, k29, k30⟩
                      simp only [putAll, List.setIfInBounds_toArray, List.set_cons_succ, List.set_cons_zero]
                    · have e21 := k21 (hdep 21 (by kernel_rfl))
                      subst e21
                      have e24 := k24 (hdep 24 (by kernel_rfl))
                      subst e24
                      have e27 := k27 (hdep 27 (by kernel_rfl))
                      subst e27
                      refine wpOp_step (by simp only [List.getElem?_toArray, List.getElem?_cons_succ, List.getElem?_cons_zero]; rfl) (fun K hK => ?_)
                      go_simp
                      refine hK _ _ ⟨[v120, v121, v122, v123, v124, v125, v126, v127, v128, v129, v130, v131, v132, v133, v134, v135, v136, v137, v138, v139, v140, .bool true, v142, v143, .bool (pathOkB p), v145, v146, .bool (pathOkB p), .bool true, v149, v2], ?_, _, _, _, _, _, _, _, _, _, _, _, _, _, _, _, _, _, _, _, _, _, _, _, _, _, _, _, _, _, _, _, rfl, hb, k0, k1, k2, k3, k11, k12, k13, k14, k15, k16, k17, k18, k19, k20, (fun _ => rfl), k22, k23, (fun _ => rfl), k25, k26, (fun _ => rfl), (fun _ => by simp), k29, k30⟩
                      simp only [putAll, List.setIfInBounds_toArray, List.set_cons_succ, List.set_cons_zero]
                    · have e21 := k21 (hdep 21 (by kernel_rfl))
                      subst e21
                      have e28 := k28 (hdep 28 (by kernel_rfl))
                      subst e28
                      refine wpOp_step (by simp only [List.getElem?_toArray, List.getElem?_cons_succ, List.getElem?_cons_zero]; rfl) (fun K hK => ?_)
                      go_simp
                      refine hK _ _ ⟨[v120, v121, v122, v123, v124, v125, v126, v127, v128, v129, v130, v131, v132, v133, v134, v135, v136, v137, v138, v139, v140, .bool true, v142, v143, v144, v145, v146, v147, .bool true, .bool true, v2], ?_, _, _, _, _, _, _, _, _, _, _, _, _, _, _, _, _, _, _, _, _, _, _, _, _, _, _, _, _, _, _, _, rfl, hb, k0, k1, k2, k3, k11, k12, k13, k14, k15, k16, k17, k18, k19, k20, (fun _ => rfl), k22, k23, k24, k25, k26, k27, (fun _ => rfl), (fun _ => rfl), k30⟩
                      simp only [putAll, List.setIfInBounds_toArray, List.set_cons_succ, List.set_cons_zero]
                    · have e29 := k29 (hdep 29 (by kernel_rfl))
                      subst e29
                      refine wpOp_step (by simp only [List.getElem?_toArray, List.getElem?_cons_succ, List.getElem?_cons_zero]; rfl) (fun K hK => ?_)
                      go_simp
                      refine hK _ _ ⟨[v120, v121, v122, v123, v124, v125, v126, v127, v128, v129, v130, v131, v132, v133, v134, v135, v136, v137, v138, v139, v140, v141, v142, v143, v144, v145, v146, v147, v148, .bool true, .bool true], ?_, _, _, _, _, _, _, _, _, _, _, _, _, _, _, _, _, _, _, _, _, _, _, _, _, _, _, _, _, _, _, _, rfl, hb, k0, k1, k2, k3, k11, k12, k13, k14, k15, k16, k17, k18, k19, k20, k21, k22, k23, k24, k25, k26, k27, k28, (fun _ => rfl), (fun _ => rfl)⟩
                      simp only [putAll, List.setIfInBounds_toArray, List.set_cons_succ, List.set_cons_zero]
                  · intro D vs w' hD hI
                    obtain ⟨v120, v121, v122, v123, v124, v125, v126, v127, v128, v129, v130, v131, v132, v133, v134, v135, v136, v137, v138, v139, v140, v141, v142, v143, v144, v145, v146, v147, v148, v149, v2, rfl, hb, k0, k1, k2, k3, k11, k12, k13, k14, k15, k16, k17, k18, k19, k20, k21, k22, k23, k24, k25, k26, k27, k28, k29, k30⟩ := hI
                    simp only [putAll, List.setIfInBounds_toArray, List.set_cons_succ, List.set_cons_zero]
                    have e30 := k30 (hD 30 (show 30 < 31 by decide))
                    subst e30
                    go_wp2
                    go_returns
                    exact ⟨rfl, bthen hb11w hb⟩
                · refine wp_region_dagb [120, 121, 122, 123, 124, 125, 126, 127, 128, 129, 130, 131, 132, 133, 134, 135, 136, 137, 138, 139, 140, 141, 142, 143, 144, 145, 146, 147, 148, 149, 2] (by kernel_rfl) (by kernel_rfl) (fun D vs w' => ∃ v120 v121 v122 v123 v124 v125 v126 v127 v128 v129 v130 v131 v132 v133 v134 v135 v136 v137 v138 v139 v140 v141 v142 v143 v144 v145 v146 v147 v148 v149 v2 : Value, vs = [v120, v121, v122, v123, v124, v125, v126, v127, v128, v129, v130, v131, v132, v133, v134, v135, v136, v137, v138, v139, v140, v141, v142, v143, v144, v145, v146, v147, v148, v149, v2] ∧ Below w11.heap.size w11 w' ∧ (D 0 = true → v120 = .slice Am nm cm) ∧ (D 1 = true → v121 = .bool true) ∧ (D 2 = true → v122 = .bool false) ∧ (D 3 = true → v123 = .bool false) ∧ (D 4 = true → v124 = .slice Ay ny cy) ∧ (D 5 = true → v125 = .int .i64 (ny : Int)) ∧ (D 6 = true → v126 = .int .i64 dn) ∧ (D 7 = true → v127 = .int .i64 ((ny : Int) + dn)) ∧ (D 8 = true → v128 = .slice Am nm cm) ∧ (D 9 = true → v129 = .int .i64 (nm : Int)) ∧ (D 10 = true → v130 = .bool true) ∧ (D 11 = true → v131 = .bool true) ∧ (D 12 = true → v132 = .bool true) ∧ (D 13 = true → v133 = .slice Aq nq cq) ∧ (D 14 = true → v134 = .string dir) ∧ (D 15 = true → ∃ (A' : Option Addr) (n' c' : Nat), v135 = .slice A' n' c' ∧ StrsAt w' A' n' (treeList q dir)) ∧ (D 16 = true → v136 = .slice Aq nq cq) ∧ (D 17 = true → v137 = .string dir) ∧ (D 18 = true → ∃ (A' : Option Addr) (n' c' : Nat), v138 = .slice A' n' c' ∧ StrsAt w' A' n' (treeList q dir)) ∧ (D 19 = true → v139 = .bool true) ∧ (D 20 = true → v140 = .bool true) ∧ (D 21 = true → v141 = .bool true) ∧ (D 22 = true → v142 = .pointer (some ⟨gE, 0, none⟩)) ∧ (D 23 = true → v143 = .string p) ∧ (D 24 = true → v144 = .bool (pathOkB p)) ∧ (D 25 = true → v145 = .pointer (some ⟨gE, 0, none⟩)) ∧ (D 26 = true → v146 = .string p) ∧ (D 27 = true → v147 = .bool (pathOkB p)) ∧ (D 28 = true → v148 = .bool true) ∧ (D 29 = true → v149 = .bool true) ∧ (D 30 = true → v2 = .bool true))
                    ⟨_, _, _, _, _, _, _, _, _, _, _, _, _, _, _, _, _, _, _, _, _, _, _, _, _, _, _, _, _, _, _, rfl, (Below.refl _ _).drew, (fun h => by cases h), (fun h => by cases h), (fun h => by cases h), (fun h => by cases h), (fun h => by cases h), (fun h => by cases h), (fun h => by cases h), (fun h => by cases h), (fun h => by cases h), (fun h => by cases h), (fun h => by cases h), (fun h => by cases h), (fun h => by cases h), (fun h => by cases h), (fun h => by cases h), (fun h => by cases h), (fun h => by cases h), (fun h => by cases h), (fun h => by cases h), (fun h => by cases h), (fun h => by cases h), (fun h => by cases h), (fun h => by cases h), (fun h => by cases h), (fun h => by cases h), (fun h => by cases h), (fun h => by cases h), (fun h => by cases h), (fun h => by cases h), (fun h => by cases h), (fun h => by cases h)⟩ ?_ ?_
                  · intro i D vs w' hi hD hdep hcl hI
                    have hi' : i < 31 := hi
                    obtain ⟨v120, v121, v122, v123, v124, v125, v126, v127, v128, v129, v130, v131, v132, v133, v134, v135, v136, v137, v138, v139, v140, v141, v142, v143, v144, v145, v146, v147, v148, v149, v2, rfl, hb, k0, k1, k2, k3, k4, k5, k6, k7, k8, k9, k10, k11, k12, k13, k14, k15, k16, k17, k18, k19, k20, k21, k22, k23, k24, k25, k26, k27, k28, k29, k30⟩ := hI
                    simp only [putAll, List.setIfInBounds_toArray, List.set_cons_succ, List.set_cons_zero]
                    rcases (show i = 0 ∨ i = 1 ∨ i = 2 ∨ i = 3 ∨ i = 4 ∨ i = 5 ∨ i = 6 ∨ i = 7 ∨ i = 8 ∨ i = 9 ∨ i = 10 ∨ i = 11 ∨ i = 12 ∨ i = 13 ∨ i = 14 ∨ i = 15 ∨ i = 16 ∨ i = 17 ∨ i = 18 ∨ i = 19 ∨ i = 20 ∨ i = 21 ∨ i = 22 ∨ i = 23 ∨ i = 24 ∨ i = 25 ∨ i = 26 ∨ i = 27 ∨ i = 28 ∨ i = 29 ∨ i = 30 by omega) with rfl | rfl | rfl | rfl | rfl | rfl | rfl | rfl | rfl | rfl | rfl | rfl | rfl | rfl | rfl | rfl | rfl | rfl | rfl | rfl | rfl | rfl | rfl | rfl | rfl | rfl | rfl | rfl | rfl | rfl | rfl
                    · refine wpOp_step (by simp only [List.getElem?_toArray, List.getElem?_cons_zero]; rfl) (fun K hK => ?_)
                      go_simp
                      refine hK _ _ ⟨[.slice Am nm cm, v121, v122, v123, v124, v125, v126, v127, v128, v129, v130, v131, v132, v133, v134, v135, v136, v137, v138, v139, v140, v141, v142, v143, v144, v145, v146, v147, v148, v149, v2], ?_, _, _, _, _, _, _, _, _, _, _, _, _, _, _, _, _, _, _, _, _, _, _, _, _, _, _, _, _, _, _, _, rfl, hb, (fun _ => rfl), k1, k2, k3, k4, k5, k6, k7, k8, k9, k10, k11, k12, k13, k14, k15, k16, k17, k18, k19, k20, k21, k22, k23, k24, k25, k26, k27, k28, k29, k30⟩
                      simp only [putAll, List.setIfInBounds_toArray, List.set_cons_succ, List.set_cons_zero]
                    · have e0 := k0 (hdep 0 (by kernel_rfl))
                      subst e0
                      refine wpOp_step (by simp only [List.getElem?_toArray, List.getElem?_cons_succ, List.getElem?_cons_zero]; rfl) (fun K hK => ?_)
                      go_simp
                      refine (treeOk_spec _ _ _ m _ (M11.keep hb) (by omega)).mono ?_
                      rintro e w4 ⟨rfl, hb4⟩
                      rw [HOK.out]
                      refine hK _ _ ⟨[.slice Am nm cm, .bool true, v122, v123, v124, v125, v126, v127, v128, v129, v130, v131, v132, v133, v134, v135, v136, v137, v138, v139, v140, v141, v142, v143, v144, v145, v146, v147, v148, v149, v2], ?_, _, _, _, _, _, _, _, _, _, _, _, _, _, _, _, _, _, _, _, _, _, _, _, _, _, _, _, _, _, _, _, rfl, (bthen hb hb4), (fun _ => rfl), (fun _ => rfl), k2, k3, k4, k5, k6, k7, k8, k9, k10, k11, k12, k13, k14, (fun h => by obtain ⟨A9, n9, c9, e9, hs9⟩ := k15 h; exact ⟨A9, n9, c9, e9, hs9.keep hb4⟩), k16, k17, (fun h => by obtain ⟨A9, n9, c9, e9, hs9⟩ := k18 h; exact ⟨A9, n9, c9, e9, hs9.keep hb4⟩), k19, k20, k21, k22, k23, k24, k25, k26, k27, k28, k29, k30⟩
                      simp only [putAll, List.setIfInBounds_toArray, List.set_cons_succ, List.set_cons_zero]
                    · have e1 := k1 (hdep 1 (by kernel_rfl))
                      subst e1
                      refine wpOp_step (by simp only [List.getElem?_toArray, List.getElem?_cons_succ, List.getElem?_cons_zero]; rfl) (fun K hK => ?_)
                      go_simp
                      refine hK _ _ ⟨[v120, .bool true, .bool false, v123, v124, v125, v126, v127, v128, v129, v130, v131, v132, v133, v134, v135, v136, v137, v138, v139, v140, v141, v142, v143, v144, v145, v146, v147, v148, v149, v2], ?_, _, _, _, _, _, _, _, _, _, _, _, _, _, _, _, _, _, _, _, _, _, _, _, _, _, _, _, _, _, _, _, rfl, hb, k0, (fun _ => rfl), (fun _ => rfl), k3, k4, k5, k6, k7, k8, k9, k10, k11, k12, k13, k14, k15, k16, k17, k18, k19, k20, k21, k22, k23, k24, k25, k26, k27, k28, k29, k30⟩
                      simp only [putAll, List.setIfInBounds_toArray, List.set_cons_succ, List.set_cons_zero]
                    · have e2 := k2 (hdep 2 (by kernel_rfl))
                      subst e2
                      refine wpOp_step (by simp only [List.getElem?_toArray, List.getElem?_cons_succ, List.getElem?_cons_zero]; rfl) (fun K hK => ?_)
                      go_simp
                      refine hK _ _ ⟨[v120, v121, .bool false, .bool false, v124, v125, v126, v127, v128, v129, v130, v131, v132, v133, v134, v135, v136, v137, v138, v139, v140, v141, v142, v143, v144, v145, v146, v147, v148, v149, v2], ?_, _, _, _, _, _, _, _, _, _, _, _, _, _, _, _, _, _, _, _, _, _, _, _, _, _, _, _, _, _, _, _, rfl, hb, k0, k1, (fun _ => rfl), (fun _ => rfl), k4, k5, k6, k7, k8, k9, k10, k11, k12, k13, k14, k15, k16, k17, k18, k19, k20, k21, k22, k23, k24, k25, k26, k27, k28, k29, k30⟩
                      simp only [putAll, List.setIfInBounds_toArray, List.set_cons_succ, List.set_cons_zero]
                    · have e3 := k3 (hdep 3 (by kernel_rfl))
                      subst e3
                      refine wpOp_step (by simp only [List.getElem?_toArray, List.getElem?_cons_succ, List.getElem?_cons_zero]; rfl) (fun K hK => ?_)
                      go_simp
                      refine hK _ _ ⟨[v120, v121, v122, .bool false, .slice Ay ny cy, v125, v126, v127, v128, v129, v130, v131, v132, v133, v134, v135, v136, v137, v138, v139, v140, v141, v142, v143, v144, v145, v146, v147, v148, v149, v2], ?_, _, _, _, _, _, _, _, _, _, _, _, _, _, _, _, _, _, _, _, _, _, _, _, _, _, _, _, _, _, _, _, rfl, hb, k0, k1, k2, (fun _ => rfl), (fun _ => rfl), k5, k6, k7, k8, k9, k10, k11, k12, k13, k14, k15, k16, k17, k18, k19, k20, k21, k22, k23, k24, k25, k26, k27, k28, k29, k30⟩
                      simp only [putAll, List.setIfInBounds_toArray, List.set_cons_succ, List.set_cons_zero]
                    · have e3 := k3 (hdep 3 (by kernel_rfl))
                      subst e3
                      have e4 := k4 (hdep 4 (by kernel_rfl))
                      subst e4
                      refine wpOp_step (by simp only [List.getElem?_toArray, List.getElem?_cons_succ, List.getElem?_cons_zero]; rfl) (fun K hK => ?_)
                      go_simp
                      refine hK _ _ ⟨[v120, v121, v122, .bool false, .slice Ay ny cy, .int .i64 (ny : Int), v126, v127, v128, v129, v130, v131, v132, v133, v134, v135, v136, v137, v138, v139, v140, v141, v142, v143, v144, v145, v146, v147, v148, v149, v2], ?_, _, _, _, _, _, _, _, _, _, _, _, _, _, _, _, _, _, _, _, _, _, _, _, _, _, _, _, _, _, _, _, rfl, hb, k0, k1, k2, (fun _ => rfl), (fun _ => rfl), (fun _ => rfl), k6, k7, k8, k9, k10, k11, k12, k13, k14, k15, k16, k17, k18, k19, k20, k21, k22, k23, k24, k25, k26, k27, k28, k29, k30⟩
                      simp only [putAll, List.setIfInBounds_toArray, List.set_cons_succ, List.set_cons_zero]
                    · have e3 := k3 (hdep 3 (by kernel_rfl))
                      subst e3
                      refine wpOp_step (by simp only [List.getElem?_toArray, List.getElem?_cons_succ, List.getElem?_cons_zero]; rfl) (fun K hK => ?_)
                      go_simp
                      refine hK _ _ ⟨[v120, v121, v122, .bool false, v124, v125, .int .i64 dn, v127, v128, v129, v130, v131, v132, v133, v134, v135, v136, v137, v138, v139, v140, v141, v142, v143, v144, v145, v146, v147, v148, v149, v2], ?_, _, _, _, _, _, _, _, _, _, _, _, _, _, _, _, _, _, _, _, _, _, _, _, _, _, _, _, _, _, _, _, rfl, hb, k0, k1, k2, (fun _ => rfl), k4, k5, (fun _ => rfl), k7, k8, k9, k10, k11, k12, k13, k14, k15, k16, k17, k18, k19, k20, k21, k22, k23, k24, k25, k26, k27, k28, k29, k30⟩
                      simp only [putAll, List.setIfInBounds_toArray, List.set_cons_succ, List.set_cons_zero]
                    · have e3 := k3 (hdep 3 (by kernel_rfl))
                      subst e3
                      have e5 := k5 (hdep 5 (by kernel_rfl))
                      subst e5
                      have e6 := k6 (hdep 6 (by kernel_rfl))
                      subst e6
                      have hw : IntKind.i64.wrap ((ny : Int) + dn) = ny + dn := by rw [IntKind.wrap_i64]; omega
                      refine wpOp_step (by simp only [List.getElem?_toArray, List.getElem?_cons_succ, List.getElem?_cons_zero]; rfl) (fun K hK => ?_)
                      go_simp
                      refine hK _ _ ⟨[v120, v121, v122, .bool false, v124, .int .i64 (ny : Int), .int .i64 dn, .int .i64 ((ny : Int) + dn), v128, v129, v130, v131, v132, v133, v134, v135, v136, v137, v138, v139, v140, v141, v142, v143, v144, v145, v146, v147, v148, v149, v2], ?_, _, _, _, _, _, _, _, _, _, _, _, _, _, _, _, _, _, _, _, _, _, _, _, _, _, _, _, _, _, _, _, rfl, hb, k0, k1, k2, (fun _ => rfl), k4, (fun _ => rfl), (fun _ => rfl), (fun _ => rfl), k8, k9, k10, k11, k12, k13, k14, k15, k16, k17, k18, k19, k20, k21, k22, k23, k24, k25, k26, k27, k28, k29, k30⟩
                      simp only [putAll, List.setIfInBounds_toArray, List.set_cons_succ, List.set_cons_zero]
                    · have e3 := k3 (hdep 3 (by kernel_rfl))
                      subst e3
                      refine wpOp_step (by simp only [List.getElem?_toArray, List.getElem?_cons_succ, List.getElem?_cons_zero]; rfl) (fun K hK => ?_)
                      go_simp
                      refine hK _ _ ⟨[v120, v121, v122, .bool false, v124, v125, v126, v127, .slice Am nm cm, v129, v130, v131, v132, v133, v134, v135, v136, v137, v138, v139, v140, v141, v142, v143, v144, v145, v146, v147, v148, v149, v2], ?_, _, _, _, _, _, _, _, _, _, _, _, _, _, _, _, _, _, _, _, _, _, _, _, _, _, _, _, _, _, _, _, rfl, hb, k0, k1, k2, (fun _ => rfl), k4, k5, k6, k7, (fun _ => rfl), k9, k10, k11, k12, k13, k14, k15, k16, k17, k18, k19, k20, k21, k22, k23, k24, k25, k26, k27, k28, k29, k30⟩
                      simp only [putAll, List.setIfInBounds_toArray, List.set_cons_succ, List.set_cons_zero]
                    · have e3 := k3 (hdep 3 (by kernel_rfl))
                      subst e3
                      have e8 := k8 (hdep 8 (by kernel_rfl))
                      subst e8
                      refine wpOp_step (by simp only [List.getElem?_toArray, List.getElem?_cons_succ, List.getElem?_cons_zero]; rfl) (fun K hK => ?_)
                      go_simp
                      refine hK _ _ ⟨[v120, v121, v122, .bool false, v124, v125, v126, v127, .slice Am nm cm, .int .i64 (nm : Int), v130, v131, v132, v133, v134, v135, v136, v137, v138, v139, v140, v141, v142, v143, v144, v145, v146, v147, v148, v149, v2], ?_, _, _, _, _, _, _, _, _, _, _, _, _, _, _, _, _, _, _, _, _, _, _, _, _, _, _, _, _, _, _, _, rfl, hb, k0, k1, k2, (fun _ => rfl), k4, k5, k6, k7, (fun _ => rfl), (fun _ => rfl), k10, k11, k12, k13, k14, k15, k16, k17, k18, k19, k20, k21, k22, k23, k24, k25, k26, k27, k28, k29, k30⟩
                      simp only [putAll, List.setIfInBounds_toArray, List.set_cons_succ, List.set_cons_zero]
                    · have e3 := k3 (hdep 3 (by kernel_rfl))
                      subst e3
                      have e7 := k7 (hdep 7 (by kernel_rfl))
                      subst e7
                      have e9 := k9 (hdep 9 (by kernel_rfl))
                      subst e9
                      have hdd := HD.out HOK.out
                      refine wpOp_step (by simp only [List.getElem?_toArray, List.getElem?_cons_succ, List.getElem?_cons_zero]; rfl) (fun K hK => ?_)
                      go_simp
                      refine hK _ _ ⟨[v120, v121, v122, .bool false, v124, v125, v126, .int .i64 ((ny : Int) + dn), v128, .int .i64 (nm : Int), .bool true, v131, v132, v133, v134, v135, v136, v137, v138, v139, v140, v141, v142, v143, v144, v145, v146, v147, v148, v149, v2], ?_, _, _, _, _, _, _, _, _, _, _, _, _, _, _, _, _, _, _, _, _, _, _, _, _, _, _, _, _, _, _, _, rfl, hb, k0, k1, k2, (fun _ => rfl), k4, k5, k6, (fun _ => rfl), k8, (fun _ => rfl), (fun _ => rfl), k11, k12, k13, k14, k15, k16, k17, k18, k19, k20, k21, k22, k23, k24, k25, k26, k27, k28, k29, k30⟩
                      simp only [putAll, List.setIfInBounds_toArray, List.set_cons_succ, List.set_cons_zero]
                    · have e3 := k3 (hdep 3 (by kernel_rfl))
                      subst e3
                      have e10 := k10 (hdep 10 (by kernel_rfl))
                      subst e10
                      refine wpOp_step (by simp only [List.getElem?_toArray, List.getElem?_cons_succ, List.getElem?_cons_zero]; rfl) (fun K hK => ?_)
                      go_simp
                      refine hK _ _ ⟨[v120, v121, v122, .bool false, v124, v125, v126, v127, v128, v129, .bool true, .bool true, v132, v133, v134, v135, v136, v137, v138, v139, v140, v141, v142, v143, v144, v145, v146, v147, v148, v149, v2], ?_, _, _, _, _, _, _, _, _, _, _, _, _, _, _, _, _, _, _, _, _, _, _, _, _, _, _, _, _, _, _, _, rfl, hb, k0, k1, k2, (fun _ => rfl), k4, k5, k6, k7, k8, k9, (fun _ => rfl), (fun _ => rfl), k12, k13, k14, k15, k16, k17, k18, k19, k20, k21, k22, k23, k24, k25, k26, k27, k28, k29, k30⟩
                      simp only [putAll, List.setIfInBounds_toArray, List.set_cons_succ, List.set_cons_zero]
                    · have e11 := k11 (hdep 11 (by kernel_rfl))
                      subst e11
                      refine wpOp_step (by simp only [List.getElem?_toArray, List.getElem?_cons_succ, List.getElem?_cons_zero]; rfl) (fun K hK => ?_)
                      go_simp
                      refine hK _ _ ⟨[v120, v121, v122, v123, v124, v125, v126, v127, v128, v129, v130, .bool true, .bool true, v133, v134, v135, v136, v137, v138, v139, v140, v141, v142, v143, v144, v145, v146, v147, v148, v149, v2], ?_, _, _, _, _, _, _, _, _, _, _, _, _, _, _, _, _, _, _, _, _, _, _, _, _, _, _, _, _, _, _, _, rfl, hb, k0, k1, k2, k3, k4, k5, k6, k7, k8, k9, k10, (fun _ => rfl), (fun _ => rfl), k13, k14, k15, k16, k17, k18, k19, k20, k21, k22, k23, k24, k25, k26, k27, k28, k29, k30⟩
                      simp only [putAll, List.setIfInBounds_toArray, List.set_cons_succ, List.set_cons_zero]
                    · have e12 := k12 (hdep 12 (by kernel_rfl))
                      subst e12
                      refine wpOp_step (by simp only [List.getElem?_toArray, List.getElem?_cons_succ, List.getElem?_cons_zero]; rfl) (fun K hK => ?_)
                      go_simp
                      refine hK _ _ ⟨[v120, v121, v122, v123, v124, v125, v126, v127, v128, v129, v130, v131, .bool true, .slice Aq nq cq, v134, v135, v136, v137, v138, v139, v140, v141, v142, v143, v144, v145, v146, v147, v148, v149, v2], ?_, _, _, _, _, _, _, _, _, _, _, _, _, _, _, _, _, _, _, _, _, _, _, _, _, _, _, _, _, _, _, _, rfl, hb, k0, k1, k2, k3, k4, k5, k6, k7, k8, k9, k10, k11, (fun _ => rfl), (fun _ => rfl), k14, k15, k16, k17, k18, k19, k20, k21, k22, k23, k24, k25, k26, k27, k28, k29, k30⟩
                      simp only [putAll, List.setIfInBounds_toArray, List.set_cons_succ, List.set_cons_zero]
                    · have e12 := k12 (hdep 12 (by kernel_rfl))
                      subst e12
                      refine wpOp_step (by simp only [List.getElem?_toArray, List.getElem?_cons_succ, List.getElem?_cons_zero]; rfl) (fun K hK => ?_)
                      go_simp
                      refine hK _ _ ⟨[v120, v121, v122, v123, v124, v125, v126, v127, v128, v129, v130, v131, .bool true, v133, .string dir, v135, v136, v137, v138, v139, v140, v141, v142, v143, v144, v145, v146, v147, v148, v149, v2], ?_, _, _, _, _, _, _, _, _, _, _, _, _, _, _, _, _, _, _, _, _, _, _, _, _, _, _, _, _, _, _, _, rfl, hb, k0, k1, k2, k3, k4, k5, k6, k7, k8, k9, k10, k11, (fun _ => rfl), k13, (fun _ => rfl), k15, k16, k17, k18, k19, k20, k21, k22, k23, k24, k25, k26, k27, k28, k29, k30⟩
                      simp only [putAll, List.setIfInBounds_toArray, List.set_cons_succ, List.set_cons_zero]
                    · have e12 := k12 (hdep 12 (by kernel_rfl))
                      subst e12
                      have e13 := k13 (hdep 13 (by kernel_rfl))
                      subst e13
                      have e14 := k14 (hdep 14 (by kernel_rfl))
                      subst e14
                      refine wpOp_step (by simp only [List.getElem?_toArray, List.getElem?_cons_succ, List.getElem?_cons_zero]; rfl) (fun K hK => ?_)
                      go_simp
                      refine (treeList_impl _ _ _ q dir _ (Q11.keep hb) (by omega) (by omega)).mono ?_
                      rintro e w4 ⟨A4, n4, c4, rfl, hs4, hb4⟩
                      refine hK _ _ ⟨[v120, v121, v122, v123, v124, v125, v126, v127, v128, v129, v130, v131, .bool true, .slice Aq nq cq, .string dir, .slice A4 n4 c4, v136, v137, v138, v139, v140, v141, v142, v143, v144, v145, v146, v147, v148, v149, v2], ?_, _, _, _, _, _, _, _, _, _, _, _, _, _, _, _, _, _, _, _, _, _, _, _, _, _, _, _, _, _, _, _, rfl, (bthen hb hb4), k0, k1, k2, k3, k4, k5, k6, k7, k8, k9, k10, k11, (fun _ => rfl), (fun _ => rfl), (fun _ => rfl), (fun _ => ⟨A4, n4, c4, rfl, hs4.at_⟩), k16, k17, (fun h => by obtain ⟨A9, n9, c9, e9, hs9⟩ := k18 h; exact ⟨A9, n9, c9, e9, hs9.keep hb4⟩), k19, k20, k21, k22, k23, k24, k25, k26, k27, k28, k29, k30⟩
                      simp only [putAll, List.setIfInBounds_toArray, List.set_cons_succ, List.set_cons_zero]
                    · have e12 := k12 (hdep 12 (by kernel_rfl))
                      subst e12
                      refine wpOp_step (by simp only [List.getElem?_toArray, List.getElem?_cons_succ, List.getElem?_cons_zero]; rfl) (fun K hK => ?_)
                      go_simp
                      refine hK _ _ ⟨[v120, v121, v122, v123, v124, v125, v126, v127, v128, v129, v130, v131, .bool true, v133, v134, v135, .slice Aq nq cq, v137, v138, v139, v140, v141, v142, v143, v144, v145, v146, v147, v148, v149, v2], ?_, _, _, _, _, _, _, _, _, _, _, _, _, _, _, _, _, _, _, _, _, _, _, _, _, _, _, _, _, _, _, _, rfl, hb, k0, k1, k2, k3, k4, k5, k6, k7, k8, k9, k10, k11, (fun _ => rfl), k13, k14, k15, (fun _ => rfl), k17, k18, k19, k20, k21, k22, k23, k24, k25, k26, k27, k28, k29, k30⟩
                      simp only [putAll, List.setIfInBounds_toArray, List.set_cons_succ, List.set_cons_zero]
                    · have e12 := k12 (hdep 12 (by kernel_rfl))
                      subst e12
                      refine wpOp_step (by simp only [List.getElem?_toArray, List.getElem?_cons_succ, List.getElem?_cons_zero]; rfl) (fun K hK => ?_)
                      go_simp
                      refine hK _ _ ⟨[v120, v121, v122, v123, v124, v125, v126, v127, v128, v129, v130, v131, .bool true, v133, v134, v135, v136, .string dir, v138, v139, v140, v141, v142, v143, v144, v145, v146, v147, v148, v149, v2], ?_, _, _, _, _, _, _, _, _, _, _, _, _, _, _, _, _, _, _, _, _, _, _, _, _, _, _, _, _, _, _, _, rfl, hb, k0, k1, k2, k3, k4, k5, k6, k7, k8, k9, k10, k11, (fun _ => rfl), k13, k14, k15, k16, (fun _ => rfl), k18, k19, k20, k21, k22, k23, k24, k25, k26, k27, k28, k29, k30⟩
                      simp only [putAll, List.setIfInBounds_toArray, List.set_cons_succ, List.set_cons_zero]
                    · have e12 := k12 (hdep 12 (by kernel_rfl))
                      subst e12
                      have e16 := k16 (hdep 16 (by kernel_rfl))
                      subst e16
                      have e17 := k17 (hdep 17 (by kernel_rfl))
                      subst e17
                      refine wpOp_step (by simp only [List.getElem?_toArray, List.getElem?_cons_succ, List.getElem?_cons_zero]; rfl) (fun K hK => ?_)
                      go_simp
                      refine (treeList_spec _ _ _ q dir _ (Q11.keep hb) (by omega) (by omega)).mono ?_
                      rintro e w4 ⟨A4, n4, c4, rfl, hs4, hb4⟩
                      refine hK _ _ ⟨[v120, v121, v122, v123, v124, v125, v126, v127, v128, v129, v130, v131, .bool true, v133, v134, v135, .slice Aq nq cq, .string dir, .slice A4 n4 c4, v139, v140, v141, v142, v143, v144, v145, v146, v147, v148, v149, v2], ?_, _, _, _, _, _, _, _, _, _, _, _, _, _, _, _, _, _, _, _, _, _, _, _, _, _, _, _, _, _, _, _, rfl, (bthen hb hb4), k0, k1, k2, k3, k4, k5, k6, k7, k8, k9, k10, k11, (fun _ => rfl), k13, k14, (fun h => by obtain ⟨A9, n9, c9, e9, hs9⟩ := k15 h; exact ⟨A9, n9, c9, e9, hs9.keep hb4⟩), (fun _ => rfl), (fun _ => rfl), (fun _ => ⟨A4, n4, c4, rfl, hs4.at_⟩), k19, k20, k21, k22, k23, k24, k25, k26, k27, k28, k29, k30⟩
                      simp only [putAll, List.setIfInBounds_toArray, List.set_cons_succ, List.set_cons_zero]
                    · have e12 := k12 (hdep 12 (by kernel_rfl))
                      subst e12
                      obtain ⟨A5, n5, c5, rfl, hs5⟩ := k15 (hdep 15 (by kernel_rfl))
                      obtain ⟨A8, n8, c8, rfl, hs8⟩ := k18 (hdep 18 (by kernel_rfl))
                      refine wpOp_step (by simp only [List.getElem?_toArray, List.getElem?_cons_succ, List.getElem?_cons_zero]; rfl) (fun K hK => ?_)
                      go_simp
                      refine (sameTexts_yes _ _ _ _ _ _ (treeList q dir) _ hs5 hs8 (strs_n hs5 hts)).mono ?_
                      rintro e w4 ⟨rfl, hb4⟩
                      refine hK _ _ ⟨[v120, v121, v122, v123, v124, v125, v126, v127, v128, v129, v130, v131, .bool true, v133, v134, .slice A5 n5 c5, v136, v137, .slice A8 n8 c8, .bool true, v140, v141, v142, v143, v144, v145, v146, v147, v148, v149, v2], ?_, _, _, _, _, _, _, _, _, _, _, _, _, _, _, _, _, _, _, _, _, _, _, _, _, _, _, _, _, _, _, _, rfl, (bthen hb hb4), k0, k1, k2, k3, k4, k5, k6, k7, k8, k9, k10, k11, (fun _ => rfl), k13, k14, (fun _ => ⟨A5, n5, c5, rfl, hs5.keep hb4⟩), k16, k17, (fun _ => ⟨A8, n8, c8, rfl, hs8.keep hb4⟩), (fun _ => rfl), k20, k21, k22, k23, k24, k25, k26, k27, k28, k29, k30⟩
                      simp only [putAll, List.setIfInBounds_toArray, List.set_cons_succ, List.set_cons_zero]
                    · have e12 := k12 (hdep 12 (by kernel_rfl))
                      subst e12
                      have e19 := k19 (hdep 19 (by kernel_rfl))
                      subst e19
                      refine wpOp_step (by simp only [List.getElem?_toArray, List.getElem?_cons_succ, List.getElem?_cons_zero]; rfl) (fun K hK => ?_)
                      go_simp
                      refine hK _ _ ⟨[v120, v121, v122, v123, v124, v125, v126, v127, v128, v129, v130, v131, .bool true, v133, v134, v135, v136, v137, v138, .bool true, .bool true, v141, v142, v143, v144, v145, v146, v147, v148, v149, v2], ?_, _, _, _, _, _, _, _, _, _, _, _, _, _, _, _, _, _, _, _, _, _, _, _, _, _, _, _, _, _, _, _, rfl, hb, k0, k1, k2, k3, k4, k5, k6, k7, k8, k9, k10, k11, (fun _ => rfl), k13, k14, k15, k16, k17, k18, (fun _ => rfl), (fun _ => rfl), k21, k22, k23, k24, k25, k26, k27, k28, k29, k30⟩
                      simp only [putAll, List.setIfInBounds_toArray, List.set_cons_succ, List.set_cons_zero]
                    · have e20 := k20 (hdep 20 (by kernel_rfl))
                      subst e20
                      refine wpOp_step (by simp only [List.getElem?_toArray, List.getElem?_cons_succ, List.getElem?_cons_zero]; rfl) (fun K hK => ?_)
                      go_simp
                      refine hK _ _ ⟨[v120, v121, v122, v123, v124, v125, v126, v127, v128, v129, v130, v131, v132, v133, v134, v135, v136, v137, v138, v139, .bool true, .bool true, v142, v143, v144, v145, v146, v147, v148, v149, v2], ?_, _, _, _, _, _, _, _, _, _, _, _, _, _, _, _, _, _, _, _, _, _, _, _, _, _, _, _, _, _, _, _, rfl, hb, k0, k1, k2, k3, k4, k5, k6, k7, k8, k9, k10, k11, k12, k13, k14, k15, k16, k17, k18, k19, (fun _ => rfl), (fun _ => rfl), k22, k23, k24, k25, k26, k27, k28, k29, k30⟩
                      simp only [putAll, List.setIfInBounds_toArray, List.set_cons_succ, List.set_cons_zero]
                    · have e21 := k21 (hdep 21 (by kernel_rfl))
                      subst e21
                      refine wpOp_step (by simp only [List.getElem?_toArray, List.getElem?_cons_succ, List.getElem?_cons_zero]; rfl) (fun K hK => ?_)
                      go_simp
                      refine hK _ _ ⟨[v120, v121, v122, v123, v124, v125, v126, v127, v128, v129, v130, v131, v132, v133, v134, v135, v136, v137, v138, v139, v140, .bool true, .pointer (some ⟨gE, 0, none⟩), v143, v144, v145, v146, v147, v148, v149, v2], ?_, _, _, _, _, _, _, _, _, _, _, _, _, _, _, _, _, _, _, _, _, _, _, _, _, _, _, _, _, _, _, _, rfl, hb, k0, k1, k2, k3, k4, k5, k6, k7, k8, k9, k10, k11, k12, k13, k14, k15, k16, k17, k18, k19, k20, (fun _ => rfl), (fun _ => rfl), k23, k24, k25, k26, k27, k28, k29, k30⟩
                      simp only [putAll, List.setIfInBounds_toArray, List.set_cons_succ, List.set_cons_zero]
                    · have e21 := k21 (hdep 21 (by kernel_rfl))
                      subst e21
                      have e22 := k22 (hdep 22 (by kernel_rfl))
                      subst e22
                      have fc := keep_cell hb f0
                      refine wpOp_step (by simp only [List.getElem?_toArray, List.getElem?_cons_succ, List.getElem?_cons_zero]; rfl) (fun K hK => ?_)
                      go_simp
                      refine hK _ _ ⟨[v120, v121, v122, v123, v124, v125, v126, v127, v128, v129, v130, v131, v132, v133, v134, v135, v136, v137, v138, v139, v140, .bool true, .pointer (some ⟨gE, 0, none⟩), .string p, v144, v145, v146, v147, v148, v149, v2], ?_, _, _, _, _, _, _, _, _, _, _, _, _, _, _, _, _, _, _, _, _, _, _, _, _, _, _, _, _, _, _, _, rfl, hb, k0, k1, k2, k3, k4, k5, k6, k7, k8, k9, k10, k11, k12, k13, k14, k15, k16, k17, k18, k19, k20, (fun _ => rfl), (fun _ => rfl), (fun _ => rfl), k24, k25, k26, k27, k28, k29, k30⟩
                      simp only [putAll, List.setIfInBounds_toArray, List.set_cons_succ, List.set_cons_zero]
                    · have e21 := k21 (hdep 21 (by kernel_rfl))
                      subst e21
                      have e23 := k23 (hdep 23 (by kernel_rfl))
                      subst e23
                      refine wpOp_step (by simp only [List.getElem?_toArray, List.getElem?_cons_succ, List.getElem?_cons_zero]; rfl) (fun K hK => ?_)
                      go_simp
                      refine (pathOk_impl _ _ (by omega)).mono ?_
                      rintro e w4 ⟨rfl, hb4⟩
                      refine hK _ _ ⟨[v120, v121, v122, v123, v124, v125, v126, v127, v128, v129, v130, v131, v132, v133, v134, v135, v136, v137, v138, v139, v140, .bool true, v142, .string p, .bool (pathOkB p), v145, v146, v147, v148, v149, v2], ?_, _, _, _, _, _, _, _, _, _, _, _, _, _, _, _, _, _, _, _, _, _, _, _, _, _, _, _, _, _, _, _, rfl, (bthen hb hb4), k0, k1, k2, k3, k4, k5, k6, k7, k8, k9, k10, k11, k12, k13, k14, (fun h => by obtain ⟨A9, n9, c9, e9, hs9⟩ := k15 h; exact ⟨A9, n9, c9, e9, hs9.keep hb4⟩), k16, k17, (fun h => by obtain ⟨A9, n9, c9, e9, hs9⟩ := k18 h; exact ⟨A9, n9, c9, e9, hs9.keep hb4⟩), k19, k20, (fun _ => rfl), k22, (fun _ => rfl), (fun _ => rfl), k25, k26, k27, k28, k29, k30⟩
                      simp only [putAll, List.setIfInBounds_toArray, List.set_cons_succ, List.set_cons_zero]
                    · have e21 := k21 (hdep 21 (by kernel_rfl))
                      subst e21
                      refine wpOp_step (by simp only [List.getElem?_toArray, List.getElem?_cons_succ, List.getElem?_cons_zero]; rfl) (fun K hK => ?_)
                      go_simp
                      refine hK _ _ ⟨[v120, v121, v122, v123, v124, v125, v126, v127, v128, v129, v130, v131, v132, v133, v134, v135, v136, v137, v138, v139, v140, .bool true, v142, v143, v144, .pointer (some ⟨gE, 0, none⟩), v146, v147, v148, v149, v2], ?_, _, _, _, _, _, _, _, _, _, _, _, _, _, _, _, _, _, _, _, _, _, _, _, _, _, _, _, _, _, _, _, rfl, hb, k0, k1, k2, k3, k4, k5, k6, k7, k8, k9, k10, k11, k12, k13, k14, k15, k16, k17, k18, k19, k20, (fun _ => rfl), k22, k23, k24, (fun _ => rfl), k26, k27, k28, k29, k30⟩
                      simp only [putAll, List.setIfInBounds_toArray, List.set_cons_succ, List.set_cons_zero]
                    · have e21 := k21 (hdep 21 (by kernel_rfl))
                      subst e21
                      have e25 := k25 (hdep 25 (by kernel_rfl))
                      subst e25
                      have fc := keep_cell hb f0
                      refine wpOp_step (by simp only [List.getElem?_toArray, List.getElem?_cons_succ, List.getElem?_cons_zero]; rfl) (fun K hK => ?_)
                      go_simp
                      refine hK _ _ ⟨[v120, v121, v122, v123, v124, v125, v126, v127, v128, v129, v130, v131, v132, v133, v134, v135, v136, v137, v138, v139, v140, .bool true, v142, v143, v144, .pointer (some ⟨gE, 0, none⟩), .string p, v147, v148, v149, v2], ?_, _, _, _, _, _, _, _, _, _, _, _, _, _, _, _, _, _, _, _, _, _, _, _, _, _, _, _, _, _, _, _, rfl, hb, k0, k1, k2, k3, k4, k5, k6, k7, k8, k9, k10, k11, k12, k13, k14, k15, k16, k17, k18, k19, k20, (fun _ => rfl), k22, k23, k24, (fun _ => rfl), (fun _ => rfl), k27, k28, k29, k30⟩
                      simp only [putAll, List.setIfInBounds_toArray, List.set_cons_succ, List.set_cons_zero]
                    · have e21 := k21 (hdep 21 (by kernel_rfl))
                      subst e21
                      have e26 := k26 (hdep 26 (by kernel_rfl))
                      subst e26
                      refine wpOp_step (by simp only [List.getElem?_toArray, List.getElem?_cons_succ, List.getElem?_cons_zero]; rfl) (fun K hK => ?_)
                      go_simp
                      refine (pathOk_spec _ _ (by omega)).mono ?_
                      rintro e w4 ⟨rfl, hb4⟩
                      refine hK _ _ ⟨[v120, v121, v122, v123, v124, v125, v126, v127, v128, v129, v130, v131, v132, v133, v134, v135, v136, v137, v138, v139, v140, .bool true, v142, v143, v144, v145, .string p, .bool (pathOkB p), v148, v149, v2], ?_, _, _, _, _, _, _, _, _, _, _, _, _, _, _, _, _, _, _, _, _, _, _, _, _, _, _, _, _, _, _, _, rfl, (bthen hb hb4), k0, k1, k2, k3, k4, k5, k6, k7, k8, k9, k10, k11, k12, k13, k14, (fun h => by obtain ⟨A9, n9, c9, e9, hs9⟩ := k15 h; exact ⟨A9, n9, c9, e9, hs9.keep hb4⟩), k16, k17, (fun h => by obtain ⟨A9, n9, c9, e9, hs9⟩ := k18 h; exact ⟨A9, n9, c9, e9, hs9.keep hb4⟩), k19, k20, (fun _ => rfl), k22, k23, k24, k25, (fun _ => rfl), (fun _ => rfl), k28, k29, k30⟩
                      simp only [putAll, List.setIfInBounds_toArray, List.set_cons_succ, List.set_cons_zero]
                    · have e21 := k21 (hdep 21 (by kernel_rfl))
                      subst e21
                      have e24 := k24 (hdep 24 (by kernel_rfl))
                      subst e24
                      have e27 := k27 (hdep 27 (by kernel_rfl))
                      subst e27
                      refine wpOp_step (by simp only [List.getElem?_toArray, List.getElem?_cons_succ, List.getElem?_cons_zero]; rfl) (fun K hK => ?_)
                      go_simp
                      refine hK _ _ ⟨[v120, v121, v122, v123, v124, v125, v126, v127, v128, v129, v130, v131, v132, v133, v134, v135, v136, v137, v138, v139, v140, .bool true, v142, v143, .bool (pathOkB p), v145, v146, .bool (pathOkB p), .bool true, v149, v2], ?_, _, _, _, _, _, _, _, _, _, _, _, _, _, _, _, _, _, _, _, _, _, _, _, _, _, _, _, _, _, _, _, rfl, hb, k0, k1, k2, k3, k4, k5, k6, k7, k8, k9, k10, k11, k12, k13, k14, k15, k16, k17, k18, k19, k20, (fun _ => rfl), k22, k23, (fun _ => rfl), k25, k26, (fun _ => rfl), (fun _ => by simp), k29, k30⟩
                      simp only [putAll, List.setIfInBounds_toArray, List.set_cons_succ, List.set_cons_zero]
                    · have e21 := k21 (hdep 21 (by kernel_rfl))
                      subst e21
                      have e28 := k28 (hdep 28 (by kernel_rfl))
                      subst e28
                      refine wpOp_step (by simp only [List.getElem?_toArray, List.getElem?_cons_succ, List.getElem?_cons_zero]; rfl) (fun K hK => ?_)
                      go_simp
                      refine hK _ _ ⟨[v120, v121, v122, v123, v124, v125, v126, v127, v128, v129, v130, v131, v132, v133, v134, v135, v136, v137, v138, v139, v140, .bool true, v142, v143, v144, v145, v146, v147, .bool true, .bool true, v2], ?_, _, _, _, _, _, _, _, _, _, _, _, _, _, _, _, _, _, _, _, _, _, _, _, _, _, _, _, _, _, _, _, rfl, hb, k0, k1, k2, k3, k4, k5, k6, k7, k8, k9, k10, k11, k12, k13, k14, k15, k16, k17, k18, k19, k20, (fun _ => rfl), k22, k23, k24, k25, k26, k27, (fun _ => rfl), (fun _ => rfl), k30⟩
                      simp only [putAll, List.setIfInBounds_toArray, List.set_cons_succ, List.set_cons_zero]
                    · have e29 := k29 (hdep 29 (by kernel_rfl))
                      subst e29
                      refine wpOp_step (by simp only [List.getElem?_toArray, List.getElem?_cons_succ, List.getElem?_cons_zero]; rfl) (fun K hK => ?_)
                      go_simp
                      refine hK _ _ ⟨[v120, v121, v122, v123, v124, v125, v126, v127, v128, v129, v130, v131, v132, v133, v134, v135, v136, v137, v138, v139, v140, v141, v142, v143, v144, v145, v146, v147, v148, .bool true, .bool true], ?_, _, _, _, _, _, _, _, _, _, _, _, _, _, _, _, _, _, _, _, _, _, _, _, _, _, _, _, _, _, _, _, rfl, hb, k0, k1, k2, k3, k4, k5, k6, k7, k8, k9, k10, k11, k12, k13, k14, k15, k16, k17, k18, k19, k20, k21, k22, k23, k24, k25, k26, k27, k28, (fun _ => rfl), (fun _ => rfl)⟩
                      simp only [putAll, List.setIfInBounds_toArray, List.set_cons_succ, List.set_cons_zero]
                  · intro D vs w' hD hI
                    obtain ⟨v120, v121, v122, v123, v124, v125, v126, v127, v128, v129, v130, v131, v132, v133, v134, v135, v136, v137, v138, v139, v140, v141, v142, v143, v144, v145, v146, v147, v148, v149, v2, rfl, hb, k0, k1, k2, k3, k4, k5, k6, k7, k8, k9, k10, k11, k12, k13, k14, k15, k16, k17, k18, k19, k20, k21, k22, k23, k24, k25, k26, k27, k28, k29, k30⟩ := hI
                    simp only [putAll, List.setIfInBounds_toArray, List.set_cons_succ, List.set_cons_zero]
                    have e30 := k30 (hD 30 (show 30 < 31 by decide))
                    subst e30
                    go_wp2
                    go_returns
                    exact ⟨rfl, bthen hb11w hb⟩
          · go_wp2_with fail
            refine (drawTreeDrop_any _ _ _ _ _ H7 hn2).mono ?_
            rintro e w8 ⟨Am, nm, cm, m, pd, rfl, hm8, hml, hms, hpd, hb8⟩
            have hb8w := bthen hb7w hb8
            have H8 := H7.keep hb8
            have f0 := keep_cell hb8 e0
            have M8 := hm8.at_
            have hmz := smallE_sz hms
            have hmn := Lib.hid hm8.len
            clear H7 e0 e1 hm8 hb7w
            go_wp2_with fail
            refine (treeDrop_impl _ _ _ m pd _ M8 (by omega) (by omega)).mono ?_
            rintro e w9 ⟨Ay, ny, cy, rfl, hy9, hb9⟩
            have hb9w := bthen hb8w hb9
            have H9 := H8.keep hb9
            have f0' := keep_cell hb9 f0
            have M9 := M8.keep hb9
            have Y9 := hy9.at_
            have hyn := Lib.hid hy9.len
            have hyz := dropL_sz m pd (m := 1000) (by omega)
            have hyz2 := ents_el hyz
            have hny : ny ≤ 1000 := ents_n Y9 hyz
            clear H8 f0 M8 hy9 hb8w
            obtain ⟨dn, hdn⟩ : ∃ d, dropN m pd = d := ⟨_, rfl⟩
            have HD := Lib.hid (show treeOkB m = true → ((ny : Int) + dn == (nm : Int)) = true from fun h1 => by rw [← hdn]; exact dropL_len h1 hyn.out hmn.out)
            have hdn0 := dropN_in m pd (by omega)
            rw [hdn] at hdn0
            rw [hdn]
            clear hdn
            go_wp2
            go_loopw [15] (fun i wr2 => ∃ (k : Nat), k ≤ ny ∧ i = .int .i64 k ∧ Below w9.heap.size w9 wr2) (fun i _ => ny - (intOf i).toNat)
            case atStart => exact ⟨0, Nat.zero_le _, rfl, Below.refl _ _⟩
            case round =>
              obtain ⟨k, hk, rfl, hb⟩ := hrel
              have e0 := keep_cell hb f0'
              by_cases hlt : k < ny
              · obtain ⟨bx, ox, rfl, hbx, hcx⟩ := Y9.at_ (by omega)
                obtain ⟨hp0, A7, n7, c7, hc0, hat, _⟩ := hcx k hlt
                have hpk := (hb.cell (p := ⟨bx, ox + k * 2, none⟩) hbx).trans hp0
                have hek := hyz2 k
                unfold entSz at hek
                have hnone := dropL_none (enAt_mem (l := dropL m pd) (k := k) (by have := hyn.out; omega))
                have hd : ((enAt (dropL m pd) k).p.toList == pd.toList) = false := by rw [str_beq]; simpa using hnone.1
                have HU := Lib.hid (show beginsB (enAt (dropL m pd) k).p (pd ++ ⟨#[47]⟩) = false by
                  have := begins_slash (enAt (dropL m pd) k).p pd
                  unfold slash at this
                  rw [this]; exact hnone.2)
                have hsl : (pd ++ ⟨#[47]⟩ : ByteArray).size = pd.size + 1 := slash_size pd
                clear hcx hp0 hc0 hat hnone
                generalize enAt (dropL m pd) k = yk at *
                have hone : (⟨#[47]⟩ : ByteArray).size = 1 := rfl
                go_wp2_with fail
                refine (begins_laws _ _ _ (by omega) (by omega)).mono ?_
                rintro e w10 ⟨rfl, rfl⟩
                rw [HU.out]
                go_wp2
                exact ⟨⟨k + 1, by omega, by go_num, hb⟩, by simp [intOf]; omega⟩
              · have hb10w := bthen hb9w hb
                have H10 := H9.keep hb
                have M10 := M9.keep hb
                clear H9 M9 Y9 hb9w f0'
                go_wp2_with fail
                refine (drawTreeList_any _ _ _ _ _ H10 hn2).mono ?_
                rintro e w11 ⟨Aq, nq, cq, q, dir, rfl, hq11, hql, hqs, hdir, hb11⟩
                have hb11w := bthen hb10w hb11
                have M11 := M10.keep hb11
                have Q11 := hq11.at_
                have f0 := keep_cell hb11 e0
                have hqz := smallE_sz hqs
                have hgl := cell_lt f0
                have hts := treeList_sz q dir (by omega)
                clear H10 M10 e0 hq11 hb10w
                obtain ⟨okm, hokm⟩ : ∃ b, treeOkB m = b := ⟨_, rfl⟩
                have HOK := Lib.hid hokm
                clear hokm
                go_wp2
                cases okm
                · refine wp_region_dagb [120, 121, 122, 123, 124, 125, 126, 127, 128, 129, 130, 131, 132, 133, 134, 135, 136, 137, 138, 139, 140, 141, 142, 143, 144, 145, 146, 147, 148, 149, 2] (by kernel_rfl) (by kernel_rfl) (fun D vs w' => ∃ v120 v121 v122 v123 v124 v125 v126 v127 v128 v129 v130 v131 v132 v133 v134 v135 v136 v137 v138 v139 v140 v141 v142 v143 v144 v145 v146 v147 v148 v149 v2 : Value, vs = [v120, v121, v122, v123, v124, v125, v126, v127, v128, v129, v130, v131, v132, v133, v134, v135, v136, v137, v138, v139, v140, v141, v142, v143, v144, v145, v146, v147, v148, v149, v2] ∧ Below w11.heap.size w11 w' ∧ (D 0 = true → v120 = .slice Am nm cm) ∧ (D 1 = true → v121 = .bool false) ∧ (D 2 = true → v122 = .bool true) ∧ (D 3 = true → v123 = .bool true) ∧ (D 11 = true → v131 = .bool true) ∧ (D 12 = true → v132 = .bool true) ∧ (D 13 = true → v133 = .slice Aq nq cq) ∧ (D 14 = true → v134 = .string dir) ∧ (D 15 = true → ∃ (A' : Option Addr) (n' c' : Nat), v135 = .slice A' n' c' ∧ StrsAt w' A' n' (treeList q dir)) ∧ (D 16 = true → v136 = .slice Aq nq cq) ∧ (D 17 = true → v137 = .string dir) ∧ (D 18 = true → ∃ (A' : Option Addr) (n' c' : Nat), v138 = .slice A' n' c' ∧ StrsAt w' A' n' (treeList q dir)) ∧ (D 19 = true → v139 = .bool true) ∧ (D 20 = true → v140 = .bool true) ∧ (D 21 = true → v141 = .bool true) ∧ (D 22 = true → v142 = .pointer (some ⟨gE, 0, none⟩)) ∧ (D 23 = true → v143 = .string p) ∧ (D 24 = true → v144 = .bool (pathOkB p)) ∧ (D 25 = true → v145 = .pointer (some ⟨gE, 0, none⟩)) ∧ (D 26 = true → v146 = .string p) ∧ (D 27 = true → v147 = .bool (pathOkB p)) ∧ (D 28 = true → v148 = .bool true) ∧ (D 29 = true → v149 = .bool true) ∧ (D 30 = true → v2 = .bool true))
                    ⟨_, _, _, _, _, _, _, _, _, _, _, _, _, _, _, _, _, _, _, _, _, _, _, _, _, _, _, _, _, _, _, rfl, (Below.refl _ _).drew, (fun h => by cases h), (fun h => by cases h), (fun h => by cases h), (fun h => by cases h), (fun h => by cases h), (fun h => by cases h), (fun h => by cases h), (fun h => by cases h), (fun h => by cases h), (fun h => by cases h), (fun h => by cases h), (fun h => by cases h), (fun h => by cases h), (fun h => by cases h), (fun h => by cases h), (fun h => by cases h), (fun h => by cases h), (fun h => by cases h), (fun h => by cases h), (fun h => by cases h), (fun h => by cases h), (fun h => by cases h), (fun h => by cases h), (fun h => by cases h)⟩ ?_ ?_
                  · intro i D vs w' hi hD hdep hcl hI
                    have hi' : i < 31 := hi
                    obtain ⟨v120, v121, v122, v123, v124, v125, v126, v127, v128, v129, v130, v131, v132, v133, v134, v135, v136, v137, v138, v139, v140, v141, v142, v143, v144, v145, v146, v147, v148, v149, v2, rfl, hb, k0, k1, k2, k3, k11, k12, k13, k14, k15, k16, k17, k18, k19, k20, k21, k22, k23, k24, k25, k26, k27, k28, k29, k30⟩ := hI
                    simp only [putAll, List.setIfInBounds_toArray, List.set_cons_succ, List.set_cons_zero]
                    rcases (show i = 0 ∨ i = 1 ∨ i = 2 ∨ i = 3 ∨ i = 4 ∨ i = 5 ∨ i = 6 ∨ i = 7 ∨ i = 8 ∨ i = 9 ∨ i = 10 ∨ i = 11 ∨ i = 12 ∨ i = 13 ∨ i = 14 ∨ i = 15 ∨ i = 16 ∨ i = 17 ∨ i = 18 ∨ i = 19 ∨ i = 20 ∨ i = 21 ∨ i = 22 ∨ i = 23 ∨ i = 24 ∨ i = 25 ∨ i = 26 ∨ i = 27 ∨ i = 28 ∨ i = 29 ∨ i = 30 by omega) with rfl | rfl | rfl | rfl | rfl | rfl | rfl | rfl | rfl | rfl | rfl | rfl | rfl | rfl | rfl | rfl | rfl | rfl | rfl | rfl | rfl | rfl | rfl | rfl | rfl | rfl | rfl | rfl | rfl | rfl | rfl
                    · refine wpOp_step (by simp only [List.getElem?_toArray, List.getElem?_cons_zero]; rfl) (fun K hK => ?_)
                      go_simp
                      refine hK _ _ ⟨[.slice Am nm cm, v121, v122, v123, v124, v125, v126, v127, v128, v129, v130, v131, v132, v133, v134, v135, v136, v137, v138, v139, v140, v141, v142, v143, v144, v145, v146, v147, v148, v149, v2], ?_, _, _, _, _, _, _, _, _, _, _, _, _, _, _, _, _, _, _, _, _, _, _, _, _, _, _, _, _, _, _, _, rfl, hb, (fun _ => rfl), k1, k2, k3, k11, k12, k13, k14, k15, k16, k17, k18, k19, k20, k21, k22, k23, k24, k25, k26, k27, k28, k29, k30⟩
                      simp only [putAll, List.setIfInBounds_toArray, List.set_cons_succ, List.set_cons_zero]
                    · have e0 := k0 (hdep 0 (by kernel_rfl))
                      subst e0
                      refine wpOp_step (by simp only [List.getElem?_toArray, List.getElem?_cons_succ, List.getElem?_cons_zero]; rfl) (fun K hK => ?_)
                      go_simp
                      refine (treeOk_spec _ _ _ m _ (M11.keep hb) (by omega)).mono ?_
                      rintro e w4 ⟨rfl, hb4⟩
                      rw [HOK.out]
                      refine hK _ _ ⟨[.slice Am nm cm, .bool false, v122, v123, v124, v125, v126, v127, v128, v129, v130, v131, v132, v133, v134, v135, v136, v137, v138, v139, v140, v141, v142, v143, v144, v145, v146, v147, v148, v149, v2], ?_, _, _, _, _, _, _, _, _, _, _, _, _, _, _, _, _, _, _, _, _, _, _, _, _, _, _, _, _, _, _, _, rfl, (bthen hb hb4), (fun _ => rfl), (fun _ => rfl), k2, k3, k11, k12, k13, k14, (fun h => by obtain ⟨A9, n9, c9, e9, hs9⟩ := k15 h; exact ⟨A9, n9, c9, e9, hs9.keep hb4⟩), k16, k17, (fun h => by obtain ⟨A9, n9, c9, e9, hs9⟩ := k18 h; exact ⟨A9, n9, c9, e9, hs9.keep hb4⟩), k19, k20, k21, k22, k23, k24, k25, k26, k27, k28, k29, k30⟩
                      simp only [putAll, List.setIfInBounds_toArray, List.set_cons_succ, List.set_cons_zero]
                    · have e1 := k1 (hdep 1 (by kernel_rfl))
                      subst e1
                      refine wpOp_step (by simp only [List.getElem?_toArray, List.getElem?_cons_succ, List.getElem?_cons_zero]; rfl) (fun K hK => ?_)
                      go_simp
                      refine hK _ _ ⟨[v120, .bool false, .bool true, v123, v124, v125, v126, v127, v128, v129, v130, v131, v132, v133, v134, v135, v136, v137, v138, v139, v140, v141, v142, v143, v144, v145, v146, v147, v148, v149, v2], ?_, _, _, _, _, _, _, _, _, _, _, _, _, _, _, _, _, _, _, _, _, _, _, _, _, _, _, _, _, _, _, _, rfl, hb, k0, (fun _ => rfl), (fun _ => rfl), k3, k11, k12, k13, k14, k15, k16, k17, k18, k19, k20, k21, k22, k23, k24, k25, k26, k27, k28, k29, k30⟩
                      simp only [putAll, List.setIfInBounds_toArray, List.set_cons_succ, List.set_cons_zero]
                    · have e2 := k2 (hdep 2 (by kernel_rfl))
                      subst e2
                      refine wpOp_step (by simp only [List.getElem?_toArray, List.getElem?_cons_succ, List.getElem?_cons_zero]; rfl) (fun K hK => ?_)
                      go_simp
                      refine hK _ _ ⟨[v120, v121, .bool true, .bool true, v124, v125, v126, v127, v128, v129, v130, v131, v132, v133, v134, v135, v136, v137, v138, v139, v140, v141, v142, v143, v144, v145, v146, v147, v148, v149, v2], ?_, _, _, _, _, _, _, _, _, _, _, _, _, _, _, _, _, _, _, _, _, _, _, _, _, _, _, _, _, _, _, _, rfl, hb, k0, k1, (fun _ => rfl), (fun _ => rfl), k11, k12, k13, k14, k15, k16, k17, k18, k19, k20, k21, k22, k23, k24, k25, k26, k27, k28, k29, k30⟩
                      simp only [putAll, List.setIfInBounds_toArray, List.set_cons_succ, List.set_cons_zero]
                    · have e3 := k3 (hdep 3 (by kernel_rfl))
                      subst e3
                      refine wpOp_step (by simp only [List.getElem?_toArray, List.getElem?_cons_succ, List.getElem?_cons_zero]; rfl) (fun K hK => ?_)
                      go_simp
                      refine hK _ _ ⟨[v120, v121, v122, .bool true, undef, v125, v126, v127, v128, v129, v130, v131, v132, v133, v134, v135, v136, v137, v138, v139, v140, v141, v142, v143, v144, v145, v146, v147, v148, v149, v2], ?_, _, _, _, _, _, _, _, _, _, _, _, _, _, _, _, _, _, _, _, _, _, _, _, _, _, _, _, _, _, _, _, rfl, hb, k0, k1, k2, (fun _ => rfl), k11, k12, k13, k14, k15, k16, k17, k18, k19, k20, k21, k22, k23, k24, k25, k26, k27, k28, k29, k30⟩
                      simp only [putAll, List.setIfInBounds_toArray, List.set_cons_succ, List.set_cons_zero]
                    · have e3 := k3 (hdep 3 (by kernel_rfl))
                      subst e3
                      refine wpOp_step (by simp only [List.getElem?_toArray, List.getElem?_cons_succ, List.getElem?_cons_zero]; rfl) (fun K hK => ?_)
                      go_simp
                      refine hK _ _ ⟨[v120, v121, v122, .bool true, v124, undef, v126, v127, v128, v129, v130, v131, v132, v133, v134, v135, v136, v137, v138, v139, v140, v141, v142, v143, v144, v145, v146, v147, v148, v149, v2], ?_, _, _, _, _, _, _, _, _, _, _, _, _, _, _, _, _, _, _, _, _, _, _, _, _, _, _, _, _, _, _, _, rfl, hb, k0, k1, k2, (fun _ => rfl), k11, k12, k13, k14, k15, k16, k17, k18, k19, k20, k21, k22, k23, k24, k25, k26, k27, k28, k29, k30⟩
                      simp only [putAll, List.setIfInBounds_toArray, List.set_cons_succ, List.set_cons_zero]
                    · have e3 := k3 (hdep 3 (by kernel_rfl))
                      subst e3
                      refine wpOp_step (by simp only [List.getElem?_toArray, List.getElem?_cons_succ, List.getElem?_cons_zero]; rfl) (fun K hK => ?_)
                      go_simp
                      refine hK _ _ ⟨[v120, v121, v122, .bool true, v124, v125, undef, v127, v128, v129, v130, v131, v132, v133, v134, v135, v136, v137, v138, v139, v140, v141, v142, v143, v144, v145, v146, v147, v148, v149, v2], ?_, _, _, _, _, _, _, _, _, _, _, _, _, _, _, _, _, _, _, _, _, _, _, _, _, _, _, _, _, _, _, _, rfl, hb, k0, k1, k2, (fun _ => rfl), k11, k12, k13, k14, k15, k16, k17, k18, k19, k20, k21, k22, k23, k24, k25, k26, k27, k28, k29, k30⟩
                      simp only [putAll, List.setIfInBounds_toArray, List.set_cons_succ, List.set_cons_zero]
                    · have e3 := k3 (hdep 3 (by kernel_rfl))
                      subst e3
                      refine wpOp_step (by simp only [List.getElem?_toArray, List.getElem?_cons_succ, List.getElem?_cons_zero]; rfl) (fun K hK => ?_)
                      go_simp
                      refine hK _ _ ⟨[v120, v121, v122, .bool true, v124, v125, v126, undef, v128, v129, v130, v131, v132, v133, v134, v135, v136, v137, v138, v139, v140, v141, v142, v143, v144, v145, v146, v147, v148, v149, v2], ?_, _, _, _, _, _, _, _, _, _, _, _, _, _, _, _, _, _, _, _, _, _, _, _, _, _, _, _, _, _, _, _, rfl, hb, k0, k1, k2, (fun _ => rfl), k11, k12, k13, k14, k15, k16, k17, k18, k19, k20, k21, k22, k23, k24, k25, k26, k27, k28, k29, k30⟩
                      simp only [putAll, List.setIfInBounds_toArray, List.set_cons_succ, List.set_cons_zero]
                    · have e3 := k3 (hdep 3 (by kernel_rfl))
                      subst e3
                      refine wpOp_step (by simp only [List.getElem?_toArray, List.getElem?_cons_succ, List.getElem?_cons_zero]; rfl) (fun K hK => ?_)
                      go_simp
                      refine hK _ _ ⟨[v120, v121, v122, .bool true, v124, v125, v126, v127, undef, v129, v130, v131, v132, v133, v134, v135, v136, v137, v138, v139, v140, v141, v142, v143, v144, v145, v146, v147, v148, v149, v2], ?_, _, _, _, _, _, _, _, _, _, _, _, _, _, _, _, _, _, _, _, _, _, _, _, _, _, _, _, _, _, _, _, rfl, hb, k0, k1, k2, (fun _ => rfl), k11, k12, k13, k14, k15, k16, k17, k18, k19, k20, k21, k22, k23, k24, k25, k26, k27, k28, k29, k30⟩
                      simp only [putAll, List.setIfInBounds_toArray, List.set_cons_succ, List.set_cons_zero]
                    · have e3 := k3 (hdep 3 (by kernel_rfl))
                      subst e3
                      refine wpOp_step (by simp only [List.getElem?_toArray, List.getElem?_cons_succ, List.getElem?_cons_zero]; rfl) (fun K hK => ?_)
                      go_simp
                      refine hK _ _ ⟨[v120, v121, v122, .bool true, v124, v125, v126, v127, v128, undef, v130, v131, v132, v133, v134, v135, v136, v137, v138, v139, v140, v141, v142, v143, v144, v145, v146, v147, v148, v149, v2], ?_, _, _, _, _, _, _, _, _, _, _, _, _, _, _, _, _, _, _, _, _, _, _, _, _, _, _, _, _, _, _, _, rfl, hb, k0, k1, k2, (fun _ => rfl), k11, k12, k13, k14, k15, k16, k17, k18, k19, k20, k21, k22, k23, k24, k25, k26, k27, k28, k29, k30⟩
                      simp only [putAll, List.setIfInBounds_toArray, List.set_cons_succ, List.set_cons_zero]
                    · have e3 := k3 (hdep 3 (by kernel_rfl))
                      subst e3
                      refine wpOp_step (by simp only [List.getElem?_toArray, List.getElem?_cons_succ, List.getElem?_cons_zero]; rfl) (fun K hK => ?_)
                      go_simp
                      refine hK _ _ ⟨[v120, v121, v122, .bool true, v124, v125, v126, v127, v128, v129, undef, v131, v132, v133, v134, v135, v136, v137, v138, v139, v140, v141, v142, v143, v144, v145, v146, v147, v148, v149, v2], ?_, _, _, _, _, _, _, _, _, _, _, _, _, _, _, _, _, _, _, _, _, _, _, _, _, _, _, _, _, _, _, _, rfl, hb, k0, k1, k2, (fun _ => rfl), k11, k12, k13, k14, k15, k16, k17, k18, k19, k20, k21, k22, k23, k24, k25, k26, k27, k28, k29, k30⟩
                      simp only [putAll, List.setIfInBounds_toArray, List.set_cons_succ, List.set_cons_zero]
                    · have e3 := k3 (hdep 3 (by kernel_rfl))
                      subst e3
                      refine wpOp_step (by simp only [List.getElem?_toArray, List.getElem?_cons_succ, List.getElem?_cons_zero]; rfl) (fun K hK => ?_)
                      go_simp
                      refine hK _ _ ⟨[v120, v121, v122, .bool true, v124, v125, v126, v127, v128, v129, v130, .bool true, v132, v133, v134, v135, v136, v137, v138, v139, v140, v141, v142, v143, v144, v145, v146, v147, v148, v149, v2], ?_, _, _, _, _, _, _, _, _, _, _, _, _, _, _, _, _, _, _, _, _, _, _, _, _, _, _, _, _, _, _, _, rfl, hb, k0, k1, k2, (fun _ => rfl), (fun _ => rfl), k12, k13, k14, k15, k16, k17, k18, k19, k20, k21, k22, k23, k24, k25, k26, k27, k28, k29, k30⟩
                      simp only [putAll, List.setIfInBounds_toArray, List.set_cons_succ, List.set_cons_zero]
                    · have e11 := k11 (hdep 11 (by kernel_rfl))
                      subst e11
                      refine wpOp_step (by simp only [List.getElem?_toArray, List.getElem?_cons_succ, List.getElem?_cons_zero]; rfl) (fun K hK => ?_)
                      go_simp
                      refine hK _ _ ⟨[v120, v121, v122, v123, v124, v125, v126, v127, v128, v129, v130, .bool true, .bool true, v133, v134, v135, v136, v137, v138, v139, v140, v141, v142, v143, v144, v145, v146, v147, v148, v149, v2], ?_, _, _, _, _, _, _, _, _, _, _, _, _, _, _, _, _, _, _, _, _, _, _, _, _, _, _, _, _, _, _, _, rfl, hb, k0, k1, k2, k3, (fun _ => rfl), (fun _ => rfl), k13, k14, k15, k16, k17, k18, k19, k20, k21, k22, k23, k24, k25, k26, k27, k28, k29, k30⟩
                      simp only [putAll, List.setIfInBounds_toArray, List.set_cons_succ, List.set_cons_zero]
                    · have e12 := k12 (hdep 12 (by kernel_rfl))
                      subst e12
                      refine wpOp_step (by simp only [List.getElem?_toArray, List.getElem?_cons_succ, List.getElem?_cons_zero]; rfl) (fun K hK => ?_)
                      go_simp
                      refine hK _ _ ⟨[v120, v121, v122, v123, v124, v125, v126, v127, v128, v129, v130, v131, .bool true, .slice Aq nq cq, v134, v135, v136, v137, v138, v139, v140, v141, v142, v143, v144, v145, v146, v147, v148, v149, v2], ?_, _, _, _, _, _, _, _, _, _, _, _, _, _, _, _, _, _, _, _, _, _, _, _, _, _, _, _, _, _, _, _, rfl, hb, k0, k1, k2, k3, k11, (fun _ => rfl), (fun _ => rfl), k14, k15, k16, k17, k18, k19, k20, k21, k22, k23, k24, k25, k26, k27, k28, k29, k30⟩
                      simp only [putAll, List.setIfInBounds_toArray, List.set_cons_succ, List.set_cons_zero]
                    · have e12 := k12 (hdep 12 (by kernel_rfl))
                      subst e12
                      refine wpOp_step (by simp only [List.getElem?_toArray, List.getElem?_cons_succ, List.getElem?_cons_zero]; rfl) (fun K hK => ?_)
                      go_simp
                      refine hK _ _ ⟨[v120, v121, v122, v123, v124, v125, v126, v127, v128, v129, v130, v131, .bool true, v133, .string dir, v135, v136, v137, v138, v139, v140, v141, v142, v143, v144, v145, v146, v147, v148, v149, v2], ?_, _, _, _, _, _, _, _, _, _, _, _, _, _, _, _, _, _, _, _, _, _, _, _, _, _, _, _, _, _, _, _, rfl, hb, k0, k1, k2, k3, k11, (fun _ => rfl), k13, (fun _ => rfl), k15, k16, k17, k18, k19, k20, k21, k22, k23, k24, k25, k26, k27, k28, k29, k30⟩
                      simp only [putAll, List.setIfInBounds_toArray, List.set_cons_succ, List.set_cons_zero]
                    · have e12 := k12 (hdep 12 (by kernel_rfl))
                      subst e12
                      have e13 := k13 (hdep 13 (by kernel_rfl))
                      subst e13
                      have e14 := k14 (hdep 14 (by kernel_rfl))
                      subst e14
                      refine wpOp_step (by simp only [List.getElem?_toArray, List.getElem?_cons_succ, List.getElem?_cons_zero]; rfl) (fun K hK => ?_)
                      go_simp
                      refine (treeList_impl _ _ _ q dir _ (Q11.keep hb) (by omega) (by omega)).mono ?_
                      rintro e w4 ⟨A4, n4, c4, rfl, hs4, hb4⟩
                      refine hK _ _ ⟨[v120, v121, v122, v123, v124, v125, v126, v127, v128, v129, v130, v131, .bool true, .slice Aq nq cq, .string dir, .slice A4 n4 c4, v136, v137, v138, v139, v140, v141, v142, v143, v144, v145, v146, v147, v148, v149, v2], ?_, _, _, _, _, _, _, _, _, _, _, _, _, _, _, _, _, _, _, _, _, _, _, _, _, _, _, _, _, _, _, _, rfl, (bthen hb hb4), k0, k1, k2, k3, k11, (fun _ => rfl), (fun _ => rfl), (fun _ => rfl), (fun _ => ⟨A4, n4, c4, rfl, hs4.at_⟩), k16, k17, (fun h => by obtain ⟨A9, n9, c9, e9, hs9⟩ := k18 h; exact ⟨A9, n9, c9, e9, hs9.keep hb4⟩), k19, k20, k21, k22, k23, k24, k25, k26, k27, k28, k29, k30⟩
                      simp only [putAll, List.setIfInBounds_toArray, List.set_cons_succ, List.set_cons_zero]
                    · have e12 := k12 (hdep 12 (by kernel_rfl))
                      subst e12
                      refine wpOp_step (by simp only [List.getElem?_toArray, List.getElem?_cons_succ, List.getElem?_cons_zero]; rfl) (fun K hK => ?_)
                      go_simp
                      refine hK _ _ ⟨[v120, v121, v122, v123, v124, v125, v126, v127, v128, v129, v130, v131, .bool true, v133, v134, v135, .slice Aq nq cq, v137, v138, v139, v140, v141, v142, v143, v144, v145, v146, v147, v148, v149, v2], ?_, _, _, _, _, _, _, _, _, _, _, _, _, _, _, _, _, _, _, _, _, _, _, _, _, _, _, _, _, _, _, _, rfl, hb, k0, k1, k2, k3, k11, (fun _ => rfl), k13, k14, k15, (fun _ => rfl), k17, k18, k19, k20, k21, k22, k23, k24, k25, k26, k27, k28, k29, k30⟩
                      simp only [putAll, List.setIfInBounds_toArray, List.set_cons_succ, List.set_cons_zero]
                    · have e12 := k12 (hdep 12 (by kernel_rfl))
                      subst e12
                      refine wpOp_step (by simp only [List.getElem?_toArray, List.getElem?_cons_succ, List.getElem?_cons_zero]; rfl) (fun K hK => ?_)
                      go_simp
                      refine hK _ _ ⟨[v120, v121, v122, v123, v124, v125, v126, v127, v128, v129, v130, v131, .bool true, v133, v134, v135, v136, .string dir, v138, v139, v140, v141, v142, v143, v144, v145, v146, v147, v148, v149, v2], ?_, _, _, _, _, _, _, _, _, _, _, _, _, _, _, _, _, _, _, _, _, _, _, _, _, _, _, _, _, _, _, _, rfl, hb, k0, k1, k2, k3, k11, (fun _ => rfl), k13, k14, k15, k16, (fun _ => rfl), k18, k19, k20, k21, k22, k23, k24, k25, k26, k27, k28, k29, k30⟩
                      simp only [putAll, List.setIfInBounds_toArray, List.set_cons_succ, List.set_cons_zero]
                    · have e12 := k12 (hdep 12 (by kernel_rfl))
                      subst e12
                      have e16 := k16 (hdep 16 (by kernel_rfl))
                      subst e16
                      have e17 := k17 (hdep 17 (by kernel_rfl))
                      subst e17
                      refine wpOp_step (by simp only [List.getElem?_toArray, List.getElem?_cons_succ, List.getElem?_cons_zero]; rfl) (fun K hK => ?_)
                      go_simp
                      refine (treeList_spec _ _ _ q dir _ (Q11.keep hb) (by omega) (by omega)).mono ?_
                      rintro e w4 ⟨A4, n4, c4, rfl, hs4, hb4⟩
                      refine hK _ _ ⟨[v120, v121, v122, v123, v124, v125, v126, v127, v128, v129, v130, v131, .bool true, v133, v134, v135, .slice Aq nq cq, .string dir, .slice A4 n4 c4, v139, v140, v141, v142, v143, v144, v145, v146, v147, v148, v149, v2], ?_, _, _, _, _, _, _, _, _, _, _, _, _, _, _, _, _, _, _, _, _, _, _, _, _, _, _, _, _, _, _, _, rfl, (bthen hb hb4), k0, k1, k2, k3, k11, (fun _ => rfl), k13, k14, (fun h => by obtain ⟨A9, n9, c9, e9, hs9⟩ := k15 h; exact ⟨A9, n9, c9, e9, hs9.keep hb4⟩), (fun _ => rfl), (fun _ => rfl), (fun _ => ⟨A4, n4, c4, rfl, hs4.at_⟩), k19, k20, k21, k22, k23, k24, k25, k26, k27, k28, k29, k30⟩
                      simp only [putAll, List.setIfInBounds_toArray, List.set_cons_succ, List.set_cons_zero]
                    · have e12 := k12 (hdep 12 (by kernel_rfl))
                      subst e12
                      obtain ⟨A5, n5, c5, rfl, hs5⟩ := k15 (hdep 15 (by kernel_rfl))
                      obtain ⟨A8, n8, c8, rfl, hs8⟩ := k18 (hdep 18 (by kernel_rfl))
                      refine wpOp_step (by simp only [List.getElem?_toArray, List.getElem?_cons_succ, List.getElem?_cons_zero]; rfl) (fun K hK => ?_)
                      go_simp
                      refine (sameTexts_yes _ _ _ _ _ _ (treeList q dir) _ hs5 hs8 (strs_n hs5 hts)).mono ?_
                      rintro e w4 ⟨rfl, hb4⟩
                      refine hK _ _ ⟨[v120, v121, v122, v123, v124, v125, v126, v127, v128, v129, v130, v131, .bool true, v133, v134, .slice A5 n5 c5, v136, v137, .slice A8 n8 c8, .bool true, v140, v141, v142, v143, v144, v145, v146, v147, v148, v149, v2], ?_, _, _, _, _, _, _, _, _, _, _, _, _, _, _, _, _, _, _, _, _, _, _, _, _, _, _, _, _, _, _, _, rfl, (bthen hb hb4), k0, k1, k2, k3, k11, (fun _ => rfl), k13, k14, (fun _ => ⟨A5, n5, c5, rfl, hs5.keep hb4⟩), k16, k17, (fun _ => ⟨A8, n8, c8, rfl, hs8.keep hb4⟩), (fun _ => rfl), k20, k21, k22, k23, k24, k25, k26, k27, k28, k29, k30⟩
                      simp only [putAll, List.setIfInBounds_toArray, List.set_cons_succ, List.set_cons_zero]
                    · have e12 := k12 (hdep 12 (by kernel_rfl))
                      subst e12
                      have e19 := k19 (hdep 19 (by kernel_rfl))
                      subst e19
                      refine wpOp_step (by simp only [List.getElem?_toArray, List.getElem?_cons_succ, List.getElem?_cons_zero]; rfl) (fun K hK => ?_)
                      go_simp
                      refine hK _ _ ⟨[v120, v121, v122, v123, v124, v125, v126, v127, v128, v129, v130, v131, .bool true, v133, v134, v135, v136, v137, v138, .bool true, .bool true, v141, v142, v143, v144, v145, v146, v147, v148, v149, v2], ?_, _, _, _, _, _, _, _, _, _, _, _, _, _, _, _, _, _, _, _, _, _, _, _, _, _, _, _, _, _, _, _, rfl, hb, k0, k1, k2, k3, k11, (fun _ => rfl), k13, k14, k15, k16, k17, k18, (fun _ => rfl), (fun _ => rfl), k21, k22, k23, k24, k25, k26, k27, k28, k29, k30⟩
                      simp only [putAll, List.setIfInBounds_toArray, List.set_cons_succ, List.set_cons_zero]
                    · have e20 := k20 (hdep 20 (by kernel_rfl))
                      subst e20
                      refine wpOp_step (by simp only [List.getElem?_toArray, List.getElem?_cons_succ, List.getElem?_cons_zero]; rfl) (fun K hK => ?_)
                      go_simp
                      refine hK _ _ ⟨[v120, v121, v122, v123, v124, v125, v126, v127, v128, v129, v130, v131, v132, v133, v134, v135, v136, v137, v138, v139, .bool true, .bool true, v142, v143, v144, v145, v146, v147, v148, v149, v2], ?_, _, _, _, _, _, _, _, _, _, _, _, _, _, _, _, _, _, _, _, _, _, _, _, _, _, _, _, _, _, _, _, rfl, hb, k0, k1, k2, k3, k11, k12, k13, k14, k15, k16, k17, k18, k19, (fun _ => rfl), (fun _ => rfl), k22, k23, k24, k25, k26, k27, k28, k29, k30⟩
                      simp only [putAll, List.setIfInBounds_toArray, List.set_cons_succ, List.set_cons_zero]
                    · have e21 := k21 (hdep 21 (by kernel_rfl))
                      subst e21
                      refine wpOp_step (by simp only [List.getElem?_toArray, List.getElem?_cons_succ, List.getElem?_cons_zero]; rfl) (fun K hK => ?_)
                      go_simp
                      refine hK _ _ ⟨[v120, v121, v122, v123, v124, v125, v126, v127, v128, v129, v130, v131, v132, v133, v134, v135, v136, v137, v138, v139, v140, .bool true, .pointer (some ⟨gE, 0, none⟩), v143, v144, v145, v146, v147, v148, v149, v2], ?_, _, _, _, _, _, _, _, _, _, _, _, _, _, _, _, _, _, _, _, _, _, _, _, _, _, _, _, _, _, _, _, rfl, hb, k0, k1, k2, k3, k11, k12, k13, k14, k15, k16, k17, k18, k19, k20, (fun _ => rfl), (fun _ => rfl), k23, k24, k25, k26, k27, k28, k29, k30⟩
                      simp only [putAll, List.setIfInBounds_toArray, List.set_cons_succ, List.set_cons_zero]
                    · have e21 := k21 (hdep 21 (by kernel_rfl))
                      subst e21
                      have e22 := k22 (hdep 22 (by kernel_rfl))
                      subst e22
                      have fc := keep_cell hb f0
                      refine wpOp_step (by simp only [List.getElem?_toArray, List.getElem?_cons_succ, List.getElem?_cons_zero]; rfl) (fun K hK => ?_)
                      go_simp
                      refine hK _ _ ⟨[v120, v121, v122, v123, v124, v125, v126, v127, v128, v129, v130, v131, v132, v133, v134, v135, v136, v137, v138, v139, v140, .bool true, .pointer (some ⟨gE, 0, none⟩), .string p, v144, v145, v146, v147, v148, v149, v2], ?_, _, _, _, _, _, _, _, _, _, _, _, _, _, _, _, _, _, _, _, _, _, _, _, _, _, _, _, _, _, _, _, rfl, hb, k0, k1, k2, k3, k11, k12, k13, k14, k15, k16, k17, k18, k19, k20, (fun _ => rfl), (fun _ => rfl), (fun _ => rfl), k24, k25, k26, k27, k28, k29, k30⟩
                      simp only [putAll, List.setIfInBounds_toArray, List.set_cons_succ, List.set_cons_zero]
                    · have e21 := k21 (hdep 21 (by kernel_rfl))
                      subst e21
                      have e23 := k23 (hdep 23 (by kernel_rfl))
                      subst e23
                      refine wpOp_step (by simp only [List.getElem?_toArray, List.getElem?_cons_succ, List.getElem?_cons_zero]; rfl) (fun K hK => ?_)
                      go_simp
                      refine (pathOk_impl _ _ (by omega)).mono ?_
                      rintro e w4 ⟨rfl, hb4⟩
                      refine hK _ _ ⟨[v120, v121, v122, v123, v124, v125, v126, v127, v128, v129, v130, v131, v132, v133, v134, v135, v136, v137, v138, v139, v140, .bool true, v142, .string p, .bool (pathOkB p), v145, v146, v147, v148, v149, v2], ?_, _, _, _, _, _, _, _, _, _, _, _, _, _, _, _, _, _, _, _, _, _, _, _, _, _, _, _, _, _, _, _, rfl, (bthen hb hb4), k0, k1, k2, k3, k11, k12, k13, k14, (fun h => by obtain ⟨A9, n9, c9, e9, hs9⟩ := k15 h; exact ⟨A9, n9, c9, e9, hs9.keep hb4⟩), k16, k17, (fun h => by obtain ⟨A9, n9, c9, e9, hs9⟩ := k18 h; exact ⟨A9, n9, c9, e9, hs9.keep hb4⟩), k19, k20, (fun _ => rfl), k22, (fun _ => rfl), (fun _ => rfl), k25, k26, k27, k28, k29, k30⟩
                      simp only [putAll, List.setIfInBounds_toArray, List.set_cons_succ, List.set_cons_zero]
                    · have e21 := k21 (hdep 21 (by kernel_rfl))
                      subst e21
                      refine wpOp_step (by simp only [List.getElem?_toArray, List.getElem?_cons_succ, List.getElem?_cons_zero]; rfl) (fun K hK => ?_)
                      go_simp
                      refine hK _ _ ⟨[v120, v121, v122, v123, v124, v125, v126, v127, v128, v129, v130, v131, v132, v133, v134, v135, v136, v137, v138, v139, v140, .bool true, v142, v143, v144, .pointer (some ⟨gE, 0, none⟩), v146, v147, v148, v149, v2], ?_, _, _, _, _, _, _, _, _, _, _, _, _, _, _, _, _, _, _, _, _, _, _, _, _, _, _, _, _, _, _, _, rfl, hb, k0, k1, k2, k3, k11, k12, k13, k14, k15, k16, k17, k18, k19, k20, (fun _ => rfl), k22, k23, k24, (fun _ => rfl), k26, k27, k28, k29, k30⟩
                      simp only [putAll, List.setIfInBounds_toArray, List.set_cons_succ, List.set_cons_zero]
                    · have e21 := k21 (hdep 21 (by kernel_rfl))
                      subst e21
                      have e25 := k25 (hdep 25 (by kernel_rfl))
                      subst e25
                      have fc := keep_cell hb f0
                      refine wpOp_step (by simp only [List.getElem?_toArray, List.getElem?_cons_succ, List.getElem?_cons_zero]; rfl) (fun K hK => ?_)
                      go_simp
                      refine hK _ _ ⟨[v120, v121, v122, v123, v124, v125, v126, v127, v128, v129, v130, v131, v132, v133, v134, v135, v136, v137, v138, v139, v140, .bool true, v142, v143, v144, .pointer (some ⟨gE, 0, none⟩), .string p, v147, v148, v149, v2], ?_, _, _, _, _, _, _, _, _, _, _, _, _, _, _, _, _, _, _, _, _, _, _, _, _, _, _, _, _, _, _, _, rfl, hb, k0, k1, k2, k3, k11, k12, k13, k14, k15, k16, k17, k18, k19, k20, (fun _ => rfl), k22, k23, k24, (fun _ => rfl), (fun _ => rfl), k27, k28, k29, k30⟩
                      simp only [putAll, List.setIfInBounds_toArray, List.set_cons_succ, List.set_cons_zero]
                    · have e21 := k21 (hdep 21 (by kernel_rfl))
                      subst e21
                      have e26 := k26 (hdep 26 (by kernel_rfl))
                      subst e26
                      refine wpOp_step (by simp only [List.getElem?_toArray, List.getElem?_cons_succ, List.getElem?_cons_zero]; rfl) (fun K hK => ?_)
                      go_simp
                      refine (pathOk_spec _ _ (by omega)).mono ?_
                      rintro e w4 ⟨rfl, hb4⟩
                      refine hK _ _ ⟨[v120, v121, v122, v123, v124, v125, v126, v127, v128, v129, v130, v131, v132, v133, v134, v135, v136, v137, v138, v139, v140, .bool true, v142, v143, v144, v145, .string p, .bool (pathOkB p), v148, v149, v2], ?_, _, _, _, _, _, _, _, _, _, _, _, _, _, _, _, _, _, _, _, _, _, _, _, _, _, _, _, _, _, _, _, rfl, (bthen hb hb4), k0, k1, k2, k3, k11, k12, k13, k14, (fun h => by obtain ⟨A9, n9, c9, e9, hs9⟩ := k15 h; exact ⟨A9, n9, c9, e9, hs9.keep hb4⟩), k16, k17, (fun h => by obtain ⟨A9, n9, c9, e9, hs9⟩ := k18 h; exact ⟨A9, n9, c9, e9, hs9.keep hb4⟩), k19, k20, (fun _ => rfl), k22, k23, k24, k25, (fun _ => rfl), (fun _ => rfl), k28, k29, k30⟩
                      simp only [putAll, List.setIfInBounds_toArray, List.set_cons_succ, List.set_cons_zero]
                    · have e21 := k21 (hdep 21 (by kernel_rfl))
                      subst e21
                      have e24 := k24 (hdep 24 (by kernel_rfl))
                      subst e24
                      have e27 := k27 (hdep 27 (by kernel_rfl))
                      subst e27
                      refine wpOp_step (by simp only [List.getElem?_toArray, List.getElem?_cons_succ, List.getElem?_cons_zero]; rfl) (fun K hK => ?_)
                      go_simp
                      refine hK _ _ ⟨[v120, v121, v122, v123, v124, v125, v126, v127, v128, v129, v130, v131, v132, v133, v134, v135, v136, v137, v138, v139, v140, .bool true, v142, v143, .bool (pathOkB p), v145, v146, .bool (pathOkB p), .bool true, v149, v2], ?_, _, _, _, _, _, _, _, _, _, _, _, _, _, _, _, _, _, _, _, _, _, _, _, _, _, _, _, _, _, _, _, rfl, hb, k0, k1, k2, k3, k11, k12, k13, k14, k15, k16, k17, k18, k19, k20, (fun _ => rfl), k22, k23, (fun _ => rfl), k25, k26, (fun _ => rfl), (fun _ => by simp), k29, k30⟩
                      simp only [putAll, List.setIfInBounds_toArray, List.set_cons_succ, List.set_cons_zero]
                    · have e21 := k21 (hdep 21 (by kernel_rfl))
                      subst e21
                      have e28 := k28 (hdep 28 (by kernel_rfl))
                      subst e28
                      refine wpOp_step (by simp only [List.getElem?_toArray, List.getElem?_cons_succ, List.getElem?_cons_zero]; rfl) (fun K hK => ?_)
                      go_simp
                      refine hK _ _ ⟨[v120, v121, v122, v123, v124, v125, v126, v127, v128, v129, v130, v131, v132, v133, v134, v135, v136, v137, v138, v139, v140, .bool true, v142, v143, v144, v145, v146, v147, .bool true, .bool true, v2], ?_, _, _, _, _, _, _, _, _, _, _, _, _, _, _, _, _, _, _, _, _, _, _, _, _, _, _, _, _, _, _, _, rfl, hb, k0, k1, k2, k3, k11, k12, k13, k14, k15, k16, k17, k18, k19, k20, (fun _ => rfl), k22, k23, k24, k25, k26, k27, (fun _ => rfl), (fun _ => rfl), k30⟩
                      simp only [putAll, List.setIfInBounds_toArray, List.set_cons_succ, List.set_cons_zero]
                    · have e29 := k29 (hdep 29 (by kernel_rfl))
                      subst e29
                      refine wpOp_step (by simp only [List.getElem?_toArray, List.getElem?_cons_succ, List.getElem?_cons_zero]; rfl) (fun K hK => ?_)
                      go_simp
                      refine hK _ _ ⟨[v120, v121, v122, v123, v124, v125, v126, v127, v128, v129, v130, v131, v132, v133, v134, v135, v136, v137, v138, v139, v140, v141, v142, v143, v144, v145, v146, v147, v148, .bool true, .bool true], ?_, _, _, _, _, _, _, _, _, _, _, _, _, _, _, _, _, _, _, _, _, _, _, _, _, _, _, _, _, _, _, _, rfl, hb, k0, k1, k2, k3, k11, k12, k13, k14, k15, k16, k17, k18, k19, k20, k21, k22, k23, k24, k25, k26, k27, k28, (fun _ => rfl), (fun _ => rfl)⟩
                      simp only [putAll, List.setIfInBounds_toArray, List.set_cons_succ, List.set_cons_zero]
                  · intro D vs w' hD hI
                    obtain ⟨v120, v121, v122, v123, v124, v125, v126, v127, v128, v129, v130, v131, v132, v133, v134, v135, v136, v137, v138, v139, v140, v141, v142, v143, v144, v145, v146, v147, v148, v149, v2, rfl, hb, k0, k1, k2, k3, k11, k12, k13, k14, k15, k16, k17, k18, k19, k20, k21, k22, k23, k24, k25, k26, k27, k28, k29, k30⟩ := hI
                    simp only [putAll, List.setIfInBounds_toArray, List.set_cons_succ, List.set_cons_zero]
                    have e30 := k30 (hD 30 (show 30 < 31 by decide))
                    subst e30
                    go_wp2
                    go_returns
                    exact ⟨rfl, bthen hb11w hb⟩
                · refine wp_region_dagb [120, 121, 122, 123, 124, 125, 126, 127, 128, 129, 130, 131, 132, 133, 134, 135, 136, 137, 138, 139, 140, 141, 142, 143, 144, 145, 146, 147, 148, 149, 2] (by kernel_rfl) (by kernel_rfl) (fun D vs w' => ∃ v120 v121 v122 v123 v124 v125 v126 v127 v128 v129 v130 v131 v132 v133 v134 v135 v136 v137 v138 v139 v140 v141 v142 v143 v144 v145 v146 v147 v148 v149 v2 : Value, vs = [v120, v121, v122, v123, v124, v125, v126, v127, v128, v129, v130, v131, v132, v133, v134, v135, v136, v137, v138, v139, v140, v141, v142, v143, v144, v145, v146, v147, v148, v149, v2] ∧ Below w11.heap.size w11 w' ∧ (D 0 = true → v120 = .slice Am nm cm) ∧ (D 1 = true → v121 = .bool true) ∧ (D 2 = true → v122 = .bool false) ∧ (D 3 = true → v123 = .bool false) ∧ (D 4 = true → v124 = .slice Ay ny cy) ∧ (D 5 = true → v125 = .int .i64 (ny : Int)) ∧ (D 6 = true → v126 = .int .i64 dn) ∧ (D 7 = true → v127 = .int .i64 ((ny : Int) + dn)) ∧ (D 8 = true → v128 = .slice Am nm cm) ∧ (D 9 = true → v129 = .int .i64 (nm : Int)) ∧ (D 10 = true → v130 = .bool true) ∧ (D 11 = true → v131 = .bool true) ∧ (D 12 = true → v132 = .bool true) ∧ (D 13 = true → v133 = .slice Aq nq cq) ∧ (D 14 = true → v134 = .string dir) ∧ (D 15 = true → ∃ (A' : Option Addr) (n' c' : Nat), v135 = .slice A' n' c' ∧ StrsAt w' A' n' (treeList q dir)) ∧ (D 16 = true → v136 = .slice Aq nq cq) ∧ (D 17 = true → v137 = .string dir) ∧ (D 18 = true → ∃ (A' : Option Addr) (n' c' : Nat), v138 = .slice A' n' c' ∧ StrsAt w' A' n' (treeList q dir)) ∧ (D 19 = true → v139 = .bool true) ∧ (D 20 = true → v140 = .bool true) ∧ (D 21 = true → v141 = .bool true) ∧ (D 22 = true → v142 = .pointer (some ⟨gE, 0, none⟩)) ∧ (D 23 = true → v143 = .string p) ∧ (D 24 = true → v144 = .bool (pathOkB p)) ∧ (D 25 = true → v145 = .pointer (some ⟨gE, 0, none⟩)) ∧ (D 26 = true → v146 = .string p) ∧ (D 27 = true → v147 = .bool (pathOkB p)) ∧ (D 28 = true → v148 = .bool true) ∧ (D 29 = true → v149 = .bool true) ∧ (D 30 = true → v2 = .bool true))
                    ⟨_, _, _, _, _, _, _, _, _, _, _, _, _, _, _, _, _, _, _, _, _, _, _, _, _, _, _, _, _, _, _, rfl, (Below.refl _ _).drew, (fun h => by cases h), (fun h => by cases h), (fun h => by cases h), (fun h => by cases h), (fun h => by cases h), (fun h => by cases h), (fun h => by cases h), (fun h => by cases h), (fun h => by cases h), (fun h => by cases h), (fun h => by cases h), (fun h => by cases h), (fun h => by cases h), (fun h => by cases h), (fun h => by cases h), (fun h => by cases h), (fun h => by cases h), (fun h => by cases h), (fun h => by cases h), (fun h => by cases h), (fun h => by cases h), (fun h => by cases h), (fun h => by cases h), (fun h => by cases h), (fun h => by cases h), (fun h => by cases h), (fun h => by cases h), (fun h => by cases h), (fun h => by cases h), (fun h => by cases h), (fun h => by cases h)⟩ ?_ ?_
                  · intro i D vs w' hi hD hdep hcl hI
                    have hi' : i < 31 := hi
                    obtain ⟨v120, v121, v122, v123, v124, v125, v126, v127, v128, v129, v130, v131, v132, v133, v134, v135, v136, v137, v138, v139, v140, v141, v142, v143, v144, v145, v146, v147, v148, v149, v2, rfl, hb, k0, k1, k2, k3, k4, k5, k6, k7, k8, k9, k10, k11, k12, k13, k14, k15, k16, k17, k18, k19, k20, k21, k22, k23, k24, k25, k26, k27, k28, k29, k30⟩ := hI
                    simp only [putAll, List.setIfInBounds_toArray, List.set_cons_succ, List.set_cons_zero]
                    rcases (show i = 0 ∨ i = 1 ∨ i = 2 ∨ i = 3 ∨ i = 4 ∨ i = 5 ∨ i = 6 ∨ i = 7 ∨ i = 8 ∨ i = 9 ∨ i = 10 ∨ i = 11 ∨ i = 12 ∨ i = 13 ∨ i = 14 ∨ i = 15 ∨ i = 16 ∨ i = 17 ∨ i = 18 ∨ i = 19 ∨ i = 20 ∨ i = 21 ∨ i = 22 ∨ i = 23 ∨ i = 24 ∨ i = 25 ∨ i = 26 ∨ i = 27 ∨ i = 28 ∨ i = 29 ∨ i = 30 by omega) with rfl | rfl | rfl | rfl | rfl | rfl | rfl | rfl | rfl | rfl | rfl | rfl | rfl | rfl | rfl | rfl | rfl | rfl | rfl | rfl | rfl | rfl | rfl | rfl | rfl | rfl | rfl | rfl | rfl | rfl | rfl
                    · refine wpOp_step (by simp only [List.getElem?_toArray, List.getElem?_cons_zero]; rfl) (fun K hK => ?_)
                      go_simp
                      refine hK _ _ ⟨[.slice Am nm cm, v121, v122, v123, v124, v125, v126, v127, v128, v129, v130, v131, v132, v133, v134, v135, v136, v137, v138, v139, v140, v141, v142, v143, v144, v145, v146, v147, v148, v149, v2], ?_, _, _, _, _, _, _, _, _, _, _, _, _, _, _, _, _, _, _, _, _, _, _, _, _, _, _, _, _, _, _, _, rfl, hb, (fun _ => rfl), k1, k2, k3, k4, k5, k6, k7, k8, k9, k10, k11, k12, k13, k14, k15, k16, k17, k18, k19, k20, k21, k22, k23, k24, k25, k26, k27, k28, k29, k30⟩
                      simp only [putAll, List.setIfInBounds_toArray, List.set_cons_succ, List.set_cons_zero]
                    · have e0 := k0 (hdep 0 (by kernel_rfl))
                      subst e0
                      refine wpOp_step (by simp only [List.getElem?_toArray, List.getElem?_cons_succ, List.getElem?_cons_zero]; rfl) (fun K hK => ?_)
                      go_simp
                      refine (treeOk_spec _ _ _ m _ (M11.keep hb) (by omega)).mono ?_
                      rintro e w4 ⟨rfl, hb4⟩
                      rw [HOK.out]
                      refine hK _ _ ⟨[.slice Am nm cm, .bool true, v122, v123, v124, v125, v126, v127, v128, v129, v130, v131, v132, v133, v134, v135, v136, v137, v138, v139, v140, v141, v142, v143, v144, v145, v146, v147, v148, v149, v2], ?_, _, _, _, _, _, _, _, _, _, _, _, _, _, _, _, _, _, _, _, _, _, _, _, _, _, _, _, _, _, _, _, rfl, (bthen hb hb4), (fun _ => rfl), (fun _ => rfl), k2, k3, k4, k5, k6, k7, k8, k9, k10, k11, k12, k13, k14, (fun h => by obtain ⟨A9, n9, c9, e9, hs9⟩ := k15 h; exact ⟨A9, n9, c9, e9, hs9.keep hb4⟩), k16, k17, (fun h => by obtain ⟨A9, n9, c9, e9, hs9⟩ := k18 h; exact ⟨A9, n9, c9, e9, hs9.keep hb4⟩), k19, k20, k21, k22, k23, k24, k25, k26, k27, k28, k29, k30⟩
                      simp only [putAll, List.setIfInBounds_toArray, List.set_cons_succ, List.set_cons_zero]
                    · have e1 := k1 (hdep 1 (by kernel_rfl))
                      subst e1
                      refine wpOp_step (by simp only [List.getElem?_toArray, List.getElem?_cons_succ, List.getElem?_cons_zero]; rfl) (fun K hK => ?_)
                      go_simp
                      refine hK _ _ ⟨[v120, .bool true, .bool false, v123, v124, v125, v126, v127, v128, v129, v130, v131, v132, v133, v134, v135, v136, v137, v138, v139, v140, v141, v142, v143, v144, v145, v146, v147, v148, v149, v2], ?_, _, _, _, _, _, _, _, _, _, _, _, _, _, _, _, _, _, _, _, _, _, _, _, _, _, _, _, _, _, _, _, rfl, hb, k0, (fun _ => rfl), (fun _ => rfl), k3, k4, k5, k6, k7, k8, k9, k10, k11, k12, k13, k14, k15, k16, k17, k18, k19, k20, k21, k22, k23, k24, k25, k26, k27, k28, k29, k30⟩
                      simp only [putAll, List.setIfInBounds_toArray, List.set_cons_succ, List.set_cons_zero]
                    · have e2 := k2 (hdep 2 (by kernel_rfl))
                      subst e2
                      refine wpOp_step (by simp only [List.getElem?_toArray, List.getElem?_cons_succ, List.getElem?_cons_zero]; rfl) (fun K hK => ?_)
                      go_simp
                      refine hK _ _ ⟨[v120, v121, .bool false, .bool false, v124, v125, v126, v127, v128, v129, v130, v131, v132, v133, v134, v135, v136, v137, v138, v139, v140, v141, v142, v143, v144, v145, v146, v147, v148, v149, v2], ?_, _, _, _, _, _, _, _, _, _, _, _, _, _, _, _, _, _, _, _, _, _, _, _, _, _, _, _, _, _, _, _, rfl, hb, k0, k1, (fun _ => rfl), (fun _ => rfl), k4, k5, k6, k7, k8, k9, k10, k11, k12, k13, k14, k15, k16, k17, k18, k19, k20, k21, k22, k23, k24, k25, k26, k27, k28, k29, k30⟩
                      simp only [putAll, List.setIfInBounds_toArray, List.set_cons_succ, List.set_cons_zero]
                    · have e3 := k3 (hdep 3 (by kernel_rfl))
                      subst e3
                      refine wpOp_step (by simp only [List.getElem?_toArray, List.getElem?_cons_succ, List.getElem?_cons_zero]; rfl) (fun K hK => ?_)
                      go_simp
                      refine hK _ _ ⟨[v120, v121, v122, .bool false, .slice Ay ny cy, v125, v126, v127, v128, v129, v130, v131, v132, v133, v134, v135, v136, v137, v138, v139, v140, v141, v142, v143, v144, v145, v146, v147, v148, v149, v2], ?_, _, _, _, _, _, _, _, _, _, _, _, _, _, _, _, _, _, _, _, _, _, _, _, _, _, _, _, _, _, _, _, rfl, hb, k0, k1, k2, (fun _ => rfl), (fun _ => rfl), k5, k6, k7, k8, k9, k10, k11, k12, k13, k14, k15, k16, k17, k18, k19, k20, k21, k22, k23, k24, k25, k26, k27, k28, k29, k30⟩
                      simp only [putAll, List.setIfInBounds_toArray, List.set_cons_succ, List.set_cons_zero]
                    · have e3 := k3 (hdep 3 (by kernel_rfl))
                      subst e3
                      have e4 := k4 (hdep 4 (by kernel_rfl))
                      subst e4
                      refine wpOp_step (by simp only [List.getElem?_toArray, List.getElem?_cons_succ, List.getElem?_cons_zero]; rfl) (fun K hK => ?_)
                      go_simp
                      refine hK _ _ ⟨[v120, v121, v122, .bool false, .slice Ay ny cy, .int .i64 (ny : Int), v126, v127, v128, v129, v130, v131, v132, v133, v134, v135, v136, v137, v138, v139, v140, v141, v142, v143, v144, v145, v146, v147, v148, v149, v2], ?_, _, _, _, _, _, _, _, _, _, _, _, _, _, _, _, _, _, _, _, _, _, _, _, _, _, _, _, _, _, _, _, rfl, hb, k0, k1, k2, (fun _ => rfl), (fun _ => rfl), (fun _ => rfl), k6, k7, k8, k9, k10, k11, k12, k13, k14, k15, k16, k17, k18, k19, k20, k21, k22, k23, k24, k25, k26, k27, k28, k29, k30⟩
                      simp only [putAll, List.setIfInBounds_toArray, List.set_cons_succ, List.set_cons_zero]
                    · have e3 := k3 (hdep 3 (by kernel_rfl))
                      subst e3
                      refine wpOp_step (by simp only [List.getElem?_toArray, List.getElem?_cons_succ, List.getElem?_cons_zero]; rfl) (fun K hK => ?_)
                      go_simp
                      refine hK _ _ ⟨[v120, v121, v122, .bool false, v124, v125, .int .i64 dn, v127, v128, v129, v130, v131, v132, v133, v134, v135, v136, v137, v138, v139, v140, v141, v142, v143, v144, v145, v146, v147, v148, v149, v2], ?_, _, _, _, _, _, _, _, _, _, _, _, _, _, _, _, _, _, _, _, _, _, _, _, _, _, _, _, _, _, _, _, rfl, hb, k0, k1, k2, (fun _ => rfl), k4, k5, (fun _ => rfl), k7, k8, k9, k10, k11, k12, k13, k14, k15, k16, k17, k18, k19, k20, k21, k22, k23, k24, k25, k26, k27, k28, k29, k30⟩
                      simp only [putAll, List.setIfInBounds_toArray, List.set_cons_succ, List.set_cons_zero]
                    · have e3 := k3 (hdep 3 (by kernel_rfl))
                      subst e3
                      have e5 := k5 (hdep 5 (by kernel_rfl))
                      subst e5
                      have e6 := k6 (hdep 6 (by kernel_rfl))
                      subst e6
                      have hw : IntKind.i64.wrap ((ny : Int) + dn) = ny + dn := by rw [IntKind.wrap_i64]; omega
                      refine wpOp_step (by simp only [List.getElem?_toArray, List.getElem?_cons_succ, List.getElem?_cons_zero]; rfl) (fun K hK => ?_)
                      go_simp
                      refine hK _ _ ⟨[v120, v121, v122, .bool false, v124, .int .i64 (ny : Int), .int .i64 dn, .int .i64 ((ny : Int) + dn), v128, v129, v130, v131, v132, v133, v134, v135, v136, v137, v138, v139, v140, v141, v142, v143, v144, v145, v146, v147, v148, v149, v2], ?_, _, _, _, _, _, _, _, _, _, _, _, _, _, _, _, _, _, _, _, _, _, _, _, _, _, _, _, _, _, _, _, rfl, hb, k0, k1, k2, (fun _ => rfl), k4, (fun _ => rfl), (fun _ => rfl), (fun _ => rfl), k8, k9, k10, k11, k12, k13, k14, k15, k16, k17, k18, k19, k20, k21, k22, k23, k24, k25, k26, k27, k28, k29, k30⟩
                      simp only [putAll, List.setIfInBounds_toArray, List.set_cons_succ, List.set_cons_zero]
                    · have e3 := k3 (hdep 3 (by kernel_rfl))
                      subst e3
                      refine wpOp_step (by simp only [List.getElem?_toArray, List.getElem?_cons_succ, List.getElem?_cons_zero]; rfl) (fun K hK => ?_)
                      go_simp
                      refine hK _ _ ⟨[v120, v121, v122, .bool false, v124, v125, v126, v127, .slice Am nm cm, v129, v130, v131, v132, v133, v134, v135, v136, v137, v138, v139, v140, v141, v142, v143, v144, v145, v146, v147, v148, v149, v2], ?_, _, _, _, _, _, _, _, _, _, _, _, _, _, _, _, _, _, _, _, _, _, _, _, _, _, _, _, _, _, _, _, rfl, hb, k0, k1, k2, (fun _ => rfl), k4, k5, k6, k7, (fun _ => rfl), k9, k10, k11, k12, k13, k14, k15, k16, k17, k18, k19, k20, k21, k22, k23, k24, k25, k26, k27, k28, k29, k30⟩
                      simp only [putAll, List.setIfInBounds_toArray, List.set_cons_succ, List.set_cons_zero]
                    · have e3 := k3 (hdep 3 (by kernel_rfl))
                      subst e3
                      have e8 := k8 (hdep 8 (by kernel_rfl))
                      subst e8
                      refine wpOp_step (by simp only [List.getElem?_toArray, List.getElem?_cons_succ, List.getElem?_cons_zero]; rfl) (fun K hK => ?_)
                      go_simp
                      refine hK _ _ ⟨[v120, v121, v122, .bool false, v124, v125, v126, v127, .slice Am nm cm, .int .i64 (nm : Int), v130, v131, v132, v133, v134, v135, v136, v137, v138, v139, v140, v141, v142, v143, v144, v145, v146, v147, v148, v149, v2], ?_, _, _, _, _, _, _, _, _, _, _, _, _, _, _, _, _, _, _, _, _, _, _, _, _, _, _, _, _, _, _, _, rfl, hb, k0, k1, k2, (fun _ => rfl), k4, k5, k6, k7, (fun _ => rfl), (fun _ => rfl), k10, k11, k12, k13, k14, k15, k16, k17, k18, k19, k20, k21, k22, k23, k24, k25, k26, k27, k28, k29, k30⟩
                      simp only [putAll, List.setIfInBounds_toArray, List.set_cons_succ, List.set_cons_zero]
                    · have e3 := k3 (hdep 3 (by kernel_rfl))
                      subst e3
                      have e7 := k7 (hdep 7 (by kernel_rfl))
                      subst e7
                      have e9 := k9 (hdep 9 (by kernel_rfl))
                      subst e9
                      have hdd := HD.out HOK.out
                      refine wpOp_step (by simp only [List.getElem?_toArray, List.getElem?_cons_succ, List.getElem?_cons_zero]; rfl) (fun K hK => ?_)
                      go_simp
                      refine hK _ _ ⟨[v120, v121, v122, .bool false, v124, v125, v126, .int .i64 ((ny : Int) + dn), v128, .int .i64 (nm : Int), .bool true, v131, v132, v133, v134, v135, v136, v137, v138, v139, v140, v141, v142, v143, v144, v145, v146, v147, v148, v149, v2], ?_, _, _, _, _, _, _, _, _, _, _, _, _, _, _, _, _, _, _, _, _, _, _, _, _, _, _, _, _, _, _, _, rfl, hb, k0, k1, k2, (fun _ => rfl), k4, k5, k6, (fun _ => rfl), k8, (fun _ => rfl), (fun _ => rfl), k11, k12, k13, k14, k15, k16, k17, k18, k19, k20, k21, k22, k23, k24, k25, k26, k27, k28, k29, k30⟩
                      simp only [putAll, List.setIfInBounds_toArray, List.set_cons_succ, List.set_cons_zero]
                    · have e3 := k3 (hdep 3 (by kernel_rfl))
                      subst e3
                      have e10 := k10 (hdep 10 (by kernel_rfl))
                      subst e10
                      refine wpOp_step (by simp only [List.getElem?_toArray, List.getElem?_cons_succ, List.getElem?_cons_zero]; rfl) (fun K hK => ?_)
                      go_simp
                      refine hK _ _ ⟨[v120, v121, v122, .bool false, v124, v125, v126, v127, v128, v129, .bool true, .bool true, v132, v133, v134, v135, v136, v137, v138, v139, v140, v141, v142, v143, v144, v145, v146, v147, v148, v149, v2], ?_, _, _, _, _, _, _, _, _, _, _, _, _, _, _, _, _, _, _, _, _, _, _, _, _, _, _, _, _, _, _, _, rfl, hb, k0, k1, k2, (fun _ => rfl), k4, k5, k6, k7, k8, k9, (fun _ => rfl), (fun _ => rfl), k12, k13, k14, k15, k16, k17, k18, k19, k20, k21, k22, k23, k24, k25, k26, k27, k28, k29, k30⟩
                      simp only [putAll, List.setIfInBounds_toArray, List.set_cons_succ, List.set_cons_zero]
                    · have e11 := k11 (hdep 11 (by kernel_rfl))
                      subst e11
                      refine wpOp_step (by simp only [List.getElem?_toArray, List.getElem?_cons_succ, List.getElem?_cons_zero]; rfl) (fun K hK => ?_)
                      go_simp
                      refine hK _ _ ⟨[v120, v121, v122, v123, v124, v125, v126, v127, v128, v129, v130, .bool true, .bool true, v133, v134, v135, v136, v137, v138, v139, v140, v141, v142, v143, v144, v145, v146, v147, v148, v149, v2], ?_, _, _, _, _, _, _, _, _, _, _, _, _, _, _, _, _, _, _, _, _, _, _, _, _, _, _, _, _, _, _, _, rfl, hb, k0, k1, k2, k3, k4, k5, k6, k7, k8, k9, k10, (fun _ => rfl), (fun _ => rfl), k13, k14, k15, k16, k17, k18, k19, k20, k21, k22, k23, k24, k25, k26, k27, k28, k29, k30⟩
                      simp only [putAll, List.setIfInBounds_toArray, List.set_cons_succ, List.set_cons_zero]
                    · have e12 := k12 (hdep 12 (by kernel_rfl))
                      subst e12
                      refine wpOp_step (by simp only [List.getElem?_toArray, List.getElem?_cons_succ, List.getElem?_cons_zero]; rfl) (fun K hK => ?_)
                      go_simp
                      refine hK _ _ ⟨[v120, v121, v122, v123, v124, v125, v126, v127, v128, v129, v130, v131, .bool true, .slice Aq nq cq, v134, v135, v136, v137, v138, v139, v140, v141, v142, v143, v144, v145, v146, v147, v148, v149, v2], ?_, _, _, _, _, _, _, _, _, _, _, _, _, _, _, _, _, _, _, _, _, _, _, _, _, _, _, _, _, _, _, _, rfl, hb, k0, k1, k2, k3, k4, k5, k6, k7, k8, k9, k10, k11, (fun _ => rfl), (fun _ => rfl), k14, k15, k16, k17, k18, k19, k20, k21, k22, k23, k24, k25, k26, k27, k28, k29, k30⟩
                      simp only [putAll, List.setIfInBounds_toArray, List.set_cons_succ, List.set_cons_zero]
                    · have e12 := k12 (hdep 12 (by kernel_rfl))
                      subst e12
                      refine wpOp_step (by simp only [List.getElem?_toArray, List.getElem?_cons_succ, List.getElem?_cons_zero]; rfl) (fun K hK => ?_)
                      go_simp
                      refine hK _ _ ⟨[v120, v121, v122, v123, v124, v125, v126, v127, v128, v129, v130, v131, .bool true, v133, .string dir, v135, v136, v137, v138, v139, v140, v141, v142, v143, v144, v145, v146, v147, v148, v149, v2], ?_, _, _, _, _, _, _, _, _, _, _, _, _, _, _, _, _, _, _, _, _, _, _, _, _, _, _, _, _, _, _, _, rfl, hb, k0, k1, k2, k3, k4, k5, k6, k7, k8, k9, k10, k11, (fun _ => rfl), k13, (fun _ => rfl), k15, k16, k17, k18, k19, k20, k21, k22, k23, k24, k25, k26, k27, k28, k29, k30⟩
                      simp only [putAll, List.setIfInBounds_toArray, List.set_cons_succ, List.set_cons_zero]
                    · have e12 := k12 (hdep 12 (by kernel_rfl))
                      subst e12
                      have e13 := k13 (hdep 13 (by kernel_rfl))
                      subst e13
                      have e14 := k14 (hdep 14 (by kernel_rfl))
                      subst e14
                      refine wpOp_step (by simp only [List.getElem?_toArray, List.getElem?_cons_succ, List.getElem?_cons_zero]; rfl) (fun K hK => ?_)
                      go_simp
                      refine (treeList_impl _ _ _ q dir _ (Q11.keep hb) (by omega) (by omega)).mono ?_
                      rintro e w4 ⟨A4, n4, c4, rfl, hs4, hb4⟩
                      refine hK _ _ ⟨[v120, v121, v122, v123, v124, v125, v126, v127, v128, v129, v130, v131, .bool true, .slice Aq nq cq, .string dir, .slice A4 n4 c4, v136, v137, v138, v139, v140, v141, v142, v143, v144, v145, v146, v147, v148, v149, v2], ?_, _, _, _, _, _, _, _, _, _, _, _, _, _, _, _, _, _, _, _, _, _, _, _, _, _, _, _, _, _, _, _, rfl, (bthen hb hb4), k0, k1, k2, k3, k4, k5, k6, k7, k8, k9, k10, k11, (fun _ => rfl), (fun _ => rfl), (fun _ => rfl), (fun _ => ⟨A4, n4, c4, rfl, hs4.at_⟩), k16, k17, (fun h => by obtain ⟨A9, n9, c9, e9, hs9⟩ := k18 h; exact ⟨A9, n9, c9, e9, hs9.keep hb4⟩), k19, k20, k21, k22, k23, k24, k25, k26, k27, k28, k29, k30⟩
                      simp only [putAll, List.setIfInBounds_toArray, List.set_cons_succ, List.set_cons_zero]
                    · have e12 := k12 (hdep 12 (by kernel_rfl))
                      subst e12
                      refine wpOp_step (by simp only [List.getElem?_toArray, List.getElem?_cons_succ, List.getElem?_cons_zero]; rfl) (fun K hK => ?_)
                      go_simp
                      refine hK _ _ ⟨[v120, v121, v122, v123, v124, v125, v126, v127, v128, v129, v130, v131, .bool true, v133, v134, v135, .slice Aq nq cq, v137, v138, v139, v140, v141, v142, v143, v144, v145, v146, v147, v148, v149, v2], ?_, _, _, _, _, _, _, _, _, _, _, _, _, _, _, _, _, _, _, _, _, _, _, _, _, _, _, _, _, _, _, _, rfl, hb, k0, k1, k2, k3, k4, k5, k6, k7, k8, k9, k10, k11, (fun _ => rfl), k13, k14, k15, (fun _ => rfl), k17, k18, k19, k20, k21, k22, k23, k24, k25, k26, k27, k28, k29, k30⟩
                      simp only [putAll, List.setIfInBounds_toArray, List.set_cons_succ, List.set_cons_zero]
                    · have e12 := k12 (hdep 12 (by kernel_rfl))
                      subst e12
                      refine wpOp_step (by simp only [List.getElem?_toArray, List.getElem?_cons_succ, List.getElem?_cons_zero]; rfl) (fun K hK => ?_)
                      go_simp
                      refine hK _ _ ⟨[v120, v121, v122, v123, v124, v125, v126, v127, v128, v129, v130, v131, .bool true, v133, v134, v135, v136, .string dir, v138, v139, v140, v141, v142, v143, v144, v145, v146, v147, v148, v149, v2], ?_, _, _, _, _, _, _, _, _, _, _, _, _, _, _, _, _, _, _, _, _, _, _, _, _, _, _, _, _, _, _, _, rfl, hb, k0, k1, k2, k3, k4, k5, k6, k7, k8, k9, k10, k11, (fun _ => rfl), k13, k14, k15, k16, (fun _ => rfl), k18, k19, k20, k21, k22, k23, k24, k25, k26, k27, k28, k29, k30⟩
                      simp only [putAll, List.setIfInBounds_toArray, List.set_cons_succ, List.set_cons_zero]
                    · have e12 := k12 (hdep 12 (by kernel_rfl))
                      subst e12
                      have e16 := k16 (hdep 16 (by kernel_rfl))
                      subst e16
                      have e17 := k17 (hdep 17 (by kernel_rfl))
                      subst e17
                      refine wpOp_step (by simp only [List.getElem?_toArray, List.getElem?_cons_succ, List.getElem?_cons_zero]; rfl) (fun K hK => ?_)
                      go_simp
                      refine (treeList_spec _ _ _ q dir _ (Q11.keep hb) (by omega) (by omega)).mono ?_
                      rintro e w4 ⟨A4, n4, c4, rfl, hs4, hb4⟩
                      refine hK _ _ ⟨[v120, v121, v122, v123, v124, v125, v126, v127, v128, v129, v130, v131, .bool true, v133, v134, v135, .slice Aq nq cq, .string dir, .slice A4 n4 c4, v139, v140, v141, v142, v143, v144, v145, v146, v147, v148, v149, v2], ?_, _, _, _, _, _, _, _, _, _, _, _, _, _, _, _, _, _, _, _, _, _, _, _, _, _, _, _, _, _, _, _, rfl, (bthen hb hb4), k0, k1, k2, k3, k4, k5, k6, k7, k8, k9, k10, k11, (fun _ => rfl), k13, k14, (fun h => by obtain ⟨A9, n9, c9, e9, hs9⟩ := k15 h; exact ⟨A9, n9, c9, e9, hs9.keep hb4⟩), (fun _ => rfl), (fun _ => rfl), (fun _ => ⟨A4, n4, c4, rfl, hs4.at_⟩), k19, k20, k21, k22, k23, k24, k25, k26, k27, k28, k29, k30⟩
                      simp only [putAll, List.setIfInBounds_toArray, List.set_cons_succ, List.set_cons_zero]
                    · have e12 := k12 (hdep 12 (by kernel_rfl))
                      subst e12
                      obtain ⟨A5, n5, c5, rfl, hs5⟩ := k15 (hdep 15 (by kernel_rfl))
                      obtain ⟨A8, n8, c8, rfl, hs8⟩ := k18 (hdep 18 (by kernel_rfl))
                      refine wpOp_step (by simp only [List.getElem?_toArray, List.getElem?_cons_succ, List.getElem?_cons_zero]; rfl) (fun K hK => ?_)
                      go_simp
                      refine (sameTexts_yes _ _ _ _ _ _ (treeList q dir) _ hs5 hs8 (strs_n hs5 hts)).mono ?_
                      rintro e w4 ⟨rfl, hb4⟩
                      refine hK _ _ ⟨[v120, v121, v122, v123, v124, v125, v126, v127, v128, v129, v130, v131, .bool true, v133, v134, .slice A5 n5 c5, v136, v137, .slice A8 n8 c8, .bool true, v140, v141, v142, v143, v144, v145, v146, v147, v148, v149, v2], ?_, _, _, _, _, _, _, _, _, _, _, _, _, _, _, _, _, _, _, _, _, _, _, _, _, _, _, _, _, _, _, _, rfl, (bthen hb hb4), k0, k1, k2, k3, k4, k5, k6, k7, k8, k9, k10, k11, (fun _ => rfl), k13, k14, (fun _ => ⟨A5, n5, c5, rfl, hs5.keep hb4⟩), k16, k17, (fun _ => ⟨A8, n8, c8, rfl, hs8.keep hb4⟩), (fun _ => rfl), k20, k21, k22, k23, k24, k25, k26, k27, k28, k29, k30⟩
                      simp only [putAll, List.setIfInBounds_toArray, List.set_cons_succ, List.set_cons_zero]
                    · have e12 := k12 (hdep 12 (by kernel_rfl))
                      subst e12
                      have e19 := k19 (hdep 19 (by kernel_rfl))
                      subst e19
                      refine wpOp_step (by simp only [List.getElem?_toArray, List.getElem?_cons_succ, List.getElem?_cons_zero]; rfl) (fun K hK => ?_)
                      go_simp
                      refine hK _ _ ⟨[v120, v121, v122, v123, v124, v125, v126, v127, v128, v129, v130, v131, .bool true, v133, v134, v135, v136, v137, v138, .bool true, .bool true, v141, v142, v143, v144, v145, v146, v147, v148, v149, v2], ?_, _, _, _, _, _, _, _, _, _, _, _, _, _, _, _, _, _, _, _, _, _, _, _, _, _, _, _, _, _, _, _, rfl, hb, k0, k1, k2, k3, k4, k5, k6, k7, k8, k9, k10, k11, (fun _ => rfl), k13, k14, k15, k16, k17, k18, (fun _ => rfl), (fun _ => rfl), k21, k22, k23, k24, k25, k26, k27, k28, k29, k30⟩
                      simp only [putAll, List.setIfInBounds_toArray, List.set_cons_succ, List.set_cons_zero]
                    · have e20 := k20 (hdep 20 (by kernel_rfl))
                      subst e20
                      refine wpOp_step (by simp only [List.getElem?_toArray, List.getElem?_cons_succ, List.getElem?_cons_zero]; rfl) (fun K hK => ?_)
                      go_simp
                      refine hK _ _ ⟨[v120, v121, v122, v123, v124, v125, v126, v127, v128, v129, v130, v131, v132, v133, v134, v135, v136, v137, v138, v139, .bool true, .bool true, v142, v143, v144, v145, v146, v147, v148, v149, v2], ?_, _, _, _, _, _, _, _, _, _, _, _, _, _, _, _, _, _, _, _, _, _, _, _, _, _, _, _, _, _, _, _, rfl, hb, k0, k1, k2, k3, k4, k5, k6, k7, k8, k9, k10, k11, k12, k13, k14, k15, k16, k17, k18, k19, (fun _ => rfl), (fun _ => rfl), k22, k23, k24, k25, k26, k27, k28, k29, k30⟩
                      simp only [putAll, List.setIfInBounds_toArray, List.set_cons_succ, List.set_cons_zero]
                    · have e21 := k21 (hdep 21 (by kernel_rfl))
                      subst e21
                      refine wpOp_step (by simp only [List.getElem?_toArray, List.getElem?_cons_succ, List.getElem?_cons_zero]; rfl) (fun K hK => ?_)
                      go_simp
                      refine hK _ _ ⟨[v120, v121, v122, v123, v124, v125, v126, v127, v128, v129, v130, v131, v132, v133, v134, v135, v136, v137, v138, v139, v140, .bool true, .pointer (some ⟨gE, 0, none⟩), v143, v144, v145, v146, v147, v148, v149, v2], ?_, _, _, _, _, _, _, _, _, _, _, _, _, _, _, _, _, _, _, _, _, _, _, _, _, _, _, _, _, _, _, _, rfl, hb, k0, k1, k2, k3, k4, k5, k6, k7, k8, k9, k10, k11, k12, k13, k14, k15, k16, k17, k18, k19, k20, (fun _ => rfl), (fun _ => rfl), k23, k24, k25, k26, k27, k28, k29, k30⟩
                      simp only [putAll, List.setIfInBounds_toArray, List.set_cons_succ, List.set_cons_zero]
                    · have e21 := k21 (hdep 21 (by kernel_rfl))
                      subst e21
                      have e22 := k22 (hdep 22 (by kernel_rfl))
                      subst e22
                      have fc := keep_cell hb f0
                      refine wpOp_step (by simp only [List.getElem?_toArray, List.getElem?_cons_succ, List.getElem?_cons_zero]; rfl) (fun K hK => ?_)
                      go_simp
                      refine hK _ _ ⟨[v120, v121, v122, v123, v124, v125, v126, v127, v128, v129, v130, v131, v132, v133, v134, v135, v136, v137, v138, v139, v140, .bool true, .pointer (some ⟨gE, 0, none⟩), .string p, v144, v145, v146, v147, v148, v149, v2], ?_, _, _, _, _, _, _, _, _, _, _, _, _, _, _, _, _, _, _, _, _, _, _, _, _, _, _, _, _, _, _, _, rfl, hb, k0, k1, k2, k3, k4, k5, k6, k7, k8, k9, k10, k11, k12, k13, k14, k15, k16, k17, k18, k19, k20, (fun _ => rfl), (fun _ => rfl), (fun _ => rfl), k24, k25, k26, k27, k28, k29, k30⟩
                      simp only [putAll, List.setIfInBounds_toArray, List.set_cons_succ, List.set_cons_zero]
                    · have e21 := k21 (hdep 21 (by kernel_rfl))
                      subst e21
                      have e23 := k23 (hdep 23 (by kernel_rfl))
                      subst e23
                      refine wpOp_step (by simp only [List.getElem?_toArray, List.getElem?_cons_succ, List.getElem?_cons_zero]; rfl) (fun K hK => ?_)
                      go_simp
                      refine (pathOk_impl _ _ (by omega)).mono ?_
                      rintro e w4 ⟨rfl, hb4⟩
                      refine hK _ _ ⟨[v120, v121, v122, v123, v124, v125, v126, v127, v128, v129, v130, v131, v132, v133, v134, v135, v136, v137, v138, v139, v140, .bool true, v142, .string p, .bool (pathOkB p), v145, v146, v147, v148, v149, v2], ?_, _, _, _, _, _, _, _, _, _, _, _, _, _, _, _, _, _, _, _, _, _, _, _, _, _, _, _, _, _, _, _, rfl, (bthen hb hb4), k0, k1, k2, k3, k4, k5, k6, k7, k8, k9, k10, k11, k12, k13, k14, (fun h => by obtain ⟨A9, n9, c9, e9, hs9⟩ := k15 h; exact ⟨A9, n9, c9, e9, hs9.keep hb4⟩), k16, k17, (fun h => by obtain ⟨A9, n9, c9, e9, hs9⟩ := k18 h; exact ⟨A9, n9, c9, e9, hs9.keep hb4⟩), k19, k20, (fun _ => rfl), k22, (fun _ => rfl), (fun _ => rfl), k25, k26, k27, k28, k29, k30⟩
                      simp only [putAll, List.setIfInBounds_toArray, List.set_cons_succ, List.set_cons_zero]
                    · have e21 := k21 (hdep 21 (by kernel_rfl))
                      subst e21
                      refine wpOp_step (by simp only [List.getElem?_toArray, List.getElem?_cons_succ, List.getElem?_cons_zero]; rfl) (fun K hK => ?_)
                      go_simp
                      refine hK _ _ ⟨[v120, v121, v122, v123, v124, v125, v126, v127, v128, v129, v130, v131, v132, v133, v134, v135, v136, v137, v138, v139, v140, .bool true, v142, v143, v144, .pointer (some ⟨gE, 0, none⟩), v146, v147, v148, v149, v2], ?_, _, _, _, _, _, _, _, _, _, _, _, _, _, _, _, _, _, _, _, _, _, _, _, _, _, _, _, _, _, _, _, rfl, hb, k0, k1, k2, k3, k4, k5, k6, k7, k8, k9, k10, k11, k12, k13, k14, k15, k16, k17, k18, k19, k20, (fun _ => rfl), k22, k23, k24, (fun _ => rfl), k26, k27, k28, k29, k30⟩
                      simp only [putAll, List.setIfInBounds_toArray, List.set_cons_succ, List.set_cons_zero]
                    · have e21 := k21 (hdep 21 (by kernel_rfl))
                      subst e21
                      have e25 := k25 (hdep 25 (by kernel_rfl))
                      subst e25
                      have fc := keep_cell hb f0
                      refine wpOp_step (by simp only [List.getElem?_toArray, List.getElem?_cons_succ, List.getElem?_cons_zero]; rfl) (fun K hK => ?_)
                      go_simp
                      refine hK _ _ ⟨[v120, v121, v122, v123, v124, v125, v126, v127, v128, v129, v130, v131, v132, v133, v134, v135, v136, v137, v138, v139, v140, .bool true, v142, v143, v144, .pointer (some ⟨gE, 0, none⟩), .string p, v147, v148, v149, v2], ?_, _, _, _, _, _, _, _, _, _, _, _, _, _, _, _, _, _, _, _, _, _, _, _, _, _, _, _, _, _, _, _, rfl, hb, k0, k1, k2, k3, k4, k5, k6, k7, k8, k9, k10, k11, k12, k13, k14, k15, k16, k17, k18, k19, k20, (fun _ => rfl), k22, k23, k24, (fun _ => rfl), (fun _ => rfl), k27, k28, k29, k30⟩
                      simp only [putAll, List.setIfInBounds_toArray, List.set_cons_succ, List.set_cons_zero]
                    · have e21 := k21 (hdep 21 (by kernel_rfl))
                      subst e21
                      have e26 := k26 (hdep 26 (by kernel_rfl))
                      subst e26
                      refine wpOp_step (by simp only [List.getElem?_toArray, List.getElem?_cons_succ, List.getElem?_cons_zero]; rfl) (fun K hK => ?_)
                      go_simp
                      refine (pathOk_spec _ _ (by omega)).mono ?_
                      rintro e w4 ⟨rfl, hb4⟩
                      refine hK _ _ ⟨[v120, v121, v122, v123, v124, v125, v126, v127, v128, v129, v130, v131, v132, v133, v134, v135, v136, v137, v138, v139, v140, .bool true, v142, v143, v144, v145, .string p, .bool (pathOkB p), v148, v149, v2], ?_, _, _, _, _, _, _, _, _, _, _, _, _, _, _, _, _, _, _, _, _, _, _, _, _, _, _, _, _, _, _, _, rfl, (bthen hb hb4), k0, k1, k2, k3, k4, k5, k6, k7, k8, k9, k10, k11, k12, k13, k14, (fun h => by obtain ⟨A9, n9, c9, e9, hs9⟩ := k15 h; exact ⟨A9, n9, c9, e9, hs9.keep hb4⟩), k16, k17, (fun h => by obtain ⟨A9, n9, c9, e9, hs9⟩ := k18 h; exact ⟨A9, n9, c9, e9, hs9.keep hb4⟩), k19, k20, (fun _ => rfl), k22, k23, k24, k25, (fun _ => rfl), (fun _ => rfl), k28, k29, k30⟩
                      simp only [putAll, List.setIfInBounds_toArray, List.set_cons_succ, List.set_cons_zero]
                    · have e21 := k21 (hdep 21 (by kernel_rfl))
                      subst e21
                      have e24 := k24 (hdep 24 (by kernel_rfl))
                      subst e24
                      have e27 := k27 (hdep 27 (by kernel_rfl))
                      subst e27
                      refine wpOp_step (by simp only [List.getElem?_toArray, List.getElem?_cons_succ, List.getElem?_cons_zero]; rfl) (fun K hK => ?_)
                      go_simp
                      refine hK _ _ ⟨[v120, v121, v122, v123, v124, v125, v126, v127, v128, v129, v130, v131, v132, v133, v134, v135, v136, v137, v138, v139, v140, .bool true, v142, v143, .bool (pathOkB p), v145, v146, .bool (pathOkB p), .bool true, v149, v2], ?_, _, _, _, _, _, _, _, _, _, _, _, _, _, _, _, _, _, _, _, _, _, _, _, _, _, _, _, _, _, _, _, rfl, hb, k0, k1, k2, k3, k4, k5, k6, k7, k8, k9, k10, k11, k12, k13, k14, k15, k16, k17, k18, k19, k20, (fun _ => rfl), k22, k23, (fun _ => rfl), k25, k26, (fun _ => rfl), (fun _ => by simp), k29, k30⟩
                      simp only [putAll, List.setIfInBounds_toArray, List.set_cons_succ, List.set_cons_zero]
                    · have e21 := k21 (hdep 21 (by kernel_rfl))
                      subst e21
                      have e28 := k28 (hdep 28 (by kernel_rfl))
                      subst e28
                      refine wpOp_step (by simp only [List.getElem?_toArray, List.getElem?_cons_succ, List.getElem?_cons_zero]; rfl) (fun K hK => ?_)
                      go_simp
                      refine hK _ _ ⟨[v120, v121, v122, v123, v124, v125, v126, v127, v128, v129, v130, v131, v132, v133, v134, v135, v136, v137, v138, v139, v140, .bool true, v142, v143, v144, v145, v146, v147, .bool true, .bool true, v2], ?_, _, _, _, _, _, _, _, _, _, _, _, _, _, _, _, _, _, _, _, _, _, _, _, _, _, _, _, _, _, _, _, rfl, hb, k0, k1, k2, k3, k4, k5, k6, k7, k8, k9, k10, k11, k12, k13, k14, k15, k16, k17, k18, k19, k20, (fun _ => rfl), k22, k23, k24, k25, k26, k27, (fun _ => rfl), (fun _ => rfl), k30⟩
                      simp only [putAll, List.setIfInBounds_toArray, List.set_cons_succ, List.set_cons_zero]
                    · have e29 := k29 (hdep 29 (by kernel_rfl))
                      subst e29
                      refine wpOp_step (by simp only [List.getElem?_toArray, List.getElem?_cons_succ, List.getElem?_cons_zero]; rfl) (fun K hK => ?_)
                      go_simp
                      refine hK _ _ ⟨[v120, v121, v122, v123, v124, v125, v126, v127, v128, v129, v130, v131, v132, v133, v134, v135, v136, v137, v138, v139, v140, v141, v142, v143, v144, v145, v146, v147, v148, .bool true, .bool true], ?_, _, _, _, _, _, _, _, _, _, _, _, _, _, _, _, _, _, _, _, _, _, _, _, _, _, _, _, _, _, _, _, rfl, hb, k0, k1, k2, k3, k4, k5, k6, k7, k8, k9, k10, k11, k12, k13, k14, k15, k16, k17, k18, k19, k20, k21, k22, k23, k24, k25, k26, k27, k28, (fun _ => rfl), (fun _ => rfl)⟩
                      simp only [putAll, List.setIfInBounds_toArray, List.set_cons_succ, List.set_cons_zero]
                  · intro D vs w' hD hI
                    obtain ⟨v120, v121, v122, v123, v124, v125, v126, v127, v128, v129, v130, v131, v132, v133, v134, v135, v136, v137, v138, v139, v140, v141, v142, v143, v144, v145, v146, v147, v148, v149, v2, rfl, hb, k0, k1, k2, k3, k4, k5, k6, k7, k8, k9, k10, k11, k12, k13, k14, k15, k16, k17, k18, k19, k20, k21, k22, k23, k24, k25, k26, k27, k28, k29, k30⟩ := hI
                    simp only [putAll, List.setIfInBounds_toArray, List.set_cons_succ, List.set_cons_zero]
                    have e30 := k30 (hD 30 (show 30 < 31 by decide))
                    subst e30
                    go_wp2
                    go_returns
                    exact ⟨rfl, bthen hb11w hb⟩

theorem fnTree_shape {H : Type} {enc : TypeId × Value → H} {W : World} {args : Array Value} {ds : List (DataW H)} {p : List MemPlace}
    (hA : DataW.TrodAll enc Try.prog W 0 (fun _ => true) true Try.f4.params.toList args.toList ds p) : ∃ x0, ds = [x0] := by
  obtain ⟨v0, d0, rfl, rfl, h0⟩ := trodAll_one hA
  exact ⟨_, rfl⟩

set_option maxRecDepth 100000 in
theorem fnTree_contract {H : Type} {enc : TypeId × Value → H} (W : World) (base : Nat) (args : Array Value) (ds : List (DataW H)) (p : List MemPlace)
    (hval : ∀ (j : Nat) t v, Try.f4.params[j]? = some t → args[j]? = some v → Value.okWide Try.prog W .any base t v)
    (hA : DataW.TrodAll enc Try.prog W 0 (fun _ => true) true Try.f4.params.toList args.toList ds p) :
    Calls Try.prog 4 args W fun e W' => e = .returned (.bool true) ∧ Below W.heap.size W W' := by
  obtain ⟨v0, d0, rfl, rfl, h0⟩ := trodAll_one hA
  obtain ⟨A0, n0, c0, f0, rfl, hr0, hn0⟩ := open_code (hval 0 22 v0 rfl rfl) h0
  exact fnTree_any _ _ _ _ W hr0 hn0

set_option maxRecDepth 100000 in
theorem fnTree_lifted (os : Os) (started : os.Started) (H : Type) (enc : TypeId × Value → H) :
    ReturnsInHanded {} Try.checked os 4 .any (Rows.fnTreeSpec.pre6 enc Try.prog Try.f4 Rows.fnTreeRow.domain false) (Rows.fnTreeSpec.post enc Try.prog Try.f4 false true false false) := by
  refine returnsInHanded_of_change (C := Try.checked) Try.own started (by kernel_rfl) Try.func4
    (ChangeSpec.witness6 (enc := enc) (C := Try.checked) false ⟨#[], #[.slice none 0 0], []⟩ 8 (by kernel_rfl) (by kernel_rfl) (by kernel_rfl) (by kernel_rfl)) ?_
  intro W base args ds gs before hval0 hW _ _
  have hval : ∀ (j : Nat) t v, Try.f4.params[j]? = some t → args[j]? = some v → Value.okWide Try.prog W .any base t v := hval0
  have hW' := hW
  obtain ⟨p, q, hA0, hV, rfl, hfz, hnd⟩ := hW
  have hA : DataW.TrodAll enc Try.prog W 0 (fun _ => true) true Try.f4.params.toList args.toList ds p := hA0
  refine (fnTree_contract W base args ds p hval hA).mono fun e W' ⟨he, hb⟩ => ?_
  subst he
  have hds := fnTree_shape hA
  obtain ⟨hgs, _⟩ := trodVars_none hV
  subst hgs
  refine ⟨_, rfl, law_post (P := Try.prog) Try.laidOut (of_decide_eq_true (by kernel_rfl)) (by kernel_rfl) Try.underlying4 hW' rfl ?_ ?_ ?_ hb⟩
  all_goals (obtain ⟨x0, rfl⟩ := hds; rfl)

theorem fnTree_holds : Rows.FnTreeSaid :=
  OpenClaim.holds_of_wide 4 Try.f4 rfl rfl rfl rfl rfl rfl rfl ⟨rfl, rfl, rfl, rfl, rfl⟩ rfl rfl rfl rfl rfl (by kernel_rfl) Try.func4 (by kernel_rfl)
    (of_decide_eq_true (by kernel_rfl)) (by unfold Func.isWrapper; first | (rw [if_pos (by decide +kernel)]; kernel_rfl) | (rw [if_neg (by decide +kernel)]; exact ⟨rfl, rfl⟩))
    (fun os started H enc _ => fnTree_lifted os started H enc)
end Go.Proofs.Ytbijkdpifnncmaa
