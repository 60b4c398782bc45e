/- Contracts and lemmas: SameCmd. -/
import Derived.Test.YtdphdnllhmnelaaJ17
import Derived.Test.YtdphdnllhmnelaaJ14
/- Contracts of SameCmd, CmdOk and Clash, of both sides. -/
namespace Go.Proofs.Ytdphdnllhmnelaa
open Go.RowKit
theorem strsLenA {w : World} {A : Option Addr} {n : Nat} {l : List ByteArray} (h : StrsAt w A n l) : n = l.length := h.1
attribute [local irreducible] StrsAt

/-! ### texts -/
def eqS (l l' : List ByteArray) : Bool := decide (l = l')
theorem eq_ext {l l' : List ByteArray} {n : Nat} (h : n = l.length) (h' : n = l'.length) (hj : ∀ j, j < n → sAt l j = sAt l' j) : l = l' := by
  apply List.ext_getElem (by omega)
  intro i h1 h2
  have := hj i (by omega)
  simpa [sAt, h1, h2] using this
theorem slicesEqual_strs (A : Option Addr) (n c : Nat) (A' : Option Addr) (n' c' : Nat) (l l' : List ByteArray) (w : World) (h : StrsAt w A n l) (h' : StrsAt w A' n' l') (hn : n ≤ 9223372036854775807) (hn' : n' ≤ 9223372036854775807) :
    Calls Try.prog 181 #[.slice A n c, .slice A' n' c'] w fun e w' => e = .returned (.bool (eqS l l')) ∧ Below w.heap.size w w' := by
  have HL := Lib.hid (strsLenA h)
  have HL' := Lib.hid (strsLenA h')
  by_cases hne : n = n'
  · subst hne
    go_enter Try.func181, Try.ntmps181
    go_wp2
    go_loopw [5, 13] (fun _ i wr => ∃ (k : Nat), k ≤ n ∧ i = .int .i64 k ∧ (∀ j, j < k → sAt l j = sAt l' j) ∧ Below w.heap.size w wr) (fun _ i _ => n - (intOf i).toNat)
    case atStart => exact ⟨0, Nat.zero_le _, rfl, fun j hj => absurd hj (by omega), Below.refl _ _⟩
    case round =>
      obtain ⟨k, hk, rfl, hj, hb⟩ := hrel
      have HJ := Lib.hid hj; clear hj
      by_cases hlt : k < n
      · obtain ⟨b, off, rfl, hbl, hc⟩ := h.at_ (by omega)
        have hck := (hb.cell (p := ⟨b, off + k, none⟩) hbl).trans (hc k hlt)
        clear hc
        obtain ⟨b', off', rfl, hbl', hc'⟩ := h'.at_ (by omega)
        have hck' := (hb.cell (p := ⟨b', off' + k, none⟩) hbl').trans (hc' k hlt)
        clear hc'
        by_cases hs : sAt l k = sAt l' k
        · have hd : ((sAt l k).toList == (sAt l' k).toList) = true := by rw [str_beq]; simpa using hs
          have HS := Lib.hid hs
          clear hs
          go_wp2
          go_quiet (fail)
          go_wp2
          refine ⟨⟨k + 1, by omega, by go_num, fun j hj => ?_, below_drewN hb _⟩, by simp [intOf]; omega⟩
          rcases Nat.lt_or_ge j k with h1 | h1
          · exact HJ.out j h1
          · have : j = k := by omega
            subst this; exact HS.out
        · have hd : ((sAt l k).toList == (sAt l' k).toList) = false := by rw [str_beq]; simpa using hs
          have HS := Lib.hid hs
          clear hs
          go_wp2
          go_quiet (fail)
          go_wp2
          go_returns
          exact ⟨ret_bool (by unfold eqS; symm; simp only [decide_eq_false_iff_not]; intro e; exact HS.out (by rw [e])), below_drewN hb _⟩
      · go_wp2
        go_returns
        exact ⟨ret_bool (by unfold eqS; symm; simp only [decide_eq_true_eq]; exact eq_ext HL.out HL'.out (fun j hj => HJ.out j (by omega))), hb⟩
  · have hni : ¬ ((n : Int) = (n' : Int)) := by omega
    have HE := Lib.hid (show l ≠ l' from fun e => hne (by rw [HL.out, HL'.out, e]))
    go_enter Try.func181, Try.ntmps181
    go_wp2
    go_returns
    exact ⟨ret_bool (by unfold eqS; simp [HE.out]), Below.refl _ _⟩
theorem l4Texts_spec (A : Option Addr) (n c : Nat) (A' : Option Addr) (n' c' : Nat) (l l' : List ByteArray) (w : World) (h : StrsAt w A n l) (h' : StrsAt w A' n' l') (hn : n ≤ 9223372036854775807) (hn' : n' ≤ 9223372036854775807) :
    Calls Try.prog 180 #[.slice A n c, .slice A' n' c'] w fun e w' => e = .returned (.bool (eqS l l')) ∧ Below w.heap.size w w' := by
  have HL := Lib.hid (strsLenA h)
  have HL' := Lib.hid (strsLenA h')
  by_cases hne : n = n'
  · subst hne
    go_enter Try.func180, Try.ntmps180
    go_wp2
    go_loopw [5] (fun i wr => ∃ (k : Nat), k ≤ n ∧ i = .int .i64 k ∧ (∀ j, j < k → sAt l j = sAt l' j) ∧ Below w.heap.size w wr) (fun i _ => n - (intOf i).toNat)
    case atStart => exact ⟨0, Nat.zero_le _, rfl, fun j hj => absurd hj (by omega), Below.refl _ _⟩
    case round =>
      obtain ⟨k, hk, rfl, hj, hb⟩ := hrel
      have HJ := Lib.hid hj; clear hj
      by_cases hlt : k < n
      · obtain ⟨b, off, rfl, hbl, hc⟩ := h.at_ (by omega)
        have hck := (hb.cell (p := ⟨b, off + k, none⟩) hbl).trans (hc k hlt)
        clear hc
        obtain ⟨b', off', rfl, hbl', hc'⟩ := h'.at_ (by omega)
        have hck' := (hb.cell (p := ⟨b', off' + k, none⟩) hbl').trans (hc' k hlt)
        clear hc'
        by_cases hs : sAt l k = sAt l' k
        · have hd : ((sAt l k).toList == (sAt l' k).toList) = true := by rw [str_beq]; simpa using hs
          have HS := Lib.hid hs
          clear hs
          go_wp2
          go_quiet (fail)
          go_wp2
          refine ⟨⟨k + 1, by omega, by go_num, fun j hj => ?_, below_drewN hb _⟩, by simp [intOf]; omega⟩
          rcases Nat.lt_or_ge j k with h1 | h1
          · exact HJ.out j h1
          · have : j = k := by omega
            subst this; exact HS.out
        · have hd : ((sAt l k).toList == (sAt l' k).toList) = false := by rw [str_beq]; simpa using hs
          have HS := Lib.hid hs
          clear hs
          go_wp2
          go_quiet (fail)
          go_wp2
          go_returns
          exact ⟨ret_bool (by unfold eqS; symm; simp only [decide_eq_false_iff_not]; intro e; exact HS.out (by rw [e])), below_drewN hb _⟩
      · go_wp2
        go_returns
        exact ⟨ret_bool (by unfold eqS; symm; simp only [decide_eq_true_eq]; exact eq_ext HL.out HL'.out (fun j hj => HJ.out j (by omega))), hb⟩
  · have hni : ¬ ((n : Int) = (n' : Int)) := by omega
    have HE := Lib.hid (show l ≠ l' from fun e => hne (by rw [HL.out, HL'.out, e]))
    go_enter Try.func180, Try.ntmps180
    go_wp2
    go_returns
    exact ⟨ret_bool (by unfold eqS; simp [HE.out]), Below.refl _ _⟩

def ok8 (l : List ByteArray) : Bool := (List.range l.length).all (fun i => decide ((sAt l i).size = 8))
theorem ok8_no {l : List ByteArray} {k : Nat} (hk : k < l.length) (h : ¬ (sAt l k).size = 8) : ok8 l = false := all_no hk (by simpa using h)
theorem ok8_yes {l : List ByteArray} (h : ∀ j, j < l.length → (sAt l j).size = 8) : ok8 l = true := all_yes (fun j hj => by simpa using h j hj)
theorem areChunks_ok (A : Option Addr) (n c : Nat) (l : List ByteArray) (w : World) (h : StrsAt w A n l) (hn : n ≤ 9223372036854775807) :
    Calls Try.prog 161 #[.slice A n c] w fun e w' => e = .returned (.bool (ok8 l)) ∧ w = w' := by
  have HL := Lib.hid (strsLenA h)
  go_enter Try.func161, Try.ntmps161
  go_wp2
  go_loop [7] (fun i => ∃ k : Nat, k ≤ n ∧ i = .int .i64 k ∧ ∀ j, j < k → (sAt l j).size = 8) (fun i => n - (intOf i).toNat)
  case atStart => exact ⟨0, Nat.zero_le _, rfl, fun j hj => absurd hj (by omega)⟩
  case round =>
    obtain ⟨k, hk, rfl, hx⟩ := hrel
    have HX := Lib.hid hx; clear hx
    by_cases hlt : k < n
    · obtain ⟨b, off, rfl, hbl, hc⟩ := h.at_ (by omega)
      have hck := hc k hlt
      clear hc
      by_cases h8 : (sAt l k).size = 8
      · have g1 : ((((sAt l k).size : Nat) : Int) != 8) = false := by simp [h8]
        have H8 := Lib.hid h8; clear h8
        go_wp2
        refine ⟨⟨k + 1, by omega, by go_num, ?_⟩, by simp [intOf]; omega⟩
        intro j hj
        by_cases e : j = k
        · subst e; exact H8.out
        · exact HX.out j (by omega)
      · have g1 : ((((sAt l k).size : Nat) : Int) != 8) = true := by simp; omega
        have H8 := Lib.hid h8; clear h8
        go_wp2
        go_returns
        exact ⟨ret_bool (ok8_no (by have := HL.out; omega) H8.out).symm, rfl⟩
    · go_wp2
      go_returns
      exact ⟨ret_bool (ok8_yes (fun j hj => HX.out j (by have := HL.out; omega))).symm, rfl⟩

/-! ### two commands -/
def sameB (x y : Cm) : Bool := decide (x.kd = y.kd) && decide (x.cl = y.cl) && decide (x.no = y.no) && decide (x.s = y.s) && decide (x.nm = y.nm) && decide (x.tg = y.tg) && decide (x.n = y.n) && eqS x.ch y.ch
theorem sbeq (a b : ByteArray) : (a.toList == b.toList) = decide (a = b) := str_beq a b

set_option maxRecDepth 8000 in
set_option maxHeartbeats 1000000 in
theorem sameCmd_impl (x y : Cm) (A1 : Option Addr) (n1 c1 : Nat) (A2 : Option Addr) (n2 c2 : Nat) (w : World) (h1 : StrR w A1 n1 c1 x.ch) (h2 : StrR w A2 n2 c2 y.ch) (hn1 : n1 ≤ 9223372036854775807) (hn2 : n2 ≤ 9223372036854775807) :
    Calls Try.prog 159 #[cmV x (.slice A1 n1 c1), cmV y (.slice A2 n2 c2)] w fun e w' => e = .returned (.bool (sameB x y)) ∧ Below w.heap.size w w' := by
  unfold cmV
  by_cases g0 : x.kd = y.kd
  · skip
    by_cases g1 : x.cl = y.cl
    · skip
      by_cases g2 : x.no = y.no
      · skip
        by_cases g3 : x.s = y.s
        · skip
          by_cases g4 : x.nm = y.nm
          · skip
            by_cases g5 : x.tg = y.tg
            · skip
              by_cases g6 : x.n = y.n
              · skip
                have HS := Lib.hid (show sameB x y = eqS x.ch y.ch by unfold sameB; simp [g0, g1, g2, g3, g4, g5, g6])
                have d0 : (x.kd == y.kd) = true := by simpa using g0
                clear g0
                have d1 : (x.cl == y.cl) = true := by simpa using g1
                clear g1
                have d2 : (x.no == y.no) = true := by simpa using g2
                clear g2
                have d3 : (x.s.toList == y.s.toList) = true := by rw [sbeq]; simpa using g3
                clear g3
                have d4 : (x.nm.toList == y.nm.toList) = true := by rw [sbeq]; simpa using g4
                clear g4
                have d5 : (x.tg.toList == y.tg.toList) = true := by rw [sbeq]; simpa using g5
                clear g5
                have d6 : (x.n == y.n) = true := by simpa using g6
                clear g6
                go_enter Try.func159, Try.ntmps159
                go_wp2_with fail
                refine (slicesEqual_strs _ _ _ _ _ _ x.ch y.ch _ (h1.1.keep (by go_grown)) (h2.1.keep (by go_grown)) hn1 hn2).mono ?_
                rintro e w1 ⟨rfl, hb1⟩
                go_wp2
                go_returns
                exact ⟨ret_bool (by rw [HS.out]), bthen (by go_grown) hb1⟩
              · have HS := Lib.hid (show sameB x y = false by unfold sameB; simp [g6])
                have d0 : (x.kd == y.kd) = true := by simpa using g0
                clear g0
                have d1 : (x.cl == y.cl) = true := by simpa using g1
                clear g1
                have d2 : (x.no == y.no) = true := by simpa using g2
                clear g2
                have d3 : (x.s.toList == y.s.toList) = true := by rw [sbeq]; simpa using g3
                clear g3
                have d4 : (x.nm.toList == y.nm.toList) = true := by rw [sbeq]; simpa using g4
                clear g4
                have d5 : (x.tg.toList == y.tg.toList) = true := by rw [sbeq]; simpa using g5
                clear g5
                have d6 : (x.n == y.n) = false := by simpa using g6
                clear g6
                go_enter Try.func159, Try.ntmps159
                go_wp2
                go_returns
                exact ⟨ret_bool (by rw [HS.out]), by go_grown⟩
            · have HS := Lib.hid (show sameB x y = false by unfold sameB; simp [g5])
              have d0 : (x.kd == y.kd) = true := by simpa using g0
              clear g0
              have d1 : (x.cl == y.cl) = true := by simpa using g1
              clear g1
              have d2 : (x.no == y.no) = true := by simpa using g2
              clear g2
              have d3 : (x.s.toList == y.s.toList) = true := by rw [sbeq]; simpa using g3
              clear g3
              have d4 : (x.nm.toList == y.nm.toList) = true := by rw [sbeq]; simpa using g4
              clear g4
              have d5 : (x.tg.toList == y.tg.toList) = false := by rw [sbeq]; simpa using g5
              clear g5
              go_enter Try.func159, Try.ntmps159
              go_wp2
              go_returns
              exact ⟨ret_bool (by rw [HS.out]), by go_grown⟩
          · have HS := Lib.hid (show sameB x y = false by unfold sameB; simp [g4])
            have d0 : (x.kd == y.kd) = true := by simpa using g0
            clear g0
            have d1 : (x.cl == y.cl) = true := by simpa using g1
            clear g1
            have d2 : (x.no == y.no) = true := by simpa using g2
            clear g2
            have d3 : (x.s.toList == y.s.toList) = true := by rw [sbeq]; simpa using g3
            clear g3
            have d4 : (x.nm.toList == y.nm.toList) = false := by rw [sbeq]; simpa using g4
            clear g4
            go_enter Try.func159, Try.ntmps159
            go_wp2
            go_returns
            exact ⟨ret_bool (by rw [HS.out]), by go_grown⟩
        · have HS := Lib.hid (show sameB x y = false by unfold sameB; simp [g3])
          have d0 : (x.kd == y.kd) = true := by simpa using g0
          clear g0
          have d1 : (x.cl == y.cl) = true := by simpa using g1
          clear g1
          have d2 : (x.no == y.no) = true := by simpa using g2
          clear g2
          have d3 : (x.s.toList == y.s.toList) = false := by rw [sbeq]; simpa using g3
          clear g3
          go_enter Try.func159, Try.ntmps159
          go_wp2
          go_returns
          exact ⟨ret_bool (by rw [HS.out]), by go_grown⟩
      · have HS := Lib.hid (show sameB x y = false by unfold sameB; simp [g2])
        have d0 : (x.kd == y.kd) = true := by simpa using g0
        clear g0
        have d1 : (x.cl == y.cl) = true := by simpa using g1
        clear g1
        have d2 : (x.no == y.no) = false := by simpa using g2
        clear g2
        go_enter Try.func159, Try.ntmps159
        go_wp2
        go_returns
        exact ⟨ret_bool (by rw [HS.out]), by go_grown⟩
    · have HS := Lib.hid (show sameB x y = false by unfold sameB; simp [g1])
      have d0 : (x.kd == y.kd) = true := by simpa using g0
      clear g0
      have d1 : (x.cl == y.cl) = false := by simpa using g1
      clear g1
      go_enter Try.func159, Try.ntmps159
      go_wp2
      go_returns
      exact ⟨ret_bool (by rw [HS.out]), by go_grown⟩
  · have HS := Lib.hid (show sameB x y = false by unfold sameB; simp [g0])
    have d0 : (x.kd == y.kd) = false := by simpa using g0
    clear g0
    go_enter Try.func159, Try.ntmps159
    go_wp2
    go_returns
    exact ⟨ret_bool (by rw [HS.out]), by go_grown⟩
set_option maxRecDepth 8000 in
set_option maxHeartbeats 1000000 in
theorem sameCmd_spec (x y : Cm) (A1 : Option Addr) (n1 c1 : Nat) (A2 : Option Addr) (n2 c2 : Nat) (w : World) (h1 : StrR w A1 n1 c1 x.ch) (h2 : StrR w A2 n2 c2 y.ch) (hn1 : n1 ≤ 9223372036854775807) (hn2 : n2 ≤ 9223372036854775807) :
    Calls Try.prog 157 #[cmV x (.slice A1 n1 c1), cmV y (.slice A2 n2 c2)] w fun e w' => e = .returned (.bool (sameB x y)) ∧ Below w.heap.size w w' := by
  unfold cmV
  by_cases g0 : x.kd = y.kd
  · skip
    by_cases g1 : x.cl = y.cl
    · skip
      by_cases g2 : x.no = y.no
      · skip
        by_cases g3 : x.s = y.s
        · skip
          by_cases g4 : x.nm = y.nm
          · skip
            by_cases g5 : x.tg = y.tg
            · skip
              by_cases g6 : x.n = y.n
              · skip
                have HS := Lib.hid (show sameB x y = eqS x.ch y.ch by unfold sameB; simp [g0, g1, g2, g3, g4, g5, g6])
                have d0 : (x.kd == y.kd) = true := by simpa using g0
                clear g0
                have d1 : (x.cl == y.cl) = true := by simpa using g1
                clear g1
                have d2 : (x.no == y.no) = true := by simpa using g2
                clear g2
                have d3 : (x.s.toList == y.s.toList) = true := by rw [sbeq]; simpa using g3
                clear g3
                have d4 : (x.nm.toList == y.nm.toList) = true := by rw [sbeq]; simpa using g4
                clear g4
                have d5 : (x.tg.toList == y.tg.toList) = true := by rw [sbeq]; simpa using g5
                clear g5
                have d6 : (x.n == y.n) = true := by simpa using g6
                clear g6
                go_enter Try.func157, Try.ntmps157
                go_wp2_with fail
                refine (l4Texts_spec _ _ _ _ _ _ x.ch y.ch _ (h1.1.keep (by go_grown)) (h2.1.keep (by go_grown)) hn1 hn2).mono ?_
                rintro e w1 ⟨rfl, hb1⟩
                go_wp2
                go_returns
                exact ⟨ret_bool (by rw [HS.out]), bthen (by go_grown) hb1⟩
              · have HS := Lib.hid (show sameB x y = false by unfold sameB; simp [g6])
                have d0 : (x.kd == y.kd) = true := by simpa using g0
                clear g0
                have d1 : (x.cl == y.cl) = true := by simpa using g1
                clear g1
                have d2 : (x.no == y.no) = true := by simpa using g2
                clear g2
                have d3 : (x.s.toList == y.s.toList) = true := by rw [sbeq]; simpa using g3
                clear g3
                have d4 : (x.nm.toList == y.nm.toList) = true := by rw [sbeq]; simpa using g4
                clear g4
                have d5 : (x.tg.toList == y.tg.toList) = true := by rw [sbeq]; simpa using g5
                clear g5
                have d6 : (x.n == y.n) = false := by simpa using g6
                clear g6
                go_enter Try.func157, Try.ntmps157
                go_wp2
                go_returns
                exact ⟨ret_bool (by rw [HS.out]), by go_grown⟩
            · have HS := Lib.hid (show sameB x y = false by unfold sameB; simp [g5])
              have d0 : (x.kd == y.kd) = true := by simpa using g0
              clear g0
              have d1 : (x.cl == y.cl) = true := by simpa using g1
              clear g1
              have d2 : (x.no == y.no) = true := by simpa using g2
              clear g2
              have d3 : (x.s.toList == y.s.toList) = true := by rw [sbeq]; simpa using g3
              clear g3
              have d4 : (x.nm.toList == y.nm.toList) = true := by rw [sbeq]; simpa using g4
              clear g4
              have d5 : (x.tg.toList == y.tg.toList) = false := by rw [sbeq]; simpa using g5
              clear g5
              go_enter Try.func157, Try.ntmps157
              go_wp2
              go_returns
              exact ⟨ret_bool (by rw [HS.out]), by go_grown⟩
          · have HS := Lib.hid (show sameB x y = false by unfold sameB; simp [g4])
            have d0 : (x.kd == y.kd) = true := by simpa using g0
            clear g0
            have d1 : (x.cl == y.cl) = true := by simpa using g1
            clear g1
            have d2 : (x.no == y.no) = true := by simpa using g2
            clear g2
            have d3 : (x.s.toList == y.s.toList) = true := by rw [sbeq]; simpa using g3
            clear g3
            have d4 : (x.nm.toList == y.nm.toList) = false := by rw [sbeq]; simpa using g4
            clear g4
            go_enter Try.func157, Try.ntmps157
            go_wp2
            go_returns
            exact ⟨ret_bool (by rw [HS.out]), by go_grown⟩
        · have HS := Lib.hid (show sameB x y = false by unfold sameB; simp [g3])
          have d0 : (x.kd == y.kd) = true := by simpa using g0
          clear g0
          have d1 : (x.cl == y.cl) = true := by simpa using g1
          clear g1
          have d2 : (x.no == y.no) = true := by simpa using g2
          clear g2
          have d3 : (x.s.toList == y.s.toList) = false := by rw [sbeq]; simpa using g3
          clear g3
          go_enter Try.func157, Try.ntmps157
          go_wp2
          go_returns
          exact ⟨ret_bool (by rw [HS.out]), by go_grown⟩
      · have HS := Lib.hid (show sameB x y = false by unfold sameB; simp [g2])
        have d0 : (x.kd == y.kd) = true := by simpa using g0
        clear g0
        have d1 : (x.cl == y.cl) = true := by simpa using g1
        clear g1
        have d2 : (x.no == y.no) = false := by simpa using g2
        clear g2
        go_enter Try.func157, Try.ntmps157
        go_wp2
        go_returns
        exact ⟨ret_bool (by rw [HS.out]), by go_grown⟩
    · have HS := Lib.hid (show sameB x y = false by unfold sameB; simp [g1])
      have d0 : (x.kd == y.kd) = true := by simpa using g0
      clear g0
      have d1 : (x.cl == y.cl) = false := by simpa using g1
      clear g1
      go_enter Try.func157, Try.ntmps157
      go_wp2
      go_returns
      exact ⟨ret_bool (by rw [HS.out]), by go_grown⟩
  · have HS := Lib.hid (show sameB x y = false by unfold sameB; simp [g0])
    have d0 : (x.kd == y.kd) = false := by simpa using g0
    clear g0
    go_enter Try.func157, Try.ntmps157
    go_wp2
    go_returns
    exact ⟨ret_bool (by rw [HS.out]), by go_grown⟩

def wifB (s : ByteArray) (b : Bool) : Bool := if b then wordB s else decide (s = ByteArray.empty)
theorem ebeq (s : ByteArray) : s.toList.isEmpty = decide (s = ByteArray.empty) := by
  have h0 : ByteArray.empty.toList = [] := by rw [Lib.toList_data]; rfl
  by_cases h : s = ByteArray.empty
  · rw [decide_eq_true h, h, h0]; rfl
  · rw [decide_eq_false h]
    cases hl : s.toList with
    | nil => exact absurd (by apply str_ext; rw [hl, h0]) h
    | cons a b => rfl

theorem wordIf_impl (s : ByteArray) (b : Bool) (w : World) (hs : s.size ≤ 9223372036854775807) :
    Calls Try.prog 160 #[.string s, .bool b] w fun e w' => e = .returned (.bool (wifB s b)) ∧ w = w' := by
  cases b
  · have HE := Lib.hid (ebeq s)
    go_enter Try.func160, Try.ntmps160
    go_wp2
    go_returns
    exact ⟨ret_bool (by rw [HE.out]; rfl), rfl⟩
  · go_enter Try.func160, Try.ntmps160
    go_wp2_with (go_at_call 182; refine (isWord_impl s _ hs).mono ?_; rintro e w1 ⟨rfl, rfl⟩)
    go_returns
    exact ⟨ret_bool (by unfold wifB; rfl), rfl⟩
theorem l4May_spec (s : ByteArray) (b : Bool) (w : World) (hs : s.size ≤ 9223372036854775807) :
    Calls Try.prog 158 #[.string s, .bool b] w fun e w' => e = .returned (.bool (wifB s b)) ∧ w = w' := by
  cases b
  · have HE := Lib.hid (ebeq s)
    go_enter Try.func158, Try.ntmps158
    go_wp2
    go_returns
    exact ⟨ret_bool (by rw [HE.out]; rfl), rfl⟩
  · go_enter Try.func158, Try.ntmps158
    go_wp2_with (go_at_call 177; refine (l4Word_spec s _ hs).mono ?_; rintro e w1 ⟨rfl, rfl⟩)
    go_returns
    exact ⟨ret_bool (by unfold wifB; rfl), rfl⟩

/-- a command as it must be -/
def cmOkB (x : Cm) : Bool := if x.kd = 0 then sameB x cmNil else
  inB x.kd 1 7 && inB x.cl 1 9 && inB x.no 1 1000 && wifB x.s (decide (x.kd ≠ 7)) && wifB x.nm (decide (x.kd = 3) || decide (x.kd = 4)) && wifB x.tg (decide (x.kd = 4)) && (decide (x.n = 0) || (decide (x.kd = 5) && inB x.n 0 9)) &&
  (if x.kd = 3 then inB (x.ch.length : Int) 1 4 && ok8 x.ch else decide (x.ch.length = 0))
theorem cmNil_R (w : World) : StrR w none 0 0 cmNil.ch := StrO.nil.at_
/-- a general contract, its answer told -/
theorem told {P : Program} {f : FuncId} {args : Array Value} {w : World} {x y : Bool} (hx : x = y) (h : Calls P f args w fun e w' => e = .returned (.bool x) ∧ w = w') : Calls P f args w fun e w' => e = .returned (.bool y) ∧ w = w' := by
  subst hx; exact h
attribute [local irreducible] wifB ok8 inB

end Go.Proofs.Ytdphdnllhmnelaa
