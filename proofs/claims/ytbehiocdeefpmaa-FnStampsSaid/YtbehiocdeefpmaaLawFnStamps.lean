/- The law FnStamps holds: a stamp that was heard of is above the last one and the one heard and not far ahead; encodings keep the order and are read back. Conditions: none. -/
import Derived.Test.YtbehiocdeefpmaaStampsLaw
import Derived.Test.YtbehiocdeefpmaaDrawSt2
import Derived.Test.YtbehiocdeefpmaaGrow
namespace Go.Proofs.Ytbehiocdeefpmaa
open Go.ChangeShapes Go.WideShapes Go.ChangeAt Go.RowKit Go.Joins
attribute [local go_sem] Grow.cell Grow.frozen
attribute [local irreducible] stampOkB stampLessB showStamp stampHear stampNow readStamp

/-- a stamp lies in block g -/
def C3 (w : World) (g : Nat) (a b c : Int) : Prop := w.cell? ⟨g, 0, none⟩ = some (.int .i64 a) ∧ w.cell? ⟨g, 1, none⟩ = some (.int .i64 b) ∧ w.cell? ⟨g, 2, none⟩ = some (.int .i64 c)
theorem C3.keep {w w' : World} {g : Nat} {a b c : Int} (h : C3 w g a b c) (hb : Below w.heap.size w w') : C3 w' g a b c := ⟨keep_cell hb h.1, keep_cell hb h.2.1, keep_cell hb h.2.2⟩
theorem C3.new (w : World) (t : Nat) (a b c : Int) : C3 (w.alloc (.cells #[.int .i64 a, .int .i64 b, .int .i64 c] t)) w.heap.size a b c := ⟨(SBox.new w t a b c).c0, (SBox.new w t a b c).c1, (SBox.new w t a b c).c2⟩
/-- a stamp more, in a block of its own -/
theorem new_stamp (w : World) (t : Nat) (a b c : Int) : ∃ g W, W = w.alloc (.cells #[.int .i64 a, .int .i64 b, .int .i64 c] t) ∧ g = w.heap.size ∧ C3 W g a b c ∧ Below w.heap.size w W ∧ w.heap.size ≤ g :=
  ⟨_, _, rfl, rfl, C3.new w t a b c, (Below.refl _ _).alloc (Nat.le_refl _) _, Nat.le_refl _⟩

theorem stampOk_below (a b c : Int) (w : World) : Calls Try.prog 18 #[.agg #[.int .i64 a, .int .i64 b, .int .i64 c]] w fun e w' => e = .returned (.bool (stampOkB a b c)) ∧ Below w.heap.size w w' :=
  (stampOk_spec a b c w).mono fun e w' ⟨h1, h2⟩ => ⟨h1, by subst h2; exact (Below.refl _ _).alloc (Nat.le_refl _) _⟩

set_option maxRecDepth 20000 in
set_option maxHeartbeats 4000000 in
theorem fnStamps_any (A : Option Addr) (n c : Nat) (f : Nat → Int) (w : World) (h : CodeAt w A n f) (hn : n ≤ 9223372036854775807) :
    Calls Try.prog 4 #[.slice A n c] w fun e w' => e = .returned (.bool true) ∧ Below w.heap.size w w' := by
  by_cases hbig : (n : Int) > 1048576
  · have hd : decide ((n : Int) > 1048576) = true := by simpa using hbig
    go_enter Try.func4, Try.ntmps4
    go_wp2_with fail
    refine (big_any _ _ _ _).mono ?_
    rintro e w1 ⟨rfl, rfl⟩
    rw [hd]
    go_wp2
    go_returns
    exact ⟨rfl, Below.refl _ _⟩
  · have hd : decide ((n : Int) > 1048576) = false := by simpa using hbig
    have hn2 : n ≤ 1048576 := by omega
    go_enter Try.func4, Try.ntmps4
    go_wp2_with fail
    refine (big_any _ _ _ _).mono ?_
    rintro e w1 ⟨rfl, rfl⟩
    rw [hd]
    go_wp2_with fail
    refine (drawStampHear_any _ _ _ _ _ h hn2).mono ?_
    rintro e w1 ⟨a, b, d, x, y, z, wall, rfl, hb1⟩
    have h1 := h.keep hb1
    obtain ⟨⟨⟨p, q, r⟩, ok⟩, hnow⟩ : ∃ t, stampHear a b d x y z wall = t := ⟨_, rfl⟩
    have HI := stampHear_impl a b d x y z wall
    have HS := stampHear_spec a b d x y z wall
    rw [hnow] at HI HS
    simp only [stampV] at HI HS
    replace HI := Lib.hid HI
    replace HS := Lib.hid HS
    have HN := Lib.hid hnow
    clear hnow
    go_wp2_with fail
    obtain ⟨ga, Wa, ea1, ea2, CA, al1, _⟩ := new_stamp w1 24 a b d
    rw [← ea1, ← ea2]
    obtain ⟨gb, Wb, eb1, eb2, CB, al2, _⟩ := new_stamp Wa 24 x y z
    have eb3 : ga + 1 = gb := by rw [eb2, ea2, ea1]; simp
    rw [← eb1]
    (try rw [eb3])
    have CA := CA.keep al2
    have hb2 := bthen (bthen hb1 al1) al2
    have h2 := (h1.keep al1).keep al2
    clear ea1 ea2 eb1 eb2 eb3 al1 al2 h1
    refine (HI.out _).mono ?_
    rintro e w4 ⟨rfl, hb⟩
    replace CA := CA.keep hb
    replace CB := CB.keep hb
    replace h2 := h2.keep hb
    replace hb2 := bthen hb2 hb
    clear hb
    obtain ⟨CA0, CA1, CA2⟩ := id CA
    have CAl := cell_lt CA0
    obtain ⟨CB0, CB1, CB2⟩ := id CB
    have CBl := cell_lt CB0
    go_wp2_with fail
    clear CA0 CA1 CA2 CAl CB0 CB1 CB2 CBl
    obtain ⟨gCX, WCX, eCX1, eCX2, CX, al, _⟩ := new_stamp w4 24 p q r
    (try rw [← eCX1])
    (try rw [← eCX2])
    clear eCX1 eCX2
    replace CA := CA.keep al
    replace CB := CB.keep al
    replace h2 := h2.keep al
    replace hb2 := bthen hb2 al
    clear al
    refine (HS.out _).mono ?_
    rintro e w5 ⟨rfl, hb⟩
    replace CA := CA.keep hb
    replace CB := CB.keep hb
    replace CX := CX.keep hb
    replace h2 := h2.keep hb
    replace hb2 := bthen hb2 hb
    clear hb HI HS
    cases ok
    · have he := hear_no HN.out
      simp only [Prod.mk.injEq] at he
      obtain ⟨rfl, rfl, rfl⟩ := he
      clear HN
      obtain ⟨CA0, CA1, CA2⟩ := id CA
      have CAl := cell_lt CA0
      obtain ⟨CB0, CB1, CB2⟩ := id CB
      have CBl := cell_lt CB0
      obtain ⟨CX0, CX1, CX2⟩ := id CX
      have CXl := cell_lt CX0
      go_wp2
      go_returns
      exact ⟨by simp, hb2.alloc hb2.size _⟩
    · obtain ⟨hrd, hok3, hok1, hok2, hl1, hl2, hw1, hw2, hw3, hw4⟩ := hear_ok HN.out
      obtain ⟨⟨ba1, ba2⟩, _, _⟩ := stampOkB_iff.1 hok1
      obtain ⟨⟨bx1, bx2⟩, _, _⟩ := stampOkB_iff.1 hok2
      clear HN
      subst hrd
      have HO3 := Lib.hid hok3; have HL1 := Lib.hid hl1; have HL2 := Lib.hid hl2
      clear hok1 hok2 hok3 hl1 hl2
      obtain ⟨CA0, CA1, CA2⟩ := id CA
      have CAl := cell_lt CA0
      obtain ⟨CB0, CB1, CB2⟩ := id CB
      have CBl := cell_lt CB0
      obtain ⟨CX0, CX1, CX2⟩ := id CX
      have CXl := cell_lt CX0
      go_wp2_with fail
      clear CA0 CA1 CA2 CAl CB0 CB1 CB2 CBl CX0 CX1 CX2 CXl
      obtain ⟨gCY, WCY, eCY1, eCY2, CY, al, _⟩ := new_stamp w5 24 p q r
      (try rw [← eCY1])
      (try rw [← eCY2])
      replace CA := CA.keep al
      replace CB := CB.keep al
      replace CX := CX.keep al
      replace h2 := h2.keep al
      replace hb2 := bthen hb2 al
      clear al
      obtain ⟨gCH, WCH, eCH1, eCH2, CH, al, _⟩ := new_stamp WCY 24 x y r
      have eCH3 : gCY + 1 = gCH := by rw [eCH2, eCY2, eCY1]; simp
      (try rw [← eCH1])
      (try rw [← eCH2])
      (try rw [eCH3])
      replace CA := CA.keep al
      replace CB := CB.keep al
      replace CX := CX.keep al
      replace CY := CY.keep al
      replace h2 := h2.keep al
      replace hb2 := bthen hb2 al
      clear al
      clear eCY1 eCY2 eCH1 eCH2 eCH3
      refine (stampLess_impl _ _ _ _ _ _ _).mono ?_
      rintro e w6 ⟨rfl, hb⟩
      rw [HL1.out]
      replace CA := CA.keep hb
      replace CB := CB.keep hb
      replace CX := CX.keep hb
      replace CY := CY.keep hb
      replace CH := CH.keep hb
      replace h2 := h2.keep hb
      replace hb2 := bthen hb2 hb
      clear hb HL1
      obtain ⟨CA0, CA1, CA2⟩ := id CA
      have CAl := cell_lt CA0
      obtain ⟨CB0, CB1, CB2⟩ := id CB
      have CBl := cell_lt CB0
      obtain ⟨CX0, CX1, CX2⟩ := id CX
      have CXl := cell_lt CX0
      obtain ⟨CY0, CY1, CY2⟩ := id CY
      have CYl := cell_lt CY0
      obtain ⟨CH0, CH1, CH2⟩ := id CH
      have CHl := cell_lt CH0
      go_wp2_with fail
      clear CA0 CA1 CA2 CAl CB0 CB1 CB2 CBl CX0 CX1 CX2 CXl CY0 CY1 CY2 CYl CH0 CH1 CH2 CHl
      refine (stampLess_impl _ _ _ _ _ _ _).mono ?_
      rintro e w7 ⟨rfl, hb⟩
      rw [HL2.out]
      replace CA := CA.keep hb
      replace CB := CB.keep hb
      replace CX := CX.keep hb
      replace CY := CY.keep hb
      replace CH := CH.keep hb
      replace h2 := h2.keep hb
      replace hb2 := bthen hb2 hb
      clear hb HL2
      obtain ⟨CA0, CA1, CA2⟩ := id CA
      have CAl := cell_lt CA0
      obtain ⟨CB0, CB1, CB2⟩ := id CB
      have CBl := cell_lt CB0
      obtain ⟨CX0, CX1, CX2⟩ := id CX
      have CXl := cell_lt CX0
      obtain ⟨CY0, CY1, CY2⟩ := id CY
      have CYl := cell_lt CY0
      obtain ⟨CH0, CH1, CH2⟩ := id CH
      have CHl := cell_lt CH0
      obtain ⟨⟨⟨p2, q2, r2⟩, ok2⟩, hnow2⟩ : ∃ t, stampNow p q r wall = t := ⟨_, rfl⟩
      have HI2 := stampNow_impl p q r wall
      rw [hnow2] at HI2
      simp only [stampV] at HI2
      replace HI2 := Lib.hid HI2
      have HN2 := Lib.hid hnow2
      clear hnow2
      have hc1 : decide (p < wall) = false := by simp; omega
      have hc2 : decide (a + x + wall + 1 < p) = false := by simp; omega
      go_wp2_with fail
      clear CA0 CA1 CA2 CAl CB0 CB1 CB2 CBl CX0 CX1 CX2 CXl CY0 CY1 CY2 CYl CH0 CH1 CH2 CHl
      refine (HI2.out _).mono ?_
      rintro e w8 ⟨rfl, hb⟩
      replace CA := CA.keep hb
      replace CB := CB.keep hb
      replace CX := CX.keep hb
      replace CY := CY.keep hb
      replace CH := CH.keep hb
      replace h2 := h2.keep hb
      replace hb2 := bthen hb2 hb
      clear hb HI2 hc1 hc2
      obtain ⟨CA0, CA1, CA2⟩ := id CA
      have CAl := cell_lt CA0
      obtain ⟨CB0, CB1, CB2⟩ := id CB
      have CBl := cell_lt CB0
      obtain ⟨CX0, CX1, CX2⟩ := id CX
      have CXl := cell_lt CX0
      obtain ⟨CY0, CY1, CY2⟩ := id CY
      have CYl := cell_lt CY0
      obtain ⟨CH0, CH1, CH2⟩ := id CH
      have CHl := cell_lt CH0
      go_wp2_with fail
      clear CA0 CA1 CA2 CAl CB0 CB1 CB2 CBl CX0 CX1 CX2 CXl CY0 CY1 CY2 CYl CH0 CH1 CH2 CHl
      obtain ⟨gCN, WCN, eCN1, eCN2, CN, al, _⟩ := new_stamp w8 24 p2 q2 r2
      (try rw [← eCN1])
      (try rw [← eCN2])
      replace CA := CA.keep al
      replace CB := CB.keep al
      replace CX := CX.keep al
      replace CY := CY.keep al
      replace CH := CH.keep al
      replace h2 := h2.keep al
      replace hb2 := bthen hb2 al
      clear al
      clear eCN1 eCN2
      refine (showStamp_impl p q r _).mono ?_
      rintro e w9 ⟨rfl, hb⟩
      replace CA := CA.keep hb
      replace CB := CB.keep hb
      replace CX := CX.keep hb
      replace CY := CY.keep hb
      replace CH := CH.keep hb
      replace CN := CN.keep hb
      replace h2 := h2.keep hb
      replace hb2 := bthen hb2 hb
      clear hb
      have HRS := read_show HO3.out
      have HSZ : (showStamp p q r).size ≤ 9223372036854775807 := by have := show_size p q r; omega
      have HR := readStamp_impl (showStamp p q r)
      rw [HRS] at HR
      simp only [stampV] at HR
      replace HR := Lib.hid HR
      clear HRS
      go_wp2_with fail
      refine (HR.out _ HSZ).mono ?_
      rintro e w10 ⟨rfl, hb⟩
      replace CA := CA.keep hb
      replace CB := CB.keep hb
      replace CX := CX.keep hb
      replace CY := CY.keep hb
      replace CH := CH.keep hb
      replace CN := CN.keep hb
      replace h2 := h2.keep hb
      replace hb2 := bthen hb2 hb
      clear hb HR HSZ
      go_wp2_with fail
      obtain ⟨gCR, WCR, eCR1, eCR2, CR, al, _⟩ := new_stamp w10 24 p q r
      (try rw [← eCR1])
      (try rw [← eCR2])
      replace CA := CA.keep al
      replace CB := CB.keep al
      replace CX := CX.keep al
      replace CY := CY.keep al
      replace CH := CH.keep al
      replace CN := CN.keep al
      replace h2 := h2.keep al
      replace hb2 := bthen hb2 al
      clear al
      clear eCR1 eCR2
      refine (drawStampLess_any _ _ _ _ _ h2 hn2).mono ?_
      rintro e w11 ⟨a3, b3, c3, x3, y3, z3, rfl, hb⟩
      replace CA := CA.keep hb
      replace CB := CB.keep hb
      replace CX := CX.keep hb
      replace CY := CY.keep hb
      replace CH := CH.keep hb
      replace CN := CN.keep hb
      replace CR := CR.keep hb
      replace h2 := h2.keep hb
      replace hb2 := bthen hb2 hb
      clear hb
      have HSX := fun hh hh' => show_less (a := a3) (b := b3) (c := c3) (x := x3) (y := y3) (z := z3) hh hh'
      go_wp2
      obtain ⟨gCP, WCP, eCP1, eCP2, CP, al, _⟩ := new_stamp w11 24 a3 b3 c3
      (try rw [← eCP1])
      (try rw [← eCP2])
      replace CA := CA.keep al
      replace CB := CB.keep al
      replace CX := CX.keep al
      replace CY := CY.keep al
      replace CH := CH.keep al
      replace CN := CN.keep al
      replace CR := CR.keep al
      replace h2 := h2.keep al
      replace hb2 := bthen hb2 al
      clear al
      obtain ⟨gCQ, WCQ, eCQ1, eCQ2, CQ, al, _⟩ := new_stamp WCP 24 x3 y3 z3
      have eCQ3 : gCP + 1 = gCQ := by rw [eCQ2, eCP2, eCP1]; simp
      (try rw [← eCQ1])
      (try rw [← eCQ2])
      (try rw [eCQ3])
      replace CA := CA.keep al
      replace CB := CB.keep al
      replace CX := CX.keep al
      replace CY := CY.keep al
      replace CH := CH.keep al
      replace CN := CN.keep al
      replace CR := CR.keep al
      replace CP := CP.keep al
      replace h2 := h2.keep al
      replace hb2 := bthen hb2 al
      clear al
      clear eCP1 eCP2 eCQ1 eCQ2 eCQ3
      obtain ⟨u1, hu1⟩ : ∃ u, stampOkB a3 b3 c3 = u := ⟨_, rfl⟩
      obtain ⟨u2, hu2⟩ : ∃ u, stampOkB x3 y3 z3 = u := ⟨_, rfl⟩
      obtain ⟨lt, hlt⟩ : ∃ u, stampLessB a3 b3 c3 x3 y3 z3 = u := ⟨_, rfl⟩
      rw [hu1, hu2, hlt] at HSX
      clear CA CB CY CH HO3
      obtain ⟨CP0, CP1, CP2⟩ := id CP
      have CPl := cell_lt CP0
      obtain ⟨CQ0, CQ1, CQ2⟩ := id CQ
      have CQl := cell_lt CQ0
      cases u1
      · have q0 := 0
        refine wp_region_grow (by kernel_rfl) (by kernel_rfl) ?_
        repeat (go_big_quiet_step (first | (go_at_call 18; with_reducible exact grow_of (known hu1 (stampOk_below a3 b3 c3 _))) | (go_at_call 18; with_reducible exact grow_of (known hu2 (stampOk_below x3 y3 z3 _)))))
        refine wpQuiet_nil ?_
        intro _ hw'
        obtain ⟨⟨U1, hbk⟩, hw''⟩ := hw'
        change _ = U1 at hw''
        subst hw''
        clear CP0 CP1 CP2 CPl CQ0 CQ1 CQ2 CQl
        replace CX := CX.keep hbk
        replace CN := CN.keep hbk
        replace CR := CR.keep hbk
        replace CP := CP.keep hbk
        replace CQ := CQ.keep hbk
        replace hb2 := bthen hb2 hbk
        clear hbk HSX
        obtain ⟨CX0, CX1, CX2⟩ := id CX
        have CXl := cell_lt CX0
        obtain ⟨CN0, CN1, CN2⟩ := id CN
        have CNl := cell_lt CN0
        obtain ⟨CR0, CR1, CR2⟩ := id CR
        have CRl := cell_lt CR0
        obtain ⟨CP0, CP1, CP2⟩ := id CP
        have CPl := cell_lt CP0
        obtain ⟨CQ0, CQ1, CQ2⟩ := id CQ
        have CQl := cell_lt CQ0
        cases ok2
        · go_wp2
          refine wp_region_grow (by kernel_rfl) (by kernel_rfl) ?_
          repeat (go_big_quiet_step (first | (go_at_call 13; with_reducible exact grow_of (known hlt (stampLess_impl a3 b3 c3 x3 y3 z3 _))) | (go_at_call 19; exact grow_of (known hlt (stampLess_spec a3 b3 c3 x3 y3 z3 _)))))
          refine wpQuiet_nil ?_
          intro _ hw'
          obtain ⟨⟨V1, hbv⟩, hw''⟩ := hw'
          change _ = V1 at hw''
          subst hw''
          go_wp2
          go_returns
          exact ⟨by simp, bthen hb2 hbv⟩
        · have hln : stampLessB p q r p2 q2 r2 = true := by
            obtain ⟨p', q', e, _, hless, _⟩ := now_ok (a := p) (b := q) (c := r) (wall := wall) (by rw [HN2.out])
            rw [HN2.out] at e
            simp at e
            obtain ⟨rfl, rfl, rfl⟩ := e
            exact hless
          go_wp2
          refine wp_region_grow (by kernel_rfl) (by kernel_rfl) ?_
          repeat (go_big_quiet_step (first | (go_at_call 13; with_reducible exact grow_of (known hln (stampLess_impl p q r p2 q2 r2 _))) | (go_at_call 13; with_reducible exact grow_of (known hlt (stampLess_impl a3 b3 c3 x3 y3 z3 _))) | (go_at_call 19; exact grow_of (known hlt (stampLess_spec a3 b3 c3 x3 y3 z3 _)))))
          refine wpQuiet_nil ?_
          intro _ hw'
          obtain ⟨⟨V1b, hbv⟩, hw''⟩ := hw'
          change _ = V1b at hw''
          subst hw''
          go_wp2
          go_returns
          exact ⟨by simp, bthen hb2 hbv⟩
      · cases u2
        · have q0 := 0
          refine wp_region_grow (by kernel_rfl) (by kernel_rfl) ?_
          repeat (go_big_quiet_step (first | (go_at_call 18; with_reducible exact grow_of (known hu1 (stampOk_below a3 b3 c3 _))) | (go_at_call 18; with_reducible exact grow_of (known hu2 (stampOk_below x3 y3 z3 _)))))
          refine wpQuiet_nil ?_
          intro _ hw'
          obtain ⟨⟨U2, hbk⟩, hw''⟩ := hw'
          change _ = U2 at hw''
          subst hw''
          clear CP0 CP1 CP2 CPl CQ0 CQ1 CQ2 CQl
          replace CX := CX.keep hbk
          replace CN := CN.keep hbk
          replace CR := CR.keep hbk
          replace CP := CP.keep hbk
          replace CQ := CQ.keep hbk
          replace hb2 := bthen hb2 hbk
          clear hbk HSX
          obtain ⟨CX0, CX1, CX2⟩ := id CX
          have CXl := cell_lt CX0
          obtain ⟨CN0, CN1, CN2⟩ := id CN
          have CNl := cell_lt CN0
          obtain ⟨CR0, CR1, CR2⟩ := id CR
          have CRl := cell_lt CR0
          obtain ⟨CP0, CP1, CP2⟩ := id CP
          have CPl := cell_lt CP0
          obtain ⟨CQ0, CQ1, CQ2⟩ := id CQ
          have CQl := cell_lt CQ0
          cases ok2
          · go_wp2
            refine wp_region_grow (by kernel_rfl) (by kernel_rfl) ?_
            repeat (go_big_quiet_step (first | (go_at_call 13; with_reducible exact grow_of (known hlt (stampLess_impl a3 b3 c3 x3 y3 z3 _))) | (go_at_call 19; exact grow_of (known hlt (stampLess_spec a3 b3 c3 x3 y3 z3 _)))))
            refine wpQuiet_nil ?_
            intro _ hw'
            obtain ⟨⟨V2, hbv⟩, hw''⟩ := hw'
            change _ = V2 at hw''
            subst hw''
            go_wp2
            go_returns
            exact ⟨by simp, bthen hb2 hbv⟩
          · have hln : stampLessB p q r p2 q2 r2 = true := by
              obtain ⟨p', q', e, _, hless, _⟩ := now_ok (a := p) (b := q) (c := r) (wall := wall) (by rw [HN2.out])
              rw [HN2.out] at e
              simp at e
              obtain ⟨rfl, rfl, rfl⟩ := e
              exact hless
            go_wp2
            refine wp_region_grow (by kernel_rfl) (by kernel_rfl) ?_
            repeat (go_big_quiet_step (first | (go_at_call 13; with_reducible exact grow_of (known hln (stampLess_impl p q r p2 q2 r2 _))) | (go_at_call 13; with_reducible exact grow_of (known hlt (stampLess_impl a3 b3 c3 x3 y3 z3 _))) | (go_at_call 19; exact grow_of (known hlt (stampLess_spec a3 b3 c3 x3 y3 z3 _)))))
            refine wpQuiet_nil ?_
            intro _ hw'
            obtain ⟨⟨V2b, hbv⟩, hw''⟩ := hw'
            change _ = V2b at hw''
            subst hw''
            go_wp2
            go_returns
            exact ⟨by simp, bthen hb2 hbv⟩
        · have hsx := HSX rfl rfl
          refine wp_region_grow (by kernel_rfl) (by kernel_rfl) ?_
          repeat (go_big_quiet_step (first | (go_at_call 18; with_reducible exact grow_of (known hu1 (stampOk_below a3 b3 c3 _))) | (go_at_call 18; with_reducible exact grow_of (known hu2 (stampOk_below x3 y3 z3 _))) | (go_at_call 13; with_reducible exact grow_of (known hlt (stampLess_impl a3 b3 c3 x3 y3 z3 _))) | (go_at_call 15; with_reducible exact grow_of (showStamp_impl a3 b3 c3 _)) | (go_at_call 15; with_reducible exact grow_of (showStamp_impl x3 y3 z3 _))))
          refine wpQuiet_nil ?_
          intro _ hw'
          obtain ⟨⟨U3, hbk⟩, hw''⟩ := hw'
          change _ = U3 at hw''
          subst hw''
          clear CP0 CP1 CP2 CPl CQ0 CQ1 CQ2 CQl
          have hne : (!(lt == lt)) = false := by simp
          replace CX := CX.keep hbk
          replace CN := CN.keep hbk
          replace CR := CR.keep hbk
          replace CP := CP.keep hbk
          replace CQ := CQ.keep hbk
          replace hb2 := bthen hb2 hbk
          clear hbk HSX
          obtain ⟨CX0, CX1, CX2⟩ := id CX
          have CXl := cell_lt CX0
          obtain ⟨CN0, CN1, CN2⟩ := id CN
          have CNl := cell_lt CN0
          obtain ⟨CR0, CR1, CR2⟩ := id CR
          have CRl := cell_lt CR0
          obtain ⟨CP0, CP1, CP2⟩ := id CP
          have CPl := cell_lt CP0
          obtain ⟨CQ0, CQ1, CQ2⟩ := id CQ
          have CQl := cell_lt CQ0
          cases ok2
          · go_wp2
            refine wp_region_grow (by kernel_rfl) (by kernel_rfl) ?_
            repeat (go_big_quiet_step (first | (go_at_call 13; with_reducible exact grow_of (known hlt (stampLess_impl a3 b3 c3 x3 y3 z3 _))) | (go_at_call 19; exact grow_of (known hlt (stampLess_spec a3 b3 c3 x3 y3 z3 _)))))
            refine wpQuiet_nil ?_
            intro _ hw'
            obtain ⟨⟨V3, hbv⟩, hw''⟩ := hw'
            change _ = V3 at hw''
            subst hw''
            go_wp2
            go_returns
            exact ⟨by simp, bthen hb2 hbv⟩
          · have hln : stampLessB p q r p2 q2 r2 = true := by
              obtain ⟨p', q', e, _, hless, _⟩ := now_ok (a := p) (b := q) (c := r) (wall := wall) (by rw [HN2.out])
              rw [HN2.out] at e
              simp at e
              obtain ⟨rfl, rfl, rfl⟩ := e
              exact hless
            go_wp2
            refine wp_region_grow (by kernel_rfl) (by kernel_rfl) ?_
            repeat (go_big_quiet_step (first | (go_at_call 13; with_reducible exact grow_of (known hln (stampLess_impl p q r p2 q2 r2 _))) | (go_at_call 13; with_reducible exact grow_of (known hlt (stampLess_impl a3 b3 c3 x3 y3 z3 _))) | (go_at_call 19; exact grow_of (known hlt (stampLess_spec a3 b3 c3 x3 y3 z3 _)))))
            refine wpQuiet_nil ?_
            intro _ hw'
            obtain ⟨⟨V3b, hbv⟩, hw''⟩ := hw'
            change _ = V3b at hw''
            subst hw''
            go_wp2
            go_returns
            exact ⟨by simp, bthen hb2 hbv⟩
theorem fnStamps_shape {H : Type} {enc : TypeId × Value → H} {W : World} {args : Array Value} {ds : List (DataW H)} {p : List MemPlace}
    (hA : DataW.TrodAll enc Try.prog W 0 (fun _ => true) true Try.f4.params.toList args.toList ds p) : ∃ x0, ds = [x0] := by
  obtain ⟨v0, d0, rfl, rfl, h0⟩ := trodAll_one hA
  exact ⟨_, rfl⟩

set_option maxRecDepth 100000 in
theorem fnStamps_contract {H : Type} {enc : TypeId × Value → H} (W : World) (base : Nat) (args : Array Value) (ds : List (DataW H)) (p : List MemPlace)
    (hval : ∀ (j : Nat) t v, Try.f4.params[j]? = some t → args[j]? = some v → Value.okWide Try.prog W .any base t v)
    (hA : DataW.TrodAll enc Try.prog W 0 (fun _ => true) true Try.f4.params.toList args.toList ds p) :
    Calls Try.prog 4 args W fun e W' => e = .returned (.bool true) ∧ Below W.heap.size W W' := by
  obtain ⟨v0, d0, rfl, rfl, h0⟩ := trodAll_one hA
  obtain ⟨A0, n0, c0, f0, rfl, hr0, hn0⟩ := open_code (hval 0 30 v0 rfl rfl) h0
  exact fnStamps_any _ _ _ _ W hr0 hn0

set_option maxRecDepth 100000 in
theorem fnStamps_lifted (os : Os) (started : os.Started) (H : Type) (enc : TypeId × Value → H) :
    ReturnsInHanded {} Try.checked os 4 .any (Rows.fnStampsSpec.pre6 enc Try.prog Try.f4 Rows.fnStampsRow.domain false) (Rows.fnStampsSpec.post enc Try.prog Try.f4 false true false false) := by
  refine returnsInHanded_of_change (C := Try.checked) Try.own started (by kernel_rfl) Try.func4
    (ChangeSpec.witness6 (enc := enc) (C := Try.checked) false ⟨#[], #[.slice none 0 0], []⟩ 8 (by kernel_rfl) (by kernel_rfl) (by kernel_rfl) (by kernel_rfl)) ?_
  intro W base args ds gs before hval0 hW _ _
  have hval : ∀ (j : Nat) t v, Try.f4.params[j]? = some t → args[j]? = some v → Value.okWide Try.prog W .any base t v := hval0
  have hW' := hW
  obtain ⟨p, q, hA0, hV, rfl, hfz, hnd⟩ := hW
  have hA : DataW.TrodAll enc Try.prog W 0 (fun _ => true) true Try.f4.params.toList args.toList ds p := hA0
  refine (fnStamps_contract W base args ds p hval hA).mono fun e W' ⟨he, hb⟩ => ?_
  subst he
  have hds := fnStamps_shape hA
  obtain ⟨hgs, _⟩ := trodVars_none hV
  subst hgs
  refine ⟨_, rfl, law_post (P := Try.prog) Try.laidOut (of_decide_eq_true (by kernel_rfl)) (by kernel_rfl) Try.underlying4 hW' rfl ?_ ?_ ?_ hb⟩
  all_goals (obtain ⟨x0, rfl⟩ := hds; rfl)

theorem fnStamps_holds : Rows.FnStampsSaid :=
  OpenClaim.holds_of_wide 4 Try.f4 rfl rfl rfl rfl rfl rfl rfl ⟨rfl, rfl, rfl, rfl, rfl⟩ rfl rfl rfl rfl rfl (by kernel_rfl) Try.func4 (by kernel_rfl)
    (of_decide_eq_true (by kernel_rfl)) (by unfold Func.isWrapper; first | (rw [if_pos (by decide +kernel)]; kernel_rfl) | (rw [if_neg (by decide +kernel)]; exact ⟨rfl, rfl⟩))
    (fun os started H enc _ => fnStamps_lifted os started H enc)
end Go.Proofs.Ytbehiocdeefpmaa
