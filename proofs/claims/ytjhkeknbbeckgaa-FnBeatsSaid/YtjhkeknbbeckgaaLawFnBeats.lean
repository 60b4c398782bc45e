/- The law FnBeats holds. Conditions: none. -/
import Derived.Test.YtjhkeknbbeckgaaBeatsLaw
import Derived.Test.YtjhkeknbbeckgaaCode
import Derived.Test.YtjhkeknbbeckgaaBeatNew
import Derived.Test.YtjhkeknbbeckgaaBeatUp
import Derived.BigQuiet
import Derived.Deep.DeepCutAuto
namespace Go.Proofs.Ytjhkeknbbeckgaa
open Go.ChangeShapes Go.WideShapes Go.ChangeAt Go.RowKit Go.Joins

/-- three cells that hold a Beat and may be written -/
structure Box (w : World) (g : Nat) (A1 : Option Addr) (c1 : Nat) (A2 : Option Addr) (c2 : Nat) (A3 : Option Addr) (c3 : Nat) : Prop where
  a : w.cell? ⟨g, 0, none⟩ = some (.slice A1 3 c1)
  b : w.cell? ⟨g, 1, none⟩ = some (.slice A2 3 c2)
  c : w.cell? ⟨g, 2, none⟩ = some (.slice A3 3 c3)
  fa : w.frozen? ⟨g, 0, none⟩ = false
  fb : w.frozen? ⟨g, 1, none⟩ = false
  fc : w.frozen? ⟨g, 2, none⟩ = false
theorem Box.keep {w w' : World} {g : Nat} {A1 : Option Addr} {c1 : Nat} {A2 : Option Addr} {c2 : Nat} {A3 : Option Addr} {c3 : Nat} (h : Box w g A1 c1 A2 c2 A3 c3) (hb : Below w.heap.size w w') : Box w' g A1 c1 A2 c2 A3 c3 :=
  have hl := cell_lt h.a
  ⟨keep_cell hb h.a, keep_cell hb h.b, keep_cell hb h.c, (hb.frozen hl).trans h.fa, (hb.frozen hl).trans h.fb, (hb.frozen hl).trans h.fc⟩
theorem set3c {W : World} {g : Nat} {u v x a b c : Value} (k0 : W.cell? ⟨g, 0, none⟩ = some a) (k1 : W.cell? ⟨g, 1, none⟩ = some b) (k2 : W.cell? ⟨g, 2, none⟩ = some c) :
    ∃ WF, WF = ((W.setCell ⟨g, 0, none⟩ u).setCell ⟨g, 1, none⟩ v).setCell ⟨g, 2, none⟩ x ∧ WF.cell? ⟨g, 0, none⟩ = some u ∧ WF.cell? ⟨g, 1, none⟩ = some v ∧ WF.cell? ⟨g, 2, none⟩ = some x ∧ Ch (fun k => k = g) W WF := by
  obtain ⟨WF, h, t0, t1, t2⟩ := set3 (u := u) (v := v) (x := x) k0 k1 k2
  exact ⟨WF, h, t0, t1, t2, by rw [h]; exact (ch_one.trans ch_one).trans ch_one⟩
theorem BtIn.of_own3 {w : World} {base : Nat} {A1 A2 A3 : Option Addr} {n : Nat} {f1 f2 : Nat → Int} {f3 : Nat → Bool} (h : Own3 w base A1 A2 A3 n f1 f2 f3) : BtIn base w.heap.size w A1 n n f1 A2 n n f2 A3 n n f3 := by
  obtain ⟨x1, o1, e1⟩ := h.r1
  obtain ⟨x2, o2, e2⟩ := h.r2
  obtain ⟨x3, o3, e3⟩ := h.r3
  exact ⟨RowF.of_own o1 e1, RowF.of_own o2 e2, RowF.of_own o3 e3, h.d12, h.d13, h.d23⟩

set_option maxRecDepth 30000 in
set_option maxHeartbeats 40000000 in
theorem fnBeats_any (A : Option Addr) (n c : Nat) (f : Nat → Int) (w : World) (h : CodeAt w A n f) (hn : n ≤ 9223372036854775807) :
    Calls Try.prog 3 #[.slice A n c] w fun e w' => e = .returned (.bool true) ∧ Below w.heap.size w w' := by
  by_cases hbig : (n : Int) > 1048576
  · have hd : decide ((n : Int) > 1048576) = true := by simpa using hbig
    go_enter Try.func3, Try.ntmps3
    go_wp2_with fail
    refine (big_any _ _ _ _).mono ?_
    rintro e w1 ⟨rfl, rfl⟩
    rw [hd]
    go_wp2
    go_returns
    exact ⟨rfl, Below.refl _ _⟩
  · have hd : decide ((n : Int) > 1048576) = false := by simpa using hbig
    have hn2 : n ≤ 1048576 := by omega
    go_enter Try.func3, Try.ntmps3
    go_wp2_with fail
    refine (big_any _ _ _ _).mono ?_
    rintro e w1 ⟨rfl, rfl⟩
    rw [hd]
    go_wp2_with fail
    refine (at_any _ _ _ _ 0 _ h hn2 (by omega)).mono ?_
    rintro e w1 ⟨x, rfl, rfl, hx0, hx1⟩
    go_wp2_with fail
    refine (beatNew_impl _ _).mono ?_
    rintro e w1 ⟨A1, A2, A3, m, hm, rfl, ho, hb1⟩
    have hin : inB (5 + x % 20) 1 1000 = true := by simp [inB]; omega
    rw [hin] at hm ⊢
    obtain rfl : m = 3 := hm
    clear hin hd hbig
    have hz1 := hb1.size
    obtain ⟨W, hW⟩ : ∃ W, W = w1.alloc (.cells #[.slice A1 3 3, .slice A2 3 3, .slice A3 3 3] 27) := ⟨_, rfl⟩
    have al : Below w1.heap.size w1 W := by rw [hW]; exact (Below.refl _ _).alloc (Nat.le_refl _) _
    have hWs : W.heap.size = w1.heap.size + 1 := by rw [hW]; simp
    have hbox : Box W w1.heap.size A1 3 A2 3 A3 3 := by rw [hW]; exact ⟨by simp [go_sem], by simp [go_sem], by simp [go_sem], by simp [go_sem], by simp [go_sem], by simp [go_sem]⟩
    have hi0 := ((BtIn.of_own3 ho).keep al).wide (lo' := 0) (Nat.zero_le _) al.size
    have hoff0 : ∀ b, BlkOf A1 b ∨ BlkOf A2 b ∨ BlkOf A3 b → b ≠ w1.heap.size := by
      have B := BtIn.of_own3 ho
      intro b hb e
      rcases hb with hb | hb | hb
      · have := (B.r1.blk hb).2; omega
      · have := (B.r2.blk hb).2; omega
      · have := (B.r3.blk hb).2; omega
    have hB := bthen hb1 al
    clear ho hb1
    go_wp2_with fail
    rw [← hW]
    clear hW
    go_loopw [5, 6] (fun now i wr => ∃ (m : Nat) (t : Int) (A1 A2 A3 : Option Addr) (c1 c2 c3 : Nat) (f1 f2 : Nat → Int) (f3 : Nat → Bool), 1 ≤ m ∧ m ≤ 40 ∧ i = .int .i64 m ∧ now = .int .i64 t ∧ 0 ≤ t ∧ t ≤ 11 * (m : Int) ∧
      Box wr w1.heap.size A1 c1 A2 c2 A3 c3 ∧ BtIn 0 wr.heap.size wr A1 3 c1 f1 A2 3 c2 f2 A3 3 c3 f3 ∧ (∀ b, BlkOf A1 b ∨ BlkOf A2 b ∨ BlkOf A3 b → b ≠ w1.heap.size) ∧ beatOkB 3 3 3 f1 f2 = true ∧ (∀ j, j < 3 → f1 j ≤ t) ∧ Below w.heap.size w wr ∧ w1.heap.size < wr.heap.size) (fun _ i _ => 40 - (intOf i).toNat)
    case atStart => exact ⟨1, 0, A1, A2, A3, 3, 3, 3, _, _, _, by omega, by omega, rfl, rfl, by omega, by omega, hbox, hi0, hoff0, beatOk_mk fun i hi => by omega, fun j hj => by simp, hB, by omega⟩
    case round =>
      obtain ⟨m, t, A1, A2, A3, c1, c2, c3, f1, f2, f3, hm1, hm2, rfl, rfl, ht0, ht1, ⟨bx0, bx1, bx2, bf0, bf1, bf2⟩, hin, hoff, hok, hle, hBr, hzr⟩ := hrel
      clear hbox hi0 hoff0
      by_cases hlt : m < 40
      · go_wp2_with fail
        refine (at_any _ _ _ _ m _ (h.keep hBr) hn2 (by omega)).mono ?_
        rintro e w2 ⟨x1, rfl, rfl, hx10, hx11⟩
        obtain ⟨t', ht'⟩ : ∃ t', t + x1 % 12 = t' := ⟨_, rfl⟩
        have htb : t ≤ t' ∧ t' ≤ 11 * (m : Int) + 11 := by omega
        go_wp2_with fail
        refine (at_any _ _ _ _ (m + 1) _ (h.keep hBr) hn2 (by omega)).mono ?_
        rintro e w2 ⟨x2, rfl, rfl, hx20, hx21⟩
        obtain ⟨k, hk⟩ := Int.eq_ofNat_of_zero_le (show 0 ≤ x2 % 3 by omega)
        have hk3 : k < 3 := by omega
        obtain ⟨p1, rfl⟩ := hin.r1.head (by omega)
        obtain ⟨p2, rfl⟩ := hin.r2.head (by omega)
        obtain ⟨p3, rfl⟩ := hin.r3.head (by omega)
        go_wp2_with fail
        refine (beatHear_impl _ _ _ f1 _ _ _ f2 _ _ _ f3 (k : Int) t' _ hin.at_).mono ?_
        rintro e w2 hR
        obtain ⟨g1, g2, g3, hV, hg1, hg3, hgw, hge, hokg, hleg⟩ := hear_fine (f3 := f3) hok hk3 hle htb.1 (by omega) (by omega)
        rw [hok, hV] at hR
        obtain ⟨X1, d1, X2, d2, X3, d3, rfl, hX, hb2⟩ := hR
        simp only at hX
        obtain ⟨q1, rfl⟩ := hX.r1.head (by omega)
        obtain ⟨q2, rfl⟩ := hX.r2.head (by omega)
        obtain ⟨q3, rfl⟩ := hX.r3.head (by omega)
        clear hV
        have hz2 := hb2.size
        obtain ⟨W2, hW2⟩ : ∃ W2, W2 = w2.alloc (.cells #[.slice (some ⟨q1, 0, none⟩) 3 d1, .slice (some ⟨q2, 0, none⟩) 3 d2, .slice (some ⟨q3, 0, none⟩) 3 d3] 27) := ⟨_, rfl⟩
        have al2 : Below w2.heap.size w2 W2 := by rw [hW2]; exact (Below.refl _ _).alloc (Nat.le_refl _) _
        have hs2 : W2.heap.size = w2.heap.size + 1 := by rw [hW2]; simp
        have ex0 : W2.cell? ⟨w2.heap.size, 0, none⟩ = some (.slice (some ⟨q1, 0, none⟩) 3 d1) := by rw [hW2]; simp [go_sem]
        have ex1 : W2.cell? ⟨w2.heap.size, 1, none⟩ = some (.slice (some ⟨q2, 0, none⟩) 3 d2) := by rw [hW2]; simp [go_sem]
        have ex2 : W2.cell? ⟨w2.heap.size, 2, none⟩ = some (.slice (some ⟨q3, 0, none⟩) 3 d3) := by rw [hW2]; simp [go_sem]
        have hbx2 := (Box.keep ⟨bx0, bx1, bx2, bf0, bf1, bf2⟩ hb2).keep al2
        have hin2 := (hin.keep hb2).keep al2
        have hX2 := hX.keep al2
        have hB2 := bthen (bthen hBr hb2) al2
        clear bx0 bx1 bx2 bf0 bf1 bf2 hin hX hb2 al2
        obtain ⟨bx0, bx1, bx2, bf0, bf1, bf2⟩ := hbx2
        have y1 := hX2.r1.cellAt hk3
        have y2 := hX2.r2.cellAt hk3
        have y3 := hX2.r3.cellAt hk3
        have b2 := hin2.r2.cellAt hk3
        have b3 := hin2.r3.cellAt hk3
        unfold intV at y1 y2 b2
        unfold boolV at y3 b3
        rw [hg1] at y1
        rw [hg3] at y3
        go_wp2_with fail
        rw [← hW2]
        clear hW2
        have HK := Lib.hid (And.intro hg1 (And.intro hg3 (And.intro hokg hleg)))
        have HE := Lib.hid hge
        have HW := Lib.hid hgw
        have HH := Lib.hid hok
        have HX2 := Lib.hid hX2
        have HB2 := Lib.hid hB2
        clear hg1 hg3 hokg hleg hge hgw hok hle hX2 hin2 hB2 hoff
        go_upto_region 13 with fail
        go_cut [109] from 29 to 190 (fun s wx => s = .bool false ∧ Below W2.heap.size W2 wx)
        case first =>
          as_aux_lemma =>
          obtain ⟨q, hq⟩ : ∃ q, f3 k = q := ⟨_, rfl⟩
          rw [hq] at b3
          cases q
          · have hge' := HE.out hq
            rw [hge'] at y2
            clear hge' hq
            go_quiet (fail)
            go_wp2_with fail
            go_meet
            exact ⟨rfl, belowN _⟩
          · have hgw' := HW.out hq
            clear hq
            go_quiet (fail)
            go_wp2_with fail
            go_meet
            exact ⟨rfl, belowN _⟩
        case rest =>
          obtain ⟨rfl, hbD⟩ := hcut
          obtain ⟨hg1, hg3, hokg, hleg⟩ := HK.out
          have hX2 := HX2.out
          have hB2 := HB2.out
          have hXD := hX2.keep hbD
          have hBxD := Box.keep ⟨bx0, bx1, bx2, bf0, bf1, bf2⟩ hbD
          have hBD := bthen hB2 hbD
          have fx0 := keep_cell hbD ex0
          have fx1 := keep_cell hbD ex1
          have fx2 := keep_cell hbD ex2
          have hzD := hbD.size
          clear bx0 bx1 bx2 bf0 bf1 bf2 y1 y2 y3 b2 b3 hX2 ex0 ex1 ex2 hbD
          go_wp2_with fail
          refine (beatLook_impl _ _ _ g1 _ _ _ g2 _ _ _ g3 t' _ hXD.at_).mono ?_
          rintro e w3 hR
          have hlk : look true g1 g2 g3 t' = ⟨3, g1, g2, lookG g1 g2 g3 t' 3, lookL g1 g2 g3 t' 3⟩ := by
            have : inB t' 0 1000000 = true := by simp [inB]; omega
            simp [look, this]
          rw [hokg, hlk] at hR
          obtain ⟨Y1, e1, Y2, e2, Y3, e3, L, nl, cl, rfl, hY, hL, -, hb3⟩ := hR
          simp only at hY hL
          clear hlk
          have hz3 := hb3.size
          obtain ⟨W3, hW3⟩ : ∃ W3, W3 = w3.alloc (.cells #[.slice Y1 3 e1, .slice Y2 3 e2, .slice Y3 3 e3] 27) := ⟨_, rfl⟩
          have al3 : Below w3.heap.size w3 W3 := by rw [hW3]; exact (Below.refl _ _).alloc (Nat.le_refl _) _
          have hs3 : W3.heap.size = w3.heap.size + 1 := by rw [hW3]; simp
          have ey0 : W3.cell? ⟨w3.heap.size, 0, none⟩ = some (.slice Y1 3 e1) := by rw [hW3]; simp [go_sem]
          have ey1 : W3.cell? ⟨w3.heap.size, 1, none⟩ = some (.slice Y2 3 e2) := by rw [hW3]; simp [go_sem]
          have ey2 : W3.cell? ⟨w3.heap.size, 2, none⟩ = some (.slice Y3 3 e3) := by rw [hW3]; simp [go_sem]
          have hBx3 := (hBxD.keep hb3).keep al3
          have hX3 := (hXD.keep hb3).keep al3
          have hY3 := hY.keep al3
          have hL3 := hL.keep al3
          have hB3 := bthen (bthen hBD hb3) al3
          have ex0 := keep_cell al3 (keep_cell hb3 fx0)
          have ex1 := keep_cell al3 (keep_cell hb3 fx1)
          have ex2 := keep_cell al3 (keep_cell hb3 fx2)
          clear hBxD hXD hY hL hb3 al3 fx0 fx1 fx2 hBD
          have hln := lookL_len g1 g2 g3 t' 3
          obtain ⟨LL, hLL⟩ : ∃ LL, lookL g1 g2 g3 t' 3 = LL := ⟨_, rfl⟩
          rw [hLL] at hL3 hln
          have hnl := hL3.len
          go_wp2_with fail
          rw [← hW3]
          clear hW3
          have HLL := Lib.hid hLL
          have HK2 := Lib.hid (And.intro hg1 (And.intro hg3 (And.intro hokg hleg)))
          have HBX := Lib.hid hBx3
          have HX := Lib.hid hX3
          have HY := Lib.hid hY3
          have HB := Lib.hid hB3
          have hLk := lookL_len g1 g2 g3 t' 3
          clear hLL hg1 hg3 hokg hleg hBx3 hX3 hY3 hB3 HK HX2 HB2 HE HW hLk
          go_loopw [12] (fun i wr2 => ∃ nn : Nat, nn ≤ 3 ∧ i = .int .i64 nn ∧ Below W3.heap.size W3 wr2) (fun i _ => 3 - (intOf i).toNat)
          case atStart => exact ⟨0, by omega, rfl, Below.refl _ _⟩
          case round =>
            as_aux_lemma =>
            obtain ⟨nn, hnn, rfl, hb4⟩ := hrel
            have hz4 := hb4.size
            by_cases hnlt : nn < 3
            · have kx0 := keep_cell hb4 ex0
              have kx1 := keep_cell hb4 ex1
              have z1 := (HX.out.keep hb4).r1.cellAt hnlt
              have z2 := (HX.out.keep hb4).r2.cellAt hnlt
              unfold intV at z1 z2
              have hbn := beatAt_bd HK2.out.2.2.1 hnlt
              have HWR := Lib.hid (show IntKind.i64.wrap (g1 nn + g2 nn) = g1 nn + g2 nn from IntWalk.i64_in _ (by omega))
              go_wp2
              have hwr := HWR.out
              go_quiet (fail)
              clear hwr kx0 kx1 z1 z2
              go_wp2
              go_loopw [14, 15] (fun told j wr3 => ∃ jn : Nat, jn ≤ LL.length ∧ j = .int .i64 jn ∧ told = .bool (toldTo LL nn jn) ∧ Below W3.heap.size W3 wr3) (fun _ j _ => LL.length - (intOf j).toNat)
              case atStart => exact ⟨0, Nat.zero_le _, rfl, by simp [toldTo], below_drewN hb4 _⟩
              case round =>
                as_aux_lemma =>
                obtain ⟨jn, hjn, rfl, rfl, hb5⟩ := hrel
                by_cases hj : jn < LL.length
                · as_aux_lemma =>
                  have HT := Lib.hid (toldTo_succ (n := nn) hj)
                  obtain ⟨bl, ol, hbo, hbol, hcl⟩ := hL3.at_.2 (by omega)
                  subst hbo
                  have zj := (hb5.cell (p := ⟨bl, ol + jn, none⟩) hbol).trans (hcl jn (by omega))
                  unfold intV at zj
                  clear hcl
                  obtain ⟨tb, htb2⟩ : ∃ tb, toldTo LL nn jn = tb := ⟨_, rfl⟩
                  rw [htb2]
                  have HTB := Lib.hid htb2
                  clear htb2
                  cases tb
                  · go_wp2
                    exact ⟨⟨jn + 1, by omega, by go_num, by rw [HT.out, HTB.out]; simp, hb5⟩, by simp [intOf]; omega⟩
                  · go_wp2
                    exact ⟨⟨jn + 1, by omega, by go_num, by rw [HT.out, HTB.out]; simp, hb5⟩, by simp [intOf]; omega⟩
                · obtain rfl : jn = LL.length := by omega
                  have hta : toldTo LL nn LL.length = lookB g1 g2 g3 t' nn := by rw [toldTo_all, ← HLL.out, lookL_any]; simp [hnlt]
                  have hya : lookG g1 g2 g3 t' 3 nn = (g3 nn || decide (g1 nn + g2 nn < t')) := by rw [lookG_eq]; simp [hnlt]
                  rw [hta]
                  clear hta
                  have lx2 := keep_cell hb5 ex2
                  have ly2 := keep_cell hb5 ey2
                  obtain ⟨r3, hr3⟩ := HY.out.r3.head (by omega)
                  subst hr3
                  have z3 := (HX.out.keep hb5).r3.cellAt hnlt
                  have v3 := (HY.out.keep hb5).r3.cellAt hnlt
                  unfold boolV at z3 v3
                  rw [hya] at v3
                  clear hya
                  have hkn : nn = k → g3 nn = false ∧ decide (g1 nn + g2 nn < t') = false := fun e => by subst e; exact ⟨HK2.out.2.1, by have := HK2.out.1; simp; omega⟩
                  obtain ⟨lt, hlt'⟩ : ∃ lt, decide (g1 nn + g2 nn < t') = lt := ⟨_, rfl⟩
                  obtain ⟨ga, hga⟩ : ∃ ga, g3 nn = ga := ⟨_, rfl⟩
                  have hlb : lookB g1 g2 g3 t' nn = (!ga && lt) := by unfold lookB; rw [hga, hlt']
                  rw [hlb]
                  rw [hlt', hga] at v3 hkn
                  rw [hga] at z3
                  rw [hlt']
                  have HKN := Lib.hid hkn
                  clear hlb hlt' hga hkn ex0 ex1 ex2 ey0 ey1 ey2
                  go_upto_region 25 with fail
                  go_cut [186] from 116 to 186 (fun s wx => s = .bool false ∧ Below W3.heap.size W3 wx)
                  case first =>
                    as_aux_lemma =>
                    by_cases hnk : nn = k
                    · obtain ⟨e1, e2⟩ := HKN.out hnk
                      subst e1 e2 hnk
                      go_quiet (fail)
                      go_wp2_with fail
                      go_meet
                      exact ⟨rfl, below_drewN hb5 _⟩
                    · have hnki : ¬ ((nn : Int) = (k : Int)) := by omega
                      cases lt <;> cases ga
                      all_goals
                        simp only [Bool.not_false, Bool.not_true, Bool.and_true, Bool.and_false, Bool.or_true, Bool.or_false, Bool.true_and, Bool.false_and, Bool.true_or, Bool.false_or] at v3 ⊢
                        go_quiet (fail)
                        go_wp2_with fail
                        go_meet
                        exact ⟨rfl, below_drewN hb5 _⟩
                  case rest =>
                    obtain ⟨rfl, hb6⟩ := hcut
                    clear lx2 ly2 z3 v3
                    go_wp2
                    exact ⟨⟨nn + 1, by omega, by go_num, hb6⟩, by simp [intOf]; omega⟩
            · as_aux_lemma =>
              obtain rfl : nn = 3 := by omega
              have ky0 := keep_cell hb4 ey0
              have ky1 := keep_cell hb4 ey1
              have ky2 := keep_cell hb4 ey2
              obtain ⟨bx0, bx1, bx2, bf0, bf1, bf2⟩ := HBX.out.keep hb4
              go_wp2_with fail
              obtain ⟨WS, hWS, t0, t1, t2, hC⟩ := set3c (u := .slice Y1 3 e1) (v := .slice Y2 3 e2) (x := .slice Y3 3 e3) bx0 bx1 bx2
              rw [← hWS]
              have hYS := (HY.out.keep hb4).ch hC (fun b hb e => by unfold Iv at hb; omega)
              have ff0 : WS.frozen? ⟨w1.heap.size, 0, none⟩ = false := by rw [hWS]; simp only [World.frozen?_setCell]; exact bf0
              have ff1 : WS.frozen? ⟨w1.heap.size, 1, none⟩ = false := by rw [hWS]; simp only [World.frozen?_setCell]; exact bf1
              have ff2 : WS.frozen? ⟨w1.heap.size, 2, none⟩ = false := by rw [hWS]; simp only [World.frozen?_setCell]; exact bf2
              have hzS := hC.size
              have hBS := (bthen HB.out hb4).trans (hC.below (fun b hb => by omega) (by omega))
              clear hWS bx0 bx1 bx2 bf0 bf1 bf2 hC
              refine (beatOk_spec _ _ _ g1 _ _ _ g2 _ _ _ (lookG g1 g2 g3 t' 3) _ hYS.at_).mono ?_
              rintro e wz ⟨rfl, hbz⟩
              rw [HK2.out.2.2.1]
              have hzz := hbz.size
              go_wp2
              exact ⟨⟨m + 1, t', Y1, Y2, Y3, e1, e2, e3, g1, g2, lookG g1 g2 g3 t' 3, by omega, by omega, by go_num, rfl, by omega, by push_cast; omega, Box.keep ⟨t0, t1, t2, ff0, ff1, ff2⟩ hbz, (hYS.keep hbz).wide (Nat.zero_le _) (by omega), (fun b hb e => by
                rcases hb with hb | hb | hb
                · have := (HY.out.r1.blk hb).1; unfold Iv at this; omega
                · have := (HY.out.r2.blk hb).1; unfold Iv at this; omega
                · have := (HY.out.r3.blk hb).1; unfold Iv at this; omega), HK2.out.2.2.1, HK2.out.2.2.2, bthen hBS hbz, by omega⟩, by simp [intOf]; omega⟩
      · as_aux_lemma =>
        obtain rfl : m = 40 := by omega
        go_wp2_with fail
        refine (beatUp_impl _ _ _ f1 _ _ _ f2 _ _ _ f3 _ hin.at_).mono ?_
        rintro e w2 ⟨U, nu, cu, hnu, rfl, hU, hb2⟩
        rw [hok] at hnu
        obtain rfl : nu = 3 := hnu
        obtain ⟨bu, ou, rfl, hbu, hcu⟩ := hU.vals (by omega)
        obtain ⟨b3, o3, hA3, hl3, hk3⟩ := hin.r3.vals (by omega)
        subst hA3
        have u0 := hcu 0 (by omega)
        have u2 := hcu 2 (by omega)
        have v0 := (hb2.cell (p := ⟨b3, o3 + 0, none⟩) hl3).trans (hk3 0 (by omega))
        have v2 := (hb2.cell (p := ⟨b3, o3 + 2, none⟩) hl3).trans (hk3 2 (by omega))
        simp only [boolV] at u0 u2 v0 v2
        have hx2 := keep_cell hb2 bx2
        obtain ⟨z0, hz0⟩ : ∃ z, f3 0 = z := ⟨_, rfl⟩
        obtain ⟨z2, hz2⟩ : ∃ z, f3 2 = z := ⟨_, rfl⟩
        rw [hz0] at u0 v0
        rw [hz2] at u2 v2
        clear hcu hk3 hz0 hz2 hok hle hoff hin
        simp only [Nat.add_zero] at u0 v0
        cases z0 <;> cases z2
        all_goals
          simp only [Bool.not_true, Bool.not_false] at u0 u2
          go_wp2
          go_quiet (fail)
          go_wp2
          go_returns
          exact ⟨rfl, below_drewN (bthen hBr hb2) _⟩
end Go.Proofs.Ytjhkeknbbeckgaa
